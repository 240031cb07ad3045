import Derived.Test.YtedcgbkilmlbhaaPk10
namespace Go.Tv
open Go Go.Di Go.Proofs
variable {P:Program} {ty:fR} {tt:TypeId->Option TT} {ι ι' w:kY} {S S':ai} {te:List TV} {env:List DV} {tS:List TB} {aK HP:bR} {call yH:bt} {yf Yq:ej} {B:List Nat}
theorem Wz(h:bT ι te tS env S)(S2:ai):bT ι te (tS++[TB.none]) env (S++S2):=by
 have hlt:∀{k k'},ι k=some k'->k'<S.length:=λ{k k'} hk=>by obtain⟨b,h1,-⟩:=h.live hk;exact(aA.1 h1).1
 have hg:∀{k k'},ι k=some k'->(S++S2)[k']? =S[k']? :=λ{k k'} hk=>ee (hlt hk);have K:jy ι S ι (S++S2) λ_=>False:=λk k' _ hk=>⟨hk,dO (hg hk)⟩;have bg:∀{j b},(tS++[TB.none])[j]? =some b->b≠TB.none->tS[j]? =some b:=λ{j b} hj hb=>by
  rw[qK]at hj;split at hj;.exact hj
  have:=cr hj;simp only[bI]at this;exact absurd this hb
 refine⟨bu K _ _ h.env,λk l hk=>?_,λk e s hk t ht=>?_,λk k' hk=>?_,h.inj,λk b hk t ht=>?_⟩;.obtain⟨k',ds,n1,n2,n3⟩:=h.cells k l (bg hk (by simp));exact⟨k',ds,n1,(hg n1).trans n2,bu K _ _ n3⟩
 .obtain⟨n,h1⟩:=h.own k e s (bg hk (by simp)) t ht;exact⟨n,(hg ht).trans h1⟩
 .obtain⟨b,h1,h2⟩:=h.ql k k' hk;exact⟨b,by rw[ee (aA.1 h1).1];exact h1,h2⟩
 by_cases hb:b=.none;.subst hb;trivial
 rw[hg ht];exact h.mp k b (bg hk hb) t ht
theorem VQ{f:Operand}{ps:Array Tmp}{oD body:Code}{sC g:FuncId}{fs cs:List TV}{K:List TB->Prop}{Q:DX->List TV->List TB->Prop}(hf:fK te f=some (.fn g fs cs))(hrf:Cq sC=some (ps.toList,oD,body))
  (hc:vT call g (fs++[.od tS.length sC (ga tS te)]++cs) (tS++[.loop]) λ_ bN=>(bN[tS.length]? =some .loop/\(eW (ga tS te)++oA bN).contains tS.length=false)/\K bN)
  (hq:∀bN,K bN->Q .normal (ga tS te) (bN.set tS.length .none)):WT P ty aK call yf B LL sC false (.rangeFunc f ps oD body) te tS Q:=by
 intro ι env S hR hB;obtain⟨d,k1,k2⟩:=bE hR.env hf;cases d<;>simp only[RT]at k2;rename_i g' xh lC;obtain⟨rfl,k3,k4⟩:=k2
 let r0:Gq:=⟨.ready,none,sC,env,ps.toList,oD,body,S.length⟩
 have hid:(S++[DB.defer,.loop r0])[S.length+1]? =some (.loop r0):=by rw[iI (by omega)];simp
 have hlt:∀{k k'},ι k=some k'->k'<S.length:=λ{k k'} hk=>by obtain⟨b,h1,-⟩:=hR.live hk;exact(aA.1 h1).1
 have hn:∀k,ι k≠some (S.length+1):=λk hk=>by have:=hlt hk;omega
 have Mi:=KQ (k:=tS.length) (Wz hR [DB.defer,.loop r0]) (by simp) hn hid ⟨rfl,rfl⟩;have Y5:(tS++[TB.none]).set tS.length .loop=tS++[.loop]:=by simp
 rw[Y5]at Mi;have hu:∀{j},j≠tS.length->upd ι tS.length (S.length+1) j=ι j:=λh=>if_neg h;have ahV:∀{j k'},ι j=some k'->j<tS.length:=λ{j k'} hj=>by obtain⟨b,h1,-⟩:=hR.ql j k' hj;exact(aA.1 h1).1
 have ud:∀j,jV tS j=true->upd ι tS.length (S.length+1) j=ι j:=λj hj=>hu λe=>by
  subst e;unfold jV at hj;split at hj;.rename_i c h;have:=(aA.1 h).1;omega
  cases hj
 have hK0:jy ι S (upd ι tS.length (S.length+1)) (S++[DB.defer,.loop r0]) λ_=>False:=λk k' _ hk=>⟨by rw[hu (by have:=ahV hk;omega)];exact hk,dO (ee (hlt hk))⟩;have hA:cK (upd ι tS.length (S.length+1)) (S++[DB.defer,.loop r0]) (fs++[.od tS.length sC (ga tS te)]++cs) (xh++[.od (S.length+1)]++lC):=by refine er (er (bu hK0 _ _ k3) (aT ?_ bO)) (bu hK0 _ _ k4);simp only[RT];exact⟨by simp[upd],_,_,_,env,S.length,hrf,hid,j4 ud _ _ hR.env⟩
 obtain⟨d,S',ι',v,bN,a1,a2,a3,a4,a5,⟨a6,a7⟩,a8⟩:=hc _ _ _ ⟨hA,Mi.cells,Mi.own,Mi.ql,Mi.inj,Mi.mp⟩;have o7:∀{j l},tS[j]? =some (lq l)->j∈dF 0 (tS++[TB.loop]):=λ{j l} h=>rR (c:=l) (by rw[ee (aA.1 h).1];exact h);have pG:ι' tS.length=some (S.length+1):=(a4.base tS.length (rR (c:=none) (by simp[lq]))).trans (by simp[upd]);obtain⟨r,b1,b2,b3⟩:=a2.mp tS.length _ a6 _ pG;have hRf:bT ι' (ga tS te) bN env S':=⟨j4 (λj hj=>by
  have h1:=ud j hj;unfold jV at hj;split at hj;.rename_i c hc;rw[a4.base j (o7 (l:=some c) hc),h1]
  cases hj) _ _ hR.env,a2.cells,a2.own,a2.ql,a2.inj,a2.mp⟩
 have hno:∀j,Dp ι' tS.length j≠some (S.length+1):=λj hj=>by obtain⟨h1,h2⟩:=gB hj;exact h1 (a2.inj j _ _ h2 pG)
 have ada:∀j∈B,j≠tS.length:=λj hj e=>by obtain⟨l,h1⟩:=hB j hj;have:=(aA.1 h1).1;omega
 have hRo:=AZ (b:=.loop {r with st:=.exhausted}) (KR hRf a7) hno;have hS0:∀{j:Nat},j<S.length->(S++[DB.defer,.loop r0])[j]? =S[j]? :=λh=>ee h;have abU:∀{j:Nat},j<S.length->(S'.set (S.length+1) (.loop {r with st:=.exhausted}))[j]? =S'[j]? :=λ{j} h=>by rw[aH,if_neg (by omega)]
 refine⟨.normal,env,S'.set (S.length+1) (.loop {r with st:=.exhausted}),Dp ι' tS.length,ga tS te,bN.set tS.length .none,?_,hRo,λj hj=>?_,⟨λk' hl Ci=>?_,λj k' hj=>?_,λj hj=>?_⟩,⟨?_,λj hj dm=>?_⟩,hq bN a8⟩
 .have hb:(r.st==LoopState.busy)=false:=by rw[b2];rfl
  simp only[cU,aI,if_false,k1];rw[a1];simp only[b1,hb,aI,if_false,b3]
 .obtain⟨l,h1⟩:=hB j hj;obtain⟨l',h2⟩:=a3 j (o7 h1);exact⟨l',by rw[aH,if_neg λe=>ada j hj e.symm];exact h2⟩
 .have Ct:k'<S.length:=by obtain⟨b,h1,-⟩:=hl;exact(aA.1 h1).1
  rw[abU Ct,a4.rest k' (by obtain⟨b,h1,h2⟩:=hl;exact⟨b,(hS0 Ct).trans h1,h2⟩) λj hj=>?_,hS0 Ct];by_cases e:j=tS.length;.subst e;simp only[upd,if_true,aB]at hj;omega
  rw[hu e]at hj;exact Ci j hj
 .obtain⟨h1,h2⟩:=gB hj;rcases a4.ours j k' h2 with ⟨i,hi⟩|h3
  .by_cases e:i=tS.length;.subst e;simp only[upd,if_true,aB]at hi;exact absurd (hi▸hj) (hno j)
   rw[hu e]at hi;exact .inl ⟨i,hi⟩
  refine .inr λhl=>h3 ?_;obtain⟨b,h4,h5⟩:=hl;exact⟨b,(hS0 (aA.1 h4).1).trans h4,h5⟩
 .obtain⟨l,h1⟩:=hB j hj;rw[yW (ada j hj),a4.base j (o7 h1),hu (ada j hj)]
 .have:=a5.1;simp only[bU,List.length_set]at this⊢;omega
 have Ct:=(aA.1 dm).1;rw[abU Ct];exact a5.2 j (by simp only[bU];omega) ((hS0 Ct).trans dm)
end Go.Tv
namespace Go.Tv
open Go Go.Di Go.Proofs
variable {P:Program} {ty:fR} {tt:TypeId->Option TT} {T:eZ} {ι ι' w:kY} {S S':ai} {te mI:List TV} {env:List DV} {tS iM:List TB} {aK:bR} {call:bt} {yf:ej} {o:Oper} {aF nT:Nat} {B:List Nat} {r:TR} {ops:Array Oper} {fn:FuncId} {jd:Bool} {fs:List de}
def LA.St:LA->Type
 |.ex α k=>(x:α)×(k x).St
 |.st _=>Unit
 |.un _=>Empty
 |.dep _=>Empty
 |.pe _ _=>Empty
def LA.bd:(la:LA)->la.St->Bd
 |.ex _ k,⟨x,s⟩=>(k x).bd s
 |.st b,_=>b
theorem yR{K:Bd->Prop}:∀{la:LA},la.some K->∃s:la.St,K (la.bd s)
 |.ex _ k,⟨x,h⟩=>by obtain⟨s,h1⟩:=yR (la:=k x) h;exact⟨⟨x,s⟩,h1⟩
 |.st b,h=>⟨(),h⟩
 |.un _,h=>h.elim
 |.dep _,h=>h.elim
 |.pe _ _,h=>h.elim
theorem OG{K:Bd->Prop}:∀{la:LA},la.all K->∀s:la.St,K (la.bd s)
 |.ex _ _,h,⟨x,s⟩=>OG (h x) s
 |.st _,h,_=>h
theorem XI{b:Bd}{keep:Nat}{K:Prop}(h:VB B b keep te tS K):Fits B (oC b.sl keep 0 te) (yF b tS) te tS/\dg b.cO/\K:=by obtain⟨h0,h⟩:=gU h;simp only[aC]at h0;obtain⟨l1,e1,k1,h⟩:=iR h;obtain⟨l2,e2,k2,h⟩:=iR h;obtain⟨h3,h4⟩:=iW h;exact⟨⟨zG e1 k1,iU e2 k2,h0.1,λk hk=>aX.1 h0.2 k hk⟩,h3,h4⟩
theorem Qo{b:Bd}{K:Prop}(h:UL B mI iM b te tS K):Fits B mI iM te tS/\dg b.cO/\K:=by obtain⟨h0,h⟩:=gU h;simp only[aC]at h0;obtain⟨l1,e1,k1,h⟩:=iR h;obtain⟨l2,e2,k2,h⟩:=iR h;obtain⟨h3,h4⟩:=iW h;exact⟨⟨yQ e1 k1,aaC e2 k2,h0.1,λk hk=>aX.1 h0.2 k hk⟩,h3,h4⟩
theorem Ud{N:Nat}{c:Code}{Q:DX->List TV->List TB->Prop}{K:List TV->List TB->Prop}{f:List TV->List TB->(List TV->List TB->Prop)->Prop}(hf:∀te tS K',f te tS K'->WT P ty aK call yf B LL fn jd c te tS λe te tS=>match e with|.normal=>K' te tS|e=>Q e te tS)(hK:∀te tS,K te tS->WI P ty aK call yf B LL fn jd N c te tS Q):
  ∀(n:Nat)(te:List TV)(tS:List TB),unK f K n te tS->WI P ty aK call yf B LL fn jd (N+n) c te tS Q
 |0,te,tS,h=>hK te tS h
 |n+1,te,tS,h=>ZA ((hf te tS _ h).mono λe te tS hq=>by
   cases e with
   |normal=>exact Ud hf hK n te tS hq
   |exit id=>exact hq
   |ret=>exact hq)
theorem ZB{n m:Nat}{c:Code}{Q:DX->List TV->List TB->Prop}(hn:n<=m)(h:WI P ty aK call yf B LL fn jd n c te tS Q):WI P ty aK call yf B LL fn jd m c te tS Q:=by intro ι env S hR hB;obtain⟨e,aL,S',ι',bX,bN,h1,h2⟩:=h ι env S hR hB;exact⟨e,aL,S',ι',bX,bN,A9 hn h1,h2⟩
theorem KF{x:Operand}{v:Bool}{K:List TV->Prop}(hx:fK te x=some (.val (.bool v)))(h:Ug x te v K):K te:=by
 cases x with
 |tmp t=>
  simp only[fK,aB]at hx;have:=qB te t _ (h:FA te t _ K)
  rwa [pZ]at this
  rw[aP]at hx;cases e:te[t]? with
  |none=>rw[e]at hx;cases hx
  |some a=>rw[e]at hx;exact congrArg some hx
 |_=>exact h
variable {inl:Inl}
theorem Q2(hT:qy T aK call)(hI:wS P ty call yf T inl){id:Nat}{draw:Bool}{J:List (Nat×LA)}{i lv:Nat}{Q:DX->List TV->List TB->Prop}(h:x9 P ty tt T inl B J (.region id ops draw) i lv te tS Q):WT P ty aK call yf B LL fn jd (.region id ops draw) te tS Q:=by
 simp only[x9]at h;split at h
 .split at h;.rename_i hn;obtain⟨hd,h⟩:=gU h;refine VV hd hn ?_;exact Dx (md:=2) (n0:=tS.length) (ny:=tS) (Q:=λte tS=>Q .normal te (oy tS)) hT hI (by omega) (λte tS fs hk=>by obtain⟨hm,hk⟩:=gU hk;exact adT (ak _) hm (cI _ (K:=λtS=>Q .normal te tS) hk)) ops.toList 0 te _ [] rfl (cI _ (K:=λny=>qw P ty tt T inl 2 tS.length ops ops.toList 0 te ny [] λte tS fs=>aS (ur (Region.before ops) fs) (bW (oy tS) λtS=>Q .normal te tS) False) h)
  rename_i hn;obtain⟨hd,h⟩:=gU h;refine VR hd hn ?_;exact Dx (B:=B) (md:=1) (n0:=0) (ny:=tS) (Q:=λte tS=>Q .normal te tS) hT hI (by omega) (λte tS fs hk _=>UW (ak _) hk) ops.toList 0 te _ [] rfl h rfl
 refine VT ?_;exact Dx (md:=0) (n0:=0) (ny:=tS) (Q:=λte tS=>Q .normal te (oy tS)) hT hI (by omega) (λte tS fs hk=>adO (ak _) (cI _ (K:=λtS=>Q .normal te tS) hk)) ops.toList 0 te _ [] rfl h
theorem RE{c:Code}(h:M7 P c=some ops):wJ P ops=false/\∃id,c=.region id ops true:=by
 unfold M7 at h;split at h
 .split at h;.cases h
  rename_i hl;cases h;exact⟨Bool.eq_false_iff.2 hl,_,rfl⟩
 cases h
theorem EL{env:List DV}{dst:Option Tmp}{v:DV}{i:Nat}(h:dst≠some i):(ku env dst v)[i]? =env[i]? :=by
 cases dst with
 |none=>rfl
 |some d=>simp only[ku];rw[aH,if_neg (λe=>h (by rw[e]))]
theorem AW{i:Nat}:∀{l:List Oper}{env aL:List DV},qU P ty aK call yf ops S l env=some aL->(∀o∈l,o.dst≠some i)->aL[i]? =env[i]?
 |[],env,aL,h,_=>by cases h;rfl
 |o::l,env,aL,h,hd=>by
  simp only[qU]at h;split at h
  .split at h;.rw[AW h λo' mK=>hd o' (jZ _ mK),EL (hd o (fH ..))]
   cases h
  rw[AW h λo' mK=>hd o' (jZ _ mK),EL (hd o (fH ..))]
theorem aey{u v:TV}{d:DV}(h:LeV u v)(hd:RT ι S v d):RT ι S u d:=by obtain⟨_,_,e,h1,-⟩:=aj (Nd (h [] [] .nil) (kQ hd));cases e;exact h1
theorem xW{sl:List (Nat×TV)}{keep:Nat}:∀{i:Nat}{te bX:List TV}{env aL:List DV}{l:List Prop},cK ι S te env->cK ι S bX aL->bX.length=te.length->wL sl i bX=some l->dg l->(∀j,keep.testBit (i+j)=true->aL[j]? =env[j]?)->cK ι S (oC sl keep i te) aL
 |_,[],[],_,_,_,_,h2,_,_,_,_=>by rw[aR h2];exact bO
 |i,v::te,v'::bX,env,aL,l,h1,h2,hn,hp,hc,hk=>by
  obtain⟨d,m,rfl,a1,a2⟩:=aj h1;obtain⟨d',m',rfl,b1,b2⟩:=aj h2;have Ci:bX.length=te.length:=by simpa using hn
  have pG:∀j,keep.testBit (i+1+j)=true->m'[j]? =m[j]? :=λj hj=>by have:=hk (j+1) (by rw[<-eE,Nat.add_right_comm];exact hj);simpa using this
  simp only[wL]at hp;simp only[oC];split at hp
  .rename_i p Tc;split at hp;.rename_i x y e1 e2;cases hp;obtain⟨k1,k2⟩:=j5 hc;exact aT (aey (Il e1 k1) b1) (xW a2 b2 Ci e2 k2 pG)
   cases hp
  refine aT ?_ (xW a2 b2 Ci hp hc pG);split;.rename_i hb;have:=hk 0 hb;simp only[bY,aB]at this;rw[this];exact a1
  simp only[RT]
 |_,[],_::_,_,_,_,_,_,hn,_,_,_=>by simp at hn
 |_,_::_,[],_,_,_,_,_,hn,_,_,_=>by simp at hn
theorem DZ:∀{l:List Oper}{env aL:List DV},qU P ty aK call yf ops S l env=some aL->aL.length=env.length
 |[],env,aL,h=>by cases h;rfl
 |o::l,env,aL,h=>by
  have hp:∀(dst:Option Tmp)(v:DV),(ku env dst v).length=env.length:=λdst v=>by cases dst<;>simp[ku]
  simp only[qU]at h;split at h
  .split at h;.rw[DZ h,hp]
   cases h
  rw[DZ h,hp]
theorem VS{id:Nat}{b:Code}{Q:DX->List TV->List TB->Prop}{la:LA}{keep:Nat}(hd:mg ops (Region.before ops)=true)(hl:wJ P ops=false)(hk:Vo keep ops=true)
  (h1:WQ P ty aK call yf ops tS 0 te λbX=>la.some λbd=>ask (wL bd.sl 0 bX) (Ar bd.cO True))
  (h2:∀s:la.St,dg (la.bd s).cO->WT P ty aK call yf B LL fn jd b (oC (la.bd s).sl keep 0 te) tS Q):WT P ty aK call yf B LL fn jd (.seq (.region id ops true) b) te tS Q:=by
 intro ι env S hR hB;obtain⟨aL,bX,k1,k2,k3⟩:=h1 ι env S hR;rw[nG]at k1;obtain⟨s,hs⟩:=yR k3;obtain⟨l,e1,e2,e3⟩:=iR hs;obtain⟨e3,-⟩:=iW e3;have Mi:bT ι (oC (la.bd s).sl keep 0 te) tS aL S:=by
  refine⟨xW hR.env k2.env ?_ e1 e2 λj hj=>?_,k2.cells,k2.own,k2.ql,k2.inj,k2.mp⟩;.rw[<-gE k2.env,<-gE hR.env,DZ k1]
  refine AW k1 λo ho e=>?_;have:=aX.1 hk o ho;rw[jk]at hj;rw[e]at this;simp only[hj]at this;cases this
 obtain⟨e,rK,xk,ι'',uk,um,m1,m2,m3,m4,m5,m6⟩:=h2 s e3 ι aL S Mi hB;refine⟨e,rK,xk,ι'',uk,um,?_,m2,m3,m4,m5,m6⟩;have:cU P ty aK call yf LL fn jd (.region id ops true) env S=some (.normal,aL,S):=by simp only[wJ,Bool.or_eq_false_iff]at hl;simp only[cU,qC,if_true,hd,hl.2,gn,aI,if_false,k1,ay]
 rw[cU,this];exact m1
theorem vT.mono {g:FuncId}{A:List TV}{K K':TV->List TB->Prop}(h:vT call g A tS K)(hk:∀v t,K v t->K' v t):vT call g A tS K':=λι bJ S hR=>by obtain⟨d,S',ι',v,bN,h1,h2,h3,h4,h5,h6⟩:=h ι bJ S hR;exact⟨d,S',ι',v,bN,h1,h2,h3,h4,h5,hk _ _ h6⟩
theorem adM{n:Nat}{c:Code}{Q:DX->List TV->List TB->Prop}(h:WT P ty aK call yf B LL fn jd c te tS λe te tS=>Q e te (QM n tS)):WT P ty aK call yf B LL fn jd c te tS Q:=λι env S hR hB=>by
 obtain⟨e,aL,S',ι',bX,bN,h1,h2,h3,h4,h5,h6⟩:=h ι env S hR hB;refine⟨e,aL,S',ι',bX,QM n bN,h1,?_,λk hk=>?_,h4,h5,h6⟩;.have:=Pn h2 (n-bN.length) 0;simpa [QM]using this
 obtain⟨l,hl⟩:=h3 k hk;exact⟨l,by unfold QM;rw[ee (aA.1 hl).1];exact hl⟩
theorem lV(hT:qy T aK call)(hI:wS P ty call yf T inl)(hm:∀me,inl.me=some me->jd=false/\fn=me/\Cq me=some T.yp){J:List (Nat×LA)}:∀(c:Code),(inl.me.isSome=true->wP T.yp c)->∀(i lv:Nat)(te:List TV)(tS:List TB)(Q:DX->List TV->List TB->Prop),x9 P ty tt T inl B J c i lv te tS Q->WT P ty aK call yf B LL fn jd c te tS Q
 |.skip,_,_,_,_,_,_,h=>Zs h
 |.label _,_,_,_,_,_,_,h=>VU h
 |.exit _,_,_,_,_,_,_,h=>Zv h
 |.ret,_,_,_,_,_,_,h=>adL h
 |.scope c,hr,i,lv,te,tS,Q,h=>VP (lV hT hI hm c hr i lv te tS Q h)
 |.block id c,hr,i,lv,te,tS,Q,h=>by
  refine VW ((lV hT hI hm c hr i lv te tS _ h).mono λe te tS hq=>?_);cases e with
  |normal=>exact hq
  |ret=>exact hq
  |exit iT=>dsimp only at hq⊢;split<;>simp_all
 |.cond x a b,hr,i,lv,te,tS,Q,h=>by
  simp only[x9]at h;split at h
  .rename_i t hx;obtain⟨h1,h2⟩:=vU h;refine Zw hx (λe=>?_) (λe=>?_);.subst e;exact lV hT hI hm a (λe=>(hr e).1) i lv te tS Q (KF hx (h1 rfl))
   subst e;exact lV hT hI hm b (λe=>(hr e).2) (i+cnt a) lv te tS Q (KF hx (h2 rfl))
  exact h.elim
 |.seq a b,hr,i,lv,te,tS,Q,h=>by
  simp only[x9]at h;split at h
  .rename_i la _;split at h;.rename_i ops hq;obtain⟨h1,h2⟩:=h;obtain⟨hl,id,rfl⟩:=RE hq;obtain⟨h0,h1⟩:=gU h1;simp only[aC]at h0;refine VS (la:=la) h0.1 hl h0.2 ?_ λs hg=>lV hT hI hm b (λe=>(hr e).2) _ lv _ _ Q (cg _ (nj (OG h2 s) hg));exact Dx (B:=B) (md:=1) (n0:=0) (ny:=tS) (Q:=λbX _=>la.some λbd=>ask (wL bd.sl 0 bX) (Ar bd.cO True)) hT hI (by omega) (λbX bN fs hk _=>UW (ak _) hk) ops.toList 0 te _ [] rfl h1 rfl
   obtain⟨h1,h2⟩:=h;refine Zu (λs:la.St=>(oC (la.bd s).sl ((lv|||nQ b)&&&(2^400-1-(defs a))) 0 te,yF (la.bd s) tS)) (λs=>dg (la.bd s).cO) ((lV hT hI hm a (λe=>(hr e).1) (i+1) (lv|||nQ b) te tS _ h1).mono λe bX bN hq=>?_) λs hg=>lV hT hI hm b (λe=>(hr e).2) (i+1+cnt a) lv _ _ Q (cI _ (cg _ (nj (OG h2 s) hg)));cases e with
   |normal=>obtain⟨s,hs⟩:=yR hq;obtain⟨k1,k2,-⟩:=Qo hs;exact⟨s,k1,k2⟩
   |exit id=>exact hq
   |ret=>exact hq
  refine UU ((lV hT hI hm a (λe=>(hr e).1) (i+1) (lv|||nQ b) te tS _ h).mono λe te tS hq=>?_);cases e with
  |normal=>exact lV hT hI hm b (λe=>(hr e).2) _ _ te tS Q hq
  |exit id=>exact hq
  |ret=>exact hq
 |.loop c,hr,i,lv,te,tS,Q,h=>by
  simp only[x9]at h;split at h
  .rename_i la _;have hF:∀te tS (K':List TV->List TB->Prop),x9 P ty tt T inl B J c (i+1) (lv|||nQ c) te tS (λe te tS=>match e with
    |.normal=>K' te tS
    |.exit id=>Q (.exit id) te tS
    |.ret=>Q .ret te tS)->WT P ty aK call yf B LL fn jd c te tS λe te tS=>match e with|.normal=>K' te tS|e=>Q e te tS:=λte tS K' hf=>(lV hT hI hm c hr _ _ te tS _ hf).mono λe te tS hq=>by
     cases e with
     |normal=>exact hq
     |exit id=>exact hq
     |ret=>exact hq
   refine Q1 (n:=1000000+min la.abJ 1000) (by unfold LL;omega) (Ud hF (λte tS h=>?_) _ te tS h);generalize la.inner.at te tS=la at h;split at h;.exact ZB (by omega) (Ud (N:=0) hF (λ_ _ h=>h.elim) _ te tS h)
   obtain⟨h1,h2⟩:=h;obtain⟨s0,h1⟩:=yR h1;obtain⟨k1,k2,k3⟩:=XI h1;refine ZC (λs:la.St=>(oC (la.bd s).sl ((lv|||nQ c)&&&(2^400-1-(defs c))) 0 te,yF (la.bd s) tS)) (λs=>dg (la.bd s).cO) (λs=>(la.bd s).m) s0 k1 k2 k3 λs hg=>(lV hT hI hm c hr (i+1) (lv|||nQ c) _ _ _ (cI _ (cg _ (nj (OG h2 s) hg)))).mono λe bX bN hq=>?_;cases e with
   |normal=>obtain⟨s',hs⟩:=yR hq;obtain⟨k1,k2,k3⟩:=Qo hs;exact⟨s',k1,k2,k3⟩
   |exit id=>exact hq
   |ret=>exact hq
  exact h.elim
 |.region id ops draw,hr,i,lv,te,tS,Q,h=>Q2 hT hI h
 |.rangeFunc f ps oD body,hr,i,lv,te,tS,Q,h=>by
  simp only[x9]at h;split at h
  .rename_i me g fs cs rA hf;obtain⟨rfl,rfl,hy⟩:=hm me rA;have Bm:(ps.toList,oD,body)=T.yp:=hr (by rw[rA];rfl);split at h
   .rename_i vr j hx;refine VQ (K:=λbN=>dc (ga tS te) λte=>bW (bN.set tS.length .none) λtS=>Q .normal te tS) hf (Bm▸hy) ((hI.c g vr j _ _ _ hx h).mono λv bN hk=>?_) λbN hk=>cI _ (K:=λtS=>Q .normal _ tS) (cg _ (K:=λte=>bW (bN.set _ .none) λtS=>Q .normal te tS) hk);obtain⟨h0,hk⟩:=gU hk;simp only[aC,nI]at h0;refine⟨⟨?_,h0.2⟩,hk⟩;have:=h0.1;unfold Vl at this;split at this;.assumption
    cases this
   exact h.elim
  exact h.elim
 |.goto _,_,_,_,_,_,_,h=>(by simp only[x9]at h)
 |.refuse _,_,_,_,_,_,_,h=>(by simp only[x9]at h)
theorem vz{K K':TV->List TV->List Prop->Prop}(hK:∀v cs f,K v cs f->K' v cs f):∀{s:tC},s.some K->s.some K'
 |.ex _ k,⟨x,h⟩=>⟨x,vz (s:=k x) hK h⟩
 |.res _ _ _,h=>hK _ _ _ h
theorem Kg{F:List TV->List TB->Prop}{E:DX->List TV->List TB->Prop}(h1:∀te tS,F te tS->E .normal te tS/\E .ret te tS):∀{e:DX}{te:List TV}{tS:List TB},MN F e te tS->E e te tS
 |.normal,_,_,h=>(h1 _ _ h).1
 |.ret,_,_,h=>(h1 _ _ h).2
 |.exit _,_,_,h=>h.elim
theorem agN{rs:List ResultVar}{iY:List (Option TT)}{s:tC}(h:adh ty rs iY s te tS):adA ty rs iY (λv=>s.ow v) .normal te tS/\adA ty rs iY (λv=>s.ow v) .ret te tS:=by
 unfold adh at h;split at h
 .rename_i vs hv;have h:=cg (yw tS vs) (K:=λvs=>aS (vs.all eM&&(refs (kA (bL iY vs))).isEmpty) (s.some λv _ facts=>ask (Yg (kA (bL iY vs)) v) (dg facts)) False) h;obtain⟨h0,h⟩:=gU h;simp only[aC,y7]at h0;have:∃vs,xu ty te tS rs=some vs/\(yw tS vs).all eM=true/\refs (kA (bL iY (yw tS vs)))=[]/\s.ow (kA (bL iY (yw tS vs))):=by refine⟨vs,hv,h0.1,h0.2,vz (λv cs f hk=>?_) h⟩;obtain⟨l,h1,h2,h3⟩:=iR hk;exact⟨xD h1 h2,h3⟩
  exact⟨⟨trivial,this⟩,trivial,this⟩
 exact h.elim
theorem agO{rs:List ResultVar}{iY oc:List (Option TT)}{s:tC}(h:adi ty rs iY oc s te tS):TZ ty rs iY oc (λv cs=>s.holds v cs) .normal te tS/\TZ ty rs iY oc (λv cs=>s.holds v cs) .ret te tS:=by
 unfold adi at h;split at h
 .rename_i vs ts l hv;obtain⟨h0,h⟩:=gU h;simp only[aC,y7]at h0;have:s.holds (kA (bL iY vs)) (bL oc ts):=by refine vz (λv cs f hk=>?_) h;obtain⟨l,h1,h2,hk⟩:=iR hk;obtain⟨l',h3,h4,h5⟩:=iR hk;exact⟨xD h1 h2,sJ h3 h4,h5⟩
  exact⟨⟨trivial,vs,ts,hv,h0.1.1,h0.1.2,rfl,h0.2.1,h0.2.2,this⟩,trivial,vs,ts,hv,h0.1.1,h0.1.2,rfl,h0.2.1,h0.2.2,this⟩
 exact h.elim
theorem agM{rs:List ResultVar}{iY:List (Option TT)}{n:Nat}{s:tC}(h:adg ty rs iY n s te tS):adz ty rs iY n (λv t=>s.holds v (t.map .agg)) .normal te tS/\adz ty rs iY n (λv t=>s.holds v (t.map .agg)) .ret te tS:=by
 unfold adg at h;split at h
 .rename_i vs t hv ht;obtain⟨h0,h⟩:=gU h;simp only[aC]at h0;have:s.holds (kA (bL iY vs)) (t.map .agg):=by refine vz (λv cs f hk=>?_) h;obtain⟨l,h1,h2,hk⟩:=iR hk;obtain⟨l',h3,h4,h5⟩:=iR hk;exact⟨xD h1 h2,sJ h3 h4,h5⟩
  exact⟨⟨trivial,vs,t,hv,h0.1,h0.2,ht,this⟩,trivial,vs,t,hv,h0.1,h0.2,ht,this⟩
 exact h.elim
theorem Xd{oc:List (Option TT)}{ts:List TV}:Up oc ts=bL oc ts:=by
 unfold Up;split;.split<;>rfl
 rfl
theorem agL{rs:List ResultVar}{oc:List (Option TT)}{s:tC}(h:adf ty rs oc s te tS):ady ty rs oc (λcs=>s.Az cs) .normal te tS/\ady ty rs oc (λcs=>s.Az cs) .ret te tS:=by
 unfold adf at h;split at h
 .rename_i ts l hv;obtain⟨h0,h⟩:=gU h;simp only[aC,y7]at h0;have:s.Az (bL oc ts):=by refine vz (λv cs f hk=>?_) h;obtain⟨l',h3,h4,h5⟩:=iR hk;exact⟨Xd▸sJ h3 h4,h5⟩
  exact⟨⟨trivial,ts,hv,rfl,h0.1,h0.2,this⟩,trivial,ts,hv,rfl,h0.1,h0.2,this⟩
 exact h.elim
theorem agK{rs:List ResultVar}{e:TypeId}{s:tC}(h:ade ty rs e s te tS):adx ty rs e (λv=>s.ow v) .normal te tS/\adx ty rs e (λv=>s.ow v) .ret te tS:=by
 unfold ade at h;split at h
 .rename_i t CG g hv;split at h;.rename_i e' n hg;obtain⟨h0,h1,h2⟩:=gU h;simp only[aC,dX]at h0;obtain⟨rfl,rfl⟩:=h0;have hq:s.ow (.sl t CG .no):=vz (λv cs f hk=>by obtain⟨l,k1,k2,k3⟩:=iR hk;exact⟨xD k1 k2,k3⟩) h2;exact⟨⟨trivial,t,CG,g,hv,h1,hg,hq⟩,trivial,t,CG,g,hv,h1,hg,hq⟩
  exact h.elim
 exact h.elim
theorem aer:∀{vs:List TV}{ds:List DV},cK ι S vs ds->RT ι S (kA vs) (oneOf ds)
 |[],ds,h=>by rw[aR h];simp only[kA,oneOf,RT];exact bO
 |[v],ds,h=>by obtain⟨d,m',rfl,h1,h2⟩:=aj h;rw[aR h2];exact h1
 |v::u::l,ds,h=>by obtain⟨d,m',rfl,h1,h2⟩:=aj h;obtain⟨d',m'',rfl,h3,h4⟩:=aj h2;simp only[kA,oneOf,RT];exact aT h1 (aT h3 h4)
def XOK(P:Program)(T:eZ):Prop:=∀g fn j,T.X g=some (fn,j)->P.funcs[g]? =some fn/\fn.body.isSome=true
def Lev(P:Program)(ty:fR)(T:eZ):Nat->bR->bt->ej->Prop
 |0,aK,call,_=>qy T aK call
 |d+1,aK,call,yf=>qy T aK call/\∃TD Kk yf',((∀g fn,P.funcs[g]? =some fn->∀a S,call g a S=tN P ty TD Kk yf' LL g fn a S)/\yf=uK P ty TD Kk yf' LL)/\Lev P ty T d TD Kk yf'
theorem sP{d:Nat}(h:Lev P ty T d aK call yf):qy T aK call:=by
 cases d with
 |zero=>exact h
 |succ d=>exact h.1
theorem adK{acO:bR}{OS:bt}{yfI:ej}(hT:qy T acO OS)(hI:wS P ty OS yfI T inl)(hm:inl.me=none)(hy:∀me,T.me=some me->Cq me=some T.yp){k:Nat}{sC:FuncId}{Ad xs:List TV}{K:List TB->Prop}(h:acs P ty tt T inl k sC Ad xs tS K):∃ps oD body,Cq sC=some (ps,oD,body)/\xs.length=ps.length/\(eW (oz Ad (ps.zip xs))++oA tS).contains k=false/\WT P ty acO OS yfI (ou k tS) LL sC true oD (oz Ad (ps.zip xs)) (tS.set k .none) λe mI iM=>e=.normal/\WT P ty acO OS yfI (ou k tS) LL sC true body mI iM λe _ jQ=>e=.normal/\jQ[k]? =some .none/\K jQ:=by
 have HE:∀me,inl.me=some me->true=false/\sC=me/\Cq me=some T.yp:=λ_ e=>by rw[hm]at e;cases e
 have hn:∀c,inl.me.isSome=true->wP T.yp c:=λ_ e=>by rw[hm]at e;cases e
 unfold acs at h;split at h
 .rename_i me ps oD body h1 h2;obtain⟨h0,hv⟩:=gU h;clear h;simp only[aC,dX,nI]at h0;obtain⟨⟨rfl,h3⟩,h4⟩:=h0;refine⟨ps,oD,body,h2▸hy _ h1,h3,h4,?_⟩;refine(lV hT hI HE oD (hn _) _ _ _ _ _ (cI _ (cg _ hv))).mono λe mI iM hk=>?_;cases e with
  |normal=>
   refine⟨rfl,adM (n:=tS.length) ((lV hT hI HE body (hn _) _ _ _ _ _ hk).mono λe SZ jQ hk=>?_)⟩;cases e with
   |normal=>
    replace hk:adl k (QM tS.length jQ) K:=hk
    unfold adl at hk;split at hk;.exact⟨rfl,‹_›,hk⟩
    exact hk.elim
   |exit _=>exact hk.elim
   |ret=>exact hk.elim
  |exit _=>exact hk.elim
  |ret=>exact hk.elim
 exact h.elim
theorem Iq(hX:XOK P T)(hy:∀me,T.me=some me->Cq me=some T.yp):∀(d:Nat){aK:bR}{call:bt}{yf:ej},Lev P ty T d aK call yf->wS P ty call yf T (QS P ty tt T d)
 |0,_,_,_,_=>⟨λ_ _ _ _ _ _ _ h=>h.elim,λ_ _ _ _ _ _ h=>h.elim⟩
 |d+1,aK,call,yf,hL=>by
  obtain⟨-,TD,Kk,yf',⟨hb,hyf⟩,Tt⟩:=hL;have hm0:(QS P ty tt T d).me=none:=by cases d<;>rfl
  refine⟨?_,λk sC Ad xs tS K h=>by obtain⟨ps,oD,body,h1,h2,h3,h4⟩:=adK (sP Tt) (Iq hX hy d Tt) hm0 hy h;exact⟨ps,oD,body,TD,Kk,yf',h1,hyf,h2,h3,h4⟩⟩;intro g fn j A tS K hx hi ι bJ S hR;obtain⟨hf,hs⟩:=hX g fn j hx;have hw:=lV (fn:=g) (jd:=false) (yf:=yf') (sP Tt) (Iq hX hy d Tt) (λ_ e=>by rw[hm0]at e;cases e) _ (λe=>by rw[hm0]at e;cases e) _ _ _ _ _ (cg _ hi);have hlen:=gE hR.env;have mP:bT ι (MD fn.ntmps A) tS (bJ++List.replicate (fn.ntmps-bJ.length) bF) S:=
   ⟨er hR.env (by rw[hlen];exact sM _ _),hR.cells,hR.own,hR.ql,hR.inj,hR.mp⟩
  obtain⟨e,aL,S',ι',bX,bN,h1,h2,h3,h4,h5,h6⟩:=hw ι _ S mP Vp;have key:adb ty fn.results.toList K bX bN->(e=.normal\/e=.ret)->∃d S' ι' v bN,call g bJ S=some (d,S')/\bT ι' [v] bN [d] S'/\oE (dF 0 tS) bN/\Fr (dF 0 tS) ι S ι' S'/\Nn S.length S S'/\K v bN:=by
   intro hk he;unfold adb at hk;split at hk
   .rename_i vs hv;obtain⟨ds,k1,k2⟩:=sN h2 hv;refine⟨oneOf ds,S',ι',kA vs,bN,?_,⟨kQ (aer k2),h2.cells,h2.own,h2.ql,h2.inj,h2.mp⟩,h3,h4,h5,hk⟩;rw[hb g fn hf];unfold mb at h1;simp only[tN];cases hc:fn.body with
    |none=>rw[hc]at hs;cases hs
    |some c=>rw[hc]at h1;simp only[kU]at h1;simp only[h1];rcases he with rfl|rfl<;>simp only[k1,ay]
   exact hk.elim
  cases e with
  |normal=>exact key h6 (.inl rfl)
  |ret=>exact key h6 (.inr rfl)
  |exit id=>exact h6.elim
def vcI(T:eZ)(d:Nat)(f:Func)(iY:List (Option TT))(J:List (Nat×LA))(a:List TV)(s:tC):Prop:=dc (MD f.ntmps a) λte=>x9 Tp Ty X3 T (QO Tp Ty X3 T d) [] J (mb f) 0 (vC f.results.toList) te [] (MN (adh Ty f.results.toList iY s))
def afa(T:eZ)(d:Nat)(f:Func)(iY oc:List (Option TT))(J:List (Nat×LA))(a cs:List TV)(s:tC):Prop:=dc (MD f.ntmps a) λte=>x9 Tp Ty X3 T (QO Tp Ty X3 T d) [0] J (mb f) 0 (vC f.results.toList) te [.cells cs] (MN (adi Ty f.results.toList iY oc s))
def vcN(T:eZ)(d:Nat)(f:Func)(oc:List (Option TT))(J:List (Nat×LA))(a:List TV)(s:tC):Prop:=dc (MD f.ntmps a) λte=>x9 Tp Ty X3 T (QO Tp Ty X3 T d) [] J (mb f) 0 (vC f.results.toList) te [] (MN (adf Ty f.results.toList oc s))
def vcO(T:eZ)(d:Nat)(f:Func)(J:List (Nat×LA))(a:List TV)(e:TypeId)(s:tC):Prop:=dc (MD f.ntmps a) λte=>x9 Tp Ty X3 T (QO Tp Ty X3 T d) [] J (mb f) 0 (vC f.results.toList) te [] (MN (ade Ty f.results.toList e s))
def vcM(T:eZ)(d:Nat)(f:Func)(iY:List (Option TT))(J:List (Nat×LA))(a:List TV)(t:List (List TV))(s:tC):Prop:=dc (MD f.ntmps a) λte=>x9 Tp Ty X3 T (QO Tp Ty X3 T d) (List.range t.length) J (mb f) 0 (vC f.results.toList) te (t.map .cells) (MN (adg Ty f.results.toList iY t.length s))
def ko(bH:bR)(k:Nat)(T:eZ):Prop:=XOK Tp T/\∀n,qy T (JQ bH (n+k)) (xE bH (n+k))
def eZ.dQ (T:eZ)(f:FuncId)(S:List TV->Sp):eZ:={T with I:=λg a=>if g=f then S a else T.I g a}
def eZ.oJ (T:eZ)(f:FuncId)(S:List TV->List TV->Sp):eZ:={T with C:=λg a c=>if g=f then S a c else T.C g a c}
def eZ.MQ (T:eZ)(f:FuncId)(S:List TV->Sp):eZ:={T with N:=λg a=>if g=f then S a else T.N g a}
def eZ.Zn (T:eZ)(f:FuncId)(e:TypeId)(S:List TV->Sp):eZ:={T with O:=λg a=>if g=f then(S a).map λx=>(x.1,e,x.2)else T.O g a}
def eZ.H7 (T:eZ)(f:FuncId)(S:List TV->List (List TV)->Sp):eZ:={T with M:=λg a t=>if g=f then S a t else T.M g a t}
def eZ.H6 (T:eZ)(f:FuncId)(fn:Func)(j:List (Nat×LA)):eZ:={T with X:=λg=>if g=f then some (fn,j)else T.X g}
variable {bH:bR} {k:Nat}
theorem lp(h:ko bH k T):ko bH (k+1) T:=⟨h.1,λn=>by have:=h.2 (n+1);rwa [Nat.add_right_comm,eE]at this⟩
theorem mm(h:ko bH k T):∀(d n:Nat),Lev Tp Ty T d (JQ bH (n+(k+d))) (xE bH (n+(k+d))) (yfT bH (n+(k+d)))
 |0,n=>h.2 n
 |d+1,n=>by
  refine⟨?_,JQ bH (n+(k+d)),xE bH (n+(k+d)),yfT bH (n+(k+d)),⟨λg fn hf a S=>?_,?_⟩,mm h d n⟩;.have:=h.2 (n+(d+1));rwa [eE,nF (d+1) k]at this
  .rw[show n+(k+(d+1))=(n+(k+d))+1 by omega];simp only[pU,dx,hf];rfl
  rw[show n+(k+(d+1))=(n+(k+d))+1 by omega];rfl
def eZ.FC (T:eZ)(f:FuncId)(fn:Func):Prop:=
 match T.me with
 |none=>True
 |some g=>g=f/\gG (mb fn)=some T.yp/\wP T.yp (mb fn)
theorem lD{f:FuncId}{fn:Func}(hf:Tp.funcs[f]? =some fn)(hb:fn.body.isSome=true)(h:T.FC f fn):∀me,T.me=some me->f=me/\Cq me=some T.yp/\wP T.yp (mb fn):=λme e=>by
 unfold eZ.FC at h;rw[e]at h;obtain⟨rfl,h1,h2⟩:=h;refine⟨rfl,?_,h2⟩;have Yc:Try.prog.funcs[me]? =some fn:=hf;unfold mb at h1;unfold Cq;rw[Yc];cases hc:fn.body with
 |none=>rw[hc]at hb;cases hb
 |some c=>rw[hc]at h1;simpa [hc]using h1
theorem yV(hX:XOK P T)(hy:∀me,T.me=some me->Cq me=some T.yp){d:Nat}(h:Lev P ty T d aK call yf):wS P ty call yf T (QO P ty tt T d):=⟨(Iq hX hy d h).c,(Iq hX hy d h).y⟩
def eZ.own (T:eZ)(f:FuncId)(fn:Func)(Y:List (Nat×LA):=[]):eZ:={T with me:=some f,yp:=(gG (mb fn)).getD ([],.skip,.skip),Y:=Y}
theorem OZ{f:FuncId}{fn:Func}{Y:List (Nat×LA)}(hT:ko bH k T):ko bH k (T.own f fn Y):=⟨hT.1,λn=>⟨(hT.2 n).I,(hT.2 n).C,(hT.2 n).N,(hT.2 n).O,(hT.2 n).M⟩⟩
theorem OD{f:FuncId}{S:List TV->Sp}(hT:ko bH k T)(h:∀n a p s,S a=some (p,s)->dg p->uG (JQ bH (n+k)) f a λv=>s.ow v):ko bH k (T.dQ f S):=⟨hT.1,λn=>⟨λg a p s hs hp=>by
 simp only[eZ.dQ]at hs;split at hs;.rename_i e;subst e;exact h n a p s hs hp
 exact(hT.2 n).I g a p s hs hp,(hT.2 n).C,(hT.2 n).N,(hT.2 n).O,(hT.2 n).M⟩⟩
theorem afZ{f:FuncId}{S:List TV->List TV->Sp}(hT:ko bH k T)(h:∀n a cs p s,S a cs=some (p,s)->dg p->BL (xE bH (n+k)) f a cs λv cs=>s.holds v cs):ko bH k (T.oJ f S):=⟨hT.1,λn=>⟨(hT.2 n).I,λg a cs p s hs hp=>by
 simp only[eZ.oJ]at hs;split at hs;.rename_i e;subst e;exact h n a cs p s hs hp
 exact(hT.2 n).C g a cs p s hs hp,(hT.2 n).N,(hT.2 n).O,(hT.2 n).M⟩⟩
theorem afY{f:FuncId}{S:List TV->Sp}(hT:ko bH k T)(h:∀n a p s,S a=some (p,s)->dg p->Du (JQ bH (n+k)) (xE bH (n+k)) f a λcs=>s.Az cs):ko bH k (T.MQ f S):=⟨hT.1,λn=>⟨(hT.2 n).I,(hT.2 n).C,λg a p s hs hp=>by
 simp only[eZ.MQ]at hs;split at hs;.rename_i e;subst e;exact h n a p s hs hp
 exact(hT.2 n).N g a p s hs hp,(hT.2 n).O,(hT.2 n).M⟩⟩
theorem afX{f:FuncId}{e:TypeId}{S:List TV->Sp}(hT:ko bH k T)(h:∀n a p s,S a=some (p,s)->dg p->OW (xE bH (n+k)) f a e λv=>s.ow v):ko bH k (T.Zn f e S):=⟨hT.1,λn=>⟨(hT.2 n).I,(hT.2 n).C,(hT.2 n).N,λg a p e' s hs hp=>by
 simp only[eZ.Zn]at hs;split at hs;.rename_i he;subst he;simp only[af,az]at hs;obtain⟨⟨p1,s1⟩,h1,rfl,rfl,rfl⟩:=hs;exact h n a _ _ h1 hp
 exact(hT.2 n).O g a p e' s hs hp,(hT.2 n).M⟩⟩
theorem abo{f:FuncId}{S:List TV->List (List TV)->Sp}(hT:ko bH k T)(h:∀n a t p s,S a t=some (p,s)->dg p->BI (xE bH (n+k)) f a t λv t=>s.holds v (t.map .agg)):ko bH k (T.H7 f S):=⟨hT.1,λn=>⟨(hT.2 n).I,(hT.2 n).C,(hT.2 n).N,(hT.2 n).O,λg a t p s hs hp=>by
 simp only[eZ.H7]at hs;split at hs;.rename_i e;subst e;exact h n a t p s hs hp
 exact(hT.2 n).M g a t p s hs hp⟩⟩
theorem Ue{f:FuncId}{fn:Func}{j:List (Nat×LA)}(hT:ko bH k T)(hf:Tp.funcs[f]? =some fn)(hb:fn.body.isSome=true):ko bH k (T.H6 f fn j):=⟨λg vr j' hx=>by
 simp only[eZ.H6]at hx;split at hx;.rename_i e;subst e;cases hx;exact⟨hf,hb⟩
 exact hT.1 g vr j' hx,λn=>⟨(hT.2 n).I,(hT.2 n).C,(hT.2 n).N,(hT.2 n).O,(hT.2 n).M⟩⟩
def T0:eZ where
 I:=λg a=>match g,a with
  |13,[]=>some ([],.res (iD true) [] [])
  |_,_=>none
 C:=λ_ _ _=>none
 N:=λ_ _=>none
theorem ic(tk:yx bH):ko bH 0 T0:=by
 refine⟨λ_ _ _ h=>(by cases h),λn=>⟨λg a p s hs _=>?_,λ_ _ _ _ _ hs=>(by cases hs),λ_ _ _ _ hs=>(by cases hs),λ_ _ _ _ _ hs=>(by cases hs),λ_ _ _ _ _ hs=>(by cases hs)⟩⟩;simp only[T0]at hs;split at hs;.cases hs;intro bJ hd;rw[aR hd];refine⟨.val (.bool true),iD true,?_,rfl,by simp only[RT],rfl,rfl,trivial⟩;simp only[ym,kJ,tk.fit,DV.pure,DV.j9,if_true]
 cases hs
end Go.Tv
namespace Go.Tv
open Go Go.Di Go.Proofs
abbrev Dn:=Option (List Prop×tC×List (Nat×LA))
def dS(d:Dn):Sp:=d.map λx=>(x.1,x.2.1)
def dJ(d:Dn):List (Nat×LA):=match d with
 |some x=>x.2.2
 |none=>[]
def VI(T:eZ)(f:Func)(iY:List (Option TT))(D:List TV->Dn)(d:Nat:=0):Prop:=∀a p s j,D a=some (p,s,j)->dg p->vcI T d f iY j a s
def VC(T:eZ)(f:Func)(iY oc:List (Option TT))(D:List TV->List TV->Dn)(d:Nat:=0):Prop:=∀a cs p s j,D a cs=some (p,s,j)->dg p->afa T d f iY oc j a cs s
def VN(T:eZ)(f:Func)(oc:List (Option TT))(D:List TV->Dn)(d:Nat:=0):Prop:=∀a p s j,D a=some (p,s,j)->dg p->vcN T d f oc j a s
def VO(T:eZ)(f:Func)(e:TypeId)(D:List TV->Dn)(d:Nat:=0):Prop:=∀a p s j,D a=some (p,s,j)->dg p->vcO T d f j a e s
def VM(T:eZ)(f:Func)(iY:List (Option TT))(D:List TV->List (List TV)->Dn)(d:Nat:=0):Prop:=∀a t p s j,D a t=some (p,s,j)->dg p->vcM T d f iY j a t s
def dV(d:Dn)(K:tC->List (Nat×LA)->Prop):Prop:=
 match d with
 |some (p,s,j)=>dg p->K s j
 |none=>True
structure Hd (p:Prop):Prop where
 h:p
theorem pE{A B:Prop}(h:A=B)(a:A):Hd B:=⟨h▸a⟩
theorem gT{T:eZ}{f:Func}{iY:List (Option TT)}{D:List TV->Dn}{d:Nat}(h:∀a,dV (D a) λs j=>Hd (vcI T d f iY j a s)):VI T f iY D d:=λa p s j hd hp=>by have:=h a;rw[hd]at this;exact(this hp).h
theorem abm{T:eZ}{f:Func}{oc:List (Option TT)}{D:List TV->Dn}{d:Nat}(h:∀a,dV (D a) λs j=>Hd (vcN T d f oc j a s)):VN T f oc D d:=λa p s j hd hp=>by have:=h a;rw[hd]at this;exact(this hp).h
theorem afV{T:eZ}{f:Func}{e:TypeId}{D:List TV->Dn}{d:Nat}(h:∀a,dV (D a) λs j=>Hd (vcO T d f j a e s)):VO T f e D d:=λa p s j hd hp=>by have:=h a;rw[hd]at this;exact(this hp).h
theorem afW{T:eZ}{f:Func}{iY:List (Option TT)}{D:List TV->List (List TV)->Dn}{d:Nat}(h:∀a t,dV (D a t) λs j=>Hd (vcM T d f iY j a t s)):VM T f iY D d:=λa t p s j hd hp=>by have:=h a t;rw[hd]at this;exact(this hp).h
theorem pM{T:eZ}{f:Func}{iY oc:List (Option TT)}{D:List TV->List TV->Dn}{d:Nat}(h:∀a cs,dV (D a cs) λs j=>Hd (afa T d f iY oc j a cs s)):VC T f iY oc D d:=λa cs p s j hd hp=>by have:=h a cs;rw[hd]at this;exact(this hp).h
theorem d_some{d:Dn}{p:List Prop}{s:tC}(h:dS d=some (p,s)):d=some (p,s,dJ d):=by
 cases d with
 |none=>cases h
 |some x=>cases h;rfl
variable {bH:bR} {k:Nat} {T:eZ}
theorem sk{fn:Func}(hb:fn.body.isSome=true):fn.body=some (mb fn):=by unfold mb;revert hb;cases fn.body<;>simp
theorem mkJ(hT:ko bH k T){f:FuncId}{fn:Func}{iY:List (Option TT)}{D:List TV->Dn}{d:Nat}(hn:∀a p s,dS (D a)=some (p,s)->dg p->∀da,cK fA [] a da->bH f da=none)(hf:Tp.funcs[f]? =some fn)(hb:fn.body.isSome=true)(h:VI T fn iY D d){T':eZ}(Tq:ko bH (k+d+1) T')(rA:T.FC f fn:=by exact trivial):ko bH (k+d+1) (T'.dQ f λa=>dS (D a)):=
 OD Tq λn a p s hs hp=>Xy (n:=n+(k+d)) hf (sk hb) (hn a p s hs hp) ((lV (sP (mm hT d n)) (yV hT.1 (λme e=>(lD hf hb rA me e).2.1) (mm hT d n)) (λme e=>⟨rfl,(lD hf hb rA me e).1,(lD hf hb rA me e).2.1⟩) _ (λe=>by obtain⟨me,e⟩:=sY.1 e;exact(lD hf hb rA me e).2.2) _ _ _ _ _ (cg _ (h a p s _ (d_some hs) hp))).mono λ_ _ _ hq=>Kg (λ_ _=>agN) hq)
theorem wu(tk:yx bH)(hT:ko bH k T){f:FuncId}{fn:Func}{iY:List (Option TT)}{D:List TV->Dn}{d:Nat}(hne:f≠33/\f≠83/\f≠13/\f≠67/\f≠0)(hf:Tp.funcs[f]? =some fn)(hb:fn.body.isSome=true)(h:VI T fn iY D d){T':eZ}(Tq:ko bH (k+d+1) T')(rA:T.FC f fn:=by exact trivial):ko bH (k+d+1) (T'.dQ f λa=>dS (D a)):=
 mkJ hT (λ_ _ _ _ _ _ _=>tk.other _ _ hne.1 hne.2.1 hne.2.2.1 hne.2.2.2.1 hne.2.2.2.2) hf hb h Tq rA
theorem Mb(hT:ko bH k T){f:FuncId}{fn:Func}{iY oc:List (Option TT)}{D:List TV->List TV->Dn}{d:Nat}(hf:Tp.funcs[f]? =some fn)(hb:fn.body.isSome=true)(h:VC T fn iY oc D d){T':eZ}(Tq:ko bH (k+d+1) T')(rA:T.FC f fn:=by exact trivial):ko bH (k+d+1) (T'.oJ f λa c=>dS (D a c)):=
 afZ Tq λn a cs p s hs hp=>XO (n:=n+(k+d)) hf (sk hb) ((lV (sP (mm hT d n)) (yV hT.1 (λme e=>(lD hf hb rA me e).2.1) (mm hT d n)) (λme e=>⟨rfl,(lD hf hb rA me e).1,(lD hf hb rA me e).2.1⟩) _ (λe=>by obtain⟨me,e⟩:=sY.1 e;exact(lD hf hb rA me e).2.2) _ _ _ _ _ (cg _ (h a cs p s _ (d_some hs) hp))).mono λ_ _ _ hq=>Kg (λ_ _=>agO) hq)
theorem mkO(hT:ko bH k T){f:FuncId}{fn:Func}{e:TypeId}{D:List TV->Dn}{d:Nat}(hf:Tp.funcs[f]? =some fn)(hb:fn.body.isSome=true)(h:VO T fn e D d){T':eZ}(Tq:ko bH (k+d+1) T')(rA:T.FC f fn:=by exact trivial):ko bH (k+d+1) (T'.Zn f e λa=>dS (D a)):=
 afX Tq λn a p s hs hp=>W0 (n:=n+(k+d)) hf (sk hb) ((lV (sP (mm hT d n)) (yV hT.1 (λme e=>(lD hf hb rA me e).2.1) (mm hT d n)) (λme e=>⟨rfl,(lD hf hb rA me e).1,(lD hf hb rA me e).2.1⟩) _ (λe=>by obtain⟨me,e⟩:=sY.1 e;exact(lD hf hb rA me e).2.2) _ _ _ _ _ (cg _ (h a p s _ (d_some hs) hp))).mono λ_ _ _ hq=>Kg (λ_ _=>agK) hq)
theorem mkM(hT:ko bH k T){f:FuncId}{fn:Func}{iY:List (Option TT)}{D:List TV->List (List TV)->Dn}{d:Nat}(hf:Tp.funcs[f]? =some fn)(hb:fn.body.isSome=true)(h:VM T fn iY D d){T':eZ}(Tq:ko bH (k+d+1) T')(rA:T.FC f fn:=by exact trivial):ko bH (k+d+1) (T'.H7 f λa t=>dS (D a t)):=
 abo Tq λn a t p s hs hp=>Xk (n:=n+(k+d)) hf (sk hb) ((lV (sP (mm hT d n)) (yV hT.1 (λme e=>(lD hf hb rA me e).2.1) (mm hT d n)) (λme e=>⟨rfl,(lD hf hb rA me e).1,(lD hf hb rA me e).2.1⟩) _ (λe=>by obtain⟨me,e⟩:=sY.1 e;exact(lD hf hb rA me e).2.2) _ _ _ _ _ (cg _ (h a t p s _ (d_some hs) hp))).mono λ_ _ _ hq=>Kg (λ_ _=>agM) hq)
theorem mkN(tk:yx bH)(hT:ko bH k T){f:FuncId}{fn:Func}{oc:List (Option TT)}{D:List TV->Dn}{d:Nat}(hne:f≠33/\f≠83/\f≠13/\f≠67/\f≠0)(hf:Tp.funcs[f]? =some fn)(hb:fn.body.isSome=true)(h:VN T fn oc D d){T':eZ}(Tq:ko bH (k+d+1) T')(rA:T.FC f fn:=by exact trivial):ko bH (k+d+1) (T'.MQ f λa=>dS (D a)):=
 afY Tq λn a p s hs hp=>Xc (n:=n+(k+d)) hf (sk hb) (λ_=>tk.other _ _ hne.1 hne.2.1 hne.2.2.1 hne.2.2.2.1 hne.2.2.2.2) ((lV (sP (mm hT d n)) (yV hT.1 (λme e=>(lD hf hb rA me e).2.1) (mm hT d n)) (λme e=>⟨rfl,(lD hf hb rA me e).1,(lD hf hb rA me e).2.1⟩) _ (λe=>by obtain⟨me,e⟩:=sY.1 e;exact(lD hf hb rA me e).2.2) _ _ _ _ _ (cg _ (h a p s _ (d_some hs) hp))).mono λ_ _ _ hq=>Kg (λ_ _=>agL) hq)
def mU(α:Type):Prop:=([]:List α)=[]
theorem iz{α:Type}:mU α=True:=by simp[mU]
theorem mc{b:Bool}{A B:Prop}:aS b A B↔(b=true->A)/\(b=false->B):=by cases b<;>simp[aS]
theorem ek{p:Prop}[Decidable p]{A B:Prop}:aS (decide p) A B↔(p->A)/\(¬p->B):=by rw[mc];simp
theorem ij{b:Bool}{A B:Prop}:aS (!b) A B↔aS b B A:=by cases b<;>rfl
theorem fe{a c:Int}{A B:Prop}:aS (a==c) A B↔(a=c->A)/\(¬a=c->B):=by rw[mc];simp
theorem fS{a c:Int}{A B:Prop}:aS (a !=c) A B↔(a=c->B)/\(¬a=c->A):=by rw[mc];simp[and_comm]
end Go.Tv
