import Derived.Test.YtedcgbkilmlbhaaPk10
namespace Go.Tv
open Go Go.Di Go.Proofs
variable {P:Program} {ty:fP} {tt:TypeId->Option TT} {ι ι' w:lq} {S S':ai} {te:List TV} {env:List DV} {tS:List TB} {aI H7:bS} {call yR:bt} {yf YB:ew} {B:List Nat}
theorem WX(h:bT ι te tS env S)(S2:ai):bT ι te (tS++[TB.none]) env (S++S2):=by
 have hlt:∀{k k'},ι k=some k'->k'<S.length:=λ{k k'} hk=>by obtain⟨b,h1,-⟩:=h.live hk;exact(az.1 h1).1
 have hg:∀{k k'},ι k=some k'->(S++S2)[k']? =S[k']? :=λ{k k'} hk=>er (hlt hk);have K:jE ι S ι (S++S2) λ_=>False:=λk k' _ hk=>⟨hk,dY (hg hk)⟩;have bh:∀{j b},(tS++[TB.none])[j]? =some b->b≠TB.none->tS[j]? =some b:=λ{j b} hj hb=>by
  rw[qT]at hj;split at hj;.exact hj
  have:=b9 hj;simp only[bC]at this;exact absurd this hb
 refine⟨bu K _ _ h.env,λk l hk=>?_,λk e s hk t ht=>?_,λk k' hk=>?_,h.inj,λk b hk t ht=>?_⟩;.obtain⟨k',ds,n1,n2,n3⟩:=h.cells k l (bh hk (by simp));exact⟨k',ds,n1,(hg n1).trans n2,bu K _ _ n3⟩
 .obtain⟨n,h1⟩:=h.own k e s (bh hk (by simp)) t ht;exact⟨n,(hg ht).trans h1⟩
 .obtain⟨b,h1,h2⟩:=h.qv k k' hk;exact⟨b,by rw[er (az.1 h1).1];exact h1,h2⟩
 by_cases hb:b=.none;.subst hb;trivial
 rw[hg ht];exact h.mp k b (bh hk hb) t ht
theorem V3{f:Operand}{ps:Array Tmp}{oJ body:Code}{sP g:FuncId}{fs cs:List TV}{K:List TB->Prop}{Q:DX->List TV->List TB->Prop}(hf:fM te f=some (.fn g fs cs))(hrf:CF sP=some (ps.toList,oJ,body))
  (hc:wq call g (fs++[.oq tS.length sP (gf tS te)]++cs) (tS++[.loop]) λ_ bN=>(bN[tS.length]? =some .loop/\(eH (gf tS te)++oF bN).contains tS.length=false)/\K bN)
  (hq:∀bN,K bN->Q .normal (gf tS te) (bN.set tS.length .none)):WT P ty aI call yf B LL sP false (.rangeFunc f ps oJ body) te tS Q:=by
 intro ι env S hR hB;obtain⟨d,k1,k2⟩:=bD hR.env hf;cases d<;>simp only[RT]at k2;rename_i g' xD lG;obtain⟨rfl,k3,k4⟩:=k2
 let r0:Gz:=⟨.ready,none,sP,env,ps.toList,oJ,body,S.length⟩
 have hid:(S++[DB.defer,.loop r0])[S.length+1]? =some (.loop r0):=by rw[iu (by omega)];simp
 have hlt:∀{k k'},ι k=some k'->k'<S.length:=λ{k k'} hk=>by obtain⟨b,h1,-⟩:=hR.live hk;exact(az.1 h1).1
 have hn:∀k,ι k≠some (S.length+1):=λk hk=>by have:=hlt hk;omega
 have My:=K8 (k:=tS.length) (WX hR [DB.defer,.loop r0]) (by simp) hn hid ⟨rfl,rfl⟩;have Zh:(tS++[TB.none]).set tS.length .loop=tS++[.loop]:=by simp
 rw[Zh]at My;have hu:∀{j},j≠tS.length->upd ι tS.length (S.length+1) j=ι j:=λh=>if_neg h;have ah2:∀{j k'},ι j=some k'->j<tS.length:=λ{j k'} hj=>by obtain⟨b,h1,-⟩:=hR.qv j k' hj;exact(az.1 h1).1
 have tY:∀j,jY tS j=true->upd ι tS.length (S.length+1) j=ι j:=λj hj=>hu λe=>by
  subst e;unfold jY at hj;split at hj;.rename_i c h;have:=(az.1 h).1;omega
  cases hj
 have hK0:jE ι S (upd ι tS.length (S.length+1)) (S++[DB.defer,.loop r0]) λ_=>False:=λk k' _ hk=>⟨by rw[hu (by have:=ah2 hk;omega)];exact hk,dY (er (hlt hk))⟩;have hA:cQ (upd ι tS.length (S.length+1)) (S++[DB.defer,.loop r0]) (fs++[.oq tS.length sP (gf tS te)]++cs) (xD++[.oq (S.length+1)]++lG):=by refine eN (eN (bu hK0 _ _ k3) (aQ ?_ bL)) (bu hK0 _ _ k4);simp only[RT];exact⟨by simp[upd],_,_,_,env,S.length,hrf,hid,j6 tY _ _ hR.env⟩
 obtain⟨d,S',ι',v,bN,a1,a2,a3,a4,a5,⟨a6,a7⟩,a8⟩:=hc _ _ _ ⟨hA,My.cells,My.own,My.qv,My.inj,My.mp⟩;have pz:∀{j l},tS[j]? =some (lC l)->j∈dI 0 (tS++[TB.loop]):=λ{j l} h=>sr (c:=l) (by rw[er (az.1 h).1];exact h);have rq:ι' tS.length=some (S.length+1):=(a4.base tS.length (sr (c:=none) (by simp[lC]))).trans (by simp[upd]);obtain⟨r,b1,b2,b3⟩:=a2.mp tS.length _ a6 _ rq;have hRf:bT ι' (gf tS te) bN env S':=⟨j6 (λj hj=>by
  have h1:=tY j hj;unfold jY at hj;split at hj;.rename_i c hc;rw[a4.base j (pz (l:=some c) hc),h1]
  cases hj) _ _ hR.env,a2.cells,a2.own,a2.qv,a2.inj,a2.mp⟩
 have hno:∀j,DG ι' tS.length j≠some (S.length+1):=λj hj=>by obtain⟨h1,h2⟩:=gJ hj;exact h1 (a2.inj j _ _ h2 rq)
 have adg:∀j∈B,j≠tS.length:=λj hj e=>by obtain⟨l,h1⟩:=hB j hj;have:=(az.1 h1).1;omega
 have hRo:=Bg (b:=.loop {r with st:=.exhausted}) (K9 hRf a7) hno;have hS0:∀{j:Nat},j<S.length->(S++[DB.defer,.loop r0])[j]? =S[j]? :=λh=>er h;have abV:∀{j:Nat},j<S.length->(S'.set (S.length+1) (.loop {r with st:=.exhausted}))[j]? =S'[j]? :=λ{j} h=>by rw[aF,if_neg (by omega)]
 refine⟨.normal,env,S'.set (S.length+1) (.loop {r with st:=.exhausted}),DG ι' tS.length,gf tS te,bN.set tS.length .none,?_,hRo,λj hj=>?_,⟨λk' hl CA=>?_,λj k' hj=>?_,λj hj=>?_⟩,⟨?_,λj hj dA=>?_⟩,hq bN a8⟩
 .have hb:(r.st==LoopState.busy)=false:=by rw[b2];rfl
  simp only[cW,aG,if_false,k1];rw[a1];simp only[b1,hb,aG,if_false,b3]
 .obtain⟨l,h1⟩:=hB j hj;obtain⟨l',h2⟩:=a3 j (pz h1);exact⟨l',by rw[aF,if_neg λe=>adg j hj e.symm];exact h2⟩
 .have CI:k'<S.length:=by obtain⟨b,h1,-⟩:=hl;exact(az.1 h1).1
  rw[abV CI,a4.rest k' (by obtain⟨b,h1,h2⟩:=hl;exact⟨b,(hS0 CI).trans h1,h2⟩) λj hj=>?_,hS0 CI];by_cases e:j=tS.length;.subst e;simp only[upd,if_true,aB]at hj;omega
  rw[hu e]at hj;exact CA j hj
 .obtain⟨h1,h2⟩:=gJ hj;rcases a4.ours j k' h2 with ⟨i,hi⟩|h3
  .by_cases e:i=tS.length;.subst e;simp only[upd,if_true,aB]at hi;exact absurd (hi▸hj) (hno j)
   rw[hu e]at hi;exact .inl ⟨i,hi⟩
  refine .inr λhl=>h3 ?_;obtain⟨b,h4,h5⟩:=hl;exact⟨b,(hS0 (az.1 h4).1).trans h4,h5⟩
 .obtain⟨l,h1⟩:=hB j hj;rw[zc (adg j hj),a4.base j (pz h1),hu (adg j hj)]
 .have:=a5.1;simp only[cD,List.length_set]at this⊢;omega
 have CI:=(az.1 dA).1;rw[abV CI];exact a5.2 j (by simp only[cD];omega) ((hS0 CI).trans dA)
end Go.Tv
namespace Go.Tv
open Go Go.Di Go.Proofs
variable {P:Program} {ty:fP} {tt:TypeId->Option TT} {T:fQ} {ι ι' w:lq} {S S':ai} {te mM:List TV} {env:List DV} {tS iT:List TB} {aI:bS} {call:bt} {yf:ew} {o:Oper} {aD nT:Nat} {B:List Nat} {r:TR} {ops:Array Oper} {fn:FuncId} {jj:Bool} {fs:List dm}
def LA.St:LA->Type
 |.ex α k=>(x:α)×(k x).St
 |.st _=>Unit
 |.un _=>Empty
 |.dep _=>Empty
 |.pe _ _=>Empty
def LA.bd:(la:LA)->la.St->Bd
 |.ex _ k,⟨x,s⟩=>(k x).bd s
 |.st b,_=>b
theorem y8{K:Bd->Prop}:∀{la:LA},la.some K->∃s:la.St,K (la.bd s)
 |.ex _ k,⟨x,h⟩=>by obtain⟨s,h1⟩:=y8 (la:=k x) h;exact⟨⟨x,s⟩,h1⟩
 |.st b,h=>⟨(),h⟩
 |.un _,h=>h.elim
 |.dep _,h=>h.elim
 |.pe _ _,h=>h.elim
theorem OZ{K:Bd->Prop}:∀{la:LA},la.all K->∀s:la.St,K (la.bd s)
 |.ex _ _,h,⟨x,s⟩=>OZ (h x) s
 |.st _,h,_=>h
theorem XU{b:Bd}{keep:Nat}{K:Prop}(h:VT B b keep te tS K):Fits B (oI b.sl keep 0 te) (yP b tS) te tS/\dB b.en/\K:=by obtain⟨h0,h⟩:=iM h;simp only[aA]at h0;obtain⟨l1,e1,k1,h⟩:=jN h;obtain⟨l2,e2,k2,h⟩:=jN h;obtain⟨h3,h4⟩:=jf h;exact⟨⟨zP e1 k1,je e2 k2,h0.1,λk hk=>aT.1 h0.2 k hk⟩,h3,h4⟩
theorem QG{b:Bd}{K:Prop}(h:U4 B mM iT b te tS K):Fits B mM iT te tS/\dB b.en/\K:=by obtain⟨h0,h⟩:=iM h;simp only[aA]at h0;obtain⟨l1,e1,k1,h⟩:=jN h;obtain⟨l2,e2,k2,h⟩:=jN h;obtain⟨h3,h4⟩:=jf h;exact⟨⟨y7 e1 k1,aaH e2 k2,h0.1,λk hk=>aT.1 h0.2 k hk⟩,h3,h4⟩
theorem Up{N:Nat}{c:Code}{Q:DX->List TV->List TB->Prop}{K:List TV->List TB->Prop}{f:List TV->List TB->(List TV->List TB->Prop)->Prop}(hf:∀te tS K',f te tS K'->WT P ty aI call yf B LL fn jj c te tS λe te tS=>match e with|.normal=>K' te tS|e=>Q e te tS)(hK:∀te tS,K te tS->WI P ty aI call yf B LL fn jj N c te tS Q):
  ∀(n:Nat)(te:List TV)(tS:List TB),unK f K n te tS->WI P ty aI call yf B LL fn jj (N+n) c te tS Q
 |0,te,tS,h=>hK te tS h
 |n+1,te,tS,h=>ZJ ((hf te tS _ h).mono λe te tS hq=>by
   cases e with
   |normal=>exact Up hf hK n te tS hq
   |exit id=>exact hq
   |ret=>exact hq)
theorem ZK{n m:Nat}{c:Code}{Q:DX->List TV->List TB->Prop}(hn:n<=m)(h:WI P ty aI call yf B LL fn jj n c te tS Q):WI P ty aI call yf B LL fn jj m c te tS Q:=by intro ι env S hR hB;obtain⟨e,aK,S',ι',bZ,bN,h1,h2⟩:=h ι env S hR hB;exact⟨e,aK,S',ι',bZ,bN,Br hn h1,h2⟩
theorem K0{x:Operand}{v:Bool}{K:List TV->Prop}(hx:fM te x=some (.val (.bool v)))(h:Ut x te v K):K te:=by
 cases x with
 |tmp t=>
  simp only[fM,aB]at hx;have:=qI te t _ (h:FK te t _ K)
  rwa [qf]at this
  rw[aR]at hx;cases e:te[t]? with
  |none=>rw[e]at hx;cases hx
  |some a=>rw[e]at hx;exact congrArg some hx
 |_=>exact h
variable {inl:Inl}
theorem Rj(hT:qF T aI call)(hI:xo P ty call yf T inl){id:Nat}{draw:Bool}{J:List (Nat×LA)}{i lv:Nat}{Q:DX->List TV->List TB->Prop}(h:yu P ty tt T inl B J (.region id ops draw) i lv te tS Q):WT P ty aI call yf B LL fn jj (.region id ops draw) te tS Q:=by
 simp only[yu]at h;split at h
 .split at h;.rename_i hn;obtain⟨hd,h⟩:=iM h;refine V8 hd hn ?_;exact DR (md:=2) (n0:=tS.length) (nC:=tS) (Q:=λte tS=>Q .normal te (oD tS)) hT hI (by omega) (λte tS fs hk=>by obtain⟨hm,hk⟩:=iM hk;exact ad0 (aj _) hm (cO _ (K:=λtS=>Q .normal te tS) hk)) ops.toList 0 te _ [] rfl (cO _ (K:=λnC=>qD P ty tt T inl 2 tS.length ops ops.toList 0 te nC [] λte tS fs=>aO (uA (Region.before ops) fs) (bW (oD tS) λtS=>Q .normal te tS) False) h)
  rename_i hn;obtain⟨hd,h⟩:=iM h;refine V4 hd hn ?_;exact DR (B:=B) (md:=1) (n0:=0) (nC:=tS) (Q:=λte tS=>Q .normal te tS) hT hI (by omega) (λte tS fs hk _=>Vb (aj _) hk) ops.toList 0 te _ [] rfl h rfl
 refine V6 ?_;exact DR (md:=0) (n0:=0) (nC:=tS) (Q:=λte tS=>Q .normal te (oD tS)) hT hI (by omega) (λte tS fs hk=>adV (aj _) (cO _ (K:=λtS=>Q .normal te tS) hk)) ops.toList 0 te _ [] rfl h
theorem RX{c:Code}(h:Np P c=some ops):wZ P ops=false/\∃id,c=.region id ops true:=by
 unfold Np at h;split at h
 .split at h;.cases h
  rename_i hl;cases h;exact⟨Bool.eq_false_iff.2 hl,_,rfl⟩
 cases h
theorem E0{env:List DV}{dst:Option Tmp}{v:DV}{i:Nat}(h:dst≠some i):(kC env dst v)[i]? =env[i]? :=by
 cases dst with
 |none=>rfl
 |some d=>simp only[kC];rw[aF,if_neg (λe=>h (by rw[e]))]
theorem Bc{i:Nat}:∀{l:List Oper}{env aK:List DV},ry P ty aI call yf ops S l env=some aK->(∀o∈l,o.dst≠some i)->aK[i]? =env[i]?
 |[],env,aK,h,_=>by cases h;rfl
 |o::l,env,aK,h,hd=>by
  simp only[ry]at h;split at h
  .split at h;.rw[Bc h λo' mP=>hd o' (nO _ mP),E0 (hd o (gv ..))]
   cases h
  rw[Bc h λo' mP=>hd o' (nO _ mP),E0 (hd o (gv ..))]
theorem aeD{u v:TV}{d:DV}(h:LeV u v)(hd:RT ι S v d):RT ι S u d:=by obtain⟨_,_,e,h1,-⟩:=ak (Nv (h [] [] .nil) (kT hd));cases e;exact h1
theorem yh{sl:List (Nat×TV)}{keep:Nat}:∀{i:Nat}{te bZ:List TV}{env aK:List DV}{l:List Prop},cQ ι S te env->cQ ι S bZ aK->bZ.length=te.length->xe sl i bZ=some l->dB l->(∀j,keep.testBit (i+j)=true->aK[j]? =env[j]?)->cQ ι S (oI sl keep i te) aK
 |_,[],[],_,_,_,_,h2,_,_,_,_=>by rw[aP h2];exact bL
 |i,v::te,v'::bZ,env,aK,l,h1,h2,hn,hp,hc,hk=>by
  obtain⟨d,m,rfl,a1,a2⟩:=ak h1;obtain⟨d',m',rfl,b1,b2⟩:=ak h2;have CA:bZ.length=te.length:=by simpa using hn
  have rq:∀j,keep.testBit (i+1+j)=true->m'[j]? =m[j]? :=λj hj=>by have:=hk (j+1) (by rw[<-fo,Nat.add_right_comm];exact hj);simpa using this
  simp only[xe]at hp;simp only[oI];split at hp
  .rename_i p Tq;split at hp;.rename_i x y e1 e2;cases hp;obtain⟨k1,k2⟩:=j7 hc;exact aQ (aeD (Iu e1 k1) b1) (yh a2 b2 CA e2 k2 rq)
   cases hp
  refine aQ ?_ (yh a2 b2 CA hp hc rq);split;.rename_i hb;have:=hk 0 hb;simp only[cg,aB]at this;rw[this];exact a1
  simp only[RT]
 |_,[],_::_,_,_,_,_,_,hn,_,_,_=>by simp at hn
 |_,_::_,[],_,_,_,_,_,hn,_,_,_=>by simp at hn
theorem Ee:∀{l:List Oper}{env aK:List DV},ry P ty aI call yf ops S l env=some aK->aK.length=env.length
 |[],env,aK,h=>by cases h;rfl
 |o::l,env,aK,h=>by
  have hp:∀(dst:Option Tmp)(v:DV),(kC env dst v).length=env.length:=λdst v=>by cases dst<;>simp[kC]
  simp only[ry]at h;split at h
  .split at h;.rw[Ee h,hp]
   cases h
  rw[Ee h,hp]
theorem V5{id:Nat}{b:Code}{Q:DX->List TV->List TB->Prop}{la:LA}{keep:Nat}(hd:mm ops (Region.before ops)=true)(hl:wZ P ops=false)(hk:VB keep ops=true)
  (h1:WQ P ty aI call yf ops tS 0 te λbZ=>la.some λbd=>ask (xe bd.sl 0 bZ) (AG bd.en True))
  (h2:∀s:la.St,dB (la.bd s).en->WT P ty aI call yf B LL fn jj b (oI (la.bd s).sl keep 0 te) tS Q):WT P ty aI call yf B LL fn jj (.seq (.region id ops true) b) te tS Q:=by
 intro ι env S hR hB;obtain⟨aK,bZ,k1,k2,k3⟩:=h1 ι env S hR;rw[nL]at k1;obtain⟨s,hs⟩:=y8 k3;obtain⟨l,e1,e2,e3⟩:=jN hs;obtain⟨e3,-⟩:=jf e3;have My:bT ι (oI (la.bd s).sl keep 0 te) tS aK S:=by
  refine⟨yh hR.env k2.env ?_ e1 e2 λj hj=>?_,k2.cells,k2.own,k2.qv,k2.inj,k2.mp⟩;.rw[<-iq k2.env,<-iq hR.env,Ee k1]
  refine Bc k1 λo ho e=>?_;have:=aT.1 hk o ho;rw[jr]at hj;rw[e]at this;simp only[hj]at this;cases this
 obtain⟨e,rU,xE,ι'',ur,uu,m1,m2,m3,m4,m5,m6⟩:=h2 s e3 ι aK S My hB;refine⟨e,rU,xE,ι'',ur,uu,?_,m2,m3,m4,m5,m6⟩;have:cW P ty aI call yf LL fn jj (.region id ops true) env S=some (.normal,aK,S):=by simp only[wZ,Bool.or_eq_false_iff]at hl;simp only[cW,qJ,if_true,hd,hl.2,gr,aG,if_false,k1,av]
 rw[cW,this];exact m1
theorem wq.mono {g:FuncId}{A:List TV}{K K':TV->List TB->Prop}(h:wq call g A tS K)(hk:∀v t,K v t->K' v t):wq call g A tS K':=λι bR S hR=>by obtain⟨d,S',ι',v,bN,h1,h2,h3,h4,h5,h6⟩:=h ι bR S hR;exact⟨d,S',ι',v,bN,h1,h2,h3,h4,h5,hk _ _ h6⟩
theorem adT{n:Nat}{c:Code}{Q:DX->List TV->List TB->Prop}(h:WT P ty aI call yf B LL fn jj c te tS λe te tS=>Q e te (Q4 n tS)):WT P ty aI call yf B LL fn jj c te tS Q:=λι env S hR hB=>by
 obtain⟨e,aK,S',ι',bZ,bN,h1,h2,h3,h4,h5,h6⟩:=h ι env S hR hB;refine⟨e,aK,S',ι',bZ,Q4 n bN,h1,?_,λk hk=>?_,h4,h5,h6⟩;.have:=PG h2 (n-bN.length) 0;simpa [Q4]using this
 obtain⟨l,hl⟩:=h3 k hk;exact⟨l,by unfold Q4;rw[er (az.1 hl).1];exact hl⟩
theorem mU(hT:qF T aI call)(hI:xo P ty call yf T inl)(hm:∀me,inl.me=some me->jj=false/\fn=me/\CF me=some T.yp){J:List (Nat×LA)}:∀(c:Code),(inl.me.isSome=true->xk T.yp c)->∀(i lv:Nat)(te:List TV)(tS:List TB)(Q:DX->List TV->List TB->Prop),yu P ty tt T inl B J c i lv te tS Q->WT P ty aI call yf B LL fn jj c te tS Q
 |.skip,_,_,_,_,_,_,h=>ZB h
 |.label _,_,_,_,_,_,_,h=>V7 h
 |.exit _,_,_,_,_,_,_,h=>ZE h
 |.ret,_,_,_,_,_,_,h=>adS h
 |.scope c,hr,i,lv,te,tS,Q,h=>V2 (mU hT hI hm c hr i lv te tS Q h)
 |.block id c,hr,i,lv,te,tS,Q,h=>by
  refine V9 ((mU hT hI hm c hr i lv te tS _ h).mono λe te tS hq=>?_);cases e with
  |normal=>exact hq
  |ret=>exact hq
  |exit jd=>dsimp only at hq⊢;split<;>simp_all
 |.cond x a b,hr,i,lv,te,tS,Q,h=>by
  simp only[yu]at h;split at h
  .rename_i t hx;obtain⟨h1,h2⟩:=wu h;refine ZF hx (λe=>?_) (λe=>?_);.subst e;exact mU hT hI hm a (λe=>(hr e).1) i lv te tS Q (K0 hx (h1 rfl))
   subst e;exact mU hT hI hm b (λe=>(hr e).2) (i+cnt a) lv te tS Q (K0 hx (h2 rfl))
  exact h.elim
 |.seq a b,hr,i,lv,te,tS,Q,h=>by
  simp only[yu]at h;split at h
  .rename_i la _;split at h;.rename_i ops hq;obtain⟨h1,h2⟩:=h;obtain⟨hl,id,rfl⟩:=RX hq;obtain⟨h0,h1⟩:=iM h1;simp only[aA]at h0;refine V5 (la:=la) h0.1 hl h0.2 ?_ λs hg=>mU hT hI hm b (λe=>(hr e).2) _ lv _ _ Q (cz _ (nv (OZ h2 s) hg));exact DR (B:=B) (md:=1) (n0:=0) (nC:=tS) (Q:=λbZ _=>la.some λbd=>ask (xe bd.sl 0 bZ) (AG bd.en True)) hT hI (by omega) (λbZ bN fs hk _=>Vb (aj _) hk) ops.toList 0 te _ [] rfl h1 rfl
   obtain⟨h1,h2⟩:=h;refine ZD (λs:la.St=>(oI (la.bd s).sl ((lv|||nV b)&&&(2^400-1-(defs a))) 0 te,yP (la.bd s) tS)) (λs=>dB (la.bd s).en) ((mU hT hI hm a (λe=>(hr e).1) (i+1) (lv|||nV b) te tS _ h1).mono λe bZ bN hq=>?_) λs hg=>mU hT hI hm b (λe=>(hr e).2) (i+1+cnt a) lv _ _ Q (cO _ (cz _ (nv (OZ h2 s) hg)));cases e with
   |normal=>obtain⟨s,hs⟩:=y8 hq;obtain⟨k1,k2,-⟩:=QG hs;exact⟨s,k1,k2⟩
   |exit id=>exact hq
   |ret=>exact hq
  refine Va ((mU hT hI hm a (λe=>(hr e).1) (i+1) (lv|||nV b) te tS _ h).mono λe te tS hq=>?_);cases e with
  |normal=>exact mU hT hI hm b (λe=>(hr e).2) _ _ te tS Q hq
  |exit id=>exact hq
  |ret=>exact hq
 |.loop c,hr,i,lv,te,tS,Q,h=>by
  simp only[yu]at h;split at h
  .rename_i la _;have hF:∀te tS (K':List TV->List TB->Prop),yu P ty tt T inl B J c (i+1) (lv|||nV c) te tS (λe te tS=>match e with
    |.normal=>K' te tS
    |.exit id=>Q (.exit id) te tS
    |.ret=>Q .ret te tS)->WT P ty aI call yf B LL fn jj c te tS λe te tS=>match e with|.normal=>K' te tS|e=>Q e te tS:=λte tS K' hf=>(mU hT hI hm c hr _ _ te tS _ hf).mono λe te tS hq=>by
     cases e with
     |normal=>exact hq
     |exit id=>exact hq
     |ret=>exact hq
   refine Ri (n:=1000000+min la.abK 1000) (by unfold LL;omega) (Up hF (λte tS h=>?_) _ te tS h);generalize la.inner.at te tS=la at h;split at h;.exact ZK (by omega) (Up (N:=0) hF (λ_ _ h=>h.elim) _ te tS h)
   obtain⟨h1,h2⟩:=h;obtain⟨s0,h1⟩:=y8 h1;obtain⟨k1,k2,k3⟩:=XU h1;refine ZL (λs:la.St=>(oI (la.bd s).sl ((lv|||nV c)&&&(2^400-1-(defs c))) 0 te,yP (la.bd s) tS)) (λs=>dB (la.bd s).en) (λs=>(la.bd s).m) s0 k1 k2 k3 λs hg=>(mU hT hI hm c hr (i+1) (lv|||nV c) _ _ _ (cO _ (cz _ (nv (OZ h2 s) hg)))).mono λe bZ bN hq=>?_;cases e with
   |normal=>obtain⟨s',hs⟩:=y8 hq;obtain⟨k1,k2,k3⟩:=QG hs;exact⟨s',k1,k2,k3⟩
   |exit id=>exact hq
   |ret=>exact hq
  exact h.elim
 |.region id ops draw,hr,i,lv,te,tS,Q,h=>Rj hT hI h
 |.rangeFunc f ps oJ body,hr,i,lv,te,tS,Q,h=>by
  simp only[yu]at h;split at h
  .rename_i me g fs cs tX hf;obtain⟨rfl,rfl,hy⟩:=hm me tX;have Ar:(ps.toList,oJ,body)=T.yp:=hr (by rw[tX];rfl);split at h
   .rename_i vB j hx;refine V3 (K:=λbN=>cZ (gf tS te) λte=>bW (bN.set tS.length .none) λtS=>Q .normal te tS) hf (Ar▸hy) ((hI.c g vB j _ _ _ hx h).mono λv bN hk=>?_) λbN hk=>cO _ (K:=λtS=>Q .normal _ tS) (cz _ (K:=λte=>bW (bN.set _ .none) λtS=>Q .normal te tS) hk);obtain⟨h0,hk⟩:=iM hk;simp only[aA,o7]at h0;refine⟨⟨?_,h0.2⟩,hk⟩;have:=h0.1;unfold Vx at this;split at this;.assumption
    cases this
   exact h.elim
  exact h.elim
 |.goto _,_,_,_,_,_,_,h=>(by simp only[yu]at h)
 |.refuse _,_,_,_,_,_,_,h=>(by simp only[yu]at h)
theorem yW{K K':TV->List TV->List Prop->Prop}(hK:∀v cs f,K v cs f->K' v cs f):∀{s:sM},s.some K->s.some K'
 |.ex _ k,⟨x,h⟩=>⟨x,yW (s:=k x) hK h⟩
 |.res _ _ _,h=>hK _ _ _ h
theorem O8{F:List TV->List TB->Prop}{E:DX->List TV->List TB->Prop}(h1:∀te tS,F te tS->E .normal te tS/\E .ret te tS):∀{e:DX}{te:List TV}{tS:List TB},M0 F e te tS->E e te tS
 |.normal,_,_,h=>(h1 _ _ h).1
 |.ret,_,_,h=>(h1 _ _ h).2
 |.exit _,_,_,h=>h.elim
theorem agL{rs:List ResultVar}{gW:List (Option TT)}{s:sM}(h:adk ty rs gW s te tS):adC ty rs gW (λv=>s.uT v) .normal te tS/\adC ty rs gW (λv=>s.uT v) .ret te tS:=by
 unfold adk at h;split at h
 .rename_i vs hv;have h:=cz (yJ tS vs) (K:=λvs=>aO (vs.all eG&&(refs (jB (bG gW vs))).isEmpty) (s.some λv _ facts=>ask (Ys (jB (bG gW vs)) v) (dB facts)) False) h;obtain⟨h0,h⟩:=iM h;simp only[aA,zi]at h0;have:∃vs,xJ ty te tS rs=some vs/\(yJ tS vs).all eG=true/\refs (jB (bG gW (yJ tS vs)))=[]/\s.uT (jB (bG gW (yJ tS vs))):=by refine⟨vs,hv,h0.1,h0.2,yW (λv cs f hk=>?_) h⟩;obtain⟨l,h1,h2,h3⟩:=jN hk;exact⟨AX h1 h2,h3⟩
  exact⟨⟨trivial,this⟩,trivial,this⟩
 exact h.elim
theorem agM{rs:List ResultVar}{gW om:List (Option TT)}{s:sM}(h:adl ty rs gW om s te tS):Uk ty rs gW om (λv cs=>s.holds v cs) .normal te tS/\Uk ty rs gW om (λv cs=>s.holds v cs) .ret te tS:=by
 unfold adl at h;split at h
 .rename_i vs ts l hv;obtain⟨h0,h⟩:=iM h;simp only[aA,zi]at h0;have:s.holds (jB (bG gW vs)) (bG om ts):=by refine yW (λv cs f hk=>?_) h;obtain⟨l,h1,h2,hk⟩:=jN hk;obtain⟨l',h3,h4,h5⟩:=jN hk;exact⟨AX h1 h2,sY h3 h4,h5⟩
  exact⟨⟨trivial,vs,ts,hv,h0.1.1,h0.1.2,rfl,h0.2.1,h0.2.2,this⟩,trivial,vs,ts,hv,h0.1.1,h0.1.2,rfl,h0.2.1,h0.2.2,this⟩
 exact h.elim
theorem agK{rs:List ResultVar}{gW:List (Option TT)}{n:Nat}{s:sM}(h:adj ty rs gW n s te tS):adB ty rs gW n (λv t=>s.holds v (t.map .agg)) .normal te tS/\adB ty rs gW n (λv t=>s.holds v (t.map .agg)) .ret te tS:=by
 unfold adj at h;split at h
 .rename_i vs t hv ht;obtain⟨h0,h⟩:=iM h;simp only[aA]at h0;have:s.holds (jB (bG gW vs)) (t.map .agg):=by refine yW (λv cs f hk=>?_) h;obtain⟨l,h1,h2,hk⟩:=jN hk;obtain⟨l',h3,h4,h5⟩:=jN hk;exact⟨AX h1 h2,sY h3 h4,h5⟩
  exact⟨⟨trivial,vs,t,hv,h0.1,h0.2,ht,this⟩,trivial,vs,t,hv,h0.1,h0.2,ht,this⟩
 exact h.elim
theorem Xt{om:List (Option TT)}{ts:List TV}:UD om ts=bG om ts:=by
 unfold UD;split;.split<;>rfl
 rfl
theorem agJ{rs:List ResultVar}{om:List (Option TT)}{s:sM}(h:adi ty rs om s te tS):adA ty rs om (λcs=>s.AR cs) .normal te tS/\adA ty rs om (λcs=>s.AR cs) .ret te tS:=by
 unfold adi at h;split at h
 .rename_i ts l hv;obtain⟨h0,h⟩:=iM h;simp only[aA,zi]at h0;have:s.AR (bG om ts):=by refine yW (λv cs f hk=>?_) h;obtain⟨l',h3,h4,h5⟩:=jN hk;exact⟨Xt▸sY h3 h4,h5⟩
  exact⟨⟨trivial,ts,hv,rfl,h0.1,h0.2,this⟩,trivial,ts,hv,rfl,h0.1,h0.2,this⟩
 exact h.elim
theorem aey:∀{vs:List TV}{ds:List DV},cQ ι S vs ds->RT ι S (jB vs) (oneOf ds)
 |[],ds,h=>by rw[aP h];simp only[jB,oneOf,RT];exact bL
 |[v],ds,h=>by obtain⟨d,m',rfl,h1,h2⟩:=ak h;rw[aP h2];exact h1
 |v::u::l,ds,h=>by obtain⟨d,m',rfl,h1,h2⟩:=ak h;obtain⟨d',m'',rfl,h3,h4⟩:=ak h2;simp only[jB,oneOf,RT];exact aQ h1 (aQ h3 h4)
def XOK(P:Program)(T:fQ):Prop:=∀g fn j,T.X g=some (fn,j)->P.funcs[g]? =some fn/\fn.body.isSome=true
def Lev(P:Program)(ty:fP)(T:fQ):Nat->bS->bt->ew->Prop
 |0,aI,call,_=>qF T aI call
 |d+1,aI,call,yf=>qF T aI call/\∃TW KB yf',((∀g fn,P.funcs[g]? =some fn->∀a S,call g a S=uH P ty TW KB yf' LL g fn a S)/\yf=uQ P ty TW KB yf' LL)/\Lev P ty T d TW KB yf'
theorem vP{d:Nat}(h:Lev P ty T d aI call yf):qF T aI call:=by
 cases d with
 |zero=>exact h
 |succ d=>exact h.1
theorem adR{acS:bS}{Pb:bt}{yfI:ew}(hT:qF T acS Pb)(hI:xo P ty Pb yfI T inl)(hm:inl.me=none)(hy:∀me,T.me=some me->CF me=some T.yp){k:Nat}{sP:FuncId}{Ao xs:List TV}{K:List TB->Prop}(h:acA P ty tt T inl k sP Ao xs tS K):∃ps oJ body,CF sP=some (ps,oJ,body)/\xs.length=ps.length/\(eH (oE Ao (ps.zip xs))++oF tS).contains k=false/\WT P ty acS Pb yfI (oA k tS) LL sP true oJ (oE Ao (ps.zip xs)) (tS.set k .none) λe mM iT=>e=.normal/\WT P ty acS Pb yfI (oA k tS) LL sP true body mM iT λe _ jV=>e=.normal/\jV[k]? =some .none/\K jV:=by
 have HQ:∀me,inl.me=some me->true=false/\sP=me/\CF me=some T.yp:=λ_ e=>by rw[hm]at e;cases e
 have hn:∀c,inl.me.isSome=true->xk T.yp c:=λ_ e=>by rw[hm]at e;cases e
 unfold acA at h;split at h
 .rename_i me ps oJ body h1 h2;obtain⟨h0,hv⟩:=iM h;clear h;simp only[aA,dU,o7]at h0;obtain⟨⟨rfl,h3⟩,h4⟩:=h0;refine⟨ps,oJ,body,h2▸hy _ h1,h3,h4,?_⟩;refine(mU hT hI HQ oJ (hn _) _ _ _ _ _ (cO _ (cz _ hv))).mono λe mM iT hk=>?_;cases e with
  |normal=>
   refine⟨rfl,adT (n:=tS.length) ((mU hT hI HQ body (hn _) _ _ _ _ _ hk).mono λe Ti jV hk=>?_)⟩;cases e with
   |normal=>
    replace hk:ado k (Q4 tS.length jV) K:=hk
    unfold ado at hk;split at hk;.exact⟨rfl,‹_›,hk⟩
    exact hk.elim
   |exit _=>exact hk.elim
   |ret=>exact hk.elim
  |exit _=>exact hk.elim
  |ret=>exact hk.elim
 exact h.elim
theorem Iy(hX:XOK P T)(hy:∀me,T.me=some me->CF me=some T.yp):∀(d:Nat){aI:bS}{call:bt}{yf:ew},Lev P ty T d aI call yf->xo P ty call yf T (Q7 P ty tt T d)
 |0,_,_,_,_=>⟨λ_ _ _ _ _ _ _ h=>h.elim,λ_ _ _ _ _ _ h=>h.elim⟩
 |d+1,aI,call,yf,hL=>by
  obtain⟨-,TW,KB,yf',⟨hb,hyf⟩,TF⟩:=hL;have hm0:(Q7 P ty tt T d).me=none:=by cases d<;>rfl
  refine⟨?_,λk sP Ao xs tS K h=>by obtain⟨ps,oJ,body,h1,h2,h3,h4⟩:=adR (vP TF) (Iy hX hy d TF) hm0 hy h;exact⟨ps,oJ,body,TW,KB,yf',h1,hyf,h2,h3,h4⟩⟩;intro g fn j A tS K hx hi ι bR S hR;obtain⟨hf,hs⟩:=hX g fn j hx;have hw:=mU (fn:=g) (jj:=false) (yf:=yf') (vP TF) (Iy hX hy d TF) (λ_ e=>by rw[hm0]at e;cases e) _ (λe=>by rw[hm0]at e;cases e) _ _ _ _ _ (cz _ hi);have hlen:=iq hR.env;have mS:bT ι (MQ fn.ntmps A) tS (bR++List.replicate (fn.ntmps-bR.length) bE) S:=
   ⟨eN hR.env (by rw[hlen];exact vF _ _),hR.cells,hR.own,hR.qv,hR.inj,hR.mp⟩
  obtain⟨e,aK,S',ι',bZ,bN,h1,h2,h3,h4,h5,h6⟩:=hw ι _ S mS VD;have key:adh ty fn.results.toList K bZ bN->(e=.normal\/e=.ret)->∃d S' ι' v bN,call g bR S=some (d,S')/\bT ι' [v] bN [d] S'/\oK (dI 0 tS) bN/\Fr (dI 0 tS) ι S ι' S'/\Nn S.length S S'/\K v bN:=by
   intro hk he;unfold adh at hk;split at hk
   .rename_i vs hv;obtain⟨ds,k1,k2⟩:=vI h2 hv;refine⟨oneOf ds,S',ι',jB vs,bN,?_,⟨kT (aey k2),h2.cells,h2.own,h2.qv,h2.inj,h2.mp⟩,h3,h4,h5,hk⟩;rw[hb g fn hf];unfold mj at h1;simp only[uH];cases hc:fn.body with
    |none=>rw[hc]at hs;cases hs
    |some c=>rw[hc]at h1;simp only[mC]at h1;simp only[h1];rcases he with rfl|rfl<;>simp only[k1,av]
   exact hk.elim
  cases e with
  |normal=>exact key h6 (.inl rfl)
  |ret=>exact key h6 (.inr rfl)
  |exit id=>exact h6.elim
def vcI(T:fQ)(d:Nat)(f:Func)(gW:List (Option TT))(J:List (Nat×LA))(a:List TV)(s:sM):Prop:=cZ (MQ f.ntmps a) λte=>yu Tp Ty Yf T (Q6 Tp Ty Yf T d) [] J (mj f) 0 (vJ f.results.toList) te [] (M0 (adk Ty f.results.toList gW s))
def afc(T:fQ)(d:Nat)(f:Func)(gW om:List (Option TT))(J:List (Nat×LA))(a cs:List TV)(s:sM):Prop:=cZ (MQ f.ntmps a) λte=>yu Tp Ty Yf T (Q6 Tp Ty Yf T d) [0] J (mj f) 0 (vJ f.results.toList) te [.cells cs] (M0 (adl Ty f.results.toList gW om s))
def vcN(T:fQ)(d:Nat)(f:Func)(om:List (Option TT))(J:List (Nat×LA))(a:List TV)(s:sM):Prop:=cZ (MQ f.ntmps a) λte=>yu Tp Ty Yf T (Q6 Tp Ty Yf T d) [] J (mj f) 0 (vJ f.results.toList) te [] (M0 (adi Ty f.results.toList om s))
def vcO(T:fQ)(d:Nat)(f:Func)(gW:List (Option TT))(J:List (Nat×LA))(a:List TV)(k:Nat)(e:TypeId)(s:sM):Prop:=cZ (MQ f.ntmps a) λte=>yu Tp Ty Yf T (Q6 Tp Ty Yf T d) [] J (mj f) 0 (vJ f.results.toList) te [] (M0 (ail Ty f.results.toList gW k e s))
def vcM(T:fQ)(d:Nat)(f:Func)(gW:List (Option TT))(J:List (Nat×LA))(a:List TV)(t:List (List TV))(s:sM):Prop:=cZ (MQ f.ntmps a) λte=>yu Tp Ty Yf T (Q6 Tp Ty Yf T d) (List.range t.length) J (mj f) 0 (vJ f.results.toList) te (t.map .cells) (M0 (adj Ty f.results.toList gW t.length s))
def kK(bM:bS)(k:Nat)(T:fQ):Prop:=XOK Tp T/\∀n,qF T (J6 bM (n+k)) (AZ bM (n+k))
def fQ.eV (T:fQ)(f:FuncId)(S:List TV->Sp):fQ:={T with I:=λg a=>if g=f then S a else T.I g a}
def fQ.oz (T:fQ)(f:FuncId)(S:List TV->List TV->Sp):fQ:={T with C:=λg a c=>if g=f then S a c else T.C g a c}
def fQ.M5 (T:fQ)(f:FuncId)(S:List TV->Sp):fQ:={T with N:=λg a=>if g=f then S a else T.N g a}
def fQ.ai1 (T:fQ)(f:FuncId)(k:Nat)(e:TypeId)(S:List TV->Sp):fQ:={T with O:=λg a j=>if g=f/\j=k then(S a).map λx=>(x.1,e,x.2)else T.O g a j}
def fQ.DC (T:fQ)(f:FuncId)(S:List TV->List (List TV)->Sp):fQ:={T with M:=λg a t=>if g=f then S a t else T.M g a t}
def fQ.Dz (T:fQ)(f:FuncId)(fn:Func)(j:List (Nat×LA)):fQ:={T with X:=λg=>if g=f then some (fn,j)else T.X g}
variable {bM:bS} {k:Nat}
theorem iz(h:kK bM k T):kK bM (k+1) T:=⟨h.1,λn=>by have:=h.2 (n+1);rwa [Nat.add_right_comm,fo]at this⟩
theorem oS(h:kK bM k T):∀(d n:Nat),Lev Tp Ty T d (J6 bM (n+(k+d))) (AZ bM (n+(k+d))) (yfT bM (n+(k+d)))
 |0,n=>h.2 n
 |d+1,n=>by
  refine⟨?_,J6 bM (n+(k+d)),AZ bM (n+(k+d)),yfT bM (n+(k+d)),⟨λg fn hf a S=>?_,?_⟩,oS h d n⟩;.have:=h.2 (n+(d+1));rwa [fo,mz (d+1) k]at this
  .rw[show n+(k+(d+1))=(n+(k+d))+1 by omega];simp only[uG,ej,hf];rfl
  rw[show n+(k+(d+1))=(n+(k+d))+1 by omega];rfl
def fQ.HZ (T:fQ)(f:FuncId)(fn:Func):Prop:=
 match T.me with
 |none=>True
 |some g=>g=f/\gN (mj fn)=some T.yp/\xk T.yp (mj fn)
theorem oG{f:FuncId}{fn:Func}(hf:Tp.funcs[f]? =some fn)(hb:fn.body.isSome=true)(h:T.HZ f fn):∀me,T.me=some me->f=me/\CF me=some T.yp/\xk T.yp (mj fn):=λme e=>by
 unfold fQ.HZ at h;rw[e]at h;obtain⟨rfl,h1,h2⟩:=h;refine⟨rfl,?_,h2⟩;have Yo:Try.prog.funcs[me]? =some fn:=hf;unfold mj at h1;unfold CF;rw[Yo];cases hc:fn.body with
 |none=>rw[hc]at hb;cases hb
 |some c=>rw[hc]at h1;simpa [hc]using h1
theorem C8(hX:XOK P T)(hy:∀me,T.me=some me->CF me=some T.yp){d:Nat}(h:Lev P ty T d aI call yf):xo P ty call yf T (Q6 P ty tt T d):=⟨(Iy hX hy d h).c,(Iy hX hy d h).y⟩
def fQ.own (T:fQ)(f:FuncId)(fn:Func)(Y:List (Nat×LA):=[]):fQ:={T with me:=some f,yp:=(gN (mj fn)).getD ([],.skip,.skip),Y:=Y}
theorem CZ{f:FuncId}{fn:Func}{Y:List (Nat×LA)}(hT:kK bM k T):kK bM k (T.own f fn Y):=⟨hT.1,λn=>⟨(hT.2 n).I,(hT.2 n).C,(hT.2 n).N,(hT.2 n).O,(hT.2 n).M⟩⟩
theorem Uq{f:FuncId}{S:List TV->Sp}(hT:kK bM k T)(h:∀n a p s,S a=some (p,s)->dB p->uM (J6 bM (n+k)) f a λv=>s.uT v):kK bM k (T.eV f S):=⟨hT.1,λn=>⟨λg a p s hs hp=>by
 simp only[fQ.eV]at hs;split at hs;.rename_i e;subst e;exact h n a p s hs hp
 exact(hT.2 n).I g a p s hs hp,(hT.2 n).C,(hT.2 n).N,(hT.2 n).O,(hT.2 n).M⟩⟩
theorem afY{f:FuncId}{S:List TV->List TV->Sp}(hT:kK bM k T)(h:∀n a cs p s,S a cs=some (p,s)->dB p->B3 (AZ bM (n+k)) f a cs λv cs=>s.holds v cs):kK bM k (T.oz f S):=⟨hT.1,λn=>⟨(hT.2 n).I,λg a cs p s hs hp=>by
 simp only[fQ.oz]at hs;split at hs;.rename_i e;subst e;exact h n a cs p s hs hp
 exact(hT.2 n).C g a cs p s hs hp,(hT.2 n).N,(hT.2 n).O,(hT.2 n).M⟩⟩
theorem afX{f:FuncId}{S:List TV->Sp}(hT:kK bM k T)(h:∀n a p s,S a=some (p,s)->dB p->DM (J6 bM (n+k)) (AZ bM (n+k)) f a λcs=>s.AR cs):kK bM k (T.M5 f S):=⟨hT.1,λn=>⟨(hT.2 n).I,(hT.2 n).C,λg a p s hs hp=>by
 simp only[fQ.M5]at hs;split at hs;.rename_i e;subst e;exact h n a p s hs hp
 exact(hT.2 n).N g a p s hs hp,(hT.2 n).O,(hT.2 n).M⟩⟩
theorem OV{f:FuncId}{S:List TV->List (List TV)->Sp}(hT:kK bM k T)(h:∀n a t p s,S a t=some (p,s)->dB p->B1 (AZ bM (n+k)) f a t λv t=>s.holds v (t.map .agg)):kK bM k (T.DC f S):=⟨hT.1,λn=>⟨(hT.2 n).I,(hT.2 n).C,(hT.2 n).N,(hT.2 n).O,λg a t p s hs hp=>by
 simp only[fQ.DC]at hs;split at hs;.rename_i e;subst e;exact h n a t p s hs hp
 exact(hT.2 n).M g a t p s hs hp⟩⟩
theorem Ke{f:FuncId}{fn:Func}{j:List (Nat×LA)}(hT:kK bM k T)(hf:Tp.funcs[f]? =some fn)(hb:fn.body.isSome=true):kK bM k (T.Dz f fn j):=⟨λg vB j' hx=>by
 simp only[fQ.Dz]at hx;split at hx;.rename_i e;subst e;cases hx;exact⟨hf,hb⟩
 exact hT.1 g vB j' hx,λn=>⟨(hT.2 n).I,(hT.2 n).C,(hT.2 n).N,(hT.2 n).O,(hT.2 n).M⟩⟩
def T0:fQ where
 I:=λg a=>match g,a with
  |13,[]=>some ([],.res (nW true) [] [])
  |_,_=>none
 C:=λ_ _ _=>none
 N:=λ_ _=>none
theorem gA(tk:AH bM):kK bM 0 T0:=by
 refine⟨λ_ _ _ h=>(by cases h),λn=>⟨λg a p s hs _=>?_,λ_ _ _ _ _ hs=>(by cases hs),λ_ _ _ _ hs=>(by cases hs),λ_ _ _ _ _ _ hs=>(by cases hs),λ_ _ _ _ _ hs=>(by cases hs)⟩⟩;simp only[T0]at hs;split at hs;.cases hs;intro bR hd;rw[aP hd];refine⟨.val (.bool true),nW true,?_,rfl,by simp only[RT],rfl,rfl,trivial⟩;simp only[CG,mc,tk.fit,DV.pure,DV.ko,if_true]
 cases hs
end Go.Tv
namespace Go.Tv
open Go Go.Di Go.Proofs
abbrev Dn:=Option (List Prop×sM×List (Nat×LA))
def dS(d:Dn):Sp:=d.map λx=>(x.1,x.2.1)
def dJ(d:Dn):List (Nat×LA):=match d with
 |some x=>x.2.2
 |none=>[]
def VI(T:fQ)(f:Func)(gW:List (Option TT))(D:List TV->Dn)(d:Nat:=0):Prop:=∀a p s j,D a=some (p,s,j)->dB p->vcI T d f gW j a s
def VC(T:fQ)(f:Func)(gW om:List (Option TT))(D:List TV->List TV->Dn)(d:Nat:=0):Prop:=∀a cs p s j,D a cs=some (p,s,j)->dB p->afc T d f gW om j a cs s
def VN(T:fQ)(f:Func)(om:List (Option TT))(D:List TV->Dn)(d:Nat:=0):Prop:=∀a p s j,D a=some (p,s,j)->dB p->vcN T d f om j a s
def VO(T:fQ)(f:Func)(gW:List (Option TT))(k:Nat)(e:TypeId)(D:List TV->Dn)(d:Nat:=0):Prop:=∀a p s j,D a=some (p,s,j)->dB p->vcO T d f gW j a k e s
def VM(T:fQ)(f:Func)(gW:List (Option TT))(D:List TV->List (List TV)->Dn)(d:Nat:=0):Prop:=∀a t p s j,D a t=some (p,s,j)->dB p->vcM T d f gW j a t s
def dV(d:Dn)(K:sM->List (Nat×LA)->Prop):Prop:=
 match d with
 |some (p,s,j)=>dB p->K s j
 |none=>True
structure Hd (p:Prop):Prop where
 h:p
theorem nS{A B:Prop}(h:A=B)(a:A):Hd B:=⟨h▸a⟩
theorem gz{T:fQ}{f:Func}{gW:List (Option TT)}{D:List TV->Dn}{d:Nat}(h:∀a,dV (D a) λs j=>Hd (vcI T d f gW j a s)):VI T f gW D d:=λa p s j hd hp=>by have:=h a;rw[hd]at this;exact(this hp).h
theorem abr{T:fQ}{f:Func}{om:List (Option TT)}{D:List TV->Dn}{d:Nat}(h:∀a,dV (D a) λs j=>Hd (vcN T d f om j a s)):VN T f om D d:=λa p s j hd hp=>by have:=h a;rw[hd]at this;exact(this hp).h
theorem Uo{T:fQ}{f:Func}{gW:List (Option TT)}{D:List TV->List (List TV)->Dn}{d:Nat}(h:∀a t,dV (D a t) λs j=>Hd (vcM T d f gW j a t s)):VM T f gW D d:=λa t p s j hd hp=>by have:=h a t;rw[hd]at this;exact(this hp).h
theorem mV{T:fQ}{f:Func}{gW om:List (Option TT)}{D:List TV->List TV->Dn}{d:Nat}(h:∀a cs,dV (D a cs) λs j=>Hd (afc T d f gW om j a cs s)):VC T f gW om D d:=λa cs p s j hd hp=>by have:=h a cs;rw[hd]at this;exact(this hp).h
theorem d_some{d:Dn}{p:List Prop}{s:sM}(h:dS d=some (p,s)):d=some (p,s,dJ d):=by
 cases d with
 |none=>cases h
 |some x=>cases h;rfl
variable {bM:bS} {k:Nat} {T:fQ}
theorem wJ{fn:Func}(hb:fn.body.isSome=true):fn.body=some (mj fn):=by unfold mj;revert hb;cases fn.body<;>simp
theorem mkJ(hT:kK bM k T){f:FuncId}{fn:Func}{gW:List (Option TT)}{D:List TV->Dn}{d:Nat}(hn:∀a p s,dS (D a)=some (p,s)->dB p->∀da,cQ gd [] a da->bM f da=none)(hf:Tp.funcs[f]? =some fn)(hb:fn.body.isSome=true)(h:VI T fn gW D d){T':fQ}(YV:kK bM (k+d+1) T')(tX:T.HZ f fn:=by exact trivial):kK bM (k+d+1) (T'.eV f λa=>dS (D a)):=
 Uq YV λn a p s hs hp=>XL (n:=n+(k+d)) hf (wJ hb) (hn a p s hs hp) ((mU (vP (oS hT d n)) (C8 hT.1 (λme e=>(oG hf hb tX me e).2.1) (oS hT d n)) (λme e=>⟨rfl,(oG hf hb tX me e).1,(oG hf hb tX me e).2.1⟩) _ (λe=>by obtain⟨me,e⟩:=wj.1 e;exact(oG hf hb tX me e).2.2) _ _ _ _ _ (cz _ (h a p s _ (d_some hs) hp))).mono λ_ _ _ hq=>O8 (λ_ _=>agL) hq)
theorem ug(tk:AH bM)(hT:kK bM k T){f:FuncId}{fn:Func}{gW:List (Option TT)}{D:List TV->Dn}{d:Nat}(hne:f≠33/\f≠83/\f≠13/\f≠67/\f≠0)(hf:Tp.funcs[f]? =some fn)(hb:fn.body.isSome=true)(h:VI T fn gW D d){T':fQ}(YV:kK bM (k+d+1) T')(tX:T.HZ f fn:=by exact trivial):kK bM (k+d+1) (T'.eV f λa=>dS (D a)):=
 mkJ hT (λ_ _ _ _ _ _ _=>tk.other _ _ hne.1 hne.2.1 hne.2.2.1 hne.2.2.2.1 hne.2.2.2.2) hf hb h YV tX
theorem FC(hT:kK bM k T){f:FuncId}{fn:Func}{gW om:List (Option TT)}{D:List TV->List TV->Dn}{d:Nat}(hf:Tp.funcs[f]? =some fn)(hb:fn.body.isSome=true)(h:VC T fn gW om D d){T':fQ}(YV:kK bM (k+d+1) T')(tX:T.HZ f fn:=by exact trivial):kK bM (k+d+1) (T'.oz f λa c=>dS (D a c)):=
 afY YV λn a cs p s hs hp=>X1 (n:=n+(k+d)) hf (wJ hb) ((mU (vP (oS hT d n)) (C8 hT.1 (λme e=>(oG hf hb tX me e).2.1) (oS hT d n)) (λme e=>⟨rfl,(oG hf hb tX me e).1,(oG hf hb tX me e).2.1⟩) _ (λe=>by obtain⟨me,e⟩:=wj.1 e;exact(oG hf hb tX me e).2.2) _ _ _ _ _ (cz _ (h a cs p s _ (d_some hs) hp))).mono λ_ _ _ hq=>O8 (λ_ _=>agM) hq)
theorem mkM(hT:kK bM k T){f:FuncId}{fn:Func}{gW:List (Option TT)}{D:List TV->List (List TV)->Dn}{d:Nat}(hf:Tp.funcs[f]? =some fn)(hb:fn.body.isSome=true)(h:VM T fn gW D d){T':fQ}(YV:kK bM (k+d+1) T')(tX:T.HZ f fn:=by exact trivial):kK bM (k+d+1) (T'.DC f λa t=>dS (D a t)):=
 OV YV λn a t p s hs hp=>Xx (n:=n+(k+d)) hf (wJ hb) ((mU (vP (oS hT d n)) (C8 hT.1 (λme e=>(oG hf hb tX me e).2.1) (oS hT d n)) (λme e=>⟨rfl,(oG hf hb tX me e).1,(oG hf hb tX me e).2.1⟩) _ (λe=>by obtain⟨me,e⟩:=wj.1 e;exact(oG hf hb tX me e).2.2) _ _ _ _ _ (cz _ (h a t p s _ (d_some hs) hp))).mono λ_ _ _ hq=>O8 (λ_ _=>agK) hq)
theorem mkN(tk:AH bM)(hT:kK bM k T){f:FuncId}{fn:Func}{om:List (Option TT)}{D:List TV->Dn}{d:Nat}(hne:f≠33/\f≠83/\f≠13/\f≠67/\f≠0)(hf:Tp.funcs[f]? =some fn)(hb:fn.body.isSome=true)(h:VN T fn om D d){T':fQ}(YV:kK bM (k+d+1) T')(tX:T.HZ f fn:=by exact trivial):kK bM (k+d+1) (T'.M5 f λa=>dS (D a)):=
 afX YV λn a p s hs hp=>Xs (n:=n+(k+d)) hf (wJ hb) (λ_=>tk.other _ _ hne.1 hne.2.1 hne.2.2.1 hne.2.2.2.1 hne.2.2.2.2) ((mU (vP (oS hT d n)) (C8 hT.1 (λme e=>(oG hf hb tX me e).2.1) (oS hT d n)) (λme e=>⟨rfl,(oG hf hb tX me e).1,(oG hf hb tX me e).2.1⟩) _ (λe=>by obtain⟨me,e⟩:=wj.1 e;exact(oG hf hb tX me e).2.2) _ _ _ _ _ (cz _ (h a p s _ (d_some hs) hp))).mono λ_ _ _ hq=>O8 (λ_ _=>agJ) hq)
def yE(α:Type):Prop:=([]:List α)=[]
theorem iX{α:Type}:yE α=True:=by simp[yE]
theorem lB{b:Bool}{A B:Prop}:aO b A B↔(b=true->A)/\(b=false->B):=by cases b<;>simp[aO]
theorem dz{p:Prop}[Decidable p]{A B:Prop}:aO (decide p) A B↔(p->A)/\(¬p->B):=by rw[lB];simp
theorem gF{b:Bool}{A B:Prop}:aO (!b) A B↔aO b B A:=by cases b<;>rfl
theorem ek{a c:Int}{A B:Prop}:aO (a==c) A B↔(a=c->A)/\(¬a=c->B):=by rw[lB];simp
theorem fC{a c:Int}{A B:Prop}:aO (a !=c) A B↔(a=c->B)/\(¬a=c->A):=by rw[lB];simp[and_comm]
end Go.Tv
