import Derived.Test.YtedcgbkilmlbhaaGreatPk10
namespace Go.Tv
open Go Go.Di Go.Proofs
variable {P:Program} {ty:gb} {tt:TypeId->cJ} {ι ι' w:lp} {S S':ai} {te:cp} {env:cj} {tS:cx} {aI Iq:b9} {call y6:bG} {yf ZH:ez} {B:cy}
theorem X4(h:bZ ι te tS env S)(S2:ai):bZ ι te (tS++[TB.none]) env (S++S2):=by
 have hlt:∀{k k'},ι k=some k'->k'<S.length:=λ{k k'} hk=>by obtain⟨b,h1,-⟩:=h.live hk;exact(aM.1 h1).1
 have hg:∀{k k'},ι k=some k'->(S++S2)[k']? =S[k']? :=λ{k k'} hk=>fI (hlt hk);have K:jE ι S ι (S++S2) λ_=>False:=λk k' _ hk=>⟨hk,ei (hg hk)⟩;have bz:∀{j b},(tS++[TB.none])[j]? =some b->b≠TB.none->tS[j]? =some b:=λ{j b} hj hb=>by rw[RL]at hj;split at hj;exact hj;have:=cB hj;simp only[bV]at this;exact absurd this hb
 refine⟨bH K _ _ h.env,λk l hk=>?_,λk e s hk t ht=>?_,λk k' hk=>?_,h.inj,λk b hk t ht=>?_⟩;obtain⟨k',ds,n1,n2,n3⟩:=h.cells k l (bz hk ae);exact⟨k',ds,n1,(hg n1).trans n2,bH K _ _ n3⟩;obtain⟨n,h1⟩:=h.own k e s (bz hk ae) t ht;exact⟨n,(hg ht).trans h1⟩;obtain⟨b,h1,h2⟩:=h.qB k k' hk;exact⟨b,by rw[fI (aM.1 h1).1];exact h1,h2⟩;by_cases hb:b=.none;subst hb;trivial
 rw[hg ht];exact h.mp k b (bz hk hb) t ht
theorem Xn{f:Operand}{ps:Array Tmp}{oS body:Code}{s5 g:FuncId}{fs cs:cp}{K:cx->Prop}{Q:DX->cp->cx->Prop}(hf:fT te f=some (.fn g fs cs))(hrf:CO s5=some (ps.toList,oS,body))
  (hc:wI call g (fs++[.oz tS.length s5 (gn tS te)]++cs) (tS++[.loop]) λ_ bU=>(bU[tS.length]? =some .loop/\(fE (gn tS te)++oM bU).contains tS.length=false)/\K bU)
  (hq:∀bU,K bU->Q .normal (gn tS te) (bU.set tS.length .none)):WT P ty aI call yf B LL s5 false (.rangeFunc f ps oS body) te tS Q:=by
 intro ι env S hR hB;obtain⟨d,k1,k2⟩:=bL hR.env hf;cases d<;>simp only[RT]at k2;rename_i g' xL iZ;obtain⟨rfl,k3,k4⟩:=k2
 let r0:GK:=⟨.ready,none,s5,env,ps.toList,oS,body,S.length⟩
 have hid:(S++[DB.defer,.loop r0])[S.length+1]? =some (.loop r0):=by rw[jr ab];simp
 have hlt:∀{k k'},ι k=some k'->k'<S.length:=λ{k k'} hk=>by obtain⟨b,h1,-⟩:=hR.live hk;exact(aM.1 h1).1
 have hn:∀k,ι k≠some (S.length+1):=λk hk=>by have:=hlt hk;omega
 have Nf:=LF (k:=tS.length) (X4 hR [DB.defer,.loop r0]) ae hn hid ⟨rfl,rfl⟩;have aap:(tS++[TB.none]).set tS.length .loop=tS++[.loop]:=ae
 rw[aap]at Nf;have hu:∀{j},j≠tS.length->upd ι tS.length (S.length+1) j=ι j:=λh=>if_neg h;have ajF:∀{j k'},ι j=some k'->j<tS.length:=λ{j k'} hj=>by obtain⟨b,h1,-⟩:=hR.qB j k' hj;exact(aM.1 h1).1
 have sV:∀j,j5 tS j=true->upd ι tS.length (S.length+1) j=ι j:=λj hj=>hu λe=>by
  subst e;unfold j5 at hj;split at hj;rename_i c h;have:=(aM.1 h).1;omega
  cases hj
 have hK0:jE ι S (upd ι tS.length (S.length+1)) (S++[DB.defer,.loop r0]) λ_=>False:=λk k' _ hk=>⟨by rw[hu (by have:=ajF hk;omega)];exact hk,ei (fI (hlt hk))⟩;have hA:cO (upd ι tS.length (S.length+1)) (S++[DB.defer,.loop r0]) (fs++[.oz tS.length s5 (gn tS te)]++cs) (xL++[.oz (S.length+1)]++iZ):=by refine eB (eB (bH hK0 _ _ k3) (aR ?_ bS)) (bH hK0 _ _ k4);simp only[RT];exact⟨by simp[upd],_,_,_,env,S.length,hrf,hid,ko sV _ _ hR.env⟩
 obtain⟨d,S',ι',v,bU,a1,a2,a3,a4,a5,⟨a6,a7⟩,a8⟩:=hc _ _ _ ⟨hA,Nf.cells,Nf.own,Nf.qB,Nf.inj,Nf.mp⟩;have oK:∀{j l},tS[j]? =some (lI l)->j∈dR 0 (tS++[TB.loop]):=λ{j l} h=>sE (c:=l) (by rw[fI (aM.1 h).1];exact h);have rC:ι' tS.length=some (S.length+1):=(a4.base tS.length (sE (c:=none) (by simp[lI]))).trans (by simp[upd]);obtain⟨r,b1,b2,b3⟩:=a2.mp tS.length _ a6 _ rC;have hRf:bZ ι' (gn tS te) bU env S':=⟨ko (λj hj=>by
  have h1:=sV j hj;unfold j5 at hj;split at hj;rename_i c hc;rw[a4.base j (oK (l:=some c) hc),h1]
  cases hj) _ _ hR.env,a2.cells,a2.own,a2.qB,a2.inj,a2.mp⟩
 have hno:∀j,DU ι' tS.length j≠some (S.length+1):=λj hj=>by obtain⟨h1,h2⟩:=gK hj;exact h1 (a2.inj j _ _ h2 rC)
 have aer:∀j∈B,j≠tS.length:=λj hj e=>by obtain⟨l,h1⟩:=hB j hj;have:=(aM.1 h1).1;omega
 have hRo:=Bs (b:=.loop {r with st:=.exhausted}) (LG hRf a7) hno;have hS0:∀{j:Nat},j<S.length->(S++[DB.defer,.loop r0])[j]? =S[j]? :=λh=>fI h;have adb:∀{j:Nat},j<S.length->(S'.set (S.length+1) (.loop {r with st:=.exhausted}))[j]? =S'[j]? :=λ{j} h=>by rw[aS,if_neg ab]
 refine⟨.normal,env,S'.set (S.length+1) (.loop {r with st:=.exhausted}),DU ι' tS.length,gn tS te,bU.set tS.length .none,?_,hRo,λj hj=>?_,⟨λk' hl AK=>?_,λj k' hj=>?_,λj hj=>?_⟩,⟨?_,λj hj eL=>?_⟩,hq bU a8⟩;have hb:(r.st==LoopState.busy)=false:=by rw[b2];rfl
 simp only[de,aK,if_false,k1];rw[a1];simp only[b1,hb,aK,if_false,b3];obtain⟨l,h1⟩:=hB j hj;obtain⟨l',h2⟩:=a3 j (oK h1);exact⟨l',by rw[aS,if_neg λe=>aer j hj e.symm];exact h2⟩;have CQ:k'<S.length:=by obtain⟨b,h1,-⟩:=hl;exact(aM.1 h1).1
 rw[adb CQ,a4.rest k' (by obtain⟨b,h1,h2⟩:=hl;exact⟨b,(hS0 CQ).trans h1,h2⟩) λj hj=>?_,hS0 CQ];by_cases e:j=tS.length;subst e;simp only[upd,if_true,aG]at hj;omega;rw[hu e]at hj;exact AK j hj
 obtain⟨h1,h2⟩:=gK hj;rcases a4.ours j k' h2 with ⟨i,hi⟩|h3;by_cases e:i=tS.length;subst e;simp only[upd,if_true,aG]at hi;exact absurd (hi▸hj) (hno j);rw[hu e]at hi;exact .inl ⟨i,hi⟩
 refine .inr λhl=>h3 ?_;obtain⟨b,h4,h5⟩:=hl;exact⟨b,(hS0 (aM.1 h4).1).trans h4,h5⟩;obtain⟨l,h1⟩:=hB j hj;rw[zw (aer j hj),a4.base j (oK h1),hu (aer j hj)];have:=a5.1;simp only[cn,List.length_set]at this⊢;omega;have CQ:=(aM.1 eL).1;rw[adb CQ];exact a5.2 j (by simp only[cn];omega) ((hS0 CQ).trans eL)
end Go.Tv
namespace Go.Tv
open Go Go.Di Go.Proofs
variable {P:Program} {ty:gb} {tt:TypeId->cJ} {T:eM} {ι ι' w:lp} {S S':ai} {te mV:cp} {env:cj} {tS iS:cx} {aI:b9} {call:bG} {yf:ez} {o:Oper} {aC nT:Nat} {B:cy} {r:TR} {ops:Array Oper} {fn:FuncId} {jg:Bool} {fs:cY}
def LA.St:LA->Type
 |.ex α k=>(x:α)×(k x).St
 |.st _=>Unit
 |.un _=>Empty
 |.dep _=>Empty
 |.pe _ _=>Empty
def LA.bd:(la:LA)->la.St->Bd
 |.ex _ k,⟨x,s⟩=>(k x).bd s
 |.st b,_=>b
theorem zi{K:Bd->Prop}:∀{la:LA},la.some K->∃s:la.St,K (la.bd s)
 |.ex _ k,⟨x,h⟩=>by obtain⟨s,h1⟩:=zi (la:=k x) h;exact⟨⟨x,s⟩,h1⟩
 |.st b,h=>⟨(),h⟩
 |.un _,h=>h.elim
 |.dep _,h=>h.elim
 |.pe _ _,h=>h.elim
theorem PG{K:Bd->Prop}:∀{la:LA},la.all K->∀s:la.St,K (la.bd s)
 |.ex _ _,h,⟨x,s⟩=>PG (h x) s
 |.st _,h,_=>h
theorem Y0{b:Bd}{keep:Nat}{K:Prop}(h:Xd B b keep te tS K):Fits B (oP b.sl keep 0 te) (yY b tS) te tS/\dA b.cQ/\K:=by obtain⟨h0,h⟩:=iq h;simp only[aD]at h0;obtain⟨l1,e1,k1,h⟩:=iX h;obtain⟨l2,e2,k2,h⟩:=iX h;obtain⟨h3,h4⟩:=jd h;exact⟨⟨Ac e1 k1,ja e2 k2,h0.1,λk hk=>aX.1 h0.2 k hk⟩,h3,h4⟩
theorem RB{b:Bd}{K:Prop}(h:Wb B mV iS b te tS K):Fits B mV iS te tS/\dA b.cQ/\K:=by obtain⟨h0,h⟩:=iq h;simp only[aD]at h0;obtain⟨l1,e1,k1,h⟩:=iX h;obtain⟨l2,e2,k2,h⟩:=iX h;obtain⟨h3,h4⟩:=jd h;exact⟨⟨zg e1 k1,abY e2 k2,h0.1,λk hk=>aX.1 h0.2 k hk⟩,h3,h4⟩
theorem Vx{N:Nat}{c:Code}{Q:DX->cp->cx->Prop}{K:cp->cx->Prop}{f:cp->cx->(cp->cx->Prop)->Prop}(hf:∀te tS K',f te tS K'->WT P ty aI call yf B LL fn jg c te tS λe te tS=>match e with|.normal=>K' te tS|e=>Q e te tS)(hK:∀te tS,K te tS->WI P ty aI call yf B LL fn jg N c te tS Q):
  ∀(n:Nat)(te:cp)(tS:cx),unK f K n te tS->WI P ty aI call yf B LL fn jg (N+n) c te tS Q
 |0,te,tS,h=>hK te tS h
 |n+1,te,tS,h=>aaX ((hf te tS _ h).mono λe te tS hq=>by
   cases e with
   |normal=>exact Vx hf hK n te tS hq
   |exit id=>exact hq
   |ret=>exact hq)
theorem aaY{n m:Nat}{c:Code}{Q:DX->cp->cx->Prop}(hn:n<=m)(h:WI P ty aI call yf B LL fn jg n c te tS Q):WI P ty aI call yf B LL fn jg m c te tS Q:=by intro ι env S hR hB;obtain⟨e,aL,S',ι',cr,bU,h1,h2⟩:=h ι env S hR hB;exact⟨e,aL,S',ι',cr,bU,BD hn h1,h2⟩
theorem Ly{x:Operand}{v:Bool}{K:cp->Prop}(hx:fT te x=some (.val (.bool v)))(h:VA x te v K):K te:=by
 cases x with
 |tmp t=>
  simp only[fT,aG]at hx;have:=qS te t _ (h:FR te t _ K)
  rwa [ql]at this
  rw[aU]at hx;cases e:te[t]? with
  |none=>rw[e]at hx;cases hx
  |some a=>rw[e]at hx;exact congrArg some hx
 |_=>exact h
variable {inl:Inl}
theorem Sq(hT:qP T aI call)(hI:xC P ty call yf T inl){id:Nat}{draw:Bool}{J:List (Nat×LA)}{i lv:Nat}{Q:DX->cp->cx->Prop}(h:yF P ty tt T inl B J (.region id ops draw) i lv te tS Q):WT P ty aI call yf B LL fn jg (.region id ops draw) te tS Q:=by simp only[yF]at h;split at h;split at h;rename_i hn;obtain⟨hd,h⟩:=iq h;refine Xs hd hn ?_;exact D3 (md:=2) (n0:=tS.length) (nG:=tS) (Q:=λte tS=>Q .normal te (pW tS)) hT hI ab (λte tS fs hk=>by obtain⟨hm,hk⟩:=iq hk;exact afj (ak _) hm (cN _ (K:=λtS=>Q .normal te tS) hk)) ops.toList 0 te _ [] rfl (cN _ (K:=λnG=>qK P ty tt T inl 2 tS.length ops ops.toList 0 te nG [] λte tS fs=>aB (uU (Region.before ops) fs) (ck (pW tS) λtS=>Q .normal te tS) False) h);rename_i hn;obtain⟨hd,h⟩:=iq h;refine Xo hd hn ?_;exact D3 (B:=B) (md:=1) (n0:=0) (nG:=tS) (Q:=λte tS=>Q .normal te tS) hT hI ab (λte tS fs hk _=>Wn (ak _) hk) ops.toList 0 te _ [] rfl h rfl;refine Xq ?_;exact D3 (md:=0) (n0:=0) (nG:=tS) (Q:=λte tS=>Q .normal te (pW tS)) hT hI ab (λte tS fs hk=>afd (ak _) (cN _ (K:=λtS=>Q .normal te tS) hk)) ops.toList 0 te _ [] rfl h
theorem S8{c:Code}(h:N7 P c=some ops):xu P ops=false/\∃id,c=.region id ops true:=by
 unfold N7 at h;split at h;split at h;cases h;rename_i hl;cases h;exact⟨Bool.eq_false_iff.2 hl,_,rfl⟩
 cases h
theorem E8{env:cj}{dst:Option Tmp}{v:DV}{i:Nat}(h:dst≠some i):(kH env dst v)[i]? =env[i]? :=by
 cases dst with
 |none=>rfl
 |some d=>simp only[kH];rw[aS,if_neg (λe=>h (by rw[e]))]
theorem Bp{i:Nat}:∀{l:List Oper}{env aL:cj},rF P ty aI call yf ops S l env=some aL->(∀o∈l,o.dst≠some i)->aL[i]? =env[i]?
 |[],env,aL,h,_=>by cases h;rfl
 |o::l,env,aL,h,hd=>by simp only[rF]at h;split at h;split at h;rw[Bp h λo' ow=>hd o' (pF _ ow),E8 (hd o (iz ..))];cases h;rw[Bp h λo' ow=>hd o' (pF _ ow),E8 (hd o (iz ..))]
theorem afY{u v:TV}{d:DV}(h:LeV u v)(hd:RT ι S v d):RT ι S u d:=by obtain⟨_,_,e,h1,-⟩:=aj (Od (h [] [] .nil) (lq hd));cases e;exact h1
theorem yz{sl:List (Nat×TV)}{keep:Nat}:∀{i:Nat}{te cr:cp}{env aL:cj}{l:List Prop},cO ι S te env->cO ι S cr aL->cr.length=te.length->xx sl i cr=some l->dA l->(∀j,keep.testBit (i+j)=true->aL[j]? =env[j]?)->cO ι S (oP sl keep i te) aL
 |_,[],[],_,_,_,_,h2,_,_,_,_=>by rw[aQ h2];exact bS
 |i,v::te,v'::cr,env,aL,l,h1,h2,hn,hp,hc,hk=>by
  obtain⟨d,m,rfl,a1,a2⟩:=aj h1;obtain⟨d',m',rfl,b1,b2⟩:=aj h2;have AK:cr.length=te.length:=by simpa using hn
  have rC:∀j,keep.testBit (i+1+j)=true->m'[j]? =m[j]? :=λj hj=>by have:=hk (j+1) (by rw[<-gf,Nat.add_right_comm];exact hj);simpa using this
  simp only[xx]at hp;simp only[oP];split at hp;rename_i p UO;split at hp;rename_i x y e1 e2;cases hp;obtain⟨k1,k2⟩:=ku hc;exact aR (afY (IV e1 k1) b1) (yz a2 b2 AK e2 k2 rC);cases hp;refine aR ?_ (yz a2 b2 AK hp hc rC);split;rename_i hb;have:=hk 0 hb;simp only[eu,aG]at this;rw[this];exact a1
  simp only[RT]
 |_,[],_::_,_,_,_,_,_,hn,_,_,_=>by simp at hn
 |_,_::_,[],_,_,_,_,_,hn,_,_,_=>by simp at hn
theorem Ej:∀{l:List Oper}{env aL:cj},rF P ty aI call yf ops S l env=some aL->aL.length=env.length
 |[],env,aL,h=>by cases h;rfl
 |o::l,env,aL,h=>by
  have hp:∀(dst:Option Tmp)(v:DV),(kH env dst v).length=env.length:=λdst v=>by cases dst<;>simp[kH]
  simp only[rF]at h;split at h;split at h;rw[Ej h,hp];cases h;rw[Ej h,hp]
theorem Xp{id:Nat}{b:Code}{Q:DX->cp->cx->Prop}{la:LA}{keep:Nat}(hd:mJ ops (Region.before ops)=true)(hl:xu P ops=false)(hk:WW keep ops=true)
  (h1:WQ P ty aI call yf ops tS 0 te λcr=>la.some λbd=>ask (xx bd.sl 0 cr) (AY bd.cQ True))
  (h2:∀s:la.St,dA (la.bd s).cQ->WT P ty aI call yf B LL fn jg b (oP (la.bd s).sl keep 0 te) tS Q):WT P ty aI call yf B LL fn jg (.seq (.region id ops true) b) te tS Q:=by
 intro ι env S hR hB;obtain⟨aL,cr,k1,k2,k3⟩:=h1 ι env S hR;rw[pn]at k1;obtain⟨s,hs⟩:=zi k3;obtain⟨l,e1,e2,e3⟩:=iX hs;obtain⟨e3,-⟩:=jd e3;have Nf:bZ ι (oP (la.bd s).sl keep 0 te) tS aL S:=by refine⟨yz hR.env k2.env ?_ e1 e2 λj hj=>?_,k2.cells,k2.own,k2.qB,k2.inj,k2.mp⟩;rw[<-gN k2.env,<-gN hR.env,Ej k1];refine Bp k1 λo ho e=>?_;have:=aX.1 hk o ho;rw[iw]at hj;rw[e]at this;simp only[hj]at this;cases this
 obtain⟨e,rZ,xM,ι'',uP,uQ,m1,m2,m3,m4,m5,m6⟩:=h2 s e3 ι aL S Nf hB;refine⟨e,rZ,xM,ι'',uP,uQ,?_,m2,m3,m4,m5,m6⟩;have:de P ty aI call yf LL fn jg (.region id ops true) env S=some (.normal,aL,S):=by simp only[xu,Bool.or_eq_false_iff]at hl;simp only[de,qT,if_true,hd,hl.2,gQ,aK,if_false,k1,az]
 rw[de,this];exact m1
theorem wI.mono {g:FuncId}{A:cp}{K K':TV->cx->Prop}(h:wI call g A tS K)(hk:∀v t,K v t->K' v t):wI call g A tS K':=λι bO S hR=>by obtain⟨d,S',ι',v,bU,h1,h2,h3,h4,h5,h6⟩:=h ι bO S hR;exact⟨d,S',ι',v,bU,h1,h2,h3,h4,h5,hk _ _ h6⟩
theorem afb{n:Nat}{c:Code}{Q:DX->cp->cx->Prop}(h:WT P ty aI call yf B LL fn jg c te tS λe te tS=>Q e te (R9 n tS)):WT P ty aI call yf B LL fn jg c te tS Q:=λι env S hR hB=>by obtain⟨e,aL,S',ι',cr,bU,h1,h2,h3,h4,h5,h6⟩:=h ι env S hR hB;refine⟨e,aL,S',ι',cr,R9 n bU,h1,?_,λk hk=>?_,h4,h5,h6⟩;have:=Qr h2 (n-bU.length) 0;simpa [R9]using this;obtain⟨l,hl⟩:=h3 k hk;exact⟨l,by unfold R9;rw[fI (aM.1 hl).1];exact hl⟩
theorem mD(hT:qP T aI call)(hI:xC P ty call yf T inl)(hm:∀me,inl.me=some me->jg=false/\fn=me/\CO me=some T.yp){J:List (Nat×LA)}:∀(c:Code),(inl.me.isSome=true->xA T.yp c)->∀(i lv:Nat)(te:cp)(tS:cx)(Q:DX->cp->cx->Prop),yF P ty tt T inl B J c i lv te tS Q->WT P ty aI call yf B LL fn jg c te tS Q
 |.skip,_,_,_,_,_,_,h=>aaP h
 |.label _,_,_,_,_,_,_,h=>Xr h
 |.exit _,_,_,_,_,_,_,h=>aaS h
 |.ret,_,_,_,_,_,_,h=>afa h
 |.scope c,hr,i,lv,te,tS,Q,h=>Xm (mD hT hI hm c hr i lv te tS Q h)
 |.block id c,hr,i,lv,te,tS,Q,h=>by
  refine Xt ((mD hT hI hm c hr i lv te tS _ h).mono λe te tS hq=>?_);cases e with
  |normal=>exact hq
  |ret=>exact hq
  |exit jf=>grind
 |.cond x a b,hr,i,lv,te,tS,Q,h=>by
  simp only[yF]at h;split at h;rename_i t hx;obtain⟨h1,h2⟩:=wJ h;refine aaT hx (λe=>?_) (λe=>?_);subst e;exact mD hT hI hm a (λe=>(hr e).1) i lv te tS Q (Ly hx (h1 rfl))
  subst e;exact mD hT hI hm b (λe=>(hr e).2) (i+cnt a) lv te tS Q (Ly hx (h2 rfl))
  grind
 |.seq a b,hr,i,lv,te,tS,Q,h=>by
  simp only[yF]at h;split at h;rename_i la _;split at h;rename_i ops hq;obtain⟨h1,h2⟩:=h;obtain⟨hl,id,rfl⟩:=S8 hq;obtain⟨h0,h1⟩:=iq h1;simp only[aD]at h0;refine Xp (la:=la) h0.1 hl h0.2 ?_ λs hg=>mD hT hI hm b (λe=>(hr e).2) _ lv _ _ Q (cv _ (ny (PG h2 s) hg));exact D3 (B:=B) (md:=1) (n0:=0) (nG:=tS) (Q:=λcr _=>la.some λbd=>ask (xx bd.sl 0 cr) (AY bd.cQ True)) hT hI ab (λcr bU fs hk _=>Wn (ak _) hk) ops.toList 0 te _ [] rfl h1 rfl;obtain⟨h1,h2⟩:=h;refine aaR (λs:la.St=>(oP (la.bd s).sl ((lv|||oc b)&&&(2^400-1-(defs a))) 0 te,yY (la.bd s) tS)) (λs=>dA (la.bd s).cQ) ((mD hT hI hm a (λe=>(hr e).1) (i+1) (lv|||oc b) te tS _ h1).mono λe cr bU hq=>?_) λs hg=>mD hT hI hm b (λe=>(hr e).2) (i+1+cnt a) lv _ _ Q (cN _ (cv _ (ny (PG h2 s) hg)));cases e with
  |normal=>obtain⟨s,hs⟩:=zi hq;obtain⟨k1,k2,-⟩:=RB hs;exact⟨s,k1,k2⟩
  |exit id=>exact hq
  |ret=>exact hq
  refine Wm ((mD hT hI hm a (λe=>(hr e).1) (i+1) (lv|||oc b) te tS _ h).mono λe te tS hq=>?_);cases e with
  |normal=>exact mD hT hI hm b (λe=>(hr e).2) _ _ te tS Q hq
  |exit id=>exact hq
  |ret=>exact hq
 |.loop c,hr,i,lv,te,tS,Q,h=>by
  simp only[yF]at h;split at h;rename_i la _;have hF:∀te tS (K':cp->cx->Prop),yF P ty tt T inl B J c (i+1) (lv|||oc c) te tS (λe te tS=>match e with
   |.normal=>K' te tS
   |.exit id=>Q (.exit id) te tS
   |.ret=>Q .ret te tS)->WT P ty aI call yf B LL fn jg c te tS λe te tS=>match e with|.normal=>K' te tS|e=>Q e te tS:=λte tS K' hf=>(mD hT hI hm c hr _ _ te tS _ hf).mono λe te tS hq=>by cases e<;>exact hq
  refine Sn (n:=1000000+min la.ac4 1000) (by unfold LL;omega) (Vx hF (λte tS h=>?_) _ te tS h);generalize la.inner.at te tS=la at h;split at h;exact aaY ab (Vx (N:=0) hF (λ_ _ h=>h.elim) _ te tS h);obtain⟨h1,h2⟩:=h;obtain⟨s0,h1⟩:=zi h1;obtain⟨k1,k2,k3⟩:=Y0 h1;refine aaZ (λs:la.St=>(oP (la.bd s).sl ((lv|||oc c)&&&(2^400-1-(defs c))) 0 te,yY (la.bd s) tS)) (λs=>dA (la.bd s).cQ) (λs=>(la.bd s).m) s0 k1 k2 k3 λs hg=>(mD hT hI hm c hr (i+1) (lv|||oc c) _ _ _ (cN _ (cv _ (ny (PG h2 s) hg)))).mono λe cr bU hq=>?_;cases e with
  |normal=>obtain⟨s',hs⟩:=zi hq;obtain⟨k1,k2,k3⟩:=RB hs;exact⟨s',k1,k2,k3⟩
  |exit id=>exact hq
  |ret=>exact hq
  grind
 |.region id ops draw,hr,i,lv,te,tS,Q,h=>Sq hT hI h
 |.rangeFunc f ps oS body,hr,i,lv,te,tS,Q,h=>by
  simp only[yF]at h;split at h;rename_i me g fs cs sU hf;obtain⟨rfl,rfl,hy⟩:=hm me sU;have Gh:(ps.toList,oS,body)=T.yp:=hr (by rw[sU];rfl);split at h;rename_i vV j hx;refine Xn (K:=λbU=>dx (gn tS te) λte=>ck (bU.set tS.length .none) λtS=>Q .normal te tS) hf (Gh▸hy) ((hI.c g vV j _ _ _ hx h).mono λv bU hk=>?_) λbU hk=>cN _ (K:=λtS=>Q .normal _ tS) (cv _ (K:=λte=>ck (bU.set _ .none) λtS=>Q .normal te tS) hk);obtain⟨h0,hk⟩:=iq hk;simp only[aD,pz]at h0;refine⟨⟨?_,h0.2⟩,hk⟩;have:=h0.1;unfold WU at this;split at this;assumption;cases this
  grind
  grind
 |.goto _,_,_,_,_,_,_,h=>(by simp only[yF]at h)
 |.refuse _,_,_,_,_,_,_,h=>(by simp only[yF]at h)
theorem vZ{K K':TV->cp->List Prop->Prop}(hK:∀v cs f,K v cs f->K' v cs f):∀{s:uk},s.some K->s.some K'
 |.ex _ k,⟨x,h⟩=>⟨x,vZ (s:=k x) hK h⟩
 |.res _ _ _,h=>hK _ _ _ h
theorem K6{F:cp->cx->Prop}{E:DX->cp->cx->Prop}(h1:∀te tS,F te tS->E .normal te tS/\E .ret te tS):∀{e:DX}{te:cp}{tS:cx},NM F e te tS->E e te tS
 |.normal,_,_,h=>(h1 _ _ h).1
 |.ret,_,_,h=>(h1 _ _ h).2
 |.exit _,_,_,h=>h.elim
theorem aih{rs:List ResultVar}{js:List cJ}{s:uk}(h:aew ty rs js s te tS):aeP ty rs js (λv=>s.oI v) .normal te tS/\aeP ty rs js (λv=>s.oI v) .ret te tS:=by
 unfold aew at h;split at h;rename_i vs hv;have h:=cv (yS tS vs) (K:=λvs=>aB (vs.all eV&&(refs (kJ (bR js vs))).isEmpty) (s.some λv _ facts=>ask (Zy (kJ (bR js vs)) v) (dA facts)) False) h;obtain⟨h0,h⟩:=iq h;simp only[aD,Ds]at h0;have:∃vs,xR ty te tS rs=some vs/\(yS tS vs).all eV=true/\refs (kJ (bR js (yS tS vs)))=[]/\s.oI (kJ (bR js (yS tS vs))):=by refine⟨vs,hv,h0.1,h0.2,vZ (λv cs f hk=>?_) h⟩;obtain⟨l,h1,h2,h3⟩:=iX hk;exact⟨x8 h1 h2,h3⟩
 exact⟨⟨trivial,this⟩,trivial,this⟩
 grind
theorem aii{rs:List ResultVar}{js oy:List cJ}{s:uk}(h:aex ty rs js oy s te tS):Vt ty rs js oy (λv cs=>s.holds v cs) .normal te tS/\Vt ty rs js oy (λv cs=>s.holds v cs) .ret te tS:=by
 unfold aex at h;split at h;rename_i vs ts l hv;obtain⟨h0,h⟩:=iq h;simp only[aD,Ds]at h0;have:s.holds (kJ (bR js vs)) (bR oy ts):=by refine vZ (λv cs f hk=>?_) h;obtain⟨l,h1,h2,hk⟩:=iX hk;obtain⟨l',h3,h4,h5⟩:=iX hk;exact⟨x8 h1 h2,tf h3 h4,h5⟩
 exact⟨⟨trivial,vs,ts,hv,h0.1.1,h0.1.2,rfl,h0.2.1,h0.2.2,this⟩,trivial,vs,ts,hv,h0.1.1,h0.1.2,rfl,h0.2.1,h0.2.2,this⟩
 grind
theorem aif{rs:List ResultVar}{js:List cJ}{n:Nat}{s:uk}(h:aev ty rs js n s te tS):aeO ty rs js n (λv t=>s.holds v (t.map .agg)) .normal te tS/\aeO ty rs js n (λv t=>s.holds v (t.map .agg)) .ret te tS:=by
 unfold aev at h;split at h;rename_i vs t hv ht;obtain⟨h0,h⟩:=iq h;simp only[aD]at h0;have:s.holds (kJ (bR js vs)) (t.map .agg):=by refine vZ (λv cs f hk=>?_) h;obtain⟨l,h1,h2,hk⟩:=iX hk;obtain⟨l',h3,h4,h5⟩:=iX hk;exact⟨x8 h1 h2,tf h3 h4,h5⟩
 exact⟨⟨trivial,vs,t,hv,h0.1,h0.2,ht,this⟩,trivial,vs,t,hv,h0.1,h0.2,ht,this⟩
 grind
theorem YB{oy:List cJ}{ts:cp}:VL oy ts=bR oy ts:=by unfold VL;split;split<;>rfl;rfl
theorem aie{rs:List ResultVar}{oy:List cJ}{s:uk}(h:aeu ty rs oy s te tS):aeN ty rs oy (λcs=>s.A8 cs) .normal te tS/\aeN ty rs oy (λcs=>s.A8 cs) .ret te tS:=by
 unfold aeu at h;split at h;rename_i ts l hv;obtain⟨h0,h⟩:=iq h;simp only[aD,Ds]at h0;have:s.A8 (bR oy ts):=by refine vZ (λv cs f hk=>?_) h;obtain⟨l',h3,h4,h5⟩:=iX hk;exact⟨YB▸tf h3 h4,h5⟩
 exact⟨⟨trivial,ts,hv,rfl,h0.1,h0.2,this⟩,trivial,ts,hv,rfl,h0.1,h0.2,this⟩
 grind
theorem aid{rs:List ResultVar}{e:TypeId}{s:uk}(h:aet ty rs e s te tS):aeM ty rs e (λv=>s.oI v) .normal te tS/\aeM ty rs e (λv=>s.oI v) .ret te tS:=by
 unfold aet at h;split at h;rename_i t C3 g hv;split at h;rename_i e' n hg;obtain⟨h0,h2⟩:=iq h;simp only[aD,ee]at h0;obtain⟨rfl,rfl⟩:=h0;have hq:s.oI (.sl t C3 .no):=vZ (λv cs f hk=>by obtain⟨l,k1,k2,k3⟩:=iX hk;exact⟨x8 k1 k2,k3⟩) h2;exact⟨⟨trivial,t,C3,g,hv,hg,hq⟩,trivial,t,C3,g,hv,hg,hq⟩
 grind
 grind
theorem afT:∀{vs:cp}{ds:cj},cO ι S vs ds->RT ι S (kJ vs) (oneOf ds)
 |[],ds,h=>by rw[aQ h];simp only[kJ,oneOf,RT];exact bS
 |[v],ds,h=>by obtain⟨d,m',rfl,h1,h2⟩:=aj h;rw[aQ h2];exact h1
 |v::u::l,ds,h=>by obtain⟨d,m',rfl,h1,h2⟩:=aj h;obtain⟨d',m'',rfl,h3,h4⟩:=aj h2;simp only[kJ,oneOf,RT];exact aR h1 (aR h3 h4)
def XOK(P:Program)(T:eM):Prop:=∀g fn j,T.X g=some (fn,j)->P.funcs[g]? =some fn/\fn.body.isSome=true
def Lev(P:Program)(ty:gb)(T:eM):Nat->b9->bG->ez->Prop
 |0,aI,call,_=>qP T aI call
 |d+1,aI,call,yf=>qP T aI call/\∃Vg La yf',((∀g fn,P.funcs[g]? =some fn->∀a S,call g a S=uA P ty Vg La yf' LL g fn a S)/\yf=vk P ty Vg La yf' LL)/\Lev P ty T d Vg La yf'
theorem tA{d:Nat}(h:Lev P ty T d aI call yf):qP T aI call:=by
 cases d with
 |zero=>exact h
 |succ d=>exact h.1
theorem ae8{ad5:b9}{PW:bG}{yfI:ez}(hT:qP T ad5 PW)(hI:xC P ty PW yfI T inl)(hm:inl.me=none)(hy:∀me,T.me=some me->CO me=some T.yp){k:Nat}{s5:FuncId}{AB xs:cp}{K:cx->Prop}(h:adP P ty tt T inl k s5 AB xs tS K):∃ps oS body,CO s5=some (ps,oS,body)/\xs.length=ps.length/\(fE (oL AB (ps.zip xs))++oM tS).contains k=false/\WT P ty ad5 PW yfI (oG k tS) LL s5 true oS (oL AB (ps.zip xs)) (tS.set k .none) λe mV iS=>e=.normal/\WT P ty ad5 PW yfI (oG k tS) LL s5 true body mV iS λe _ jW=>e=.normal/\jW[k]? =some .none/\K jW:=by
 have Ks:∀me,inl.me=some me->true=false/\s5=me/\CO me=some T.yp:=λ_ e=>by rw[hm]at e;cases e
 have hn:∀c,inl.me.isSome=true->xA T.yp c:=λ_ e=>by rw[hm]at e;cases e
 unfold adP at h;split at h;rename_i me ps oS body h1 h2;obtain⟨h0,hv⟩:=iq h;clear h;simp only[aD,ee,pz]at h0;obtain⟨⟨rfl,h3⟩,h4⟩:=h0;refine⟨ps,oS,body,h2▸hy _ h1,h3,h4,?_⟩;refine(mD hT hI Ks oS (hn _) _ _ _ _ _ (cN _ (cv _ hv))).mono λe mV iS hk=>?_;cases e with
 |normal=>
  refine⟨rfl,afb (n:=tS.length) ((mD hT hI Ks body (hn _) _ _ _ _ _ hk).mono λe UJ jW hk=>?_)⟩;cases e with
  |normal=>
   replace hk:aeA k (R9 tS.length jW) K:=hk
   unfold aeA at hk;split at hk
   grind
   grind
  |exit _=>exact hk.elim
  |ret=>exact hk.elim
 |exit _=>exact hk.elim
 |ret=>exact hk.elim
 grind
theorem I1(hX:XOK P T)(hy:∀me,T.me=some me->CO me=some T.yp):∀(d:Nat){aI:b9}{call:bG}{yf:ez},Lev P ty T d aI call yf->xC P ty call yf T (Sc P ty tt T d)
 |0,_,_,_,_=>⟨λ_ _ _ _ _ _ _ h=>h.elim,λ_ _ _ _ _ _ h=>h.elim⟩
 |d+1,aI,call,yf,hL=>by
  obtain⟨-,Vg,La,yf',⟨hb,hyf⟩,U0⟩:=hL;have hm0:(Sc P ty tt T d).me=none:=by cases d<;>rfl
  refine⟨?_,λk s5 AB xs tS K h=>by obtain⟨ps,oS,body,h1,h2,h3,h4⟩:=ae8 (tA U0) (I1 hX hy d U0) hm0 hy h;exact⟨ps,oS,body,Vg,La,yf',h1,hyf,h2,h3,h4⟩⟩;intro g fn j A tS K hx hi ι bO S hR;obtain⟨hf,hs⟩:=hX g fn j hx;have hw:=mD (fn:=g) (jg:=false) (yf:=yf') (tA U0) (I1 hX hy d U0) (λ_ e=>by rw[hm0]at e;cases e) _ (λe=>by rw[hm0]at e;cases e) _ _ _ _ _ (cv _ hi);have hlen:=gN hR.env;have mY:bZ ι (NA fn.ntmps A) tS (bO++List.replicate (fn.ntmps-bO.length) bK) S:=
   ⟨eB hR.env (by rw[hlen];exact tj _ _),hR.cells,hR.own,hR.qB,hR.inj,hR.mp⟩
  obtain⟨e,aL,S',ι',cr,bU,h1,h2,h3,h4,h5,h6⟩:=hw ι _ S mY WX;have key:aes ty fn.results.toList K cr bU->(e=.normal\/e=.ret)->∃d S' ι' v bU,call g bO S=some (d,S')/\bZ ι' [v] bU [d] S'/\oT (dR 0 tS) bU/\Fr (dR 0 tS) ι S ι' S'/\Nn S.length S S'/\K v bU:=by
   intro hk he;unfold aes at hk;split at hk;rename_i vs hv;obtain⟨ds,k1,k2⟩:=tn h2 hv;refine⟨oneOf ds,S',ι',kJ vs,bU,?_,⟨lq (afT k2),h2.cells,h2.own,h2.qB,h2.inj,h2.mp⟩,h3,h4,h5,hk⟩;rw[hb g fn hf];unfold mI at h1;simp only[uA];cases hc:fn.body with
   |none=>rw[hc]at hs;cases hs
   |some c=>grind
   grind
  cases e with
  |normal=>exact key h6 (.inl rfl)
  |ret=>exact key h6 (.inr rfl)
  |exit id=>exact h6.elim
def vcI(T:eM)(d:Nat)(f:Func)(js:List cJ)(J:List (Nat×LA))(a:cp)(s:uk):Prop:=dx (NA f.ntmps a) λte=>yF Tp Ty Zl T (Sb Tp Ty Zl T d) [] J (mI f) 0 (wj f.results.toList) te [] (NM (aew Ty f.results.toList js s))
def agA(T:eM)(d:Nat)(f:Func)(js oy:List cJ)(J:List (Nat×LA))(a cs:cp)(s:uk):Prop:=dx (NA f.ntmps a) λte=>yF Tp Ty Zl T (Sb Tp Ty Zl T d) [0] J (mI f) 0 (wj f.results.toList) te [.cells cs] (NM (aex Ty f.results.toList js oy s))
def vcN(T:eM)(d:Nat)(f:Func)(oy:List cJ)(J:List (Nat×LA))(a:cp)(s:uk):Prop:=dx (NA f.ntmps a) λte=>yF Tp Ty Zl T (Sb Tp Ty Zl T d) [] J (mI f) 0 (wj f.results.toList) te [] (NM (aeu Ty f.results.toList oy s))
def vcO(T:eM)(d:Nat)(f:Func)(J:List (Nat×LA))(a:cp)(e:TypeId)(s:uk):Prop:=dx (NA f.ntmps a) λte=>yF Tp Ty Zl T (Sb Tp Ty Zl T d) [] J (mI f) 0 (wj f.results.toList) te [] (NM (aet Ty f.results.toList e s))
def vcM(T:eM)(d:Nat)(f:Func)(js:List cJ)(J:List (Nat×LA))(a:cp)(t:List cp)(s:uk):Prop:=dx (NA f.ntmps a) λte=>yF Tp Ty Zl T (Sb Tp Ty Zl T d) (List.range t.length) J (mI f) 0 (wj f.results.toList) te (t.map .cells) (NM (aev Ty f.results.toList js t.length s))
def ic(bI:b9)(k:Nat)(T:eM):Prop:=XOK Tp T/\∀n,qP T (KA bI (n+k)) (x9 bI (n+k))
def eM.cG (T:eM)(f:FuncId)(S:cp->Sp):eM:={T with I:=λg a=>if g=f then S a else T.I g a}
def eM.mB (T:eM)(f:FuncId)(S:cp->cp->Sp):eM:={T with C:=λg a c=>if g=f then S a c else T.C g a c}
def eM.NQ (T:eM)(f:FuncId)(S:cp->Sp):eM:={T with N:=λg a=>if g=f then S a else T.N g a}
def eM.aaI (T:eM)(f:FuncId)(e:TypeId)(S:cp->Sp):eM:={T with O:=λg a=>if g=f then(S a).map λx=>(x.1,e,x.2)else T.O g a}
def eM.IC (T:eM)(f:FuncId)(S:cp->List cp->Sp):eM:={T with M:=λg a t=>if g=f then S a t else T.M g a t}
def eM.DN (T:eM)(f:FuncId)(fn:Func)(j:List (Nat×LA)):eM:={T with X:=λg=>if g=f then some (fn,j)else T.X g}
variable {bI:b9} {k:Nat}
theorem fU(h:ic bI k T):ic bI (k+1) T:=⟨h.1,λn=>by have:=h.2 (n+1);rwa [Nat.add_right_comm,gf]at this⟩
theorem mM(h:ic bI k T):∀(d n:Nat),Lev Tp Ty T d (KA bI (n+(k+d))) (x9 bI (n+(k+d))) (yfT bI (n+(k+d)))
 |0,n=>h.2 n
 |d+1,n=>by
  refine⟨?_,KA bI (n+(k+d)),x9 bI (n+(k+d)),yfT bI (n+(k+d)),⟨λg fn hf a S=>?_,?_⟩,mM h d n⟩;have:=h.2 (n+(d+1));rwa [gf,nO (d+1) k]at this
  rw[show n+(k+(d+1))=(n+(k+d))+1 by omega];simp only[qf,dI,hf];rfl;rw[show n+(k+(d+1))=(n+(k+d))+1 by omega];rfl
def eM.Io (T:eM)(f:FuncId)(fn:Func):Prop:=
 match T.me with
 |none=>True
 |some g=>g=f/\gO (mI fn)=some T.yp/\xA T.yp (mI fn)
theorem lP{f:FuncId}{fn:Func}(hf:Tp.funcs[f]? =some fn)(hb:fn.body.isSome=true)(h:T.Io f fn):∀me,T.me=some me->f=me/\CO me=some T.yp/\xA T.yp (mI fn):=λme e=>by
 unfold eM.Io at h;rw[e]at h;obtain⟨rfl,h1,h2⟩:=h;refine⟨rfl,?_,h2⟩;have Zu:Tryz.prog.funcs[me]? =some fn:=hf;unfold mI at h1;unfold CO;rw[Zu];cases hc:fn.body with
 |none=>rw[hc]at hb;cases hb
 |some c=>rw[hc]at h1;simpa [hc]using h1
theorem zu(hX:XOK P T)(hy:∀me,T.me=some me->CO me=some T.yp){d:Nat}(h:Lev P ty T d aI call yf):xC P ty call yf T (Sb P ty tt T d):=⟨(I1 hX hy d h).c,(I1 hX hy d h).y⟩
def eM.own (T:eM)(f:FuncId)(fn:Func)(Y:List (Nat×LA):=[]):eM:={T with me:=some f,yp:=(gO (mI fn)).getD ([],.skip,.skip),Y:=Y}
theorem C9{f:FuncId}{fn:Func}{Y:List (Nat×LA)}(hT:ic bI k T):ic bI k (T.own f fn Y):=⟨hT.1,λn=>⟨(hT.2 n).I,(hT.2 n).C,(hT.2 n).N,(hT.2 n).O,(hT.2 n).M⟩⟩
theorem KN{f:FuncId}{S:cp->Sp}(hT:ic bI k T)(h:∀n a p s,S a=some (p,s)->dA p->vc (KA bI (n+k)) f a λv=>s.oI v):ic bI k (T.cG f S):=⟨hT.1,λn=>⟨λg a p s hs hp=>by
 simp only[eM.cG]at hs;split at hs
 grind
 exact(hT.2 n).I g a p s hs hp,(hT.2 n).C,(hT.2 n).N,(hT.2 n).O,(hT.2 n).M⟩⟩
theorem ahr{f:FuncId}{S:cp->cp->Sp}(hT:ic bI k T)(h:∀n a cs p s,S a cs=some (p,s)->dA p->Cc (x9 bI (n+k)) f a cs λv cs=>s.holds v cs):ic bI k (T.mB f S):=⟨hT.1,λn=>⟨(hT.2 n).I,λg a cs p s hs hp=>by
 simp only[eM.mB]at hs;split at hs
 grind
 exact(hT.2 n).C g a cs p s hs hp,(hT.2 n).N,(hT.2 n).O,(hT.2 n).M⟩⟩
theorem ahq{f:FuncId}{S:cp->Sp}(hT:ic bI k T)(h:∀n a p s,S a=some (p,s)->dA p->DZ (KA bI (n+k)) (x9 bI (n+k)) f a λcs=>s.A8 cs):ic bI k (T.NQ f S):=⟨hT.1,λn=>⟨(hT.2 n).I,(hT.2 n).C,λg a p s hs hp=>by
 simp only[eM.NQ]at hs;split at hs
 grind
 exact(hT.2 n).N g a p s hs hp,(hT.2 n).O,(hT.2 n).M⟩⟩
theorem ahp{f:FuncId}{e:TypeId}{S:cp->Sp}(hT:ic bI k T)(h:∀n a p s,S a=some (p,s)->dA p->P0 (x9 bI (n+k)) f a e λv=>s.oI v):ic bI k (T.aaI f e S):=⟨hT.1,λn=>⟨(hT.2 n).I,(hT.2 n).C,(hT.2 n).N,λg a p e' s hs hp=>by simp only[eM.aaI]at hs;split at hs;rename_i he;subst he;simp only[ah,aA]at hs;obtain⟨⟨p1,s1⟩,h1,rfl,rfl,rfl⟩:=hs;exact h n a _ _ h1 hp;exact(hT.2 n).O g a p e' s hs hp,(hT.2 n).M⟩⟩
theorem Vy{f:FuncId}{S:cp->List cp->Sp}(hT:ic bI k T)(h:∀n a t p s,S a t=some (p,s)->dA p->Ca (x9 bI (n+k)) f a t λv t=>s.holds v (t.map .agg)):ic bI k (T.IC f S):=⟨hT.1,λn=>⟨(hT.2 n).I,(hT.2 n).C,(hT.2 n).N,(hT.2 n).O,λg a t p s hs hp=>by
 simp only[eM.IC]at hs;split at hs
 grind
 exact(hT.2 n).M g a t p s hs hp⟩⟩
theorem KL{f:FuncId}{fn:Func}{j:List (Nat×LA)}(hT:ic bI k T)(hf:Tp.funcs[f]? =some fn)(hb:fn.body.isSome=true):ic bI k (T.DN f fn j):=⟨λg vV j' hx=>by
 simp only[eM.DN]at hx;split at hx
 grind
 exact hT.1 g vV j' hx,λn=>⟨(hT.2 n).I,(hT.2 n).C,(hT.2 n).N,(hT.2 n).O,(hT.2 n).M⟩⟩
def T0:eM where
 I:=λg a=>match g,a with
  |12,[]=>some ([],.res (kR true) [] [])
  |_,_=>none
 C:=λ_ _ _=>none
 N:=λ_ _=>none
theorem dN(tk:CX bI):ic bI 0 T0:=by refine⟨λ_ _ _ h=>ao,λn=>⟨λg a p s hs _=>?_,λ_ _ _ _ _ hs=>(by cases hs),λ_ _ _ _ hs=>(by cases hs),λ_ _ _ _ _ hs=>(by cases hs),λ_ _ _ _ _ hs=>(by cases hs)⟩⟩;simp only[T0]at hs;split at hs;cases hs;intro bO hd;rw[aQ hd];refine⟨.val (.bool true),kR true,?_,rfl,by simp only[RT],rfl,rfl,trivial⟩;simp only[yN,kV,tk.fit,DV.pure,DV.kD,if_true];cases hs
end Go.Tv
namespace Go.Tv
open Go Go.Di Go.Proofs
abbrev Dn:=Option (List Prop×uk×List (Nat×LA))
def dS(d:Dn):Sp:=d.map λx=>(x.1,x.2.1)
def dJ(d:Dn):List (Nat×LA):=match d with
 |some x=>x.2.2
 |none=>[]
def VI(T:eM)(f:Func)(js:List cJ)(D:cp->Dn)(d:Nat:=0):Prop:=∀a p s j,D a=some (p,s,j)->dA p->vcI T d f js j a s
def VC(T:eM)(f:Func)(js oy:List cJ)(D:cp->cp->Dn)(d:Nat:=0):Prop:=∀a cs p s j,D a cs=some (p,s,j)->dA p->agA T d f js oy j a cs s
def VN(T:eM)(f:Func)(oy:List cJ)(D:cp->Dn)(d:Nat:=0):Prop:=∀a p s j,D a=some (p,s,j)->dA p->vcN T d f oy j a s
def VO(T:eM)(f:Func)(e:TypeId)(D:cp->Dn)(d:Nat:=0):Prop:=∀a p s j,D a=some (p,s,j)->dA p->vcO T d f j a e s
def VM(T:eM)(f:Func)(js:List cJ)(D:cp->List cp->Dn)(d:Nat:=0):Prop:=∀a t p s j,D a t=some (p,s,j)->dA p->vcM T d f js j a t s
def dV(d:Dn)(K:uk->List (Nat×LA)->Prop):Prop:=
 match d with
 |some (p,s,j)=>dA p->K s j
 |none=>True
structure Hd (p:Prop):Prop where
 h:p
theorem jx{A B:Prop}(h:A=B)(a:A):Hd B:=⟨h▸a⟩
theorem dH{T:eM}{f:Func}{js:List cJ}{D:cp->Dn}{d:Nat}(h:∀a,dV (D a) λs j=>Hd (vcI T d f js j a s)):VI T f js D d:=λa p s j hd hp=>by have:=h a;rw[hd]at this;exact(this hp).h
theorem acK{T:eM}{f:Func}{oy:List cJ}{D:cp->Dn}{d:Nat}(h:∀a,dV (D a) λs j=>Hd (vcN T d f oy j a s)):VN T f oy D d:=λa p s j hd hp=>by have:=h a;rw[hd]at this;exact(this hp).h
theorem ahm{T:eM}{f:Func}{e:TypeId}{D:cp->Dn}{d:Nat}(h:∀a,dV (D a) λs j=>Hd (vcO T d f j a e s)):VO T f e D d:=λa p s j hd hp=>by have:=h a;rw[hd]at this;exact(this hp).h
theorem acL{T:eM}{f:Func}{js:List cJ}{D:cp->List cp->Dn}{d:Nat}(h:∀a t,dV (D a t) λs j=>Hd (vcM T d f js j a t s)):VM T f js D d:=λa t p s j hd hp=>by have:=h a t;rw[hd]at this;exact(this hp).h
theorem lN{T:eM}{f:Func}{js oy:List cJ}{D:cp->cp->Dn}{d:Nat}(h:∀a cs,dV (D a cs) λs j=>Hd (agA T d f js oy j a cs s)):VC T f js oy D d:=λa cs p s j hd hp=>by have:=h a cs;rw[hd]at this;exact(this hp).h
theorem d_some{d:Dn}{p:List Prop}{s:uk}(h:dS d=some (p,s)):d=some (p,s,dJ d):=by
 cases d with
 |none=>cases h
 |some x=>cases h;rfl
variable {bI:b9} {k:Nat} {T:eM}
theorem sQ{fn:Func}(hb:fn.body.isSome=true):fn.body=some (mI fn):=by unfold mI;revert hb;cases fn.body<;>simp
theorem mkJ(hT:ic bI k T){f:FuncId}{fn:Func}{js:List cJ}{D:cp->Dn}{d:Nat}(hn:∀a p s,dS (D a)=some (p,s)->dA p->∀da,cO fF [] a da->bI f da=none)(hf:Tp.funcs[f]? =some fn)(hb:fn.body.isSome=true)(h:VI T fn js D d){T':eM}(UY:ic bI (k+d+1) T')(sU:T.Io f fn:=by exact trivial):ic bI (k+d+1) (T'.cG f λa=>dS (D a)):=
 KN UY λn a p s hs hp=>YS (n:=n+(k+d)) hf (sQ hb) (hn a p s hs hp) ((mD (tA (mM hT d n)) (zu hT.1 (λme e=>(lP hf hb sU me e).2.1) (mM hT d n)) (λme e=>⟨rfl,(lP hf hb sU me e).1,(lP hf hb sU me e).2.1⟩) _ (λe=>by obtain⟨me,e⟩:=tN.1 e;exact(lP hf hb sU me e).2.2) _ _ _ _ _ (cv _ (h a p s _ (d_some hs) hp))).mono λ_ _ _ hq=>K6 (λ_ _=>aih) hq)
theorem mg(tk:CX bI)(hT:ic bI k T){f:FuncId}{fn:Func}{js:List cJ}{D:cp->Dn}{d:Nat}(hne:f≠60/\f≠133/\f≠12/\f≠43/\f≠52)(hf:Tp.funcs[f]? =some fn)(hb:fn.body.isSome=true)(h:VI T fn js D d){T':eM}(UY:ic bI (k+d+1) T')(sU:T.Io f fn:=by exact trivial):ic bI (k+d+1) (T'.cG f λa=>dS (D a)):=
 mkJ hT (λ_ _ _ _ _ _ _=>tk.other _ _ hne.1 hne.2.1 hne.2.2.1 hne.2.2.2.1 hne.2.2.2.2) hf hb h UY sU
theorem FD(hT:ic bI k T){f:FuncId}{fn:Func}{js oy:List cJ}{D:cp->cp->Dn}{d:Nat}(hf:Tp.funcs[f]? =some fn)(hb:fn.body.isSome=true)(h:VC T fn js oy D d){T':eM}(UY:ic bI (k+d+1) T')(sU:T.Io f fn:=by exact trivial):ic bI (k+d+1) (T'.mB f λa c=>dS (D a c)):=
 ahr UY λn a cs p s hs hp=>Y7 (n:=n+(k+d)) hf (sQ hb) ((mD (tA (mM hT d n)) (zu hT.1 (λme e=>(lP hf hb sU me e).2.1) (mM hT d n)) (λme e=>⟨rfl,(lP hf hb sU me e).1,(lP hf hb sU me e).2.1⟩) _ (λe=>by obtain⟨me,e⟩:=tN.1 e;exact(lP hf hb sU me e).2.2) _ _ _ _ _ (cv _ (h a cs p s _ (d_some hs) hp))).mono λ_ _ _ hq=>K6 (λ_ _=>aii) hq)
theorem mkO(hT:ic bI k T){f:FuncId}{fn:Func}{e:TypeId}{D:cp->Dn}{d:Nat}(hf:Tp.funcs[f]? =some fn)(hb:fn.body.isSome=true)(h:VO T fn e D d){T':eM}(UY:ic bI (k+d+1) T')(sU:T.Io f fn:=by exact trivial):ic bI (k+d+1) (T'.aaI f e λa=>dS (D a)):=
 ahp UY λn a p s hs hp=>Yo (n:=n+(k+d)) hf (sQ hb) ((mD (tA (mM hT d n)) (zu hT.1 (λme e=>(lP hf hb sU me e).2.1) (mM hT d n)) (λme e=>⟨rfl,(lP hf hb sU me e).1,(lP hf hb sU me e).2.1⟩) _ (λe=>by obtain⟨me,e⟩:=tN.1 e;exact(lP hf hb sU me e).2.2) _ _ _ _ _ (cv _ (h a p s _ (d_some hs) hp))).mono λ_ _ _ hq=>K6 (λ_ _=>aid) hq)
theorem mkM(hT:ic bI k T){f:FuncId}{fn:Func}{js:List cJ}{D:cp->List cp->Dn}{d:Nat}(hf:Tp.funcs[f]? =some fn)(hb:fn.body.isSome=true)(h:VM T fn js D d){T':eM}(UY:ic bI (k+d+1) T')(sU:T.Io f fn:=by exact trivial):ic bI (k+d+1) (T'.IC f λa t=>dS (D a t)):=
 Vy UY λn a t p s hs hp=>YF (n:=n+(k+d)) hf (sQ hb) ((mD (tA (mM hT d n)) (zu hT.1 (λme e=>(lP hf hb sU me e).2.1) (mM hT d n)) (λme e=>⟨rfl,(lP hf hb sU me e).1,(lP hf hb sU me e).2.1⟩) _ (λe=>by obtain⟨me,e⟩:=tN.1 e;exact(lP hf hb sU me e).2.2) _ _ _ _ _ (cv _ (h a t p s _ (d_some hs) hp))).mono λ_ _ _ hq=>K6 (λ_ _=>aif) hq)
theorem mkN(tk:CX bI)(hT:ic bI k T){f:FuncId}{fn:Func}{oy:List cJ}{D:cp->Dn}{d:Nat}(hne:f≠60/\f≠133/\f≠12/\f≠43/\f≠52)(hf:Tp.funcs[f]? =some fn)(hb:fn.body.isSome=true)(h:VN T fn oy D d){T':eM}(UY:ic bI (k+d+1) T')(sU:T.Io f fn:=by exact trivial):ic bI (k+d+1) (T'.NQ f λa=>dS (D a)):=
 ahq UY λn a p s hs hp=>YA (n:=n+(k+d)) hf (sQ hb) (λ_=>tk.other _ _ hne.1 hne.2.1 hne.2.2.1 hne.2.2.2.1 hne.2.2.2.2) ((mD (tA (mM hT d n)) (zu hT.1 (λme e=>(lP hf hb sU me e).2.1) (mM hT d n)) (λme e=>⟨rfl,(lP hf hb sU me e).1,(lP hf hb sU me e).2.1⟩) _ (λe=>by obtain⟨me,e⟩:=tN.1 e;exact(lP hf hb sU me e).2.2) _ _ _ _ _ (cv _ (h a p s _ (d_some hs) hp))).mono λ_ _ _ hq=>K6 (λ_ _=>aie) hq)
def ng(α:Type):Prop:=([]:List α)=[]
theorem eW{α:Type}:ng α=True:=by simp[ng]
theorem gZ{b:Bool}{A B:Prop}:aB b A B↔(b=true->A)/\(b=false->B):=by cases b<;>simp[aB]
theorem bP{p:Prop}[Decidable p]{A B:Prop}:aB (decide p) A B↔(p->A)/\(¬p->B):=by rw[gZ];simp
theorem ek{b:Bool}{A B:Prop}:aB (!b) A B↔aB b B A:=by cases b<;>rfl
theorem cH{a c:Int}{A B:Prop}:aB (a==c) A B↔(a=c->A)/\(¬a=c->B):=by rw[gZ];simp
theorem dg{a c:Int}{A B:Prop}:aB (a !=c) A B↔(a=c->B)/\(¬a=c->A):=by rw[gZ];simp[and_comm]
end Go.Tv
