import Derived.Test.YtadeehilamokkaaGreatDoorPk10
set_option maxRecDepth 100000
namespace Go.Tv
open Go Go.Di Go.Proofs
variable {P:Program} {ty:fo} {tt:TypeId->cJ} {ι ι' w:kW} {S S':aj} {te:cp} {env:cn} {tS:cx} {aD Ig:bT} {call yA:bg} {yf ZC:dx} {B:cy}
theorem X3(h:bO ι te tS env S)(S2:aj):bO ι te (tS++[TB.none]) env (S++S2):=by
 have hlt:∀{k k'},ι k=some k'->k'<S.length:=λ{k k'} hk=>by obtain⟨b,h1,-⟩:=h.live hk;exact(aI.1 h1).1
 have hg:∀{k k'},ι k=some k'->(S++S2)[k']? =S[k']? :=λ{k k'} hk=>eD (hlt hk);have K:iY ι S ι (S++S2) λ_=>False:=λk k' _ hk=>⟨hk,dz (hg hk)⟩;have aR:∀{j b},(tS++[TB.none])[j]? =some b->b≠TB.none->tS[j]? =some b:=λ{j b} hj hb=>by rw[Rn]at hj;split at hj;exact hj;have:=bY hj;simp only[bX]at this;exact absurd this hb
 refine⟨bn K _ _ h.env,λk l hk=>?_,λk e s hk t ht=>?_,λk k' hk=>?_,h.inj,λk b hk t ht=>?_⟩;obtain⟨k',ds,n1,n2,n3⟩:=h.cells k l (aR hk ae);exact⟨k',ds,n1,(hg n1).trans n2,bn K _ _ n3⟩;obtain⟨n,h1⟩:=h.own k e s (aR hk ae) t ht;exact⟨n,(hg ht).trans h1⟩;obtain⟨b,h1,h2⟩:=h.qH k k' hk;exact⟨b,by rw[eD (aI.1 h1).1];exact h1,h2⟩;by_cases hb:b=.none;subst hb;trivial
 rw[hg ht];exact h.mp k b (aR hk hb) t ht
theorem Xh{f:Operand}{ps:Array Tmp}{ox body:Code}{rU g:FuncId}{fs cs:cp}{K:cx->Prop}{Q:DX->cp->cx->Prop}(hf:eL te f=some (.fn g fs cs))(hrf:Cu rU=some (ps.toList,ox,body))
  (hc:vI call g (fs++[.nN tS.length rU (fI tS te)]++cs) (tS++[.loop]) λ_ bK=>(bK[tS.length]? =some .loop/\(eM (fI tS te)++od bK).contains tS.length=false)/\K bK)
  (hq:∀bK,K bK->Q .normal (fI tS te) (bK.set tS.length .none)):WT P ty aD call yf B LL rU false (.rangeFunc f ps ox body) te tS Q:=by
 intro ι env S hR hB;obtain⟨d,k1,k2⟩:=bp hR.env hf;cases d<;>simp only[RT]at k2;rename_i g' xe iB;obtain⟨rfl,k3,k4⟩:=k2
 let r0:GA:=⟨.ready,none,rU,env,ps.toList,ox,body,S.length⟩
 have hid:(S++[DB.defer,.loop r0])[S.length+1]? =some (.loop r0):=by rw[fT ab];simp
 have hlt:∀{k k'},ι k=some k'->k'<S.length:=λ{k k'} hk=>by obtain⟨b,h1,-⟩:=hR.live hk;exact(aI.1 h1).1
 have hn:∀k,ι k≠some (S.length+1):=λk hk=>by have:=hlt hk;omega
 have MS:=Lb (k:=tS.length) (X3 hR [DB.defer,.loop r0]) ae hn hid ⟨rfl,rfl⟩;have aam:(tS++[TB.none]).set tS.length .loop=tS++[.loop]:=ae
 rw[aam]at MS;have hu:∀{j},j≠tS.length->upd ι tS.length (S.length+1) j=ι j:=λh=>if_neg h;have ajw:∀{j k'},ι j=some k'->j<tS.length:=λ{j k'} hj=>by obtain⟨b,h1,-⟩:=hR.qH j k' hj;exact(aI.1 h1).1
 have pU:∀j,jI tS j=true->upd ι tS.length (S.length+1) j=ι j:=λj hj=>hu λe=>by
  subst e;unfold jI at hj;split at hj;rename_i c h;have:=(aI.1 h).1;omega
  cases hj
 have hK0:iY ι S (upd ι tS.length (S.length+1)) (S++[DB.defer,.loop r0]) λ_=>False:=λk k' _ hk=>⟨by rw[hu (by have:=ajw hk;omega)];exact hk,dz (eD (hlt hk))⟩;have hA:cq (upd ι tS.length (S.length+1)) (S++[DB.defer,.loop r0]) (fs++[.nN tS.length rU (fI tS te)]++cs) (xe++[.nN (S.length+1)]++iB):=by refine eH (eH (bn hK0 _ _ k3) (aP ?_ bJ)) (bn hK0 _ _ k4);simp only[RT];exact⟨by simp[upd],_,_,_,env,S.length,hrf,hid,jN pU _ _ hR.env⟩
 obtain⟨d,S',ι',v,bK,a1,a2,a3,a4,a5,⟨a6,a7⟩,a8⟩:=hc _ _ _ ⟨hA,MS.cells,MS.own,MS.qH,MS.inj,MS.mp⟩;have nQ:∀{j l},tS[j]? =some (lQ l)->j∈dh 0 (tS++[TB.loop]):=λ{j l} h=>rB (c:=l) (by rw[eD (aI.1 h).1];exact h);have oT:ι' tS.length=some (S.length+1):=(a4.base tS.length (rB (c:=none) (by simp[lQ]))).trans (by simp[upd]);obtain⟨r,b1,b2,b3⟩:=a2.mp tS.length _ a6 _ oT;have hRf:bO ι' (fI tS te) bK env S':=⟨jN (λj hj=>by
  have h1:=pU j hj;unfold jI at hj;split at hj;rename_i c hc;rw[a4.base j (nQ (l:=some c) hc),h1]
  cases hj) _ _ hR.env,a2.cells,a2.own,a2.qH,a2.inj,a2.mp⟩
 have hno:∀j,Dz ι' tS.length j≠some (S.length+1):=λj hj=>by obtain⟨h1,h2⟩:=gd hj;exact h1 (a2.inj j _ _ h2 oT)
 have ad9:∀j∈B,j≠tS.length:=λj hj e=>by obtain⟨l,h1⟩:=hB j hj;have:=(aI.1 h1).1;omega
 have hRo:=A4 (b:=.loop {r with st:=.exhausted}) (Lc hRf a7) hno;have hS0:∀{j:Nat},j<S.length->(S++[DB.defer,.loop r0])[j]? =S[j]? :=λh=>eD h;have ac2:∀{j:Nat},j<S.length->(S'.set (S.length+1) (.loop {r with st:=.exhausted}))[j]? =S'[j]? :=λ{j} h=>by rw[aN,if_neg ab]
 refine⟨.normal,env,S'.set (S.length+1) (.loop {r with st:=.exhausted}),Dz ι' tS.length,fI tS te,bK.set tS.length .none,?_,hRo,λj hj=>?_,⟨λk' hl JR=>?_,λj k' hj=>?_,λj hj=>?_⟩,⟨?_,λj hj dU=>?_⟩,hq bK a8⟩;have hb:(r.st==LoopState.busy)=false:=by rw[b2];rfl
 simp only[cI,aJ,if_false,k1];rw[a1];simp only[b1,hb,aJ,if_false,b3];obtain⟨l,h1⟩:=hB j hj;obtain⟨l',h2⟩:=a3 j (nQ h1);exact⟨l',by rw[aN,if_neg λe=>ad9 j hj e.symm];exact h2⟩;have Cw:k'<S.length:=by obtain⟨b,h1,-⟩:=hl;exact(aI.1 h1).1
 rw[ac2 Cw,a4.rest k' (by obtain⟨b,h1,h2⟩:=hl;exact⟨b,(hS0 Cw).trans h1,h2⟩) λj hj=>?_,hS0 Cw];by_cases e:j=tS.length;subst e;simp only[upd,if_true,aF]at hj;omega;rw[hu e]at hj;exact JR j hj
 obtain⟨h1,h2⟩:=gd hj;rcases a4.ours j k' h2 with ⟨i,hi⟩|h3;by_cases e:i=tS.length;subst e;simp only[upd,if_true,aF]at hi;exact absurd (hi▸hj) (hno j);rw[hu e]at hi;exact .inl ⟨i,hi⟩
 refine .inr λhl=>h3 ?_;obtain⟨b,h4,h5⟩:=hl;exact⟨b,(hS0 (aI.1 h4).1).trans h4,h5⟩;obtain⟨l,h1⟩:=hB j hj;rw[yR (ad9 j hj),a4.base j (nQ h1),hu (ad9 j hj)];have:=a5.1;simp only[cL,List.length_set]at this⊢;omega;have Cw:=(aI.1 dU).1;rw[ac2 Cw];exact a5.2 j (by simp only[cL];omega) ((hS0 Cw).trans dU)
end Go.Tv
namespace Go.Tv
open Go Go.Di Go.Proofs
variable {P:Program} {ty:fo} {tt:TypeId->cJ} {T:ij} {ι ι' w:kW} {S S':aj} {te mh:cp} {env:cn} {tS iq:cx} {aD:bT} {call:bg} {yf:dx} {o:Oper} {aB nT:Nat} {B:cy} {r:TR} {ops:Array Oper} {fn:FuncId} {iH:Bool} {fs:cY}
def LA.St:LA->Type
 |.ex α k=>(x:α)×(k x).St
 |.st _=>Unit
 |.un _=>Empty
 |.dep _=>Empty
 |.pe _ _=>Empty
def LA.bd:(la:LA)->la.St->Bd
 |.ex _ k,⟨x,s⟩=>(k x).bd s
 |.st b,_=>b
theorem yN{K:Bd->Prop}:∀{la:LA},la.some K->∃s:la.St,K (la.bd s)
 |.ex _ k,⟨x,h⟩=>by obtain⟨s,h1⟩:=yN (la:=k x) h;exact⟨⟨x,s⟩,h1⟩
 |.st b,h=>⟨(),h⟩
 |.un _,h=>h.elim
 |.dep _,h=>h.elim
 |.pe _ _,h=>h.elim
theorem PC{K:Bd->Prop}:∀{la:LA},la.all K->∀s:la.St,K (la.bd s)
 |.ex _ _,h,⟨x,s⟩=>PC (h x) s
 |.st _,h,_=>h
theorem YY{b:Bd}{keep:Nat}{K:Prop}(h:W9 B b keep te tS K):Fits B (ot b.sl keep 0 te) (yy b tS) te tS/\cV b.gV/\K:=by obtain⟨h0,h⟩:=iL h;simp only[aC]at h0;obtain⟨l1,e1,k1,h⟩:=mc h;obtain⟨l2,e2,k2,h⟩:=mc h;obtain⟨h3,h4⟩:=iE h;exact⟨⟨zD e1 k1,iC e2 k2,h0.1,λk hk=>aU.1 h0.2 k hk⟩,h3,h4⟩
theorem Rh{b:Bd}{K:Prop}(h:Wc B mh iq b te tS K):Fits B mh iq te tS/\cV b.gV/\K:=by obtain⟨h0,h⟩:=iL h;simp only[aC]at h0;obtain⟨l1,e1,k1,h⟩:=mc h;obtain⟨l2,e2,k2,h⟩:=mc h;obtain⟨h3,h4⟩:=iE h;exact⟨⟨yM e1 k1,abN e2 k2,h0.1,λk hk=>aU.1 h0.2 k hk⟩,h3,h4⟩
theorem Vv{N:Nat}{c:Code}{Q:DX->cp->cx->Prop}{K:cp->cx->Prop}{f:cp->cx->(cp->cx->Prop)->Prop}(hf:∀te tS K',f te tS K'->WT P ty aD call yf B LL fn iH c te tS λe te tS=>match e with|.normal=>K' te tS|e=>Q e te tS)(hK:∀te tS,K te tS->WI P ty aD call yf B LL fn iH N c te tS Q):
  ∀(n:Nat)(te:cp)(tS:cx),unK f K n te tS->WI P ty aD call yf B LL fn iH (N+n) c te tS Q
 |0,te,tS,h=>hK te tS h
 |n+1,te,tS,h=>aaX ((hf te tS _ h).mono λe te tS hq=>by
   cases e with
   |normal=>exact Vv hf hK n te tS hq
   |exit id=>exact hq
   |ret=>exact hq)
theorem aaY{n m:Nat}{c:Code}{Q:DX->cp->cx->Prop}(hn:n<=m)(h:WI P ty aD call yf B LL fn iH n c te tS Q):WI P ty aD call yf B LL fn iH m c te tS Q:=by intro ι env S hR hB;obtain⟨e,aL,S',ι',bS,bK,h1,h2⟩:=h ι env S hR hB;exact⟨e,aL,S',ι',bS,bK,Bg hn h1,h2⟩
theorem K5{x:Operand}{v:Bool}{K:cp->Prop}(hx:eL te x=some (.val (.bool v)))(h:VB x te v K):K te:=by
 cases x with
 |tmp t=>
  simp only[eL,aF]at hx;have:=qo te t _ (h:FK te t _ K)
  rwa [pJ]at this
  rw[aK]at hx;cases e:te[t]? with
  |none=>rw[e]at hx;cases hx
  |some a=>rw[e]at hx;exact congrArg some hx
 |_=>exact h
variable {inl:Inl}
theorem Sb(hT:ql T aD call)(hI:wR P ty call yf T inl){id:Nat}{draw:Bool}{J:List (Nat×LA)}{i lv:Nat}{Q:DX->cp->cx->Prop}(h:x5 P ty tt T inl B J (.region id ops draw) i lv te tS Q):WT P ty aD call yf B LL fn iH (.region id ops draw) te tS Q:=by simp only[x5]at h;split at h;split at h;rename_i hn;obtain⟨hd,h⟩:=iL h;refine Xm hd hn ?_;exact DM (md:=2) (n0:=tS.length) (mU:=tS) (Q:=λte tS=>Q .normal te (o8 tS)) hT hI ab (λte tS fs hk=>by obtain⟨hm,hk⟩:=iL hk;exact aeH (ai _) hm (cD _ (K:=λtS=>Q .normal te tS) hk)) ops.toList 0 te _ [] rfl (cD _ (K:=λmU=>qd P ty tt T inl 2 tS.length ops ops.toList 0 te mU [] λte tS fs=>bM (tR (Region.before ops) fs) (bP (o8 tS) λtS=>Q .normal te tS) False) h);rename_i hn;obtain⟨hd,h⟩:=iL h;refine Xi hd hn ?_;exact DM (B:=B) (md:=1) (n0:=0) (mU:=tS) (Q:=λte tS=>Q .normal te tS) hT hI ab (λte tS fs hk _=>Wm (ai _) hk) ops.toList 0 te _ [] rfl h rfl;refine Xk ?_;exact DM (md:=0) (n0:=0) (mU:=tS) (Q:=λte tS=>Q .normal te (o8 tS)) hT hI ab (λte tS fs hk=>aeD (ai _) (cD _ (K:=λtS=>Q .normal te tS) hk)) ops.toList 0 te _ [] rfl h
theorem SY{c:Code}(h:NM P c=some ops):wI P ops=false/\∃id,c=.region id ops true:=by
 unfold NM at h;split at h;split at h;cases h;rename_i hl;cases h;exact⟨Bool.eq_false_iff.2 hl,_,rfl⟩
 cases h
theorem E0{env:cn}{dst:Option Tmp}{v:DV}{i:Nat}(h:dst≠some i):(j4 env dst v)[i]? =env[i]? :=by
 cases dst with
 |none=>rfl
 |some d=>simp only[j4];rw[aN,if_neg (λe=>h (by rw[e]))]
theorem AX{i:Nat}:∀{l:List Oper}{env aL:cn},qI P ty aD call yf ops S l env=some aL->(∀o∈l,o.dst≠some i)->aL[i]? =env[i]?
 |[],env,aL,h,_=>by cases h;rfl
 |o::l,env,aL,h,hd=>by simp only[qI]at h;split at h;split at h;rw[AX h λo' nP=>hd o' (nt _ nP),E0 (hd o (gO ..))];cases h;rw[AX h λo' nP=>hd o' (nt _ nP),E0 (hd o (gO ..))]
theorem afj{u v:TV}{d:DV}(h:LeV u v)(hd:RT ι S v d):RT ι S u d:=by obtain⟨_,_,e,h1,-⟩:=ax (NR (h [] [] .nil) (kI hd));cases e;exact h1
theorem xU{sl:List (Nat×TV)}{keep:Nat}:∀{i:Nat}{te bS:cp}{env aL:cn}{l:List Prop},cq ι S te env->cq ι S bS aL->bS.length=te.length->wL sl i bS=some l->cV l->(∀j,keep.testBit (i+j)=true->aL[j]? =env[j]?)->cq ι S (ot sl keep i te) aL
 |_,[],[],_,_,_,_,h2,_,_,_,_=>by rw[aO h2];exact bJ
 |i,v::te,v'::bS,env,aL,l,h1,h2,hn,hp,hc,hk=>by
  obtain⟨d,m,rfl,a1,a2⟩:=ax h1;obtain⟨d',m',rfl,b1,b2⟩:=ax h2;have JR:bS.length=te.length:=by simpa using hn
  have oT:∀j,keep.testBit (i+1+j)=true->m'[j]? =m[j]? :=λj hj=>by have:=hk (j+1) (by rw[<-fS,Nat.add_right_comm];exact hj);simpa using this
  simp only[wL]at hp;simp only[ot];split at hp;rename_i p UM;split at hp;rename_i x y e1 e2;cases hp;obtain⟨k1,k2⟩:=jQ hc;exact aP (afj (IB e1 k1) b1) (xU a2 b2 JR e2 k2 oT);cases hp;refine aP ?_ (xU a2 b2 JR hp hc oT);split;rename_i hb;have:=hk 0 hb;simp only[dH,aF]at this;rw[this];exact a1
  simp only[RT]
 |_,[],_::_,_,_,_,_,_,hn,_,_,_=>by simp at hn
 |_,_::_,[],_,_,_,_,_,hn,_,_,_=>by simp at hn
theorem D9:∀{l:List Oper}{env aL:cn},qI P ty aD call yf ops S l env=some aL->aL.length=env.length
 |[],env,aL,h=>by cases h;rfl
 |o::l,env,aL,h=>by
  have hp:∀(dst:Option Tmp)(v:DV),(j4 env dst v).length=env.length:=λdst v=>by cases dst<;>simp[j4]
  simp only[qI]at h;split at h;split at h;rw[D9 h,hp];cases h;rw[D9 h,hp]
theorem Xj{id:Nat}{b:Code}{Q:DX->cp->cx->Prop}{la:LA}{keep:Nat}(hd:lR ops (Region.before ops)=true)(hl:wI P ops=false)(hk:WU keep ops=true)
  (h1:WQ P ty aD call yf ops tS 0 te λbS=>la.some λbd=>ask (wL bd.sl 0 bS) (Aq bd.gV True))
  (h2:∀s:la.St,cV (la.bd s).gV->WT P ty aD call yf B LL fn iH b (ot (la.bd s).sl keep 0 te) tS Q):WT P ty aD call yf B LL fn iH (.seq (.region id ops true) b) te tS Q:=by
 intro ι env S hR hB;obtain⟨aL,bS,k1,k2,k3⟩:=h1 ι env S hR;rw[qy]at k1;obtain⟨s,hs⟩:=yN k3;obtain⟨l,e1,e2,e3⟩:=mc hs;obtain⟨e3,-⟩:=iE e3;have MS:bO ι (ot (la.bd s).sl keep 0 te) tS aL S:=by refine⟨xU hR.env k2.env ?_ e1 e2 λj hj=>?_,k2.cells,k2.own,k2.qH,k2.inj,k2.mp⟩;rw[<-gY k2.env,<-gY hR.env,D9 k1];refine AX k1 λo ho e=>?_;have:=aU.1 hk o ho;rw[eO]at hj;rw[e]at this;simp only[hj]at this;cases this
 obtain⟨e,q8,xh,ι'',tK,tL,m1,m2,m3,m4,m5,m6⟩:=h2 s e3 ι aL S MS hB;refine⟨e,q8,xh,ι'',tK,tL,?_,m2,m3,m4,m5,m6⟩;have:cI P ty aD call yf LL fn iH (.region id ops true) env S=some (.normal,aL,S):=by simp only[wI,Bool.or_eq_false_iff]at hl;simp only[cI,qp,lY,Kk,kM,Bool.false_and,gq,if_true,hd,hl.2,fR,aJ,if_false,k1,ay]
 rw[cI,this];exact m1
theorem vI.mono {g:FuncId}{A:cp}{K K':TV->cx->Prop}(h:vI call g A tS K)(hk:∀v t,K v t->K' v t):vI call g A tS K':=λι bV S hR=>by obtain⟨d,S',ι',v,bK,h1,h2,h3,h4,h5,h6⟩:=h ι bV S hR;exact⟨d,S',ι',v,bK,h1,h2,h3,h4,h5,hk _ _ h6⟩
theorem aeB{n:Nat}{c:Code}{Q:DX->cp->cx->Prop}(h:WT P ty aD call yf B LL fn iH c te tS λe te tS=>Q e te (RL n tS)):WT P ty aD call yf B LL fn iH c te tS Q:=λι env S hR hB=>by obtain⟨e,aL,S',ι',bS,bK,h1,h2,h3,h4,h5,h6⟩:=h ι env S hR hB;refine⟨e,aL,S',ι',bS,RL n bK,h1,?_,λk hk=>?_,h4,h5,h6⟩;have:=Qp h2 (n-bK.length) 0;simpa [RL]using this;obtain⟨l,hl⟩:=h3 k hk;exact⟨l,by unfold RL;rw[eD (aI.1 hl).1];exact hl⟩
theorem nD(hT:ql T aD call)(hI:wR P ty call yf T inl)(hm:∀me,inl.me=some me->iH=false/\fn=me/\Cu me=some T.yp){J:List (Nat×LA)}:∀(c:Code),(inl.me.isSome=true->DG T.yp c)->∀(i lv:Nat)(te:cp)(tS:cx)(Q:DX->cp->cx->Prop),x5 P ty tt T inl B J c i lv te tS Q->WT P ty aD call yf B LL fn iH c te tS Q
 |.skip,_,_,_,_,_,_,h=>aaO h
 |.label _,_,_,_,_,_,_,h=>Xl h
 |.exit _,_,_,_,_,_,_,h=>aaR h
 |.ret,_,_,_,_,_,_,h=>aeA h
 |.scope c,hr,i,lv,te,tS,Q,h=>Xg (nD hT hI hm c hr i lv te tS Q h)
 |.block id c,hr,i,lv,te,tS,Q,h=>by
  refine Xn ((nD hT hI hm c hr i lv te tS _ h).mono λe te tS hq=>?_);cases e with
  |normal=>exact hq
  |ret=>exact hq
  |exit iG=>grind
 |.cond x a b,hr,i,lv,te,tS,Q,h=>by
  simp only[x5]at h;split at h;rename_i t hx;obtain⟨h1,h2⟩:=vJ h;refine aaS hx (λe=>?_) (λe=>?_);subst e;exact nD hT hI hm a (λe=>(hr e).1) i lv te tS Q (K5 hx (h1 rfl))
  subst e;exact nD hT hI hm b (λe=>(hr e).2) (i+cnt a) lv te tS Q (K5 hx (h2 rfl))
  grind
 |.seq a b,hr,i,lv,te,tS,Q,h=>by
  simp only[x5]at h;split at h;rename_i la _;split at h;rename_i ops hq;obtain⟨h1,h2⟩:=h;obtain⟨hl,id,rfl⟩:=SY hq;obtain⟨h0,h1⟩:=iL h1;simp only[aC]at h0;refine Xj (la:=la) h0.1 hl h0.2 ?_ λs hg=>nD hT hI hm b (λe=>(hr e).2) _ lv _ _ Q (cC _ (mL (PC h2 s) hg));exact DM (B:=B) (md:=1) (n0:=0) (mU:=tS) (Q:=λbS _=>la.some λbd=>ask (wL bd.sl 0 bS) (Aq bd.gV True)) hT hI ab (λbS bK fs hk _=>Wm (ai _) hk) ops.toList 0 te _ [] rfl h1 rfl;obtain⟨h1,h2⟩:=h;refine aaQ (λs:la.St=>(ot (la.bd s).sl ((lv|||nA b)&&&(2^400-1-(defs a))) 0 te,yy (la.bd s) tS)) (λs=>cV (la.bd s).gV) ((nD hT hI hm a (λe=>(hr e).1) (i+1) (lv|||nA b) te tS _ h1).mono λe bS bK hq=>?_) λs hg=>nD hT hI hm b (λe=>(hr e).2) (i+1+cnt a) lv _ _ Q (cD _ (cC _ (mL (PC h2 s) hg)));cases e with
  |normal=>obtain⟨s,hs⟩:=yN hq;obtain⟨k1,k2,-⟩:=Rh hs;exact⟨s,k1,k2⟩
  |exit id=>exact hq
  |ret=>exact hq
  refine Wl ((nD hT hI hm a (λe=>(hr e).1) (i+1) (lv|||nA b) te tS _ h).mono λe te tS hq=>?_);cases e with
  |normal=>exact nD hT hI hm b (λe=>(hr e).2) _ _ te tS Q hq
  |exit id=>exact hq
  |ret=>exact hq
 |.loop c,hr,i,lv,te,tS,Q,h=>by
  simp only[x5]at h;split at h;rename_i la _;have hF:∀te tS (K':cp->cx->Prop),x5 P ty tt T inl B J c (i+1) (lv|||nA c) te tS (λe te tS=>match e with
   |.normal=>K' te tS
   |.exit id=>Q (.exit id) te tS
   |.ret=>Q .ret te tS)->WT P ty aD call yf B LL fn iH c te tS λe te tS=>match e with|.normal=>K' te tS|e=>Q e te tS:=λte tS K' hf=>(nD hT hI hm c hr _ _ te tS _ hf).mono λe te tS hq=>by cases e<;>exact hq
  refine Sa (n:=1000000+min la.acU 1000) (by unfold LL;omega) (Vv hF (λte tS h=>?_) _ te tS h);generalize la.inner.at te tS=la at h;split at h;exact aaY ab (Vv (N:=0) hF (λ_ _ h=>h.elim) _ te tS h);obtain⟨h1,h2⟩:=h;obtain⟨s0,h1⟩:=yN h1;obtain⟨k1,k2,k3⟩:=YY h1;refine aaZ (λs:la.St=>(ot (la.bd s).sl ((lv|||nA c)&&&(2^400-1-(defs c))) 0 te,yy (la.bd s) tS)) (λs=>cV (la.bd s).gV) (λs=>(la.bd s).m) s0 k1 k2 k3 λs hg=>(nD hT hI hm c hr (i+1) (lv|||nA c) _ _ _ (cD _ (cC _ (mL (PC h2 s) hg)))).mono λe bS bK hq=>?_;cases e with
  |normal=>obtain⟨s',hs⟩:=yN hq;obtain⟨k1,k2,k3⟩:=Rh hs;exact⟨s',k1,k2,k3⟩
  |exit id=>exact hq
  |ret=>exact hq
  grind
 |.region id ops draw,hr,i,lv,te,tS,Q,h=>Sb hT hI h
 |.rangeFunc f ps ox body,hr,i,lv,te,tS,Q,h=>by
  simp only[x5]at h;split at h;rename_i me g fs cs x6 hf;obtain⟨rfl,rfl,hy⟩:=hm me x6;have F7:(ps.toList,ox,body)=T.yp:=hr (by rw[x6];rfl);split at h;rename_i tF j hx;refine Xh (K:=λbK=>cO (fI tS te) λte=>bP (bK.set tS.length .none) λtS=>Q .normal te tS) hf (F7▸hy) ((hI.c g tF j _ _ _ hx h).mono λv bK hk=>?_) λbK hk=>cD _ (K:=λtS=>Q .normal _ tS) (cC _ (K:=λte=>bP (bK.set _ .none) λtS=>Q .normal te tS) hk);obtain⟨h0,hk⟩:=iL hk;simp only[aC,oH]at h0;refine⟨⟨?_,h0.2⟩,hk⟩;have:=h0.1;unfold WR at this;split at this;assumption;cases this
  grind
  grind
 |.goto _,_,_,_,_,_,_,h=>(by simp only[x5]at h)
 |.refuse _,_,_,_,_,_,_,h=>(by simp only[x5]at h)
theorem CZ{K K':TV->cp->List Prop->Prop}(hK:∀v cs f,K v cs f->K' v cs f):∀{s:tG},s.some K->s.some K'
 |.ex _ k,⟨x,h⟩=>⟨x,CZ (s:=k x) hK h⟩
 |.res _ _ _,h=>hK _ _ _ h
theorem Wa{F:cp->cx->Prop}{E:DX->cp->cx->Prop}(h1:∀te tS,F te tS->E .normal te tS/\E .ret te tS):∀{e:DX}{te:cp}{tS:cx},Nu F e te tS->E e te tS
 |.normal,_,_,h=>(h1 _ _ h).1
 |.ret,_,_,h=>(h1 _ _ h).2
 |.exit _,_,_,h=>h.elim
theorem ahB{rs:List ResultVar}{lE:List cJ}{s:tG}(h:aed ty rs lE s te tS):aet ty rs lE (λv=>s.uo v) .normal te tS/\aet ty rs lE (λv=>s.uo v) .ret te tS:=by
 unfold aed at h;split at h;rename_i vs hv;have h:=cC (yj tS vs) (K:=λvs=>bM (vs.all eu&&(refs (kC (bL lE vs))).isEmpty) (s.some λv _ facts=>ask (Zt (kC (bL lE vs)) v) (cV facts)) False) h;obtain⟨h0,h⟩:=iL h;simp only[aC,Dd]at h0;have:∃vs,xo ty te tS rs=some vs/\(yj tS vs).all eu=true/\refs (kC (bL lE (yj tS vs)))=[]/\s.uo (kC (bL lE (yj tS vs))):=by refine⟨vs,hv,h0.1,h0.2,CZ (λv cs f hk=>?_) h⟩;obtain⟨l,h1,h2,h3⟩:=mc hk;exact⟨DU h1 h2,h3⟩
 exact⟨⟨trivial,this⟩,trivial,this⟩
 grind
theorem ahC{rs:List ResultVar}{lE nM:List cJ}{s:tG}(h:aee ty rs lE nM s te tS):Vt ty rs lE nM (λv cs=>s.holds v cs) .normal te tS/\Vt ty rs lE nM (λv cs=>s.holds v cs) .ret te tS:=by
 unfold aee at h;split at h;rename_i vs ts l hv;obtain⟨h0,h⟩:=iL h;simp only[aC,Dd]at h0;have:s.holds (kC (bL lE vs)) (bL nM ts):=by refine CZ (λv cs f hk=>?_) h;obtain⟨l,h1,h2,hk⟩:=mc hk;obtain⟨l',h3,h4,h5⟩:=mc hk;exact⟨DU h1 h2,uq h3 h4,h5⟩
 exact⟨⟨trivial,vs,ts,hv,h0.1.1,h0.1.2,rfl,h0.2.1,h0.2.2,this⟩,trivial,vs,ts,hv,h0.1.1,h0.1.2,rfl,h0.2.1,h0.2.2,this⟩
 grind
theorem Yz{nM:List cJ}{ts:cp}:VL nM ts=bL nM ts:=by unfold VL;split;split<;>rfl;rfl
theorem ahA{rs:List ResultVar}{nM:List cJ}{s:tG}(h:aec ty rs nM s te tS):aes ty rs nM (λcs=>s.AD cs) .normal te tS/\aes ty rs nM (λcs=>s.AD cs) .ret te tS:=by
 unfold aec at h;split at h;rename_i ts l hv;obtain⟨h0,h⟩:=iL h;simp only[aC,Dd]at h0;have:s.AD (bL nM ts):=by refine CZ (λv cs f hk=>?_) h;obtain⟨l',h3,h4,h5⟩:=mc hk;exact⟨Yz▸uq h3 h4,h5⟩
 exact⟨⟨trivial,ts,hv,rfl,h0.1,h0.2,this⟩,trivial,ts,hv,rfl,h0.1,h0.2,this⟩
 grind
theorem afd:∀{vs:cp}{ds:cn},cq ι S vs ds->RT ι S (kC vs) (oneOf ds)
 |[],ds,h=>by rw[aO h];simp only[kC,oneOf,RT];exact bJ
 |[v],ds,h=>by obtain⟨d,m',rfl,h1,h2⟩:=ax h;rw[aO h2];exact h1
 |v::u::l,ds,h=>by obtain⟨d,m',rfl,h1,h2⟩:=ax h;obtain⟨d',m'',rfl,h3,h4⟩:=ax h2;simp only[kC,oneOf,RT];exact aP h1 (aP h3 h4)
def XOK(P:Program)(T:ij):Prop:=∀g fn j,T.X g=some (fn,j)->P.funcs[g]? =some fn/\fn.body.isSome=true
def Lev(P:Program)(ty:fo)(T:ij):Nat->bT->bg->dx->Prop
 |0,aD,call,_=>ql T aD call
 |d+1,aD,call,yf=>ql T aD call/\∃Vg KD yf',((∀g fn,P.funcs[g]? =some fn->∀a S,call g a S=wO P ty Vg KD yf' LL g fn a S)/\yf=um P ty Vg KD yf' LL)/\Lev P ty T d Vg KD yf'
theorem yL{d:Nat}(h:Lev P ty T d aD call yf):ql T aD call:=by
 cases d with
 |zero=>exact h
 |succ d=>exact h.1
theorem aey{adN:bT}{PU:bg}{yfI:dx}(hT:ql T adN PU)(hI:wR P ty PU yfI T inl)(hm:inl.me=none)(hy:∀me,T.me=some me->Cu me=some T.yp){k:Nat}{rU:FuncId}{Ac xs:cp}{K:cx->Prop}(h:adx P ty tt T inl k rU Ac xs tS K):∃ps ox body,Cu rU=some (ps,ox,body)/\xs.length=ps.length/\(eM (oc Ac (ps.zip xs))++od tS).contains k=false/\WT P ty adN PU yfI (nY k tS) LL rU true ox (oc Ac (ps.zip xs)) (tS.set k .none) λe mh iq=>e=.normal/\WT P ty adN PU yfI (nY k tS) LL rU true body mh iq λe _ jA=>e=.normal/\jA[k]? =some .none/\K jA:=by
 have J5:∀me,inl.me=some me->true=false/\rU=me/\Cu me=some T.yp:=λ_ e=>by rw[hm]at e;cases e
 have hn:∀c,inl.me.isSome=true->DG T.yp c:=λ_ e=>by rw[hm]at e;cases e
 unfold adx at h;split at h;rename_i me ps ox body h1 h2;obtain⟨h0,hv⟩:=iL h;clear h;simp only[aC,dQ,oH]at h0;obtain⟨⟨rfl,h3⟩,h4⟩:=h0;refine⟨ps,ox,body,h2▸hy _ h1,h3,h4,?_⟩;refine(nD hT hI J5 ox (hn _) _ _ _ _ _ (cD _ (cC _ hv))).mono λe mh iq hk=>?_;cases e with
 |normal=>
  refine⟨rfl,aeB (n:=tS.length) ((nD hT hI J5 body (hn _) _ _ _ _ _ hk).mono λe UF jA hk=>?_)⟩;cases e with
  |normal=>
   replace hk:aeh k (RL tS.length jA) K:=hk
   unfold aeh at hk;split at hk
   grind
   grind
  |exit _=>exact hk.elim
  |ret=>exact hk.elim
 |exit _=>exact hk.elim
 |ret=>exact hk.elim
 grind
theorem IF(hX:XOK P T)(hy:∀me,T.me=some me->Cu me=some T.yp):∀(d:Nat){aD:bT}{call:bg}{yf:dx},Lev P ty T d aD call yf->wR P ty call yf T (RP P ty tt T d)
 |0,_,_,_,_=>⟨λ_ _ _ _ _ _ _ h=>h.elim,λ_ _ _ _ _ _ h=>h.elim⟩
 |d+1,aD,call,yf,hL=>by
  obtain⟨-,Vg,KD,yf',⟨hb,hyf⟩,RB⟩:=hL;have hm0:(RP P ty tt T d).me=none:=by cases d<;>rfl
  refine⟨?_,λk rU Ac xs tS K h=>by obtain⟨ps,ox,body,h1,h2,h3,h4⟩:=aey (yL RB) (IF hX hy d RB) hm0 hy h;exact⟨ps,ox,body,Vg,KD,yf',h1,hyf,h2,h3,h4⟩⟩;intro g fn j A tS K hx hi ι bV S hR;obtain⟨hf,hs⟩:=hX g fn j hx;have hw:=nD (fn:=g) (iH:=false) (yf:=yf') (yL RB) (IF hX hy d RB) (λ_ e=>by rw[hm0]at e;cases e) _ (λe=>by rw[hm0]at e;cases e) _ _ _ _ _ (cC _ hi);have hlen:=gY hR.env;have j3:bO ι (Nh fn.ntmps A) tS (bV++List.replicate (fn.ntmps-bV.length) bD) S:=
   ⟨eH hR.env (by rw[hlen];exact yI _ _),hR.cells,hR.own,hR.qH,hR.inj,hR.mp⟩
  obtain⟨e,aL,S',ι',bS,bK,h1,h2,h3,h4,h5,h6⟩:=hw ι _ S j3 WV;have key:aeb ty fn.results.toList K bS bK->(e=.normal\/e=.ret)->∃d S' ι' v bK,call g bV S=some (d,S')/\bO ι' [v] bK [d] S'/\oy (dh 0 tS) bK/\Fr (dh 0 tS) ι S ι' S'/\Nn S.length S S'/\K v bK:=by
   intro hk he;unfold aeb at hk;split at hk;rename_i vs hv;obtain⟨ds,k1,k2⟩:=yJ h2 hv;refine⟨oneOf ds,S',ι',kC vs,bK,?_,⟨kI (afd k2),h2.cells,h2.own,h2.qH,h2.inj,h2.mp⟩,h3,h4,h5,hk⟩;rw[hb g fn hf];unfold qj at h1;simp only[wO];cases hc:fn.body with
   |none=>rw[hc]at hs;cases hs
   |some c=>grind
   grind
  cases e with
  |normal=>exact key h6 (.inl rfl)
  |ret=>exact key h6 (.inr rfl)
  |exit id=>exact h6.elim
def vcI(T:ij)(d:Nat)(f:Func)(lE:List cJ)(J:List (Nat×LA))(a:cp)(s:tG):Prop:=cO (Nh f.ntmps a) λte=>x5 Tp Ty Zk T (RO Tp Ty Zk T d) [] J (qj f) 0 (vn f.results.toList) te [] (Nu (aed Ty f.results.toList lE s))
def afZ(T:ij)(d:Nat)(f:Func)(lE nM:List cJ)(J:List (Nat×LA))(a cs:cp)(s:tG):Prop:=cO (Nh f.ntmps a) λte=>x5 Tp Ty Zk T (RO Tp Ty Zk T d) [0] J (qj f) 0 (vn f.results.toList) te [.cells cs] (Nu (aee Ty f.results.toList lE nM s))
def vcN(T:ij)(d:Nat)(f:Func)(nM:List cJ)(J:List (Nat×LA))(a:cp)(s:tG):Prop:=cO (Nh f.ntmps a) λte=>x5 Tp Ty Zk T (RO Tp Ty Zk T d) [] J (qj f) 0 (vn f.results.toList) te [] (Nu (aec Ty f.results.toList nM s))
def vcO(T:ij)(d:Nat)(f:Func)(J:List (Nat×LA))(a:cp)(e:TypeId)(s:tG):Prop:=cO (Nh f.ntmps a) λte=>x5 Tp Ty Zk T (RO Tp Ty Zk T d) [] J (qj f) 0 (vn f.results.toList) te [] (Nu (ajN Ty f.results.toList e s))
def vcM(T:ij)(d:Nat)(f:Func)(lE:List cJ)(J:List (Nat×LA))(a:cp)(t:List cp)(s:tG):Prop:=cO (Nh f.ntmps a) λte=>x5 Tp Ty Zk T (RO Tp Ty Zk T d) (List.range t.length) J (qj f) 0 (vn f.results.toList) te (t.map .cells) (Nu (ajO Ty f.results.toList lE t.length s))
def oU(cF:bT)(k:Nat)(T:ij):Prop:=XOK Tp T/\∀n,ql T (Ka cF (n+k)) (DZ cF (n+k))
def ij.jF (T:ij)(f:FuncId)(S:cp->Sp):ij:={T with I:=λg a=>if g=f then S a else T.I g a}
def ij.CB (T:ij)(f:FuncId)(S:cp->cp->Sp):ij:={T with C:=λg a c=>if g=f then S a c else T.C g a c}
def ij.aaH (T:ij)(f:FuncId)(S:cp->Sp):ij:={T with N:=λg a=>if g=f then S a else T.N g a}
def ij.akG (T:ij)(f:FuncId)(e:TypeId)(S:cp->Sp):ij:={T with O:=λg a=>if g=f then(S a).map λx=>(x.1,e,x.2)else T.O g a}
def ij.akH (T:ij)(f:FuncId)(S:cp->List cp->Sp):ij:={T with M:=λg a t=>if g=f then S a t else T.M g a t}
def ij.aen (T:ij)(f:FuncId)(fn:Func)(j:List (Nat×LA)):ij:={T with X:=λg=>if g=f then some (fn,j)else T.X g}
variable {cF:bT} {k:Nat}
theorem mC(h:oU cF k T):oU cF (k+1) T:=⟨h.1,λn=>by have:=h.2 (n+1);rwa [Nat.add_right_comm,fS]at this⟩
theorem sx(h:oU cF k T):∀(d n:Nat),Lev Tp Ty T d (Ka cF (n+(k+d))) (DZ cF (n+(k+d))) (yfT cF (n+(k+d)))
 |0,n=>h.2 n
 |d+1,n=>by
  refine⟨?_,Ka cF (n+(k+d)),DZ cF (n+(k+d)),yfT cF (n+(k+d)),⟨λg fn hf a S=>?_,?_⟩,sx h d n⟩;have:=h.2 (n+(d+1));rwa [fS,yU (d+1) k]at this
  rw[show n+(k+(d+1))=(n+(k+d))+1 by omega];simp only[BI,dZ,hf];rfl;rw[show n+(k+(d+1))=(n+(k+d))+1 by omega];rfl
def ij.RN (T:ij)(f:FuncId)(fn:Func):Prop:=
 match T.me with
 |none=>True
 |some g=>g=f/\vz (qj fn)=some T.yp/\DG T.yp (qj fn)
theorem s7{f:FuncId}{fn:Func}(hf:Tp.funcs[f]? =some fn)(hb:fn.body.isSome=true)(h:T.RN f fn):∀me,T.me=some me->f=me/\Cu me=some T.yp/\DG T.yp (qj fn):=λme e=>by
 unfold ij.RN at h;rw[e]at h;obtain⟨rfl,h1,h2⟩:=h;refine⟨rfl,?_,h2⟩;have hf':Tryz.prog.funcs[me]? =some fn:=hf;unfold qj at h1;unfold Cu;rw[hf'];cases hc:fn.body with
 |none=>rw[hc]at hb;cases hb
 |some c=>rw[hc]at h1;simpa [hc]using h1
theorem Jl(hX:XOK P T)(hy:∀me,T.me=some me->Cu me=some T.yp){d:Nat}(h:Lev P ty T d aD call yf):wR P ty call yf T (RO P ty tt T d):=⟨(IF hX hy d h).c,(IF hX hy d h).y⟩
def ij.own (T:ij)(f:FuncId)(fn:Func)(Y:List (Nat×LA):=[]):ij:={T with me:=some f,yp:=(vz (qj fn)).getD ([],.skip,.skip),Y:=Y}
theorem Vw{f:FuncId}{S:cp->Sp}(hT:oU cF k T)(h:∀n a p s,S a=some (p,s)->cV p->ug (Ka cF (n+k)) f a λv=>s.uo v):oU cF k (T.jF f S):=⟨hT.1,λn=>⟨λg a p s hs hp=>by
 simp only[ij.jF]at hs;split at hs
 grind
 exact(hT.2 n).I g a p s hs hp,(hT.2 n).C,(hT.2 n).N,(hT.2 n).O,(hT.2 n).M⟩⟩
theorem agO{f:FuncId}{S:cp->cp->Sp}(hT:oU cF k T)(h:∀n a cs p s,S a cs=some (p,s)->cV p->BM (DZ cF (n+k)) f a cs λv cs=>s.holds v cs):oU cF k (T.CB f S):=⟨hT.1,λn=>⟨(hT.2 n).I,λg a cs p s hs hp=>by
 simp only[ij.CB]at hs;split at hs
 grind
 exact(hT.2 n).C g a cs p s hs hp,(hT.2 n).N,(hT.2 n).O,(hT.2 n).M⟩⟩
theorem agN{f:FuncId}{S:cp->Sp}(hT:oU cF k T)(h:∀n a p s,S a=some (p,s)->cV p->DI (Ka cF (n+k)) (DZ cF (n+k)) f a λcs=>s.AD cs):oU cF k (T.aaH f S):=⟨hT.1,λn=>⟨(hT.2 n).I,(hT.2 n).C,λg a p s hs hp=>by
 simp only[ij.aaH]at hs;split at hs
 grind
 exact(hT.2 n).N g a p s hs hp,(hT.2 n).O,(hT.2 n).M⟩⟩
theorem agM{f:FuncId}{fn:Func}{j:List (Nat×LA)}(hT:oU cF k T)(hf:Tp.funcs[f]? =some fn)(hb:fn.body.isSome=true):oU cF k (T.aen f fn j):=⟨λg tF j' hx=>by
 simp only[ij.aen]at hx;split at hx
 grind
 exact hT.1 g tF j' hx,λn=>⟨(hT.2 n).I,(hT.2 n).C,(hT.2 n).N,(hT.2 n).O,(hT.2 n).M⟩⟩
def T0:ij where
 I:=λg a=>match g,a with
  |7,[]=>some ([],.res (tQ true) [] [])
  |_,_=>none
 C:=λ_ _ _=>none
 N:=λ_ _=>none
theorem kD(tk:RX cF):oU cF 0 T0:=by refine⟨λ_ _ _ h=>ar,λn=>⟨λg a p s hs _=>?_,λ_ _ _ _ _ hs=>(by cases hs),λ_ _ _ _ hs=>(by cases hs),λ_ _ _ _ _ hs=>(by cases hs),λ_ _ _ _ _ hs=>(by cases hs)⟩⟩;simp only[T0]at hs;split at hs;cases hs;intro bV hd;rw[aO hd];refine⟨.val (.bool true),tQ true,?_,rfl,by simp only[RT],rfl,rfl,trivial⟩;simp only[Dr,mo,tk.fit,DV.pure,DV.jW,if_true];cases hs
end Go.Tv
namespace Go.Tv
open Go Go.Di Go.Proofs
abbrev Dn:=Option (List Prop×tG×List (Nat×LA))
def dS(d:Dn):Sp:=d.map λx=>(x.1,x.2.1)
def dJ(d:Dn):List (Nat×LA):=match d with
 |some x=>x.2.2
 |none=>[]
def VI(T:ij)(f:Func)(lE:List cJ)(D:cp->Dn)(d:Nat:=0):Prop:=∀a p s j,D a=some (p,s,j)->cV p->vcI T d f lE j a s
def VC(T:ij)(f:Func)(lE nM:List cJ)(D:cp->cp->Dn)(d:Nat:=0):Prop:=∀a cs p s j,D a cs=some (p,s,j)->cV p->afZ T d f lE nM j a cs s
def VN(T:ij)(f:Func)(nM:List cJ)(D:cp->Dn)(d:Nat:=0):Prop:=∀a p s j,D a=some (p,s,j)->cV p->vcN T d f nM j a s
def VO(T:ij)(f:Func)(e:TypeId)(D:cp->Dn)(d:Nat:=0):Prop:=∀a p s j,D a=some (p,s,j)->cV p->vcO T d f j a e s
def VM(T:ij)(f:Func)(lE:List cJ)(D:cp->List cp->Dn)(d:Nat:=0):Prop:=∀a t p s j,D a t=some (p,s,j)->cV p->vcM T d f lE j a t s
def dV(d:Dn)(K:tG->List (Nat×LA)->Prop):Prop:=
 match d with
 |some (p,s,j)=>cV p->K s j
 |none=>True
structure Hd (p:Prop):Prop where
 h:p
theorem Ah{A B:Prop}(h:A=B)(a:A):Hd B:=⟨h▸a⟩
theorem nC{T:ij}{f:Func}{lE:List cJ}{D:cp->Dn}{d:Nat}(h:∀a,dV (D a) λs j=>Hd (vcI T d f lE j a s)):VI T f lE D d:=λa p s j hd hp=>by have:=h a;rw[hd]at this;exact(this hp).h
theorem agL{T:ij}{f:Func}{nM:List cJ}{D:cp->Dn}{d:Nat}(h:∀a,dV (D a) λs j=>Hd (vcN T d f nM j a s)):VN T f nM D d:=λa p s j hd hp=>by have:=h a;rw[hd]at this;exact(this hp).h
theorem yq{T:ij}{f:Func}{lE nM:List cJ}{D:cp->cp->Dn}{d:Nat}(h:∀a cs,dV (D a cs) λs j=>Hd (afZ T d f lE nM j a cs s)):VC T f lE nM D d:=λa cs p s j hd hp=>by have:=h a cs;rw[hd]at this;exact(this hp).h
theorem d_some{d:Dn}{p:List Prop}{s:tG}(h:dS d=some (p,s)):d=some (p,s,dJ d):=by
 cases d with
 |none=>cases h
 |some x=>cases h;rfl
variable {cF:bT} {k:Nat} {T:ij}
theorem Bn{fn:Func}(hb:fn.body.isSome=true):fn.body=some (qj fn):=by unfold qj;revert hb;cases fn.body<;>simp
theorem mkJ(hT:oU cF k T){f:FuncId}{fn:Func}{lE:List cJ}{D:cp->Dn}{d:Nat}(hn:∀a p s,dS (D a)=some (p,s)->cV p->∀da,cq gI [] a da->cF f da=none)(hf:Tp.funcs[f]? =some fn)(hb:fn.body.isSome=true)(h:VI T fn lE D d){T':ij}(hT':oU cF (k+d+1) T')(x6:T.RN f fn:=by exact trivial):oU cF (k+d+1) (T'.jF f λa=>dS (D a)):=
 Vw hT' λn a p s hs hp=>YP (n:=n+(k+d)) hf (Bn hb) (hn a p s hs hp) ((nD (yL (sx hT d n)) (Jl hT.1 (λme e=>(s7 hf hb x6 me e).2.1) (sx hT d n)) (λme e=>⟨rfl,(s7 hf hb x6 me e).1,(s7 hf hb x6 me e).2.1⟩) _ (λe=>by obtain⟨me,e⟩:=y9.1 e;exact(s7 hf hb x6 me e).2.2) _ _ _ _ _ (cC _ (h a p s _ (d_some hs) hp))).mono λ_ _ _ hq=>Wa (λ_ _=>ahB) hq)
theorem FA(tk:RX cF)(hT:oU cF k T){f:FuncId}{fn:Func}{lE:List cJ}{D:cp->Dn}{d:Nat}(hne:f≠64/\f≠124/\f≠7/\f≠10/\f≠14)(hf:Tp.funcs[f]? =some fn)(hb:fn.body.isSome=true)(h:VI T fn lE D d){T':ij}(hT':oU cF (k+d+1) T')(x6:T.RN f fn:=by exact trivial):oU cF (k+d+1) (T'.jF f λa=>dS (D a)):=
 mkJ hT (λ_ _ _ _ _ _ _=>tk.other _ _ hne.1 hne.2.1 hne.2.2.1 hne.2.2.2.1 hne.2.2.2.2) hf hb h hT' x6
theorem ZK(hT:oU cF k T){f:FuncId}{fn:Func}{lE nM:List cJ}{D:cp->cp->Dn}{d:Nat}(hf:Tp.funcs[f]? =some fn)(hb:fn.body.isSome=true)(h:VC T fn lE nM D d){T':ij}(hT':oU cF (k+d+1) T')(x6:T.RN f fn:=by exact trivial):oU cF (k+d+1) (T'.CB f λa c=>dS (D a c)):=
 agO hT' λn a cs p s hs hp=>Y6 (n:=n+(k+d)) hf (Bn hb) ((nD (yL (sx hT d n)) (Jl hT.1 (λme e=>(s7 hf hb x6 me e).2.1) (sx hT d n)) (λme e=>⟨rfl,(s7 hf hb x6 me e).1,(s7 hf hb x6 me e).2.1⟩) _ (λe=>by obtain⟨me,e⟩:=y9.1 e;exact(s7 hf hb x6 me e).2.2) _ _ _ _ _ (cC _ (h a cs p s _ (d_some hs) hp))).mono λ_ _ _ hq=>Wa (λ_ _=>ahC) hq)
theorem mkN(tk:RX cF)(hT:oU cF k T){f:FuncId}{fn:Func}{nM:List cJ}{D:cp->Dn}{d:Nat}(hne:f≠64/\f≠124/\f≠7/\f≠10/\f≠14)(hf:Tp.funcs[f]? =some fn)(hb:fn.body.isSome=true)(h:VN T fn nM D d){T':ij}(hT':oU cF (k+d+1) T')(x6:T.RN f fn:=by exact trivial):oU cF (k+d+1) (T'.aaH f λa=>dS (D a)):=
 agN hT' λn a p s hs hp=>Yy (n:=n+(k+d)) hf (Bn hb) (λ_=>tk.other _ _ hne.1 hne.2.1 hne.2.2.1 hne.2.2.2.1 hne.2.2.2.2) ((nD (yL (sx hT d n)) (Jl hT.1 (λme e=>(s7 hf hb x6 me e).2.1) (sx hT d n)) (λme e=>⟨rfl,(s7 hf hb x6 me e).1,(s7 hf hb x6 me e).2.1⟩) _ (λe=>by obtain⟨me,e⟩:=y9.1 e;exact(s7 hf hb x6 me e).2.2) _ _ _ _ _ (cC _ (h a p s _ (d_some hs) hp))).mono λ_ _ _ hq=>Wa (λ_ _=>ahA) hq)
def Nj(α:Type):Prop:=([]:List α)=[]
theorem og{α:Type}:Nj α=True:=by simp[Nj]
theorem iZ{b:Bool}{A B:Prop}:bM b A B↔(b=true->A)/\(b=false->B):=by cases b<;>simp[bM]
theorem eS{p:Prop}[Decidable p]{A B:Prop}:bM (decide p) A B↔(p->A)/\(¬p->B):=by rw[iZ];simp
theorem j8{b:Bool}{A B:Prop}:bM (!b) A B↔bM b B A:=by cases b<;>rfl
theorem lP{a c:Int}{A B:Prop}:bM (a==c) A B↔(a=c->A)/\(¬a=c->B):=by rw[iZ];simp
theorem j9{a c:Int}{A B:Prop}:bM (a !=c) A B↔(a=c->B)/\(¬a=c->A):=by rw[iZ];simp[and_comm]
end Go.Tv
namespace Go.Tv
open Go Go.Di Go.Proofs
theorem qv{l:cj}{i:Nat}(h:i<l.length):l.getD i 0=l[i]:=by simp[aK,h]
theorem take_one{l:cj}{i:Nat}(h:i<l.length):l.take (i+1)=l.take i++[l.getD i 0]:=by rw[qv h,List.take_append_getElem]
theorem uB{l:cj}{i:Nat}(h:i<l.length):l.getD i 0∈l:=by rw[qv h];exact iS _
def aj2(l:cj)(x:Int):Int:=if x∈l then(l.idxOf x:Int)else-1
abbrev FQ(rest:cj)(last:Int):cp:=[.sl kP rest .no,.val (.int .u64 last)]
theorem AJ(n:Int):IntKind.u64.wrap n=n % 18446744073709551616:=by simp[IntKind.wrap,IntKind.bits,IntKind.signed]
theorem u64_in(n:Int):0<=IntKind.u64.wrap n/\IntKind.u64.wrap n<18446744073709551616:=by rw[AJ];omega
theorem W6(a:Int):a.fdiv 4294967296=a/4294967296:=Int.fdiv_eq_ediv_of_nonneg _ ab
theorem ade{x n:Int}(h:IntKind.u64.wrap n=x):0<=x.fdiv 4294967296/\x.fdiv 4294967296<4294967296:=by have:=u64_in n;rw[W6,<-h];omega
theorem acF{k m:Int}(hm:m<=1000)(h0:0<m)(hk:0<=k)(oT:k<4294967296):0<=IntKind.i64.wrap ((IntKind.u64.wrap (k*IntKind.u64.wrap (m+1))).fdiv 4294967296)/\(IntKind.i64.wrap ((IntKind.u64.wrap (k*IntKind.u64.wrap (m+1))).fdiv 4294967296)<=m\/IntKind.i64.wrap ((IntKind.u64.wrap (k*IntKind.u64.wrap (m+1))).fdiv 4294967296)=0):=by have h1:k*(m+1)<=4294967295*(m+1):=acB ab ab;have h2:0<=k*(m+1):=Int.mul_nonneg hk ab;rw[AJ (m+1),Int.emod_eq_of_lt (a:=m+1) ab ab,W6,AJ];generalize k*(m+1)=p at*;rw[Int.emod_eq_of_lt ab ab,Ar ab ab];omega
theorem zK{α:Type}{P:α->Prop}{l:List α}{a:α}(h:∀x∈l,P x)(ha:P a):∀x∈l++[a],P x:=by intro x hx;rcases iQ.1 hx with hx|hx;exact h x hx;rw[bX.1 hx];exact ha
theorem Zg{l:cj}{a:Int}(h:l.Pairwise (·<·))(ha:∀x∈l,x<a):(l++[a]).Pairwise (·<·):=by rw[List.pairwise_append];exact⟨h,List.pairwise_singleton _ _,λx hx y hy=>by rw[bX.1 hy];exact ha x hx⟩
theorem F0{f:Int->Int}{l:cj}{i:Nat}(h:i<l.length):(l.take i).map f++[f (l.getD i 0)]=(l.take (i+1)).map f:=by rw[take_one h,eY];rfl
abbrev pcV(u l:cj)(w:Int)(ls:cj):TV:=.agg [.sl kP u .no,.sl kP l .no,jE w,.sl kP ls .no]
abbrev Num(u l:cj)(w:Int):Prop:=3<=u.length/\u.length<=8/\l.length=u.length/\0<=w/\w<=2
structure Ok (u l:cj) (w:Int) (ls:cj):Prop where
 n3:3<=u.length
 n8:u.length<=8
 len:l.length=u.length
 hu:∀x∈u,0<=x/\x<=9
 hl:∀x∈l,0<=x/\x<=9
 w0:0<=w
 w2:w<=2
 ne:ls≠[]
 lie:∀x∈ls,0<=x/\x<=3
 asc:ls.Pairwise (·<·)
def aiG(a b:Int):Int:=IntKind.i64.wrap ((BitVec.ofInt 64 a^^^BitVec.ofInt 64 b).toNat:Int)
def aj8(y:Int)(ls:cj)(i:Nat):cj:=((List.range i).map Int.ofNat).filter λx=>decide (aiG x y∈ls)
def Cj(we x:Int):Bool:=decide (0<=x/\x<=we)
theorem acu{we:Int}{l:cj}{i:Nat}(h:i<l.length)(h1:(l.take i).all (Cj we)=true)(h2:Cj we (l.getD i 0)=true):(l.take (i+1)).all (Cj we)=true:=by rw[take_one h,lU,h1,cg,h2];rfl
theorem abG{we:Int}{l:cj}{i:Nat}(h:i<l.length)(h2:Cj we (l.getD i 0)=false):l.all (Cj we)=false:=by refine Bool.eq_false_iff.2 λh1=>?_;rw[aU.1 h1 _ (uB h)]at h2;cases h2
def oV(ls:cj)(i:Nat):Int:=if i<ls.length then(if ls.getD i 0<0\/3<ls.getD i 0 then 8 else if 0<i/\ls.getD i 0<=ls.getD (i-1) 0 then 5 else oV ls (i+1))else 0
 termination_by ls.length-i
def Af(u l:cj)(w:Int)(ls:cj):Int:=
 if u.length<3 then 7 else if 8<u.length then 6 else if l.length<u.length then 7 else if u.length<l.length then 6
 else if u.all (Cj 9)=false\/l.all (Cj 9)=false\/w<0\/2<w then 1 else if ls.length=0 then 7 else oV ls 0
theorem VU{ls:cj}{i:Nat}(h:i<ls.length)(h1:ls.getD i 0<0\/3<ls.getD i 0):oV ls i=8:=by rw[oV,if_pos h,if_pos h1]
theorem VV{ls:cj}{i:Nat}(h:i<ls.length)(h1:¬(ls.getD i 0<0\/3<ls.getD i 0))(h2:0<i/\ls.getD i 0<=ls.getD (i-1) 0):oV ls i=5:=by rw[oV,if_pos h,if_neg h1,if_pos h2]
theorem zB{ls:cj}{i:Nat}(h:i<ls.length)(h1:¬(ls.getD i 0<0\/3<ls.getD i 0))(h2:¬(0<i/\ls.getD i 0<=ls.getD (i-1) 0)):oV ls i=oV ls (i+1):=by
 conv=>lhs;rw[oV]
 rw[if_pos h,if_neg h1,if_neg h2]
theorem VW{ls:cj}{i:Nat}(h:¬i<ls.length):oV ls i=0:=by rw[oV,if_neg h]
theorem ack{u l:cj}{w:Int}{ls:cj}(h1:¬u.length<3)(h2:¬8<u.length)(h3:¬l.length<u.length)(h4:¬u.length<l.length)(h5:(!u.all (Cj 9))=false)(h6:(!l.all (Cj 9))=false)(h7:¬w<0)(h8:¬2<w)(h9:ls.length≠0):Af u l w ls=oV ls 0:=by simp only[Bool.not_eq_eq_eq_not,yV]at h5 h6;rw[Af,if_neg h1,if_neg h2,if_neg h3,if_neg h4,if_neg (by rw[h5,h6];simp[h7,h8]),if_neg h9]
abbrev PD:Type:=cE.den
abbrev cP:=List PD
abbrev pd(u l:cj)(w:Int)(ls:cj):PD:=(u,l,w,ls,())
def Nv(p:PD):Int:=Af p.1 p.2.1 p.2.2.1 p.2.2.2.1
def rX:cP->Int
 |[]=>0
 |p::l=>if Nv p≠0 then Nv p else rX l
theorem Cg{l m:cP}(h:rX l=0):rX (l++m)=rX m:=by
 induction l with
 |nil=>rfl
 |cons p l ih=>
  simp only[rX]at h⊢;split at h;rename_i h1;exact(h1 h).elim
  rename_i h1;simp only[gM,rX,if_neg h1];exact ih h
def gE(p:PD):Prop:=p.1.length<=1000/\p.2.1.length<=1000/\p.2.2.2.1.length<=1000
theorem rD{P:PD->Prop}{l:cP}{i:Nat}{d:PD}(h:i<l.length)(hl:∀p∈l,P p):P (l.getD i d):=by
 have e:l.getD i d=l[i]:=by simp[aK,h]
 rw[e];exact hl _ (iS _)
abbrev edV(u l:cj):TV:=.agg [.sl kP u .no,.sl kP l .no]
def MU(l:cj):Prop:=∀x∈l,0<=x/\x<=9
theorem afp{l:cj}{i:Nat}(h:MU l)(hi:i<l.length):0<=l.getD i 0/\l.getD i 0<=9:=h _ (uB hi)
def Kg(la ub:cj)(s:Int):Nat->cj
 |0=>[]
 |i+1=>if 0<=(i:Int)+s/\(i:Int)+s<la.length then Kg la ub s i++[ub.getD i 0+la.getD ((i:Int)+s).toNat 0]else Kg la ub s i
def stS(st:Int×Int×Int)(x:Int):Int×Int×Int:=(if x<(if st.2.2=0 then x else st.1)then x else(if st.2.2=0 then x else st.1),if x>(if st.2.2=0 then x else st.2.1)then x else(if st.2.2=0 then x else st.2.1),st.2.2+1)
def stF(l:cj):Int×Int×Int:=l.foldl stS (0,0,0)
abbrev stA(la ub:cj)(s:Int):Int×Int×Int:=stF (Kg la ub s ub.length)
def afA(la ub:cj)(cS s:Int):Bool:=decide (3<=(stF (Kg la ub s ub.length)).2.2/\(stF (Kg la ub s ub.length)).2.1-(stF (Kg la ub s ub.length)).1<=cS)
def shL(la ub:cj)(cS:Int)(k:Nat):cj:=((List.range k).map λ(j:Nat)=>(j:Int)-(ub.length:Int)).filter (afA la ub cS)
theorem Db{m:Int}{l:cj}:l.all (Cj m)=true↔∀x∈l,0<=x/\x<=m:=by simp[Cj]
theorem Ho{ls:cj}:∀(n i:Nat),ls.length-i=n->(oV ls i=0↔∀j,i<=j->j<ls.length->(0<=ls.getD j 0/\ls.getD j 0<=3)/\(0<j->ls.getD (j-1) 0<ls.getD j 0)):=by
 intro n;induction n with
 |zero=>intro i h;rw[VW ab];exact⟨λ_ j h1 h2=>ab,λ_=>rfl⟩
 |succ n ih=>
  intro i h;by_cases h1:ls.getD i 0<0\/3<ls.getD i 0;rw[VU ab h1];exact⟨λe=>ab,λe=>by have:=(e i (ai _) ab).1;omega⟩;by_cases h2:0<i/\ls.getD i 0<=ls.getD (i-1) 0;rw[VV ab h1 h2];exact⟨λe=>ab,λe=>by have:=(e i (ai _) ab).2 h2.1;omega⟩;rw[zB ab h1 h2,ih (i+1) ab];refine⟨λe j hj CM=>?_,λe j hj CM=>e j ab CM⟩;by_cases Rz:j=i;subst Rz;exact⟨ab,λh3=>ab⟩
  exact e j ab CM
theorem afN{ls:cj}(h:∀j,0<j->j<ls.length->ls.getD (j-1) 0<ls.getD j 0):ls.Pairwise (·<·):=by
 rw[List.pairwise_iff_getElem];have key:∀j i,i<j->(hj:j<ls.length)->ls.getD i 0<ls.getD j 0:=by
  intro j;induction j with
  |zero=>intro i hi;omega
  |succ j ih=>
   intro i hi hj;have h1:=h (j+1) ab hj;simp only[Nat.add_sub_cancel]at h1;by_cases e:i=j;subst e;exact h1
   have:=ih i ab ab;omega
 intro i j hi hj Rz;have:=key j i Rz hj
 rwa [qv hi,qv hj]at this
theorem afg{ls:cj}(h:ls.Pairwise (·<·)){j:Nat}(h0:0<j)(hj:j<ls.length):ls.getD (j-1) 0<ls.getD j 0:=by rw[List.pairwise_iff_getElem]at h;rw[qv hj,qv ab];exact h _ _ _ _ ab
theorem afG{u l:cj}{w:Int}{ls:cj}:Af u l w ls=0↔Ok u l w ls:=by
 unfold Af;constructor;intro h;split at h;omega
 split at h;omega
 split at h;omega
 split at h;omega
 split at h;omega
 split at h;omega
 rename_i h1 h2 h3 h4 h5 h6;simp only[not_or,Bool.not_eq_false]at h5;have hz:=(Ho _ 0 rfl).1 h;refine⟨ab,ab,ab,Db.1 h5.1,Db.1 h5.2.1,ab,ab,λe=>h6 (by rw[e];rfl),λx hx=>?_,afN λj hj CM=>(hz j (gm _) CM).2 hj⟩;obtain⟨j,hj,rfl⟩:=List.getElem_of_mem hx;have:=(hz j (gm _) hj).1
 rwa [qv hj]at this
 intro h;have h1:=h.n3;have h2:=h.n8;have h3:=h.len;have h4:=h.w0;have h5:=h.w2;have h6:ls.length≠0:=λe=>h.ne (eE e);rw[if_neg ab,if_neg ab,if_neg ab,if_neg ab,if_neg (by rw[Db.2 h.hu,Db.2 h.hl];simp;omega),if_neg h6];exact(Ho _ 0 rfl).2 λj _ hj=>⟨h.lie _ (uB hj),λh0=>afg h.asc h0 hj⟩
def Sh(u l ls:cj):Prop:=u.length<=1000/\l.length<=1000/\ls.length<=1000
def agz(la ub:cj)(wa wb s:Int):N4.den:=((stF (Kg la ub s ub.length)).2.1,(stF (Kg la ub s ub.length)).1+wa+wb,())
theorem agR{u l:cj}{w:Int}{ls:cj}(h:Ok u l w ls):Sh u l ls:=by
 refine⟨by have:=h.n8;omega,by have:=h.n8;have:=h.len;omega,?_⟩;have key:∀(ls:cj)(m:Int),m<=4->(∀x∈ls,m<=x/\x<=3)->ls.Pairwise (·<·)->(ls.length:Int)<=4-m:=by
  intro ls;induction ls with
  |nil=>intro m hm _ _;simp;omega
  |cons x ls ih=>intro m hm h1 h2;rw[List.pairwise_cons]at h2;have h3:=h1 x ae;have:=ih (x+1) ab (λy hy=>⟨by have:=h2.1 y hy;omega,(h1 y (by simp[hy])).2⟩) h2.2;simp only[cT];omega
 have:=key ls 0 ab h.lie h.asc;omega
def akf(la ub:cj)(s:Int)(i:Nat):Option Int:=if 0<=(i:Int)+s/\(i:Int)+s<la.length then some (ub.getD i 0+la.getD ((i:Int)+s).toNat 0)else none
theorem Xc{la ub l:cj}{wa wb:Int}{i:Nat}{d:N4.den}(h:i<l.length):(l.map (agz la ub wa wb)).getD i d=agz la ub wa wb (l.getD i 0):=by rw[qv h];simp[aK,h]
def akl(n:Int)(u l:cj):cj:=if n=1 then l.reverse else if n=2 then u.reverse else if n=3 then l else u
def akm(n:Int)(u l:cj):cj:=if n=1 then u.reverse else if n=2 then l.reverse else if n=3 then u else l
theorem Yv{l a l1:cj}{w:Int}{ls:cj}(h:Ok a l1 w ls)(hn:l1.length=l.length)(hl:MU l):Ok (l.map (9-·)) l1 w ls where
 n3:=by have:=h.n3;have:=h.len;simp;omega
 n8:=by have:=h.n8;have:=h.len;simp;omega
 len:=by simp;omega
 hu:=λx hx=>by simp only[fQ]at hx;obtain⟨y,hy,rfl⟩:=hx;have:=hl y hy;omega
 hl:=h.hl
 w0:=h.w0
 w2:=h.w2
 ne:=h.ne
 lie:=h.lie
 asc:=h.asc
def akC(la ub:cj)(w s:Int):Int×Int×Int:=if(stA la ub s).2.2<3 then(0,0,7)else if(stA la ub s).2.1-(stA la ub s).1>w then(0,0,11)else((stA la ub s).2.1,(stA la ub s).1+w,0)
end Go.Tv
