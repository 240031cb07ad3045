import Derived.Test.YtadeehilamokkaaGreatDoorPk10
set_option maxRecDepth 100000
namespace Go.Tv
open Go Go.Di Go.Proofs
variable {P:Program} {ty:fo} {tt:TypeId->cy} {ι ι' w:kB} {S S':aj} {te:cn} {env:cj} {tS:cp} {aD Hv:bR} {call xU:aY} {yf Yi:di} {B:cx}
theorem WB(h:bL ι te tS env S)(S2:aj):bL ι te (tS++[TB.none]) env (S++S2):=by
 have hlt:∀{k k'},ι k=some k'->k'<S.length:=λ{k k'} hk=>by obtain⟨b,h1,-⟩:=h.live hk;exact(aI.1 h1).1
 have hg:∀{k k'},ι k=some k'->(S++S2)[k']? =S[k']? :=λ{k k'} hk=>eC (hlt hk);have K:iQ ι S ι (S++S2) λ_=>False:=λk k' _ hk=>⟨hk,dm (hg hk)⟩;have aS:∀{j b},(tS++[TB.none])[j]? =some b->b≠TB.none->tS[j]? =some b:=λ{j b} hj hb=>by rw[Qg]at hj;split at hj;exact hj;have:=bV hj;simp only[bQ]at this;exact absurd this hb
 refine⟨bh K _ _ h.env,λk l hk=>?_,λk e s hk t ht=>?_,λk k' hk=>?_,h.inj,λk b hk t ht=>?_⟩;obtain⟨k',ds,n1,n2,n3⟩:=h.cells k l (aS hk ab);exact⟨k',ds,n1,(hg n1).trans n2,bh K _ _ n3⟩;obtain⟨n,h1⟩:=h.own k e s (aS hk ab) t ht;exact⟨n,(hg ht).trans h1⟩;obtain⟨b,h1,h2⟩:=h.qc k k' hk;exact⟨b,by rw[eC (aI.1 h1).1];exact h1,h2⟩;by_cases hb:b=.none;subst hb;trivial
 rw[hg ht];exact h.mp k b (aS hk hb) t ht
theorem VP{f:Operand}{ps:Array Tmp}{nL body:Code}{rm g:FuncId}{fs cs:cn}{K:cp->Prop}{Q:DX->cn->cp->Prop}(hf:fe te f=some (.fn g fs cs))(hrf:BU rm=some (ps.toList,nL,body))
  (hc:uX call g (fs++[.nj tS.length rm (fG tS te)]++cs) (tS++[.loop]) λ_ bI=>(bI[tS.length]? =some .loop/\(eL (fG tS te)++nE bI).contains tS.length=false)/\K bI)
  (hq:∀bI,K bI->Q .normal (fG tS te) (bI.set tS.length .none)):WT P ty aD call yf B LL rm false (.rangeFunc f ps nL body) te tS Q:=by
 intro ι env S hR hB;obtain⟨d,k1,k2⟩:=bt hR.env hf;cases d<;>simp only[RT]at k2;rename_i g' wm iq;obtain⟨rfl,k3,k4⟩:=k2
 let r0:F2:=⟨.ready,none,rm,env,ps.toList,nL,body,S.length⟩
 have hid:(S++[DB.defer,.loop r0])[S.length+1]? =some (.loop r0):=by rw[fP U];simp
 have hlt:∀{k k'},ι k=some k'->k'<S.length:=λ{k k'} hk=>by obtain⟨b,h1,-⟩:=hR.live hk;exact(aI.1 h1).1
 have hn:∀k,ι k≠some (S.length+1):=λk hk=>by have:=hlt hk;omega
 have L6:=Kn (k:=tS.length) (WB hR [DB.defer,.loop r0]) ab hn hid ⟨rfl,rfl⟩;have Y2:(tS++[TB.none]).set tS.length .loop=tS++[.loop]:=ab
 rw[Y2]at L6;have hu:∀{j},j≠tS.length->upd ι tS.length (S.length+1) j=ι j:=λh=>if_neg h;have ahK:∀{j k'},ι j=some k'->j<tS.length:=λ{j k'} hj=>by obtain⟨b,h1,-⟩:=hR.qc j k' hj;exact(aI.1 h1).1
 have o6:∀j,js tS j=true->upd ι tS.length (S.length+1) j=ι j:=λj hj=>hu λe=>by
  subst e;unfold js at hj;split at hj;rename_i c h;have:=(aI.1 h).1;omega
  cases hj
 have hK0:iQ ι S (upd ι tS.length (S.length+1)) (S++[DB.defer,.loop r0]) λ_=>False:=λk k' _ hk=>⟨by rw[hu (by have:=ahK hk;omega)];exact hk,dm (eC (hlt hk))⟩;have hA:cz (upd ι tS.length (S.length+1)) (S++[DB.defer,.loop r0]) (fs++[.nj tS.length rm (fG tS te)]++cs) (wm++[.nj (S.length+1)]++iq):=by refine eH (eH (bh hK0 _ _ k3) (aO ?_ bH)) (bh hK0 _ _ k4);simp only[RT];exact⟨by simp[upd],_,_,_,env,S.length,hrf,hid,jA o6 _ _ hR.env⟩
 obtain⟨d,S',ι',v,bI,a1,a2,a3,a4,a5,⟨a6,a7⟩,a8⟩:=hc _ _ _ ⟨hA,L6.cells,L6.own,L6.qc,L6.inj,L6.mp⟩;have mo:∀{j l},tS[j]? =some (kX l)->j∈cZ 0 (tS++[TB.loop]):=λ{j l} h=>qK (c:=l) (by rw[eC (aI.1 h).1];exact h);have ox:ι' tS.length=some (S.length+1):=(a4.base tS.length (qK (c:=none) (by simp[kX]))).trans (by simp[upd]);obtain⟨r,b1,b2,b3⟩:=a2.mp tS.length _ a6 _ ox;have hRf:bL ι' (fG tS te) bI env S':=⟨jA (λj hj=>by
  have h1:=o6 j hj;unfold js at hj;split at hj;rename_i c hc;rw[a4.base j (mo (l:=some c) hc),h1]
  cases hj) _ _ hR.env,a2.cells,a2.own,a2.qc,a2.inj,a2.mp⟩
 have hno:∀j,C4 ι' tS.length j≠some (S.length+1):=λj hj=>by obtain⟨h1,h2⟩:=ga hj;exact h1 (a2.inj j _ _ h2 ox)
 have acF:∀j∈B,j≠tS.length:=λj hj e=>by obtain⟨l,h1⟩:=hB j hj;have:=(aI.1 h1).1;omega
 have hRo:=Am (b:=.loop {r with st:=.exhausted}) (Ko hRf a7) hno;have hS0:∀{j:Nat},j<S.length->(S++[DB.defer,.loop r0])[j]? =S[j]? :=λh=>eC h;have abu:∀{j:Nat},j<S.length->(S'.set (S.length+1) (.loop {r with st:=.exhausted}))[j]? =S'[j]? :=λ{j} h=>by rw[aM,if_neg U]
 refine⟨.normal,env,S'.set (S.length+1) (.loop {r with st:=.exhausted}),C4 ι' tS.length,fG tS te,bI.set tS.length .none,?_,hRo,λj hj=>?_,⟨λk' hl Jc=>?_,λj k' hj=>?_,λj hj=>?_⟩,⟨?_,λj hj dN=>?_⟩,hq bI a8⟩;have hb:(r.st==LoopState.busy)=false:=by rw[b2];rfl
 simp only[cD,aJ,if_false,k1];rw[a1];simp only[b1,hb,aJ,if_false,b3];obtain⟨l,h1⟩:=hB j hj;obtain⟨l',h2⟩:=a3 j (mo h1);exact⟨l',by rw[aM,if_neg λe=>acF j hj e.symm];exact h2⟩;have BW:k'<S.length:=by obtain⟨b,h1,-⟩:=hl;exact(aI.1 h1).1
 rw[abu BW,a4.rest k' (by obtain⟨b,h1,h2⟩:=hl;exact⟨b,(hS0 BW).trans h1,h2⟩) λj hj=>?_,hS0 BW];by_cases e:j=tS.length;subst e;simp only[upd,if_true,aF]at hj;omega;rw[hu e]at hj;exact Jc j hj
 obtain⟨h1,h2⟩:=ga hj;rcases a4.ours j k' h2 with ⟨i,hi⟩|h3;by_cases e:i=tS.length;subst e;simp only[upd,if_true,aF]at hi;exact absurd (hi▸hj) (hno j);rw[hu e]at hi;exact .inl ⟨i,hi⟩
 refine .inr λhl=>h3 ?_;obtain⟨b,h4,h5⟩:=hl;exact⟨b,(hS0 (aI.1 h4).1).trans h4,h5⟩;obtain⟨l,h1⟩:=hB j hj;rw[yg (acF j hj),a4.base j (mo h1),hu (acF j hj)];have:=a5.1;simp only[dM,List.length_set]at this⊢;omega;have BW:=(aI.1 dN).1;rw[abu BW];exact a5.2 j (by simp only[dM];omega) ((hS0 BW).trans dN)
end Go.Tv
namespace Go.Tv
open Go Go.Di Go.Proofs
variable {P:Program} {ty:fo} {tt:TypeId->cy} {T:iO} {ι ι' w:kB} {S S':aj} {te lG:cn} {env:cj} {tS gZ:cp} {aD:bR} {call:aY} {yf:di} {o:Oper} {aB nT:Nat} {B:cx} {r:TR} {ops:Array Oper} {fn:FuncId} {iA:Bool} {fs:cX}
def LA.St:LA->Type
 |.ex α k=>(x:α)×(k x).St
 |.st _=>Unit
 |.un _=>Empty
 |.dep _=>Empty
 |.pe _ _=>Empty
def LA.bd:(la:LA)->la.St->Bd
 |.ex _ k,⟨x,s⟩=>(k x).bd s
 |.st b,_=>b
theorem yb{K:Bd->Prop}:∀{la:LA},la.some K->∃s:la.St,K (la.bd s)
 |.ex _ k,⟨x,h⟩=>by obtain⟨s,h1⟩:=yb (la:=k x) h;exact⟨⟨x,s⟩,h1⟩
 |.st b,h=>⟨(),h⟩
 |.un _,h=>h.elim
 |.dep _,h=>h.elim
 |.pe _ _,h=>h.elim
theorem Oy{K:Bd->Prop}:∀{la:LA},la.all K->∀s:la.St,K (la.bd s)
 |.ex _ _,h,⟨x,s⟩=>Oy (h x) s
 |.st _,h,_=>h
theorem XD{b:Bd}{keep:Nat}{K:Prop}(h:VE B b keep te tS K):Fits B (nH b.sl keep 0 te) (xR b tS) te tS/\cR b.kO/\K:=by obtain⟨h0,h⟩:=iE h;simp only[aC]at h0;obtain⟨l1,e1,k1,h⟩:=lE h;obtain⟨l2,e2,k2,h⟩:=lE h;obtain⟨h3,h4⟩:=iw h;exact⟨⟨yQ e1 k1,ir e2 k2,h0.1,λk hk=>aR.1 h0.2 k hk⟩,h3,h4⟩
theorem P9{b:Bd}{K:Prop}(h:UW B lG gZ b te tS K):Fits B lG gZ te tS/\cR b.kO/\K:=by obtain⟨h0,h⟩:=iE h;simp only[aC]at h0;obtain⟨l1,e1,k1,h⟩:=lE h;obtain⟨l2,e2,k2,h⟩:=lE h;obtain⟨h3,h4⟩:=iw h;exact⟨⟨ya e1 k1,aao e2 k2,h0.1,λk hk=>aR.1 h0.2 k hk⟩,h3,h4⟩
theorem Ul{N:Nat}{c:Code}{Q:DX->cn->cp->Prop}{K:cn->cp->Prop}{f:cn->cp->(cn->cp->Prop)->Prop}(hf:∀te tS K',f te tS K'->WT P ty aD call yf B LL fn iA c te tS λe te tS=>match e with|.normal=>K' te tS|e=>Q e te tS)(hK:∀te tS,K te tS->WI P ty aD call yf B LL fn iA N c te tS Q):
  ∀(n:Nat)(te:cn)(tS:cp),unK f K n te tS->WI P ty aD call yf B LL fn iA (N+n) c te tS Q
 |0,te,tS,h=>hK te tS h
 |n+1,te,tS,h=>ZA ((hf te tS _ h).mono λe te tS hq=>by
   cases e with
   |normal=>exact Ul hf hK n te tS hq
   |exit id=>exact hq
   |ret=>exact hq)
theorem ZB{n m:Nat}{c:Code}{Q:DX->cn->cp->Prop}(hn:n<=m)(h:WI P ty aD call yf B LL fn iA n c te tS Q):WI P ty aD call yf B LL fn iA m c te tS Q:=by intro ι env S hR hB;obtain⟨e,aK,S',ι',bO,bI,h1,h2⟩:=h ι env S hR hB;exact⟨e,aK,S',ι',bO,bI,AB hn h1,h2⟩
theorem Kh{x:Operand}{v:Bool}{K:cn->Prop}(hx:fe te x=some (.val (.bool v)))(h:Uq x te v K):K te:=by
 cases x with
 |tmp t=>
  simp only[fe,aF]at hx;have:=pM te t _ (h:Fa te t _ K)
  rwa [oP]at this
  rw[aP]at hx;cases e:te[t]? with
  |none=>rw[e]at hx;cases hx
  |some a=>rw[e]at hx;exact congrArg some hx
 |_=>exact h
variable {inl:Inl}
theorem QN(hT:pJ T aD call)(hI:vS P ty call yf T inl){id:Nat}{draw:Bool}{J:List (Nat×LA)}{i lv:Nat}{Q:DX->cn->cp->Prop}(h:xu P ty tt T inl B J (.region id ops draw) i lv te tS Q):WT P ty aD call yf B LL fn iA (.region id ops draw) te tS Q:=by simp only[xu]at h;split at h;split at h;rename_i hn;obtain⟨hd,h⟩:=iE h;refine VU hd hn ?_;exact Dd (md:=2) (n0:=tS.length) (mm:=tS) (Q:=λte tS=>Q .normal te (oD tS)) hT hI U (λte tS fs hk=>by obtain⟨hm,hk⟩:=iE hk;exact ac9 (ai _) hm (cv _ (K:=λtS=>Q .normal te tS) hk)) ops.toList 0 te _ [] rfl (cv _ (K:=λmm=>pE P ty tt T inl 2 tS.length ops ops.toList 0 te mm [] λte tS fs=>eD (tc (Region.before ops) fs) (bN (oD tS) λtS=>Q .normal te tS) False) h);rename_i hn;obtain⟨hd,h⟩:=iE h;refine VQ hd hn ?_;exact Dd (B:=B) (md:=1) (n0:=0) (mm:=tS) (Q:=λte tS=>Q .normal te tS) hT hI U (λte tS fs hk _=>U3 (ai _) hk) ops.toList 0 te _ [] rfl h rfl;refine VS ?_;exact Dd (md:=0) (n0:=0) (mm:=tS) (Q:=λte tS=>Q .normal te (oD tS)) hT hI U (λte tS fs hk=>ac6 (ai _) (cv _ (K:=λtS=>Q .normal te tS) hk)) ops.toList 0 te _ [] rfl h
theorem Rv{c:Code}(h:ML P c=some ops):vK P ops=false/\∃id,c=.region id ops true:=by
 unfold ML at h;split at h;split at h;cases h;rename_i hl;cases h;exact⟨Bool.eq_false_iff.2 hl,_,rfl⟩
 cases h
theorem Ey{env:cj}{dst:Option Tmp}{v:DV}{i:Nat}(h:dst≠some i):(jN env dst v)[i]? =env[i]? :=by
 cases dst with
 |none=>rfl
 |some d=>simp only[jN];rw[aM,if_neg (λe=>h (by rw[e]))]
theorem Aj{i:Nat}:∀{l:List Oper}{env aK:cj},qd P ty aD call yf ops S l env=some aK->(∀o∈l,o.dst≠some i)->aK[i]? =env[i]?
 |[],env,aK,h,_=>by cases h;rfl
 |o::l,env,aK,h,hd=>by simp only[qd]at h;split at h;split at h;rw[Aj h λo' nt=>hd o' (mH _ nt),Ey (hd o (gG ..))];cases h;rw[Aj h λo' nt=>hd o' (mH _ nt),Ey (hd o (gG ..))]
theorem adJ{u v:TV}{d:DV}(h:LeV u v)(hd:RT ι S v d):RT ι S u d:=by obtain⟨_,_,e,h1,-⟩:=ax (MQ (h [] [] .nil) (j4 hd));cases e;exact h1
theorem xg{sl:List (Nat×TV)}{keep:Nat}:∀{i:Nat}{te bO:cn}{env aK:cj}{l:List Prop},cz ι S te env->cz ι S bO aK->bO.length=te.length->vM sl i bO=some l->cR l->(∀j,keep.testBit (i+j)=true->aK[j]? =env[j]?)->cz ι S (nH sl keep i te) aK
 |_,[],[],_,_,_,_,h2,_,_,_,_=>by rw[aN h2];exact bH
 |i,v::te,v'::bO,env,aK,l,h1,h2,hn,hp,hc,hk=>by
  obtain⟨d,m,rfl,a1,a2⟩:=ax h1;obtain⟨d',m',rfl,b1,b2⟩:=ax h2;have Jc:bO.length=te.length:=by simpa using hn
  have ox:∀j,keep.testBit (i+1+j)=true->m'[j]? =m[j]? :=λj hj=>by have:=hk (j+1) (by rw[<-fO,Nat.add_right_comm];exact hj);simpa using this
  simp only[vM]at hp;simp only[nH];split at hp;rename_i p TA;split at hp;rename_i x y e1 e2;cases hp;obtain⟨k1,k2⟩:=jD hc;exact aO (adJ (HR e1 k1) b1) (xg a2 b2 Jc e2 k2 ox);cases hp;refine aO ?_ (xg a2 b2 Jc hp hc ox);split;rename_i hb;have:=hk 0 hb;simp only[dB,aF]at this;rw[this];exact a1
  simp only[RT]
 |_,[],_::_,_,_,_,_,_,hn,_,_,_=>by simp at hn
 |_,_::_,[],_,_,_,_,_,hn,_,_,_=>by simp at hn
theorem Dw:∀{l:List Oper}{env aK:cj},qd P ty aD call yf ops S l env=some aK->aK.length=env.length
 |[],env,aK,h=>by cases h;rfl
 |o::l,env,aK,h=>by
  have hp:∀(dst:Option Tmp)(v:DV),(jN env dst v).length=env.length:=λdst v=>by cases dst<;>simp[jN]
  simp only[qd]at h;split at h;split at h;rw[Dw h,hp];cases h;rw[Dw h,hp]
theorem VR{id:Nat}{b:Code}{Q:DX->cn->cp->Prop}{la:LA}{keep:Nat}(hd:kY ops (Region.before ops)=true)(hl:vK P ops=false)(hk:Vr keep ops=true)
  (h1:WQ P ty aD call yf ops tS 0 te λbO=>la.some λbd=>ask (vM bd.sl 0 bO) (zF bd.kO True))
  (h2:∀s:la.St,cR (la.bd s).kO->WT P ty aD call yf B LL fn iA b (nH (la.bd s).sl keep 0 te) tS Q):WT P ty aD call yf B LL fn iA (.seq (.region id ops true) b) te tS Q:=by
 intro ι env S hR hB;obtain⟨aK,bO,k1,k2,k3⟩:=h1 ι env S hR;rw[pS]at k1;obtain⟨s,hs⟩:=yb k3;obtain⟨l,e1,e2,e3⟩:=lE hs;obtain⟨e3,-⟩:=iw e3;have L6:bL ι (nH (la.bd s).sl keep 0 te) tS aK S:=by refine⟨xg hR.env k2.env ?_ e1 e2 λj hj=>?_,k2.cells,k2.own,k2.qc,k2.inj,k2.mp⟩;rw[<-gR k2.env,<-gR hR.env,Dw k1];refine Aj k1 λo ho e=>?_;have:=aR.1 hk o ho;rw[eN]at hj;rw[e]at this;simp only[hj]at this;cases this
 obtain⟨e,qC,wq,ι'',s5,s6,m1,m2,m3,m4,m5,m6⟩:=h2 s e3 ι aK S L6 hB;refine⟨e,qC,wq,ι'',s5,s6,?_,m2,m3,m4,m5,m6⟩;have:cD P ty aD call yf LL fn iA (.region id ops true) env S=some (.normal,aK,S):=by simp only[vK,Bool.or_eq_false_iff]at hl;simp only[cD,pN,lB,JA,nW,Bool.false_and,gh,if_true,hd,hl.2,fN,aJ,if_false,k1,az]
 rw[cD,this];exact m1
theorem uX.mono {g:FuncId}{A:cn}{K K':TV->cp->Prop}(h:uX call g A tS K)(hk:∀v t,K v t->K' v t):uX call g A tS K':=λι bT S hR=>by obtain⟨d,S',ι',v,bI,h1,h2,h3,h4,h5,h6⟩:=h ι bT S hR;exact⟨d,S',ι',v,bI,h1,h2,h3,h4,h5,hk _ _ h6⟩
theorem ac4{n:Nat}{c:Code}{Q:DX->cn->cp->Prop}(h:WT P ty aD call yf B LL fn iA c te tS λe te tS=>Q e te (Qz n tS)):WT P ty aD call yf B LL fn iA c te tS Q:=λι env S hR hB=>by obtain⟨e,aK,S',ι',bO,bI,h1,h2,h3,h4,h5,h6⟩:=h ι env S hR hB;refine⟨e,aK,S',ι',bO,Qz n bI,h1,?_,λk hk=>?_,h4,h5,h6⟩;have:=Pb h2 (n-bI.length) 0;simpa [Qz]using this;obtain⟨l,hl⟩:=h3 k hk;exact⟨l,by unfold Qz;rw[eC (aI.1 hl).1];exact hl⟩
theorem mR(hT:pJ T aD call)(hI:vS P ty call yf T inl)(hm:∀me,inl.me=some me->iA=false/\fn=me/\BU me=some T.yp){J:List (Nat×LA)}:∀(c:Code),(inl.me.isSome=true->C8 T.yp c)->∀(i lv:Nat)(te:cn)(tS:cp)(Q:DX->cn->cp->Prop),xu P ty tt T inl B J c i lv te tS Q->WT P ty aD call yf B LL fn iA c te tS Q
 |.skip,_,_,_,_,_,_,h=>Zr h
 |.label _,_,_,_,_,_,_,h=>VT h
 |.exit _,_,_,_,_,_,_,h=>Zu h
 |.ret,_,_,_,_,_,_,h=>ac3 h
 |.scope c,hr,i,lv,te,tS,Q,h=>VL (mR hT hI hm c hr i lv te tS Q h)
 |.block id c,hr,i,lv,te,tS,Q,h=>by
  refine VV ((mR hT hI hm c hr i lv te tS _ h).mono λe te tS hq=>?_);cases e with
  |normal=>exact hq
  |ret=>exact hq
  |exit iz=>grind
 |.cond x a b,hr,i,lv,te,tS,Q,h=>by
  simp only[xu]at h;split at h;rename_i t hx;obtain⟨h1,h2⟩:=uY h;refine Zv hx (λe=>?_) (λe=>?_);subst e;exact mR hT hI hm a (λe=>(hr e).1) i lv te tS Q (Kh hx (h1 rfl))
  subst e;exact mR hT hI hm b (λe=>(hr e).2) (i+cnt a) lv te tS Q (Kh hx (h2 rfl))
  grind
 |.seq a b,hr,i,lv,te,tS,Q,h=>by
  simp only[xu]at h;split at h;rename_i la _;split at h;rename_i ops hq;obtain⟨h1,h2⟩:=h;obtain⟨hl,id,rfl⟩:=Rv hq;obtain⟨h0,h1⟩:=iE h1;simp only[aC]at h0;refine VR (la:=la) h0.1 hl h0.2 ?_ λs hg=>mR hT hI hm b (λe=>(hr e).2) _ lv _ _ Q (ct _ (lX (Oy h2 s) hg));exact Dd (B:=B) (md:=1) (n0:=0) (mm:=tS) (Q:=λbO _=>la.some λbd=>ask (vM bd.sl 0 bO) (zF bd.kO True)) hT hI U (λbO bI fs hk _=>U3 (ai _) hk) ops.toList 0 te _ [] rfl h1 rfl;obtain⟨h1,h2⟩:=h;refine Zt (λs:la.St=>(nH (la.bd s).sl ((lv|||mP b)&&&(2^400-1-(defs a))) 0 te,xR (la.bd s) tS)) (λs=>cR (la.bd s).kO) ((mR hT hI hm a (λe=>(hr e).1) (i+1) (lv|||mP b) te tS _ h1).mono λe bO bI hq=>?_) λs hg=>mR hT hI hm b (λe=>(hr e).2) (i+1+cnt a) lv _ _ Q (cv _ (ct _ (lX (Oy h2 s) hg)));cases e with
  |normal=>obtain⟨s,hs⟩:=yb hq;obtain⟨k1,k2,-⟩:=P9 hs;exact⟨s,k1,k2⟩
  |exit id=>exact hq
  |ret=>exact hq
  refine U2 ((mR hT hI hm a (λe=>(hr e).1) (i+1) (lv|||mP b) te tS _ h).mono λe te tS hq=>?_);cases e with
  |normal=>exact mR hT hI hm b (λe=>(hr e).2) _ _ te tS Q hq
  |exit id=>exact hq
  |ret=>exact hq
 |.loop c,hr,i,lv,te,tS,Q,h=>by
  simp only[xu]at h;split at h;rename_i la _;have hF:∀te tS (K':cn->cp->Prop),xu P ty tt T inl B J c (i+1) (lv|||mP c) te tS (λe te tS=>match e with
   |.normal=>K' te tS
   |.exit id=>Q (.exit id) te tS
   |.ret=>Q .ret te tS)->WT P ty aD call yf B LL fn iA c te tS λe te tS=>match e with|.normal=>K' te tS|e=>Q e te tS:=λte tS K' hf=>(mR hT hI hm c hr _ _ te tS _ hf).mono λe te tS hq=>by cases e<;>exact hq
  refine QM (n:=1000000+min la.abl 1000) (by unfold LL;omega) (Ul hF (λte tS h=>?_) _ te tS h);generalize la.inner.at te tS=la at h;split at h;exact ZB U (Ul (N:=0) hF (λ_ _ h=>h.elim) _ te tS h);obtain⟨h1,h2⟩:=h;obtain⟨s0,h1⟩:=yb h1;obtain⟨k1,k2,k3⟩:=XD h1;refine ZC (λs:la.St=>(nH (la.bd s).sl ((lv|||mP c)&&&(2^400-1-(defs c))) 0 te,xR (la.bd s) tS)) (λs=>cR (la.bd s).kO) (λs=>(la.bd s).m) s0 k1 k2 k3 λs hg=>(mR hT hI hm c hr (i+1) (lv|||mP c) _ _ _ (cv _ (ct _ (lX (Oy h2 s) hg)))).mono λe bO bI hq=>?_;cases e with
  |normal=>obtain⟨s',hs⟩:=yb hq;obtain⟨k1,k2,k3⟩:=P9 hs;exact⟨s',k1,k2,k3⟩
  |exit id=>exact hq
  |ret=>exact hq
  grind
 |.region id ops draw,hr,i,lv,te,tS,Q,h=>QN hT hI h
 |.rangeFunc f ps nL body,hr,i,lv,te,tS,Q,h=>by
  simp only[xu]at h;split at h;rename_i me g fs cs xx hf;obtain⟨rfl,rfl,hy⟩:=hm me xx;have FE:(ps.toList,nL,body)=T.yp:=hr (by rw[xx];rfl);split at h;rename_i sW j hx;refine VP (K:=λbI=>cL (fG tS te) λte=>bN (bI.set tS.length .none) λtS=>Q .normal te tS) hf (FE▸hy) ((hI.c g sW j _ _ _ hx h).mono λv bI hk=>?_) λbI hk=>cv _ (K:=λtS=>Q .normal _ tS) (ct _ (K:=λte=>bN (bI.set _ .none) λtS=>Q .normal te tS) hk);obtain⟨h0,hk⟩:=iE hk;simp only[aC,nY]at h0;refine⟨⟨?_,h0.2⟩,hk⟩;have:=h0.1;unfold Vp at this;split at this;assumption;cases this
  grind
  grind
 |.goto _,_,_,_,_,_,_,h=>(by simp only[xu]at h)
 |.refuse _,_,_,_,_,_,_,h=>(by simp only[xu]at h)
theorem Ct{K K':TV->cn->List Prop->Prop}(hK:∀v cs f,K v cs f->K' v cs f):∀{s:sX},s.some K->s.some K'
 |.ex _ k,⟨x,h⟩=>⟨x,Ct (s:=k x) hK h⟩
 |.res _ _ _,h=>hK _ _ _ h
theorem UT{F:cn->cp->Prop}{E:DX->cn->cp->Prop}(h1:∀te tS,F te tS->E .normal te tS/\E .ret te tS):∀{e:DX}{te:cn}{tS:cp},Mx F e te tS->E e te tS
 |.normal,_,_,h=>(h1 _ _ h).1
 |.ret,_,_,h=>(h1 _ _ h).2
 |.exit _,_,_,h=>h.elim
theorem afS{rs:List ResultVar}{kQ:List cy}{s:sX}(h:acJ ty rs kQ s te tS):acZ ty rs kQ (λv=>s.tK v) .normal te tS/\acZ ty rs kQ (λv=>s.tK v) .ret te tS:=by
 unfold acJ at h;split at h;rename_i vs hv;have h:=ct (xI tS vs) (K:=λvs=>eD (vs.all dY&&(refs (jV (bK kQ vs))).isEmpty) (s.some λv _ facts=>ask (X9 (jV (bK kQ vs)) v) (cR facts)) False) h;obtain⟨h0,h⟩:=iE h;simp only[aC,CJ]at h0;have:∃vs,wB ty te tS rs=some vs/\(xI tS vs).all dY=true/\refs (jV (bK kQ (xI tS vs)))=[]/\s.tK (jV (bK kQ (xI tS vs))):=by refine⟨vs,hv,h0.1,h0.2,Ct (λv cs f hk=>?_) h⟩;obtain⟨l,h1,h2,h3⟩:=lE hk;exact⟨Dj h1 h2,h3⟩
 exact⟨⟨trivial,this⟩,trivial,this⟩
 grind
theorem afT{rs:List ResultVar}{kQ ni:List cy}{s:sX}(h:acK ty rs kQ ni s te tS):Uk ty rs kQ ni (λv cs=>s.holds v cs) .normal te tS/\Uk ty rs kQ ni (λv cs=>s.holds v cs) .ret te tS:=by
 unfold acK at h;split at h;rename_i vs ts l hv;obtain⟨h0,h⟩:=iE h;simp only[aC,CJ]at h0;have:s.holds (jV (bK kQ vs)) (bK ni ts):=by refine Ct (λv cs f hk=>?_) h;obtain⟨l,h1,h2,hk⟩:=lE hk;obtain⟨l',h3,h4,h5⟩:=lE hk;exact⟨Dj h1 h2,tL h3 h4,h5⟩
 exact⟨⟨trivial,vs,ts,hv,h0.1.1,h0.1.2,rfl,h0.2.1,h0.2.2,this⟩,trivial,vs,ts,hv,h0.1.1,h0.1.2,rfl,h0.2.1,h0.2.2,this⟩
 grind
theorem Xe{ni:List cy}{ts:cn}:Uy ni ts=bK ni ts:=by unfold Uy;split;split<;>rfl;rfl
theorem afR{rs:List ResultVar}{ni:List cy}{s:sX}(h:acI ty rs ni s te tS):acY ty rs ni (λcs=>s.zW cs) .normal te tS/\acY ty rs ni (λcs=>s.zW cs) .ret te tS:=by
 unfold acI at h;split at h;rename_i ts l hv;obtain⟨h0,h⟩:=iE h;simp only[aC,CJ]at h0;have:s.zW (bK ni ts):=by refine Ct (λv cs f hk=>?_) h;obtain⟨l',h3,h4,h5⟩:=lE hk;exact⟨Xe▸tL h3 h4,h5⟩
 exact⟨⟨trivial,ts,hv,rfl,h0.1,h0.2,this⟩,trivial,ts,hv,rfl,h0.1,h0.2,this⟩
 grind
theorem adE:∀{vs:cn}{ds:cj},cz ι S vs ds->RT ι S (jV vs) (oneOf ds)
 |[],ds,h=>by rw[aN h];simp only[jV,oneOf,RT];exact bH
 |[v],ds,h=>by obtain⟨d,m',rfl,h1,h2⟩:=ax h;rw[aN h2];exact h1
 |v::u::l,ds,h=>by obtain⟨d,m',rfl,h1,h2⟩:=ax h;obtain⟨d',m'',rfl,h3,h4⟩:=ax h2;simp only[jV,oneOf,RT];exact aO h1 (aO h3 h4)
def XOK(P:Program)(T:iO):Prop:=∀g fn j,T.X g=some (fn,j)->P.funcs[g]? =some fn/\fn.body.isSome=true
def Lev(P:Program)(ty:fo)(T:iO):Nat->bR->aY->di->Prop
 |0,aD,call,_=>pJ T aD call
 |d+1,aD,call,yf=>pJ T aD call/\∃T6 JR yf',((∀g fn,P.funcs[g]? =some fn->∀a S,call g a S=vP P ty T6 JR yf' LL g fn a S)/\yf=tJ P ty T6 JR yf' LL)/\Lev P ty T d T6 JR yf'
theorem x9{d:Nat}(h:Lev P ty T d aD call yf):pJ T aD call:=by
 cases d with
 |zero=>exact h
 |succ d=>exact h.1
theorem ac1{acg:bR}{OM:aY}{yfI:di}(hT:pJ T acg OM)(hI:vS P ty OM yfI T inl)(hm:inl.me=none)(hy:∀me,T.me=some me->BU me=some T.yp){k:Nat}{rm:FuncId}{zk xs:cn}{K:cp->Prop}(h:abX P ty tt T inl k rm zk xs tS K):∃ps nL body,BU rm=some (ps,nL,body)/\xs.length=ps.length/\(eL (nD zk (ps.zip xs))++nE tS).contains k=false/\WT P ty acg OM yfI (ny k tS) LL rm true nL (nD zk (ps.zip xs)) (tS.set k .none) λe lG gZ=>e=.normal/\WT P ty acg OM yfI (ny k tS) LL rm true body lG gZ λe _ jk=>e=.normal/\jk[k]? =some .none/\K jk:=by
 have Jo:∀me,inl.me=some me->true=false/\rm=me/\BU me=some T.yp:=λ_ e=>by rw[hm]at e;cases e
 have hn:∀c,inl.me.isSome=true->C8 T.yp c:=λ_ e=>by rw[hm]at e;cases e
 unfold abX at h;split at h;rename_i me ps nL body h1 h2;obtain⟨h0,hv⟩:=iE h;clear h;simp only[aC,dL,nY]at h0;obtain⟨⟨rfl,h3⟩,h4⟩:=h0;refine⟨ps,nL,body,h2▸hy _ h1,h3,h4,?_⟩;refine(mR hT hI Jo nL (hn _) _ _ _ _ _ (cv _ (ct _ hv))).mono λe lG gZ hk=>?_;cases e with
 |normal=>
  refine⟨rfl,ac4 (n:=tS.length) ((mR hT hI Jo body (hn _) _ _ _ _ _ hk).mono λe Tn jk hk=>?_)⟩;cases e with
  |normal=>
   replace hk:acN k (Qz tS.length jk) K:=hk
   unfold acN at hk;split at hk
   grind
   grind
  |exit _=>exact hk.elim
  |ret=>exact hk.elim
 |exit _=>exact hk.elim
 |ret=>exact hk.elim
 grind
theorem HV(hX:XOK P T)(hy:∀me,T.me=some me->BU me=some T.yp):∀(d:Nat){aD:bR}{call:aY}{yf:di},Lev P ty T d aD call yf->vS P ty call yf T (QE P ty tt T d)
 |0,_,_,_,_=>⟨λ_ _ _ _ _ _ _ h=>h.elim,λ_ _ _ _ _ _ h=>h.elim⟩
 |d+1,aD,call,yf,hL=>by
  obtain⟨-,T6,JR,yf',⟨hb,hyf⟩,Qr⟩:=hL;have hm0:(QE P ty tt T d).me=none:=by cases d<;>rfl
  refine⟨?_,λk rm zk xs tS K h=>by obtain⟨ps,nL,body,h1,h2,h3,h4⟩:=ac1 (x9 Qr) (HV hX hy d Qr) hm0 hy h;exact⟨ps,nL,body,T6,JR,yf',h1,hyf,h2,h3,h4⟩⟩;intro g fn j A tS K hx hi ι bT S hR;obtain⟨hf,hs⟩:=hX g fn j hx;have hw:=mR (fn:=g) (iA:=false) (yf:=yf') (x9 Qr) (HV hX hy d Qr) (λ_ e=>by rw[hm0]at e;cases e) _ (λe=>by rw[hm0]at e;cases e) _ _ _ _ _ (ct _ hi);have hlen:=gR hR.env;have jM:bL ι (Mo fn.ntmps A) tS (bT++List.replicate (fn.ntmps-bT.length) bD) S:=
   ⟨eH hR.env (by rw[hlen];exact x6 _ _),hR.cells,hR.own,hR.qc,hR.inj,hR.mp⟩
  obtain⟨e,aK,S',ι',bO,bI,h1,h2,h3,h4,h5,h6⟩:=hw ι _ S jM Vs;have key:acH ty fn.results.toList K bO bI->(e=.normal\/e=.ret)->∃d S' ι' v bI,call g bT S=some (d,S')/\bL ι' [v] bI [d] S'/\nM (cZ 0 tS) bI/\Fr (cZ 0 tS) ι S ι' S'/\Nn S.length S S'/\K v bI:=by
   intro hk he;unfold acH at hk;split at hk;rename_i vs hv;obtain⟨ds,k1,k2⟩:=x7 h2 hv;refine⟨oneOf ds,S',ι',jV vs,bI,?_,⟨j4 (adE k2),h2.cells,h2.own,h2.qc,h2.inj,h2.mp⟩,h3,h4,h5,hk⟩;rw[hb g fn hf];unfold pI at h1;simp only[vP];cases hc:fn.body with
   |none=>rw[hc]at hs;cases hs
   |some c=>grind
   grind
  cases e with
  |normal=>exact key h6 (.inl rfl)
  |ret=>exact key h6 (.inr rfl)
  |exit id=>exact h6.elim
def vcI(T:iO)(d:Nat)(f:Func)(kQ:List cy)(J:List (Nat×LA))(a:cn)(s:sX):Prop:=cL (Mo f.ntmps a) λte=>xu Tp Ty XZ T (QD Tp Ty XZ T d) [] J (pI f) 0 (uJ f.results.toList) te [] (Mx (acJ Ty f.results.toList kQ s))
def aem(T:iO)(d:Nat)(f:Func)(kQ ni:List cy)(J:List (Nat×LA))(a cs:cn)(s:sX):Prop:=cL (Mo f.ntmps a) λte=>xu Tp Ty XZ T (QD Tp Ty XZ T d) [0] J (pI f) 0 (uJ f.results.toList) te [.cells cs] (Mx (acK Ty f.results.toList kQ ni s))
def vcN(T:iO)(d:Nat)(f:Func)(ni:List cy)(J:List (Nat×LA))(a:cn)(s:sX):Prop:=cL (Mo f.ntmps a) λte=>xu Tp Ty XZ T (QD Tp Ty XZ T d) [] J (pI f) 0 (uJ f.results.toList) te [] (Mx (acI Ty f.results.toList ni s))
def vcO(T:iO)(d:Nat)(f:Func)(J:List (Nat×LA))(a:cn)(e:TypeId)(s:sX):Prop:=cL (Mo f.ntmps a) λte=>xu Tp Ty XZ T (QD Tp Ty XZ T d) [] J (pI f) 0 (uJ f.results.toList) te [] (Mx (ah1 Ty f.results.toList e s))
def vcM(T:iO)(d:Nat)(f:Func)(kQ:List cy)(J:List (Nat×LA))(a:cn)(t:List cn)(s:sX):Prop:=cL (Mo f.ntmps a) λte=>xu Tp Ty XZ T (QD Tp Ty XZ T d) (List.range t.length) J (pI f) 0 (uJ f.results.toList) te (t.map .cells) (Mx (ah2 Ty f.results.toList kQ t.length s))
def rq(cE:bR)(k:Nat)(T:iO):Prop:=XOK Tp T/\∀n,pJ T (Js cE (n+k)) (Dm cE (n+k))
def iO.zH (T:iO)(f:FuncId)(S:cn->Sp):iO:={T with I:=λg a=>if g=f then S a else T.I g a}
def iO.B2 (T:iO)(f:FuncId)(S:cn->cn->Sp):iO:={T with C:=λg a c=>if g=f then S a c else T.C g a c}
def iO.Zn (T:iO)(f:FuncId)(S:cn->Sp):iO:={T with N:=λg a=>if g=f then S a else T.N g a}
def iO.aiX (T:iO)(f:FuncId)(e:TypeId)(S:cn->Sp):iO:={T with O:=λg a=>if g=f then(S a).map λx=>(x.1,e,x.2)else T.O g a}
def iO.aiY (T:iO)(f:FuncId)(S:cn->List cn->Sp):iO:={T with M:=λg a t=>if g=f then S a t else T.M g a t}
def iO.acT (T:iO)(f:FuncId)(fn:Func)(j:List (Nat×LA)):iO:={T with X:=λg=>if g=f then some (fn,j)else T.X g}
variable {cE:bR} {k:Nat}
theorem tH(h:rq cE k T):rq cE (k+1) T:=⟨h.1,λn=>by have:=h.2 (n+1);rwa [Nat.add_right_comm,fO]at this⟩
theorem rH(h:rq cE k T):∀(d n:Nat),Lev Tp Ty T d (Js cE (n+(k+d))) (Dm cE (n+(k+d))) (yfT cE (n+(k+d)))
 |0,n=>h.2 n
 |d+1,n=>by
  refine⟨?_,Js cE (n+(k+d)),Dm cE (n+(k+d)),yfT cE (n+(k+d)),⟨λg fn hf a S=>?_,?_⟩,rH h d n⟩;have:=h.2 (n+(d+1));rwa [fO,yl (d+1) k]at this
  rw[show n+(k+(d+1))=(n+(k+d))+1 by omega];simp only[Bg,dU,hf];rfl;rw[show n+(k+(d+1))=(n+(k+d))+1 by omega];rfl
def iO.QC (T:iO)(f:FuncId)(fn:Func):Prop:=
 match T.me with
 |none=>True
 |some g=>g=f/\uR (pI fn)=some T.yp/\C8 T.yp (pI fn)
theorem sI{f:FuncId}{fn:Func}(hf:Tp.funcs[f]? =some fn)(hb:fn.body.isSome=true)(h:T.QC f fn):∀me,T.me=some me->f=me/\BU me=some T.yp/\C8 T.yp (pI fn):=λme e=>by
 unfold iO.QC at h;rw[e]at h;obtain⟨rfl,h1,h2⟩:=h;refine⟨rfl,?_,h2⟩;have hf':Tryz.prog.funcs[me]? =some fn:=hf;unfold pI at h1;unfold BU;rw[hf'];cases hc:fn.body with
 |none=>rw[hc]at hb;cases hb
 |some c=>rw[hc]at h1;simpa [hc]using h1
theorem IA(hX:XOK P T)(hy:∀me,T.me=some me->BU me=some T.yp){d:Nat}(h:Lev P ty T d aD call yf):vS P ty call yf T (QD P ty tt T d):=⟨(HV hX hy d h).c,(HV hX hy d h).y⟩
def iO.own (T:iO)(f:FuncId)(fn:Func)(Y:List (Nat×LA):=[]):iO:={T with me:=some f,yp:=(uR (pI fn)).getD ([],.skip,.skip),Y:=Y}
theorem Um{f:FuncId}{S:cn->Sp}(hT:rq cE k T)(h:∀n a p s,S a=some (p,s)->cR p->tE (Js cE (n+k)) f a λv=>s.tK v):rq cE k (T.zH f S):=⟨hT.1,λn=>⟨λg a p s hs hp=>by
 simp only[iO.zH]at hs;split at hs
 grind
 exact(hT.2 n).I g a p s hs hp,(hT.2 n).C,(hT.2 n).N,(hT.2 n).O,(hT.2 n).M⟩⟩
theorem ae6{f:FuncId}{S:cn->cn->Sp}(hT:rq cE k T)(h:∀n a cs p s,S a cs=some (p,s)->cR p->Bj (Dm cE (n+k)) f a cs λv cs=>s.holds v cs):rq cE k (T.B2 f S):=⟨hT.1,λn=>⟨(hT.2 n).I,λg a cs p s hs hp=>by
 simp only[iO.B2]at hs;split at hs
 grind
 exact(hT.2 n).C g a cs p s hs hp,(hT.2 n).N,(hT.2 n).O,(hT.2 n).M⟩⟩
theorem ae5{f:FuncId}{S:cn->Sp}(hT:rq cE k T)(h:∀n a p s,S a=some (p,s)->cR p->C9 (Js cE (n+k)) (Dm cE (n+k)) f a λcs=>s.zW cs):rq cE k (T.Zn f S):=⟨hT.1,λn=>⟨(hT.2 n).I,(hT.2 n).C,λg a p s hs hp=>by
 simp only[iO.Zn]at hs;split at hs
 grind
 exact(hT.2 n).N g a p s hs hp,(hT.2 n).O,(hT.2 n).M⟩⟩
theorem ae4{f:FuncId}{fn:Func}{j:List (Nat×LA)}(hT:rq cE k T)(hf:Tp.funcs[f]? =some fn)(hb:fn.body.isSome=true):rq cE k (T.acT f fn j):=⟨λg sW j' hx=>by
 simp only[iO.acT]at hx;split at hx
 grind
 exact hT.1 g sW j' hx,λn=>⟨(hT.2 n).I,(hT.2 n).C,(hT.2 n).N,(hT.2 n).O,(hT.2 n).M⟩⟩
def T0:iO where
 I:=λg a=>match g,a with
  |7,[]=>some ([],.res (zG true) [] [])
  |_,_=>none
 C:=λ_ _ _=>none
 N:=λ_ _=>none
theorem AX(tk:QJ cE):rq cE 0 T0:=by refine⟨λ_ _ _ h=>ao,λn=>⟨λg a p s hs _=>?_,λ_ _ _ _ _ hs=>(by cases hs),λ_ _ _ _ hs=>(by cases hs),λ_ _ _ _ _ hs=>(by cases hs),λ_ _ _ _ _ hs=>(by cases hs)⟩⟩;simp only[T0]at hs;split at hs;cases hs;intro bT hd;rw[aN hd];refine⟨.val (.bool true),zG true,?_,rfl,by simp only[RT],rfl,rfl,trivial⟩;simp only[CX,lK,tk.fit,DV.pure,DV.jJ,if_true];cases hs
end Go.Tv
namespace Go.Tv
open Go Go.Di Go.Proofs
abbrev Dn:=Option (List Prop×sX×List (Nat×LA))
def dS(d:Dn):Sp:=d.map λx=>(x.1,x.2.1)
def dJ(d:Dn):List (Nat×LA):=match d with
 |some x=>x.2.2
 |none=>[]
def VI(T:iO)(f:Func)(kQ:List cy)(D:cn->Dn)(d:Nat:=0):Prop:=∀a p s j,D a=some (p,s,j)->cR p->vcI T d f kQ j a s
def VC(T:iO)(f:Func)(kQ ni:List cy)(D:cn->cn->Dn)(d:Nat:=0):Prop:=∀a cs p s j,D a cs=some (p,s,j)->cR p->aem T d f kQ ni j a cs s
def VN(T:iO)(f:Func)(ni:List cy)(D:cn->Dn)(d:Nat:=0):Prop:=∀a p s j,D a=some (p,s,j)->cR p->vcN T d f ni j a s
def VO(T:iO)(f:Func)(e:TypeId)(D:cn->Dn)(d:Nat:=0):Prop:=∀a p s j,D a=some (p,s,j)->cR p->vcO T d f j a e s
def VM(T:iO)(f:Func)(kQ:List cy)(D:cn->List cn->Dn)(d:Nat:=0):Prop:=∀a t p s j,D a t=some (p,s,j)->cR p->vcM T d f kQ j a t s
def dV(d:Dn)(K:sX->List (Nat×LA)->Prop):Prop:=
 match d with
 |some (p,s,j)=>cR p->K s j
 |none=>True
structure Hd (p:Prop):Prop where
 h:p
theorem Oe{A B:Prop}(h:A=B)(a:A):Hd B:=⟨h▸a⟩
theorem Ou{T:iO}{f:Func}{kQ:List cy}{D:cn->Dn}{d:Nat}(h:∀a,dV (D a) λs j=>Hd (vcI T d f kQ j a s)):VI T f kQ D d:=λa p s j hd hp=>by have:=h a;rw[hd]at this;exact(this hp).h
theorem ae3{T:iO}{f:Func}{ni:List cy}{D:cn->Dn}{d:Nat}(h:∀a,dV (D a) λs j=>Hd (vcN T d f ni j a s)):VN T f ni D d:=λa p s j hd hp=>by have:=h a;rw[hd]at this;exact(this hp).h
theorem xM{T:iO}{f:Func}{kQ ni:List cy}{D:cn->cn->Dn}{d:Nat}(h:∀a cs,dV (D a cs) λs j=>Hd (aem T d f kQ ni j a cs s)):VC T f kQ ni D d:=λa cs p s j hd hp=>by have:=h a cs;rw[hd]at this;exact(this hp).h
theorem d_some{d:Dn}{p:List Prop}{s:sX}(h:dS d=some (p,s)):d=some (p,s,dJ d):=by
 cases d with
 |none=>cases h
 |some x=>cases h;rfl
variable {cE:bR} {k:Nat} {T:iO}
theorem AK{fn:Func}(hb:fn.body.isSome=true):fn.body=some (pI fn):=by unfold pI;revert hb;cases fn.body<;>simp
theorem mkJ(hT:rq cE k T){f:FuncId}{fn:Func}{kQ:List cy}{D:cn->Dn}{d:Nat}(hn:∀a p s,dS (D a)=some (p,s)->cR p->∀da,cz gC [] a da->cE f da=none)(hf:Tp.funcs[f]? =some fn)(hb:fn.body.isSome=true)(h:VI T fn kQ D d){T':iO}(hT':rq cE (k+d+1) T')(xx:T.QC f fn:=by exact trivial):rq cE (k+d+1) (T'.zH f λa=>dS (D a)):=
 Um hT' λn a p s hs hp=>Xv (n:=n+(k+d)) hf (AK hb) (hn a p s hs hp) ((mR (x9 (rH hT d n)) (IA hT.1 (λme e=>(sI hf hb xx me e).2.1) (rH hT d n)) (λme e=>⟨rfl,(sI hf hb xx me e).1,(sI hf hb xx me e).2.1⟩) _ (λe=>by obtain⟨me,e⟩:=yz.1 e;exact(sI hf hb xx me e).2.2) _ _ _ _ _ (ct _ (h a p s _ (d_some hs) hp))).mono λ_ _ _ hq=>UT (λ_ _=>afS) hq)
theorem mkI(tk:QJ cE)(hT:rq cE k T){f:FuncId}{fn:Func}{kQ:List cy}{D:cn->Dn}{d:Nat}(hne:f≠64/\f≠124/\f≠7/\f≠10/\f≠14)(hf:Tp.funcs[f]? =some fn)(hb:fn.body.isSome=true)(h:VI T fn kQ D d){T':iO}(hT':rq cE (k+d+1) T')(xx:T.QC f fn:=by exact trivial):rq cE (k+d+1) (T'.zH f λa=>dS (D a)):=
 mkJ hT (λ_ _ _ _ _ _ _=>tk.other _ _ hne.1 hne.2.1 hne.2.2.1 hne.2.2.2.1 hne.2.2.2.2) hf hb h hT' xx
theorem Yr(hT:rq cE k T){f:FuncId}{fn:Func}{kQ ni:List cy}{D:cn->cn->Dn}{d:Nat}(hf:Tp.funcs[f]? =some fn)(hb:fn.body.isSome=true)(h:VC T fn kQ ni D d){T':iO}(hT':rq cE (k+d+1) T')(xx:T.QC f fn:=by exact trivial):rq cE (k+d+1) (T'.B2 f λa c=>dS (D a c)):=
 ae6 hT' λn a cs p s hs hp=>XL (n:=n+(k+d)) hf (AK hb) ((mR (x9 (rH hT d n)) (IA hT.1 (λme e=>(sI hf hb xx me e).2.1) (rH hT d n)) (λme e=>⟨rfl,(sI hf hb xx me e).1,(sI hf hb xx me e).2.1⟩) _ (λe=>by obtain⟨me,e⟩:=yz.1 e;exact(sI hf hb xx me e).2.2) _ _ _ _ _ (ct _ (h a cs p s _ (d_some hs) hp))).mono λ_ _ _ hq=>UT (λ_ _=>afT) hq)
theorem mkN(tk:QJ cE)(hT:rq cE k T){f:FuncId}{fn:Func}{ni:List cy}{D:cn->Dn}{d:Nat}(hne:f≠64/\f≠124/\f≠7/\f≠10/\f≠14)(hf:Tp.funcs[f]? =some fn)(hb:fn.body.isSome=true)(h:VN T fn ni D d){T':iO}(hT':rq cE (k+d+1) T')(xx:T.QC f fn:=by exact trivial):rq cE (k+d+1) (T'.Zn f λa=>dS (D a)):=
 ae5 hT' λn a p s hs hp=>Xd (n:=n+(k+d)) hf (AK hb) (λ_=>tk.other _ _ hne.1 hne.2.1 hne.2.2.1 hne.2.2.2.1 hne.2.2.2.2) ((mR (x9 (rH hT d n)) (IA hT.1 (λme e=>(sI hf hb xx me e).2.1) (rH hT d n)) (λme e=>⟨rfl,(sI hf hb xx me e).1,(sI hf hb xx me e).2.1⟩) _ (λe=>by obtain⟨me,e⟩:=yz.1 e;exact(sI hf hb xx me e).2.2) _ _ _ _ _ (ct _ (h a p s _ (d_some hs) hp))).mono λ_ _ _ hq=>UT (λ_ _=>afR) hq)
def QB(α:Type):Prop:=([]:List α)=[]
theorem vI{α:Type}:QB α=True:=by simp[QB]
theorem wH{b:Bool}{A B:Prop}:eD b A B↔(b=true->A)/\(b=false->B):=by cases b<;>simp[eD]
theorem lR{p:Prop}[Decidable p]{A B:Prop}:eD (decide p) A B↔(p->A)/\(¬p->B):=by rw[wH];simp
theorem qi{b:Bool}{A B:Prop}:eD (!b) A B↔eD b B A:=by cases b<;>rfl
theorem oK{a c:Int}{A B:Prop}:eD (a==c) A B↔(a=c->A)/\(¬a=c->B):=by rw[wH];simp
theorem qj{a c:Int}{A B:Prop}:eD (a !=c) A B↔(a=c->B)/\(¬a=c->A):=by rw[wH];simp[and_comm]
end Go.Tv
namespace Go.Tv
open Go Go.Di Go.Proofs
theorem PR{l:br}{i:Nat}(h:i<l.length):l.getD i 0=l[i]:=by simp[aP,h]
theorem take_one{l:br}{i:Nat}(h:i<l.length):l.take (i+1)=l.take i++[l.getD i 0]:=by rw[PR h,List.take_append_getElem]
theorem KL{l:br}{i:Nat}(h:i<l.length):l.getD i 0∈l:=by rw[PR h];exact lp _
def aii(l:br)(x:Int):Int:=if x∈l then(l.idxOf x:Int)else-1
abbrev Fh(rest:br)(last:Int):cn:=[.sl nC rest .no,.val (.int .u64 last)]
theorem z7(n:Int):IntKind.u64.wrap n=n % 18446744073709551616:=by simp[IntKind.wrap,IntKind.bits,IntKind.signed]
theorem u64_in(n:Int):0<=IntKind.u64.wrap n/\IntKind.u64.wrap n<18446744073709551616:=by rw[z7];omega
theorem VA(a:Int):a.fdiv 4294967296=a/4294967296:=Int.fdiv_eq_ediv_of_nonneg _ U
theorem abE{x n:Int}(h:IntKind.u64.wrap n=x):0<=x.fdiv 4294967296/\x.fdiv 4294967296<4294967296:=by have:=u64_in n;rw[VA,<-h];omega
theorem aa6{k m:Int}(hm:m<=1000)(h0:0<m)(hk:0<=k)(ox:k<4294967296):0<=IntKind.i64.wrap ((IntKind.u64.wrap (k*IntKind.u64.wrap (m+1))).fdiv 4294967296)/\(IntKind.i64.wrap ((IntKind.u64.wrap (k*IntKind.u64.wrap (m+1))).fdiv 4294967296)<=m\/IntKind.i64.wrap ((IntKind.u64.wrap (k*IntKind.u64.wrap (m+1))).fdiv 4294967296)=0):=by have h1:k*(m+1)<=4294967295*(m+1):=aa2 U U;have h2:0<=k*(m+1):=Int.mul_nonneg hk U;rw[z7 (m+1),Int.emod_eq_of_lt (a:=m+1) U U,VA,z7];generalize k*(m+1)=p at*;rw[Int.emod_eq_of_lt U U,Da U U];omega
theorem Ee{α:Type}{P:α->Prop}{l:List α}{a:α}(h:∀x∈l,P x)(ha:P a):∀x∈l++[a],P x:=by intro x hx;rcases gV.1 hx with hx|hx;exact h x hx;rw[bQ.1 hx];exact ha
theorem XV{l:br}{a:Int}(h:l.Pairwise (·<·))(ha:∀x∈l,x<a):(l++[a]).Pairwise (·<·):=by rw[List.pairwise_append];exact⟨h,List.pairwise_singleton _ _,λx hx y hy=>by rw[bQ.1 hy];exact ha x hx⟩
theorem Fv{f:Int->Int}{l:br}{i:Nat}(h:i<l.length):(l.take i).map f++[f (l.getD i 0)]=(l.take (i+1)).map f:=by rw[take_one h,iI];rfl
abbrev pcV(u l:br)(w:Int)(ls:br):TV:=.agg [.sl nC u .no,.sl nC l .no,s8 w,.sl nC ls .no]
abbrev Num(u l:br)(w:Int):Prop:=3<=u.length/\u.length<=8/\l.length=u.length/\0<=w/\w<=2
structure Ok (u l:br) (w:Int) (ls:br):Prop where
 n3:3<=u.length
 n8:u.length<=8
 len:l.length=u.length
 hu:∀x∈u,0<=x/\x<=9
 hl:∀x∈l,0<=x/\x<=9
 w0:0<=w
 w2:w<=2
 ne:ls≠[]
 lie:∀x∈ls,0<=x/\x<=3
 asc:ls.Pairwise (·<·)
def agY(a b:Int):Int:=IntKind.i64.wrap ((BitVec.ofInt 64 a^^^BitVec.ofInt 64 b).toNat:Int)
def aio(y:Int)(ls:br)(i:Nat):br:=((List.range i).map Int.ofNat).filter λx=>decide (agY x y∈ls)
def inB(Ht x:Int):Bool:=decide (0<=x/\x<=Ht)
def aet(ls:br)(i:Nat):Int:=if i<ls.length then(if ls.getD i 0<0\/3<ls.getD i 0 then 8 else if 0<i/\ls.getD i 0<=ls.getD (i-1) 0 then 5 else aet ls (i+1))else 0
 termination_by ls.length-i
def chk(u l:br)(w:Int)(ls:br):Int:=
 if u.length<3 then 7 else if 8<u.length then 6 else if l.length<u.length then 7 else if u.length<l.length then 6
 else if u.all (inB 9)=false\/l.all (inB 9)=false\/w<0\/2<w then 1 else if ls.length=0 then 7 else aet ls 0
abbrev PD:Type:=eG.den
abbrev cJ:=List PD
abbrev pd(u l:br)(w:Int)(ls:br):PD:=(u,l,w,ls,())
def aeS(p:PD):Int:=chk p.1 p.2.1 p.2.2.1 p.2.2.2.1
def ah8:cJ->Int
 |[]=>0
 |p::l=>if aeS p≠0 then aeS p else ah8 l
def zK(p:PD):Prop:=p.1.length<=1000/\p.2.1.length<=1000/\p.2.2.2.1.length<=1000
theorem D2{P:PD->Prop}{l:cJ}{i:Nat}{d:PD}(h:i<l.length)(hl:∀p∈l,P p):P (l.getD i d):=by
 have e:l.getD i d=l[i]:=by simp[aP,h]
 rw[e];exact hl _ (lp _)
abbrev edV(u l:br):TV:=.agg [.sl nC u .no,.sl nC l .no]
def Tx(l:br):Prop:=∀x∈l,0<=x/\x<=9
def Jw(la ub:br)(s:Int):Nat->br
 |0=>[]
 |i+1=>if 0<=(i:Int)+s/\(i:Int)+s<la.length then Jw la ub s i++[ub.getD i 0+la.getD ((i:Int)+s).toNat 0]else Jw la ub s i
def stS(st:Int×Int×Int)(x:Int):Int×Int×Int:=(if x<(if st.2.2=0 then x else st.1)then x else(if st.2.2=0 then x else st.1),if x>(if st.2.2=0 then x else st.2.1)then x else(if st.2.2=0 then x else st.2.1),st.2.2+1)
def stF(l:br):Int×Int×Int:=l.foldl stS (0,0,0)
abbrev stA(la ub:br)(s:Int):Int×Int×Int:=stF (Jw la ub s ub.length)
def adZ(la ub:br)(cO s:Int):Bool:=decide (3<=(stF (Jw la ub s ub.length)).2.2/\(stF (Jw la ub s ub.length)).2.1-(stF (Jw la ub s ub.length)).1<=cO)
def shL(la ub:br)(cO:Int)(k:Nat):br:=((List.range k).map λ(j:Nat)=>(j:Int)-(ub.length:Int)).filter (adZ la ub cO)
def Sh(u l ls:br):Prop:=u.length<=1000/\l.length<=1000/\ls.length<=1000
def aiU(la ub:br)(wa wb s:Int):VJ.den:=((stF (Jw la ub s ub.length)).2.1,(stF (Jw la ub s ub.length)).1+wa+wb,())
theorem ae9{u l:br}{w:Int}{ls:br}(h:Ok u l w ls):Sh u l ls:=by
 refine⟨by have:=h.n8;omega,by have:=h.n8;have:=h.len;omega,?_⟩;have key:∀(ls:br)(m:Int),m<=4->(∀x∈ls,m<=x/\x<=3)->ls.Pairwise (·<·)->(ls.length:Int)<=4-m:=by
  intro ls;induction ls with
  |nil=>intro m hm _ _;simp;omega
  |cons x ls ih=>intro m hm h1 h2;rw[List.pairwise_cons]at h2;have h3:=h1 x ab;have:=ih (x+1) U (λy hy=>⟨by have:=h2.1 y hy;omega,(h1 y (by simp[hy])).2⟩) h2.2;simp only[dA];omega
 have:=key ls 0 U h.lie h.asc;omega
def aiv(la ub:br)(s:Int)(i:Nat):Option Int:=if 0<=(i:Int)+s/\(i:Int)+s<la.length then some (ub.getD i 0+la.getD ((i:Int)+s).toNat 0)else none
def aiB(n:Int)(u l:br):br:=if n=1 then l.reverse else if n=2 then u.reverse else if n=3 then l else u
def aiC(n:Int)(u l:br):br:=if n=1 then u.reverse else if n=2 then l.reverse else if n=3 then u else l
theorem Xb{l a l1:br}{w:Int}{ls:br}(h:Ok a l1 w ls)(hn:l1.length=l.length)(hl:Tx l):Ok (l.map (9-·)) l1 w ls where
 n3:=by have:=h.n3;have:=h.len;simp;omega
 n8:=by have:=h.n8;have:=h.len;simp;omega
 len:=by simp;omega
 hu:=λx hx=>by simp only[eO]at hx;obtain⟨y,hy,rfl⟩:=hx;have:=hl y hy;omega
 hl:=h.hl
 w0:=h.w0
 w2:=h.w2
 ne:=h.ne
 lie:=h.lie
 asc:=h.asc
def aiS(la ub:br)(w s:Int):Int×Int×Int:=if(stA la ub s).2.2<3 then(0,0,7)else if(stA la ub s).2.1-(stA la ub s).1>w then(0,0,11)else((stA la ub s).2.1,(stA la ub s).1+w,0)
end Go.Tv
