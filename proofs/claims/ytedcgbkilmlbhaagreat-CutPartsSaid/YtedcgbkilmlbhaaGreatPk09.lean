import Derived.Test.YtedcgbkilmlbhaaGreatPk08
section
namespace Go.Tv
open Go Go.Di Go.Proofs
variable {P:Program} {ty:fI} {tt:TypeId→Option TT} {T:gD} {ι ι' w:lK} {S S':ak} {te mm:List TV} {env:List DV} {tS iT:List TB} {aI:bM} {call:bz} {yf:eE} {o:Oper} {ay nT:Nat} {B:List Nat} {r:TR} {ops:Array Oper} {fn:FuncId} {gW:Bool} {fs:List cT}
def LA.St:LA→Type
 | .ex α k=>(x:α)×(k x).St
 | .st _=>Unit
 | .un _=>Empty
 | .dep _=>Empty
 | .pe _ _=>Empty
def LA.bd:(la:LA)→la.St→Bd
 | .ex _ k,⟨x,s⟩=>(k x).bd s
 | .st b,_=>b
theorem ve {K:Bd→Prop}:∀ {la:LA},la.some K→∃ s:la.St,K (la.bd s)
 | .ex _ k,⟨x,h⟩=>by
  obtain⟨s,h1⟩:=ve (la:=k x) h
  exact⟨⟨x,s⟩,h1⟩
 | .st b,h=>⟨(),h⟩
 | .un _,h=>h.elim
 | .dep _,h=>h.elim
 | .pe _ _,h=>h.elim
theorem Js {K:Bd→Prop}:∀ {la:LA},la.all K→∀ s:la.St,K (la.bd s)
 | .ex _ _,h,⟨x,s⟩=>Js (h x) s
 | .st _,h,_=>h
theorem QA {b:Bd} {keep:Nat} {K:Prop} (h:O5 B b keep te tS K):Fits B (lH b.sl keep 0 te) (uR b tS) te tS∧cK b.eF∧K:=by
 obtain⟨h0,h⟩:=jL h
 simp only[aB] at h0
 obtain⟨l1,e1,k1,h⟩:=jd h
 obtain⟨l2,e2,k2,h⟩:=jd h
 obtain⟨h3,h4⟩:=iH h
 exact⟨⟨vF e1 k1,iG e2 k2,h0.1,fun k hk=>aW.1 h0.2 k hk⟩,h3,h4⟩
theorem KP {b:Bd} {K:Prop} (h:Oz B mm iT b te tS K):Fits B mm iT te tS∧cK b.eF∧K:=by
 obtain⟨h0,h⟩:=jL h
 simp only[aB] at h0
 obtain⟨l1,e1,k1,h⟩:=jd h
 obtain⟨l2,e2,k2,h⟩:=jd h
 obtain⟨h3,h4⟩:=iH h
 exact⟨⟨vc e1 k1,TP e2 k2,h0.1,fun k hk=>aW.1 h0.2 k hk⟩,h3,h4⟩
theorem NX {N:Nat} {c:Code} {Q:DX→List TV→List TB→Prop} {K:List TV→List TB→Prop} {f:List TV→List TB→(List TV→List TB→Prop)→Prop} (hf:∀ te tS K',f te tS K'→WT P ty aI call yf B LL fn gW c te tS fun e te tS=>match e with | .normal=>K' te tS | e=>Q e te tS) (hK:∀ te tS,K te tS→WI P ty aI call yf B LL fn gW N c te tS Q) :
  ∀ (n:Nat) (te:List TV) (tS:List TB),unK f K n te tS→WI P ty aI call yf B LL fn gW (N+n) c te tS Q
 | 0,te,tS,h=>hK te tS h
 | n+1,te,tS,h=>SH ((hf te tS _ h).mono fun e te tS hq=>by
   cases e with
   | normal=>exact NX hf hK n te tS hq
   | exit id=>exact hq
   | ret=>exact hq)
theorem SI {n m:Nat} {c:Code} {Q:DX→List TV→List TB→Prop} (hn:n≤m) (h:WI P ty aI call yf B LL fn gW n c te tS Q):WI P ty aI call yf B LL fn gW m c te tS Q:=by
 intro ι env S hR hB
 obtain⟨e,aC,S',ι',ck,cu,h1,h2⟩:=h ι env S hR hB
 exact⟨e,aC,S',ι',ck,cu,xo hn h1,h2⟩
theorem FP {x:Operand} {v:Bool} {K:List TV→Prop} (hx:gd te x=some (.val (.bool v))) (h:N0 x te v K):K te:=by
 cases x with
 | tmp t =>
  simp only[gd,az] at hx
  have:=nA te t _ (h:BJ te t _ K)
  rwa [mS] at this
  rw[aO] at hx
  cases e:te[t]? with
  | none=>rw[e] at hx; cases hx
  | some a=>rw[e] at hx; exact congrArg some hx
 | _=>exact h
variable {inl:Z5}
theorem Ln (hT:qi T aI call) (hI:x4 call T inl) {id:Nat} {draw:Bool} {J:List (Nat×LA)} {i lv:Nat} {Q:DX→List TV→List TB→Prop} (h:wo P ty tt T inl B J (.region id ops draw) i lv te tS Q):WT P ty aI call yf B LL fn gW (.region id ops draw) te tS Q:=by
 simp only[wo] at h
 split at h
 ·split at h
  ·rename_i hn
   obtain⟨hd,h⟩:=jL h
   refine Ph hd hn ?_
   exact zQ (md:=2) (n0:=tS.length) (oO:=tS) (Q:=fun te tS=>Q .normal te (lE tS)) hT hI (by omega) (fun te tS fs hk=>by
    obtain⟨hm,hk⟩:=jL hk
    exact XF (ai _) hm (dg _ (K:=fun tS=>Q .normal te tS) hk)) ops.toList 0 te _ [] rfl (dg _ (K:=fun oO=>nt P ty tt T inl 2 tS.length ops ops.toList 0 te oO [] fun te tS fs=>aN (qG (Region.before ops) fs) (cS (lE tS) fun tS=>Q .normal te tS) False) h)
  ·rename_i hn
   obtain⟨hd,h⟩:=jL h
   refine Pb hd hn ?_
   exact zQ (B:=B) (md:=1) (n0:=0) (oO:=tS) (Q:=fun te tS=>Q .normal te tS) hT hI (by omega) (fun te tS fs hk _=>OG (ai _) hk) ops.toList 0 te _ [] rfl h rfl
 ·refine Pe ?_
  exact zQ (md:=0) (n0:=0) (oO:=tS) (Q:=fun te tS=>Q .normal te (lE tS)) hT hI (by omega) (fun te tS fs hk=>XB (ai _) (dg _ (K:=fun tS=>Q .normal te tS) hk)) ops.toList 0 te _ [] rfl h
theorem LW {c:Code} (h:HX P c=some ops):sV P ops=false∧∃ id,c = .region id ops true:=by
 unfold HX at h
 split at h
 ·split at h
  ·cases h
  ·rename_i hl; cases h; exact⟨Bool.eq_false_iff.2 hl,_,rfl⟩
 ·cases h
theorem A5 {env:List DV} {dst:Option Tmp} {v:DV} {i:Nat} (h:dst≠some i):(iM env dst v)[i]? = env[i]? := by
 cases dst with
 | none=>rfl
 | some d =>
  simp only[iM]
  rw[aK,if_neg (fun e=>h (by rw[e]))]
theorem wW {i:Nat}:∀ {l:List Oper} {env aC:List DV},nN P ty aI call yf ops S l env=some aC→(∀ o∈l,o.dst≠some i)→aC[i]? = env[i]?
 | [],env,aC,h,_=>by cases h; rfl
 | o::l,env,aC,h,hd=>by
  simp only[nN] at h
  split at h
  ·split at h
   ·rw[wW h fun o' j6=>hd o' (List.mem_cons_of_mem _ j6),A5 (hd o (kO ..))]
   ·cases h
  ·rw[wW h fun o' j6=>hd o' (List.mem_cons_of_mem _ j6),A5 (hd o (kO ..))]
theorem Ye {u v:TV} {d:DV} (h:LeV u v) (hd:RT ι S v d):RT ι S u d:=by
 obtain⟨_,_,e,h1,-⟩:=ax (H7 (h [] [] .nil) (je hd))
 cases e
 exact h1
theorem um {sl:List (Nat×TV)} {keep:Nat}:∀ {i:Nat} {te ck:List TV} {env aC:List DV} {l:List Prop},cQ ι S te env→cQ ι S ck aC→ck.length=te.length→sX sl i ck=some l→cK l→(∀ j,keep.testBit (i+j)=true→aC[j]? = env[j]?)→cQ ι S (lH sl keep i te) aC
 | _,[],[],_,_,_,_,h2,_,_,_,_=>by rw[aU h2]; exact bS
 | i,v::te,v'::ck,env,aC,l,h1,h2,hn,hp,hc,hk=>by
  obtain⟨d,m,rfl,a1,a2⟩:=ax h1
  obtain⟨d',m',rfl,b1,b2⟩:=ax h2
  have Jg:ck.length=te.length:=by simpa using hn
  have sS:∀ j,keep.testBit (i+1+j)=true→m'[j]? = m[j]? := fun j hj=>by
   have:=hk (j+1) (by rw[← fO,Nat.add_right_comm]; exact hj)
   simpa using this
  simp only[sX] at hp
  simp only[lH]
  split at hp
  ·rename_i p Nj
   split at hp
   ·rename_i x y e1 e2
    cases hp
    obtain⟨k1,k2⟩:=kz hc
    exact aV (Ye (H6 e1 k1) b1) (um a2 b2 Jg e2 k2 sS)
   ·cases hp
  ·refine aV ?_ (um a2 b2 Jg hp hc sS)
   split
   ·rename_i hb
    have:=hk 0 hb
    simp only[List.getElem?_cons_zero,az] at this
    rw[this]; exact a1
   ·simp only[RT]
 | _,[],_::_,_,_,_,_,_,hn,_,_,_=>by simp at hn
 | _,_::_,[],_,_,_,_,_,hn,_,_,_=>by simp at hn
theorem Aj:∀ {l:List Oper} {env aC:List DV},nN P ty aI call yf ops S l env=some aC→aC.length=env.length
 | [],env,aC,h=>by cases h; rfl
 | o::l,env,aC,h=>by
  have hp:∀ (dst:Option Tmp) (v:DV),(iM env dst v).length=env.length:=fun dst v=>by cases dst<;>simp[iM]
  simp only[nN] at h
  split at h
  ·split at h
   ·rw[Aj h,hp]
   ·cases h
  ·rw[Aj h,hp]
theorem Pd {id:Nat} {b:Code} {Q:DX→List TV→List TB→Prop} {la:LA} {keep:Nat} (hd:jK ops (Region.before ops)=true) (hl:sV P ops=false) (hk:OU keep ops=true)
  (h1:WQ P ty aI call yf ops tS 0 te fun ck=>la.some fun bd=>ask (sX bd.sl 0 ck) (yP bd.eF True))
  (h2:∀ s:la.St,cK (la.bd s).eF→WT P ty aI call yf B LL fn gW b (lH (la.bd s).sl keep 0 te) tS Q):WT P ty aI call yf B LL fn gW (.seq (.region id ops true) b) te tS Q:=by
 intro ι env S hR hB
 obtain⟨aC,ck,k1,k2,k3⟩:=h1 ι env S hR
 rw[kL] at k1
 obtain⟨s,hs⟩:=ve k3
 obtain⟨l,e1,e2,e3⟩:=jd hs
 obtain⟨e3,-⟩:=iH e3
 have Ry:b9 ι (lH (la.bd s).sl keep 0 te) tS aC S:=by
  refine⟨um hR.env k2.env ?_ e1 e2 fun j hj => ?_,k2.cells,k2.own,k2.xI,k2.inj,k2.mp⟩
  ·rw[← fM k2.env,← fM hR.env,Aj k1]
  ·refine wW k1 fun o ho e => ?_
   have:=aW.1 hk o ho
   rw[gQ] at hj
   rw[e] at this
   simp only[hj] at this
   cases this
 obtain⟨e,ou,tj,ι'',tA,tB,m1,m2,m3,m4,m5,m6⟩:=h2 s e3 ι aC S Ry hB
 refine⟨e,ou,tj,ι'',tA,tB,?_,m2,m3,m4,m5,m6⟩
 have:ct P ty aI call yf LL fn gW (.region id ops true) env S=some (.normal,aC,S):=by
  simp only[sV,Bool.or_eq_false_iff] at hl; simp only[ct,nB,if_true,hd,hl.2,eO,aD,if_false,k1,Option.map_some]
 rw[ct,this]
 exact m1
theorem lD (hT:qi T aI call) (hI:x4 call T inl) {J:List (Nat×LA)}:∀ (c:Code) (i lv:Nat) (te:List TV) (tS:List TB) (Q:DX→List TV→List TB→Prop),wo P ty tt T inl B J c i lv te tS Q→WT P ty aI call yf B LL fn gW c te tS Q
 | .skip,_,_,_,_,_,h=>Sy h
 | .label _,_,_,_,_,_,h=>Pg h
 | .exit _,_,_,_,_,_,h=>SB h
 | .ret,_,_,_,_,_,h=>Xz h
 | .scope c,i,lv,te,tS,Q,h=>Pa (lD hT hI c i lv te tS Q h)
 | .block id c,i,lv,te,tS,Q,h=>by
  refine Pj ((lD hT hI c i lv te tS _ h).mono fun e te tS hq => ?_)
  cases e with
  | normal=>exact hq
  | ret=>exact hq
  | exit gR =>
   dsimp only at hq ⊢
   split<;>simp_all
 | .cond x a b,i,lv,te,tS,Q,h=>by
  simp only[wo] at h
  split at h
  ·rename_i t hx
   obtain⟨h1,h2⟩:=rW h
   refine SC hx (fun e => ?_) (fun e => ?_)
   ·subst e; exact lD hT hI a i lv te tS Q (FP hx (h1 rfl))
   ·subst e; exact lD hT hI b (i+cnt a) lv te tS Q (FP hx (h2 rfl))
  ·exact h.elim
 | .seq a b,i,lv,te,tS,Q,h=>by
  simp only[wo] at h
  split at h
  ·rename_i la _
   split at h
   ·rename_i ops hq
    obtain⟨h1,h2⟩:=h
    obtain⟨hl,id,rfl⟩:=LW hq
    obtain⟨h0,h1⟩:=jL h1
    simp only[aB] at h0
    refine Pd (la:=la) h0.1 hl h0.2 ?_ fun s hg=>lD hT hI b _ lv _ _ Q (cr _ (ko (Js h2 s) hg))
    exact zQ (B:=B) (md:=1) (n0:=0) (oO:=tS) (Q:=fun ck _=>la.some fun bd=>ask (sX bd.sl 0 ck) (yP bd.eF True)) hT hI (by omega) (fun ck cu fs hk _=>OG (ai _) hk) ops.toList 0 te _ [] rfl h1 rfl
   obtain⟨h1,h2⟩:=h
   refine SA (fun s:la.St=>(lH (la.bd s).sl ((lv ||| mD b) &&& (2 ^ 400-1-(defs a))) 0 te,uR (la.bd s) tS)) (fun s=>cK (la.bd s).eF) ((lD hT hI a (i+1) (lv ||| mD b) te tS _ h1).mono fun e ck cu hq => ?_) fun s hg=>lD hT hI b (i+1+cnt a) lv _ _ Q (dg _ (cr _ (ko (Js h2 s) hg)))
   cases e with
   | normal =>
    obtain⟨s,hs⟩:=ve hq
    obtain⟨k1,k2,-⟩:=KP hs
    exact⟨s,k1,k2⟩
   | exit id=>exact hq
   | ret=>exact hq
  ·refine OE ((lD hT hI a (i+1) (lv ||| mD b) te tS _ h).mono fun e te tS hq => ?_)
   cases e with
   | normal=>exact lD hT hI b _ _ te tS Q hq
   | exit id=>exact hq
   | ret=>exact hq
 | .loop c,i,lv,te,tS,Q,h=>by
  simp only[wo] at h
  split at h
  ·rename_i la _
   have hF:∀ te tS (K':List TV→List TB→Prop),wo P ty tt T inl B J c (i+1) (lv ||| mD c) te tS (fun e te tS=>match e with
    | .normal=>K' te tS
    | .exit id=>Q (.exit id) te tS
    | .ret=>Q .ret te tS)→WT P ty aI call yf B LL fn gW c te tS fun e te tS=>match e with | .normal=>K' te tS | e=>Q e te tS:=fun te tS K' hf=>(lD hT hI c _ _ te tS _ hf).mono fun e te tS hq=>by
     cases e with
     | normal=>exact hq
     | exit id=>exact hq
     | ret=>exact hq
   refine Lm (n:=1000000+min la.Vl 1000) (by unfold LL; omega) (NX hF (fun te tS h => ?_) _ te tS h)
   generalize la.inner.at te tS=la at h
   split at h
   ·exact SI (by omega) (NX (N:=0) hF (fun _ _ h=>h.elim) _ te tS h)
   ·obtain⟨h1,h2⟩:=h
    obtain⟨s0,h1⟩:=ve h1
    obtain⟨k1,k2,k3⟩:=QA h1
    refine SJ (fun s:la.St=>(lH (la.bd s).sl ((lv ||| mD c) &&& (2 ^ 400-1-(defs c))) 0 te,uR (la.bd s) tS)) (fun s=>cK (la.bd s).eF) (fun s=>(la.bd s).m) s0 k1 k2 k3 fun s hg=>(lD hT hI c (i+1) (lv ||| mD c) _ _ _ (dg _ (cr _ (ko (Js h2 s) hg)))).mono fun e ck cu hq => ?_
    cases e with
    | normal =>
     obtain⟨s',hs⟩:=ve hq
     obtain⟨k1,k2,k3⟩:=KP hs
     exact⟨s',k1,k2,k3⟩
    | exit id=>exact hq
    | ret=>exact hq
  ·exact h.elim
 | .region id ops draw,i,lv,te,tS,Q,h=>Ln hT hI h
 | .rangeFunc ..,_,_,_,_,_,h=>(by simp only[wo] at h)
 | .goto _,_,_,_,_,_,h=>(by simp only[wo] at h)
 | .refuse _,_,_,_,_,_,h=>(by simp only[wo] at h)
theorem uZ {K K':TV→List TV→List Prop→Prop} (hK:∀ v cs f,K v cs f→K' v cs f):∀ {s:qc},s.some K→s.some K'
 | .ex _ k,⟨x,h⟩=>⟨x,uZ (s:=k x) hK h⟩
 | .res _ _ _,h=>hK _ _ _ h
theorem JD {F:List TV→List TB→Prop} {E:DX→List TV→List TB→Prop} (h1:∀ te tS,F te tS→E .normal te tS∧E .ret te tS):∀ {e:DX} {te:List TV} {tS:List TB},Lh F e te tS→E e te tS
 | .normal,_,_,h=>(h1 _ _ h).1
 | .ret,_,_,h=>(h1 _ _ h).2
 | .exit _,_,_,h=>h.elim
theorem abD {rs:List ResultVar} {gJ:List (Option TT)} {s:qc} (h:Xd ty rs gJ s te tS):Xq ty rs gJ (fun v=>s.lu v) .normal te tS∧Xq ty rs gJ (fun v=>s.lu v) .ret te tS:=by
 unfold Xd at h
 split at h
 ·rename_i vs hv
  have h:=cr (uJ tS vs) (K:=fun vs=>aN (vs.all dR&&(refs (jC (bG gJ vs))).isEmpty) (s.some fun v _ facts=>ask (UY (jC (bG gJ vs)) v) (cK facts)) False) h
  obtain⟨h0,h⟩:=jL h
  simp only[aB,List.isEmpty_iff] at h0
  have:∃ vs,wv ty te tS rs=some vs∧(uJ tS vs).all dR=true∧refs (jC (bG gJ (uJ tS vs)))=[]∧s.lu (jC (bG gJ (uJ tS vs))):=by
   refine⟨vs,hv,h0.1,h0.2,uZ (fun v cs f hk => ?_) h⟩
   obtain⟨l,h1,h2,h3⟩:=jd hk
   exact⟨zZ h1 h2,h3⟩
  exact⟨⟨trivial,this⟩,trivial,this⟩
 ·exact h.elim
theorem abE {rs:List ResultVar} {gJ oa:List (Option TT)} {s:qc} (h:Xe ty rs gJ oa s te tS):NW ty rs gJ oa (fun v cs=>s.holds v cs) .normal te tS∧NW ty rs gJ oa (fun v cs=>s.holds v cs) .ret te tS:=by
 unfold Xe at h
 split at h
 ·rename_i vs ts l hv
  obtain⟨h0,h⟩:=jL h
  simp only[aB,List.isEmpty_iff] at h0
  have:s.holds (jC (bG gJ vs)) (bG oa ts):=by
   refine uZ (fun v cs f hk => ?_) h
   obtain⟨l,h1,h2,hk⟩:=jd hk
   obtain⟨l',h3,h4,h5⟩:=jd hk
   exact⟨zZ h1 h2,tP h3 h4,h5⟩
  exact⟨⟨trivial,vs,ts,hv,h0.1.1,h0.1.2,rfl,h0.2.1,h0.2.2,this⟩,trivial,vs,ts,hv,h0.1.1,h0.1.2,rfl,h0.2.1,h0.2.2,this⟩
 ·exact h.elim
theorem abC {rs:List ResultVar} {oa:List (Option TT)} {s:qc} (h:Xc ty rs oa s te tS):Xp ty rs oa (fun cs=>s.wJ cs) .normal te tS∧Xp ty rs oa (fun cs=>s.wJ cs) .ret te tS:=by
 unfold Xc at h
 split at h
 ·rename_i ts l hv
  obtain⟨h0,h⟩:=jL h
  simp only[aB,List.isEmpty_iff] at h0
  have:s.wJ (bG oa ts):=by
   refine uZ (fun v cs f hk => ?_) h
   obtain⟨l',h3,h4,h5⟩:=jd hk
   exact⟨tP h3 h4,h5⟩
  exact⟨⟨trivial,ts,hv,rfl,h0.1,h0.2,this⟩,trivial,ts,hv,rfl,h0.1,h0.2,this⟩
 ·exact h.elim
theorem abB {rs:List ResultVar} {gJ:List (Option TT)} {f:Nat} {e:TypeId} {s:qc} (h:Xb ty rs gJ f e s te tS):Xo ty rs gJ f e (fun v=>s.lu v) .normal te tS∧Xo ty rs gJ f e (fun v=>s.lu v) .ret te tS:=by
 unfold Xb at h
 split at h
 ·rename_i l hv
  have h:=cr l (K:=fun l=>Ow gJ f e s tS l) h
  unfold Ow at h
  split at h
  ·rename_i t B3 g hl
   split at h
   ·rename_i e' hg
    obtain⟨h0,h1,hA⟩:=jL h
    clear h
    simp only[aB,cV] at h0
    obtain⟨⟨rfl,h2⟩,h3⟩:=h0
    unfold VM at hA
    split at hA
    ·rename_i tl htl
     unfold VP at hA
     split at hA
     ·rename_i t' Ld hf
      obtain⟨h4,hB⟩:=jL hA
      simp only[aB,List.isEmpty_iff] at h4
      have hq:s.lu (.agg tl):=uZ (fun v cs f hk=>by
       obtain⟨l,k1,k2,k3⟩:=jd hk
       exact⟨zZ k1 k2,k3⟩) hB
      exact⟨⟨trivial,l,t,B3,g,hv,hl,h1,hg,h2,h3,tl,t',Ld,htl,h4.2,hf,h4.1,hq⟩,trivial,l,t,B3,g,hv,hl,h1,hg,h2,h3,tl,t',Ld,htl,h4.2,hf,h4.1,hq⟩
     ·exact hA.elim
    ·exact hA.elim
   ·exact h.elim
  ·exact h.elim
 ·exact h.elim
theorem Ya:∀ {vs:List TV} {ds:List DV},cQ ι S vs ds→RT ι S (jC vs) (oneOf ds)
 | [],ds,h=>by rw[aU h]; simp only[jC,oneOf,RT]; exact bS
 | [v],ds,h=>by
  obtain⟨d,m',rfl,h1,h2⟩:=ax h
  rw[aU h2]; exact h1
 | v::u::l,ds,h=>by
  obtain⟨d,m',rfl,h1,h2⟩:=ax h
  obtain⟨d',YJ,rfl,h3,h4⟩:=ax h2
  simp only[jC,oneOf,RT]
  exact aV h1 (aV h3 h4)
def XOK (P:Program) (T:gD):Prop:=∀ g fn j,T.X g=some (fn,j)→P.funcs[g]? = some fn∧fn.body.isSome=true
def Lev (P:Program) (ty:fI) (T:gD):Nat→bM→bz→Prop
 | 0,aI,call=>qi T aI call
 | d+1,aI,call=>qi T aI call∧∃ WC Oy yf',(∀ g fn,P.funcs[g]? = some fn→∀ a S,call g a S=qJ P ty WC Oy yf' LL g fn a S)∧Lev P ty T d WC Oy
theorem u9 {d:Nat} (h:Lev P ty T d aI call):qi T aI call:=by
 cases d with
 | zero=>exact h
 | succ d=>exact h.1
theorem zX (hX:XOK P T):∀ (d:Nat) {aI:bM} {call:bz},Lev P ty T d aI call→x4 call T (Le P ty tt T d)
 | 0,_,_,_=>fun _ _ _ _ _ _ _ h=>h.elim
 | d+1,aI,call,hL=>by
  obtain⟨-,WC,Oy,yf',hb,Rz⟩:=hL
  intro g fn j A tS K hx hi ι bY S hR
  obtain⟨hf,hs⟩:=hX g fn j hx
  have hw:=lD (fn:=g) (gW:=false) (yf:=yf') (u9 Rz) (zX hX d Rz) _ _ _ _ _ _ (cr _ hi)
  have hlen:=fM hR.env
  have kE:b9 ι (K9 fn.ntmps A) tS (bY++List.replicate (fn.ntmps-bY.length) aX) S :=
   ⟨ez hR.env (by rw[hlen]; exact rK _ _),hR.cells,hR.own,hR.xI,hR.inj,hR.mp⟩
  obtain⟨e,aC,S',ι',ck,cu,h1,h2,h3,h4,h5,h6⟩:=hw ι _ S kE Yh
  have key:Xa ty fn.results.toList K ck cu→(e = .normal∨e = .ret)→∃ d S' ι' v cu,call g bY S=some (d,S')∧b9 ι' [v] cu [d] S'∧nL (eY 0 tS) cu∧Fr (eY 0 tS) ι S ι' S'∧Nn S.length S S'∧K v cu:=by
   intro hk he
   unfold Xa at hk
   split at hk
   ·rename_i vs hv
    obtain⟨ds,k1,k2⟩:=rM h2 hv
    refine⟨oneOf ds,S',ι',jC vs,cu,?_,⟨je (Ya k2),h2.cells,h2.own,h2.xI,h2.inj,h2.mp⟩,h3,h4,h5,hk⟩
    rw[hb g fn hf]
    unfold xX at h1
    simp only[qJ]
    cases hc:fn.body with
    | none=>rw[hc] at hs; cases hs
    | some c =>
     rw[hc] at h1
     simp only[Option.getD_some] at h1
     simp only[h1]
     rcases he with rfl | rfl<;>simp only[k1,Option.map_some]
   ·exact hk.elim
  cases e with
  | normal=>exact key h6 (.inl rfl)
  | ret=>exact key h6 (.inr rfl)
  | exit id=>exact h6.elim
def vcI (T:gD) (d:Nat) (f:Func) (gJ:List (Option TT)) (J:List (Nat×LA)) (a:List TV) (s:qc):Prop:=dx (K9 f.ntmps a) fun te=>wo Tp Ty Ux T (Le Tp Ty Ux T d) [] J (xX f) 0 (u7 f.results.toList) te [] (Lh (Xd Ty f.results.toList gJ s))
def Z7 (T:gD) (d:Nat) (f:Func) (gJ oa:List (Option TT)) (J:List (Nat×LA)) (a cs:List TV) (s:qc):Prop:=dx (K9 f.ntmps a) fun te=>wo Tp Ty Ux T (Le Tp Ty Ux T d) [0] J (xX f) 0 (u7 f.results.toList) te [.cells cs] (Lh (Xe Ty f.results.toList gJ oa s))
def vcN (T:gD) (d:Nat) (f:Func) (oa:List (Option TT)) (J:List (Nat×LA)) (a:List TV) (s:qc):Prop:=dx (K9 f.ntmps a) fun te=>wo Tp Ty Ux T (Le Tp Ty Ux T d) [] J (xX f) 0 (u7 f.results.toList) te [] (Lh (Xc Ty f.results.toList oa s))
def vcO (T:gD) (d:Nat) (f:Func) (gJ:List (Option TT)) (J:List (Nat×LA)) (a:List TV) (k:Nat) (e:TypeId) (s:qc):Prop:=dx (K9 f.ntmps a) fun te=>wo Tp Ty Ux T (Le Tp Ty Ux T d) [] J (xX f) 0 (u7 f.results.toList) te [] (Lh (Xb Ty f.results.toList gJ k e s))
def kF (bC:bM) (k:Nat) (T:gD):Prop:=XOK Tp T∧∀ n,qi T (E1 bC (n+k)) (wN bC (n+k))
def gD.dX (T:gD) (f:FuncId) (S:List TV→Sp):gD:={ T with I:=fun g a=>if g=f then S a else T.I g a }
def gD.sR (T:gD) (f:FuncId) (S:List TV→List TV→Sp):gD:={ T with C:=fun g a c=>if g=f then S a c else T.C g a c }
def gD.Sq (T:gD) (f:FuncId) (S:List TV→Sp):gD:={ T with N:=fun g a=>if g=f then S a else T.N g a }
def gD.NU (T:gD) (f:FuncId) (k:Nat) (e:TypeId) (S:List TV→Sp):gD:={ T with O:=fun g a j=>if g=f∧j=k then (S a).map fun x=>(x.1,e,x.2) else T.O g a j }
def gD.adM (T:gD) (f:FuncId) (fn:Func) (j:List (Nat×LA)):gD:={ T with X:=fun g=>if g=f then some (fn,j) else T.X g }
variable {bC:bM} {k:Nat}
theorem ia (h:kF bC k T):kF bC (k+1) T:=⟨h.1,fun n=>by have:=h.2 (n+1); rwa [Nat.add_right_comm,fO] at this⟩
theorem lS (h:kF bC k T):∀ (d n:Nat),Lev Tp Ty T d (E1 bC (n+(k+d))) (wN bC (n+(k+d)))
 | 0,n=>h.2 n
 | d+1,n=>by
  refine⟨?_,E1 bC (n+(k+d)),wN bC (n+(k+d)),yfT bC (n+(k+d)),fun g fn hf a S => ?_,lS h d n⟩
  ·have:=h.2 (n+(d+1)); rwa [fO,Nat.add_comm (d+1) k] at this
  ·rw[show n+(k+(d+1))=(n+(k+d))+1 by omega]
   simp only[qh,cR,hf]
   rfl
theorem NY {f:FuncId} {S:List TV→Sp} (hT:kF bC k T) (h:∀ n a p s,S a=some (p,s)→cK p→qN (E1 bC (n+k)) f a fun v=>s.lu v):kF bC k (T.dX f S):=⟨hT.1,fun n=>⟨fun g a p s hs hp=>by
 simp only[gD.dX] at hs
 split at hs
 ·rename_i e; subst e; exact h n a p s hs hp
 ·exact(hT.2 n).I g a p s hs hp,(hT.2 n).C,(hT.2 n).N,(hT.2 n).O⟩⟩
theorem aaW {f:FuncId} {S:List TV→List TV→Sp} (hT:kF bC k T) (h:∀ n a cs p s,S a cs=some (p,s)→cK p→x5 (wN bC (n+k)) f a cs fun v cs=>s.holds v cs):kF bC k (T.sR f S):=⟨hT.1,fun n=>⟨(hT.2 n).I,fun g a cs p s hs hp=>by
 simp only[gD.sR] at hs
 split at hs
 ·rename_i e; subst e; exact h n a cs p s hs hp
 ·exact(hT.2 n).C g a cs p s hs hp,(hT.2 n).N,(hT.2 n).O⟩⟩
theorem aaV {f:FuncId} {S:List TV→Sp} (hT:kF bC k T) (h:∀ n a p s,S a=some (p,s)→cK p→zO (E1 bC (n+k)) (wN bC (n+k)) f a fun cs=>s.wJ cs):kF bC k (T.Sq f S):=⟨hT.1,fun n=>⟨(hT.2 n).I,(hT.2 n).C,fun g a p s hs hp=>by
 simp only[gD.Sq] at hs
 split at hs
 ·rename_i e; subst e; exact h n a p s hs hp
 ·exact(hT.2 n).N g a p s hs hp,(hT.2 n).O⟩⟩
theorem aaU {f:FuncId} {j:Nat} {e:TypeId} {S:List TV→Sp} (hT:kF bC k T) (h:∀ n a p s,S a=some (p,s)→cK p→JI (wN bC (n+k)) f a j e fun v=>s.lu v):kF bC k (T.NU f j e S):=⟨hT.1,fun n=>⟨(hT.2 n).I,(hT.2 n).C,(hT.2 n).N,fun g a f' p e' s hs hp=>by
 simp only[gD.NU] at hs
 split at hs
 ·rename_i he
  obtain⟨rfl,rfl⟩:=he
  simp only[ah,av] at hs
  obtain⟨⟨p1,s1⟩,h1,rfl,rfl,rfl⟩:=hs
  exact h n a _ _ h1 hp
 ·exact(hT.2 n).O g a f' p e' s hs hp⟩⟩
def T0:gD where
 I:=fun g a=>match g,a with
  | 12,[]=>some ([],.res (o6 true) [] [])
  | _,_=>none
 C:=fun _ _ _=>none
 N:=fun _ _=>none
theorem gf (tk:yQ bC):kF bC 0 T0:=by
 refine⟨fun _ _ _ h=>(by cases h),fun n=>⟨fun g a p s hs _ => ?_,fun _ _ _ _ _ hs=>(by cases hs),fun _ _ _ _ hs=>(by cases hs),fun _ _ _ _ _ _ hs=>(by cases hs)⟩⟩
 simp only[T0] at hs
 split at hs
 ·cases hs
  intro bY hd
  rw[aU hd]
  refine⟨.val (.bool true),o6 true,?_,rfl,by simp only[RT],rfl,rfl,trivial⟩
  simp only[yJ,jH,tk.fit,DV.pure,DV.iK,if_true]
 ·cases hs
end Go.Tv
end
section
namespace Go.Tv
open Go Go.Di Go.Proofs
abbrev Dn:=Option (List Prop×qc×List (Nat×LA))
def dS (d:Dn):Sp:=d.map fun x=>(x.1,x.2.1)
def dJ (d:Dn):List (Nat×LA):=match d with
 | some x=>x.2.2
 | none=>[]
def VI (T:gD) (f:Func) (gJ:List (Option TT)) (D:List TV→Dn) (d:Nat:=0):Prop:=∀ a p s j,D a=some (p,s,j)→cK p→vcI T d f gJ j a s
def VC (T:gD) (f:Func) (gJ oa:List (Option TT)) (D:List TV→List TV→Dn) (d:Nat:=0):Prop:=∀ a cs p s j,D a cs=some (p,s,j)→cK p→Z7 T d f gJ oa j a cs s
def VN (T:gD) (f:Func) (oa:List (Option TT)) (D:List TV→Dn) (d:Nat:=0):Prop:=∀ a p s j,D a=some (p,s,j)→cK p→vcN T d f oa j a s
def VO (T:gD) (f:Func) (gJ:List (Option TT)) (k:Nat) (e:TypeId) (D:List TV→Dn) (d:Nat:=0):Prop:=∀ a p s j,D a=some (p,s,j)→cK p→vcO T d f gJ j a k e s
def dV (d:Dn) (K:qc→List (Nat×LA)→Prop):Prop :=
 match d with
 | some (p,s,j)=>cK p→K s j
 | none=>True
structure Hd (p:Prop):Prop where
 h:p
theorem Dd {A B:Prop} (h:A=B) (a:A):Hd B:=⟨h▸a⟩
theorem lC {T:gD} {f:Func} {gJ:List (Option TT)} {D:List TV→Dn} {d:Nat} (h:∀ a,dV (D a) fun s j=>Hd (vcI T d f gJ j a s)):VI T f gJ D d:=fun a p s j hd hp=>by
 have:=h a
 rw[hd] at this
 exact(this hp).h
theorem U0 {T:gD} {f:Func} {gJ:List (Option TT)} {k:Nat} {e:TypeId} {D:List TV→Dn} {d:Nat} (h:∀ a,dV (D a) fun s j=>Hd (vcO T d f gJ j a k e s)):VO T f gJ k e D d:=fun a p s j hd hp=>by
 have:=h a
 rw[hd] at this
 exact(this hp).h
theorem aaT {T:gD} {f:Func} {gJ oa:List (Option TT)} {D:List TV→List TV→Dn} {d:Nat} (h:∀ a cs,dV (D a cs) fun s j=>Hd (Z7 T d f gJ oa j a cs s)):VC T f gJ oa D d:=fun a cs p s j hd hp=>by
 have:=h a cs
 rw[hd] at this
 exact(this hp).h
theorem d_some {d:Dn} {p:List Prop} {s:qc} (h:dS d=some (p,s)):d=some (p,s,dJ d):=by
 cases d with
 | none=>cases h
 | some x=>cases h; rfl
variable {bC:bM} {k:Nat} {T:gD}
theorem sE {fn:Func} (hb:fn.body.isSome=true):fn.body=some (xX fn):=by unfold xX; revert hb; cases fn.body<;>simp
theorem mkJ (hT:kF bC k T) {f:FuncId} {fn:Func} {gJ:List (Option TT)} {D:List TV→Dn} {d:Nat} (hn:∀ a p s,dS (D a)=some (p,s)→cK p→∀ da,cQ eB [] a da→bC f da=none) (hf:Tp.funcs[f]? = some fn) (hb:fn.body.isSome=true) (h:VI T fn gJ D d) {T':gD} (Rx:kF bC (k+d+1) T'):kF bC (k+d+1) (T'.dX f fun a=>dS (D a)) :=
 NY Rx fun n a p s hs hp=>Qu (n:=n+(k+d)) hf (sE hb) (hn a p s hs hp) ((lD (u9 (lS hT d n)) (zX hT.1 d (lS hT d n)) _ _ _ _ _ _ (cr _ (h a p s _ (d_some hs) hp))).mono fun _ _ _ hq=>JD (fun _ _=>abD) hq)
theorem rF (tk:yQ bC) (hT:kF bC k T) {f:FuncId} {fn:Func} {gJ:List (Option TT)} {D:List TV→Dn} {d:Nat} (hne:f≠60∧f≠133∧f≠12∧f≠43∧f≠52) (hf:Tp.funcs[f]? = some fn) (hb:fn.body.isSome=true) (h:VI T fn gJ D d) {T':gD} (Rx:kF bC (k+d+1) T'):kF bC (k+d+1) (T'.dX f fun a=>dS (D a)) :=
 mkJ hT (fun _ _ _ _ _ _ _=>tk.other _ _ hne.1 hne.2.1 hne.2.2.1 hne.2.2.2.1 hne.2.2.2.2) hf hb h Rx
theorem KZ (hT:kF bC k T) {f:FuncId} {fn:Func} {gJ oa:List (Option TT)} {D:List TV→List TV→Dn} {d:Nat} (hf:Tp.funcs[f]? = some fn) (hb:fn.body.isSome=true) (h:VC T fn gJ oa D d) {T':gD} (Rx:kF bC (k+d+1) T'):kF bC (k+d+1) (T'.sR f fun a c=>dS (D a c)) :=
 aaW Rx fun n a cs p s hs hp=>QF (n:=n+(k+d)) hf (sE hb) ((lD (u9 (lS hT d n)) (zX hT.1 d (lS hT d n)) _ _ _ _ _ _ (cr _ (h a cs p s _ (d_some hs) hp))).mono fun _ _ _ hq=>JD (fun _ _=>abE) hq)
theorem mkO (hT:kF bC k T) {f:FuncId} {fn:Func} {gJ:List (Option TT)} {q:Nat} {e:TypeId} {D:List TV→Dn} {d:Nat} (hf:Tp.funcs[f]? = some fn) (hb:fn.body.isSome=true) (h:VO T fn gJ q e D d) {T':gD} (Rx:kF bC (k+d+1) T'):kF bC (k+d+1) (T'.NU f q e fun a=>dS (D a)) :=
 aaU Rx fun n a p s hs hp=>Qa (n:=n+(k+d)) hf (sE hb) ((lD (u9 (lS hT d n)) (zX hT.1 d (lS hT d n)) _ _ _ _ _ _ (cr _ (h a p s _ (d_some hs) hp))).mono fun _ _ _ hq=>JD (fun _ _=>abB) hq)
theorem mkN (tk:yQ bC) (hT:kF bC k T) {f:FuncId} {fn:Func} {oa:List (Option TT)} {D:List TV→Dn} {d:Nat} (hne:f≠60∧f≠133∧f≠12∧f≠43∧f≠52) (hf:Tp.funcs[f]? = some fn) (hb:fn.body.isSome=true) (h:VN T fn oa D d) {T':gD} (Rx:kF bC (k+d+1) T'):kF bC (k+d+1) (T'.Sq f fun a=>dS (D a)) :=
 aaV Rx fun n a p s hs hp=>Qi (n:=n+(k+d)) hf (sE hb) (fun _=>tk.other _ _ hne.1 hne.2.1 hne.2.2.1 hne.2.2.2.1 hne.2.2.2.2) ((lD (u9 (lS hT d n)) (zX hT.1 d (lS hT d n)) _ _ _ _ _ _ (cr _ (h a p s _ (d_some hs) hp))).mono fun _ _ _ hq=>JD (fun _ _=>abC) hq)
def yI (α:Type):Prop:=([]:List α)=[]
theorem gE {α:Type}:yI α=True:=by simp[yI]
theorem vY {A B:Prop} (h:A=B) (a:A):B:=h▸a
theorem lq {b:Bool} {A B:Prop}:aN b A B↔(b=true→A)∧(b=false→B):=by cases b<;>simp[aN]
theorem cC {p:Prop} [Decidable p] {A B:Prop}:aN (decide p) A B↔(p→A)∧(¬p→B):=by rw[lq]; simp
theorem c9 {b:Bool} {A B:Prop}:aN (!b) A B↔aN b B A:=by cases b<;>rfl
theorem cM {a c:Int} {A B:Prop}:aN (a==c) A B↔(a=c→A)∧(¬a=c→B):=by rw[lq]; simp
theorem cL {a c:Int} {A B:Prop}:aN (a !=c) A B↔(a=c→B)∧(¬a=c→A):=by rw[lq]; simp[and_comm]
end Go.Tv
end
section
namespace Go.Tv
open Go Go.Di Go.Proofs
set_option maxRecDepth 100000
theorem lU {l:List Int} {i:Nat} (h:i<l.length):l.getD i 0=l[i]:=by simp[aO,h]
theorem take_one {l:List Int} {i:Nat} (h:i<l.length):l.take (i+1)=l.take i++[l.getD i 0]:=by
 rw[lU h,List.take_append_getElem]
theorem drop_one {l:List Int} {i:Nat} (h:i<l.length):(l.drop (i+1)).reverse++[l.getD i 0]=(l.drop i).reverse:=by
 rw[lU h,mg h,List.reverse_cons]
theorem jV {l:List Int} {i:Nat} (h:i<l.length):l.getD i 0∈l:=by
 rw[lU h]; exact pI _
def qR (l:List Int) (x:Int):Int:=if x∈l then (l.idxOf x:Int) else -1
theorem Ms {l:List Int} {x:Int} {i:Nat} (h:i<l.length) (h1:x ∉ l.take i) (h2:l.getD i 0=x):qR l x=i:=by
 have hm:x∈l:=by rw[← h2]; exact jV h
 have e:l=l.take i++x::l.drop (i+1):=by
  rw[← h2,lU h,← mg h,List.take_append_drop]
 rw[qR,if_pos hm]
 congr 1
 conv=>lhs; rw[e]
 rw[List.idxOf_append,if_neg h1,List.idxOf_cons_self,lY]
 omega
abbrev BQ (rest:List Int) (last:Int):List TV:=[.sl bZ rest .no,.val (.int .u64 last)]
theorem wO (n:Int):IntKind.u64.wrap n=n % 18446744073709551616:=by simp[IntKind.wrap,IntKind.bits,IntKind.signed]
theorem u64_in (n:Int):0≤IntKind.u64.wrap n∧IntKind.u64.wrap n<18446744073709551616:=by rw[wO]; omega
theorem O2 (a:Int):a.fdiv 4294967296=a / 4294967296:=Int.fdiv_eq_ediv_of_nonneg _ (by omega)
theorem VA {x n:Int} (h:IntKind.u64.wrap n=x):0≤x.fdiv 4294967296∧x.fdiv 4294967296<4294967296:=by
 have:=u64_in n
 rw[O2,← h]; omega
theorem U6 {k m:Int} (hm:m≤1000) (h0:0<m) (hk:0≤k) (sS:k<4294967296):0≤IntKind.i64.wrap ((IntKind.u64.wrap (k*IntKind.u64.wrap (m+1))).fdiv 4294967296)∧(IntKind.i64.wrap ((IntKind.u64.wrap (k*IntKind.u64.wrap (m+1))).fdiv 4294967296)≤m∨IntKind.i64.wrap ((IntKind.u64.wrap (k*IntKind.u64.wrap (m+1))).fdiv 4294967296)=0):=by
 have h1:k*(m+1)≤4294967295*(m+1):=Int.mul_le_mul_of_nonneg_right (by omega) (by omega)
 have h2:0≤k*(m+1):=Int.mul_nonneg hk (by omega)
 rw[wO (m+1),Int.emod_eq_of_lt (a:=m+1) (by omega) (by omega),O2,wO]
 generalize k*(m+1)=p at *
 rw[Int.emod_eq_of_lt (by omega) (by omega),zP (by omega) (by omega)]
 omega
theorem Gy {α:Type} {P:α→Prop} {l:List α} {a:α} (h:∀ x∈l,P x) (ha:P a):∀ x∈l++[a],P x:=by
 intro x hx
 rcases jO.1 hx with hx | hx
 ·exact h x hx
 ·rw[bH.1 hx]; exact ha
theorem QS {l:List Int} {a:Int} (h:l.Pairwise (· < ·)) (ha:∀ x∈l,x<a):(l++[a]).Pairwise (· < ·):=by
 rw[List.pairwise_append]
 exact⟨h,List.pairwise_singleton _ _,fun x hx y hy=>by rw[bH.1 hy]; exact ha x hx⟩
theorem nY {f:Int→Int} {l:List Int} {i:Nat} (h:i<l.length):(l.take i).map f++[f (l.getD i 0)]=(l.take (i+1)).map f:=by
 rw[take_one h,kN]; rfl
abbrev M9 (u l:List Int) (w:Int) (ls:List Int):TV := .agg [.sl bZ u .no,.sl bZ l .no,dn w,.sl bZ ls .no]
abbrev Num (u l:List Int) (w:Int):Prop:=3≤u.length∧u.length≤8∧l.length=u.length∧0≤w∧w≤2
structure Ok (u l:List Int) (w:Int) (ls:List Int):Prop where
 n3:3≤u.length
 n8:u.length≤8
 len:l.length=u.length
 hu:∀ x∈u,0≤x∧x≤9
 hl:∀ x∈l,0≤x∧x≤9
 w0:0≤w
 w2:w≤2
 ne:ls≠[]
 Zn:∀ x∈ls,0≤x∧x≤3
 Zb:ls.Pairwise (· < ·)
def BH (a b:Int):Int:=IntKind.i64.wrap ((BitVec.ofInt 64 a ^^^ BitVec.ofInt 64 b).toNat:Int)
def dN (y:Int) (ls:List Int) (i:Nat):List Int:=((List.range i).map Int.ofNat).filter fun x=>decide (BH x y∈ls)
theorem xh {y:Int} {ls:List Int} {i:Nat} (h:BH i y∈ls):dN y ls i++[(i:Int)]=dN y ls (i+1):=by
 simp[dN,pH,pL,h]
theorem AB {y:Int} {ls:List Int} {i:Nat} (h:¬ BH i y∈ls):dN y ls i=dN y ls (i+1):=by
 simp[dN,pH,pL,h]
theorem mB (y:Int) (ls:List Int) (i:Nat):(dN y ls i).length≤i:=by
 unfold dN
 refine bk (rS _ _) ?_
 simp
theorem CO (y:Int) (ls:List Int) (i:Nat):(dN y ls i).Pairwise (· < ·):=by
 unfold dN
 refine List.Pairwise.filter _ ?_
 rw[List.pairwise_map]
 exact(List.pairwise_lt_range (n:=i)).imp fun h=>Int.ofNat_lt.2 h
def lg (dF x:Int):Bool:=decide (0≤x∧x≤dF)
theorem KV {dF:Int} {l:List Int} {i:Nat} (h:i<l.length) (h1:(l.take i).all (lg dF)=true) (h2:lg dF (l.getD i 0)=true):(l.take (i+1)).all (lg dF)=true:=by
 rw[take_one h,kM,h1,List.all_cons,h2]; rfl
theorem Kg {dF:Int} {l:List Int} {i:Nat} (h:i<l.length) (h2:lg dF (l.getD i 0)=false):l.all (lg dF)=false:=by
 refine Bool.eq_false_iff.2 fun h1 => ?_
 rw[aW.1 h1 _ (jV h)] at h2
 cases h2
def iN (ls:List Int) (i:Nat):Int:=if i<ls.length then (if ls.getD i 0<0∨3<ls.getD i 0 then 8 else if 0<i∧ls.getD i 0≤ls.getD (i-1) 0 then 5 else iN ls (i+1)) else 0
 termination_by ls.length-i
def iW (u l:List Int) (w:Int) (ls:List Int):Int :=
 if u.length<3 then 7 else if 8<u.length then 6 else if l.length<u.length then 7 else if u.length<l.length then 6
 else if u.all (lg 9)=false∨l.all (lg 9)=false∨w<0∨2<w then 1 else if ls.length=0 then 7 else iN ls 0
theorem Jr {ls:List Int} {i:Nat} (h:i<ls.length) (h1:ls.getD i 0<0∨3<ls.getD i 0):iN ls i=8:=by rw[iN,if_pos h,if_pos h1]
theorem Ob {ls:List Int} {i:Nat} (h:i<ls.length) (h1:¬ (ls.getD i 0<0∨3<ls.getD i 0)) (h2:0<i∧ls.getD i 0≤ls.getD (i-1) 0):iN ls i=5:=by rw[iN,if_pos h,if_neg h1,if_pos h2]
theorem q7 {ls:List Int} {i:Nat} (h:i<ls.length) (h1:¬ (ls.getD i 0<0∨3<ls.getD i 0)) (h2:¬ (0<i∧ls.getD i 0≤ls.getD (i-1) 0)):iN ls i=iN ls (i+1):=by
 conv=>lhs; rw[iN]
 rw[if_pos h,if_neg h1,if_neg h2]
theorem Oc {ls:List Int} {i:Nat} (h:¬ i<ls.length):iN ls i=0:=by rw[iN,if_neg h]
theorem KI {u l:List Int} {w:Int} {ls:List Int} (h1:¬ u.length<3) (h2:¬ 8<u.length) (h3:¬ l.length<u.length) (h4:¬ u.length<l.length) (h5:(!u.all (lg 9))=false) (h6:(!l.all (lg 9))=false) (h7:¬ w<0) (h8:¬ 2<w) (h9:ls.length≠0):iW u l w ls=iN ls 0:=by
 simp only[Bool.not_eq_eq_eq_not,Bool.not_false] at h5 h6
 rw[iW,if_neg h1,if_neg h2,if_neg h3,if_neg h4,if_neg (by rw[h5,h6]; simp[h7,h8]),if_neg h9]
abbrev PD:Type:=fD.den
abbrev pd (u l:List Int) (w:Int) (ls:List Int):PD:=(u,l,w,ls,())
def E7 (p:PD):Int:=iW p.1 p.2.1 p.2.2.1 p.2.2.2.1
def gK:List PD→Int
 | []=>0
 | p::l=>if E7 p≠0 then E7 p else gK l
theorem yD {l m:List PD} (h:gK l=0):gK (l++m)=gK m:=by
 induction l with
 | nil=>rfl
 | cons p l ih =>
  simp only[gK] at h ⊢
  split at h
  ·rename_i h1; exact(h1 h).elim
  ·rename_i h1; simp only[List.cons_append,gK,if_neg h1]; exact ih h
theorem Up {l:List PD} {i:Nat} {d:PD} (h:i<l.length) (h1:gK (l.take i)=0) (h2:E7 (l.getD i d)≠0):gK l=E7 (l.getD i d):=by
 have e:l.getD i d=l[i]:=by simp[aO,h]
 rw[e] at h2 ⊢
 conv=>lhs; rw[← List.take_append_drop i l,mg h]
 rw[yD h1,gK,if_pos h2]
theorem QK {l:List PD} {i:Nat} {d:PD} (h:i<l.length) (h1:gK (l.take i)=0) (h2:E7 (l.getD i d)=0):gK (l.take (i+1))=0:=by
 have e:l.getD i d=l[i]:=by simp[aO,h]
 rw[e] at h2
 rw[← List.take_append_getElem h,yD h1,gK,if_neg (by simp[h2])]; rfl
def jJ (p:PD):Prop:=p.1.length≤1000∧p.2.1.length≤1000∧p.2.2.2.1.length≤1000
theorem Qw {P:PD→Prop} {l:List PD} {i:Nat} {d:PD} (h:i<l.length) (hl:∀ p∈l,P p):P (l.getD i d):=by
 have e:l.getD i d=l[i]:=by simp[aO,h]
 rw[e]; exact hl _ (pI _)
abbrev Z0 (u l:List Int):TV := .agg [.sl bZ u .no,.sl bZ l .no]
def oS (l:List Int):Prop:=∀ x∈l,0≤x∧x≤9
theorem wH {l:List Int} {i:Nat} (h:oS l) (hi:i<l.length):0≤l.getD i 0∧l.getD i 0≤9:=h _ (jV hi)
def eU (la ub:List Int) (s:Int):Nat→List Int
 | 0=>[]
 | i+1=>if 0≤(i:Int)+s∧(i:Int)+s<la.length then eU la ub s i++[ub.getD i 0+la.getD ((i:Int)+s).toNat 0] else eU la ub s i
def M6 (st:Int×Int×Int) (x:Int):Int×Int×Int:=(if x<(if st.2.2=0 then x else st.1) then x else (if st.2.2=0 then x else st.1),if x>(if st.2.2=0 then x else st.2.1) then x else (if st.2.2=0 then x else st.2.1),st.2.2+1)
def oc (l:List Int):Int×Int×Int:=l.foldl M6 (0,0,0)
theorem Py {l:List Int} {lo hi m x:Int} (h:oc l=(lo,hi,m)) (h0:m=0):oc (l++[x])=(if x<x then x else x,if x>x then x else x,m+1):=by
 subst h0
 rw[oc,List.foldl_append,← oc,h]; rfl
theorem Ct {l:List Int} {lo hi m x:Int} (h:oc l=(lo,hi,m)) (h0:m≠0):oc (l++[x])=(if x<lo then x else lo,if x>hi then x else hi,m+1):=by
 rw[oc,List.foldl_append,← oc,h]
 simp only[List.foldl_cons,List.foldl_nil,M6,if_neg h0]
theorem C5 {la ub:List Int} {s:Int} (h:s ≤ -(ub.length:Int)∨(la.length:Int)≤s):eU la ub s ub.length=[]:=by
 have key:∀ i,i≤ub.length→eU la ub s i=[]:=by
  intro i
  induction i with
  | zero=>intro _; rfl
  | succ i ih=>intro hi; rw[eU,if_neg (by omega)]; exact ih (by omega)
 exact key _ (ai _)
abbrev stA (la ub:List Int) (s:Int):Int×Int×Int:=oc (eU la ub s ub.length)
def lz (la ub:List Int) (bX s:Int):Bool:=decide (3≤(oc (eU la ub s ub.length)).2.2∧(oc (eU la ub s ub.length)).2.1-(oc (eU la ub s ub.length)).1≤bX)
def Bz (la ub:List Int) (bX:Int) (k:Nat):List Int:=((List.range k).map fun(j:Nat)=>(j:Int)-(ub.length:Int)).filter (lz la ub bX)
theorem SZ {la ub:List Int} {bX:Int} {k:Nat} (h:lz la ub bX ((k:Int)-(ub.length:Int))=true):Bz la ub bX k++[(k:Int)-(ub.length:Int)]=Bz la ub bX (k+1):=by
 simp[Bz,pH,pL,h]
theorem OL {la ub:List Int} {bX:Int} {k:Nat} (h:lz la ub bX ((k:Int)-(ub.length:Int))=false):Bz la ub bX k=Bz la ub bX (k+1):=by
 simp[Bz,pH,pL,h]
theorem S4 (la ub:List Int) (bX:Int) (k:Nat):(Bz la ub bX k).length≤k:=by
 unfold Bz
 refine bk (rS _ _) ?_
 simp
theorem XO {l:List Int} (h:∀ x∈l,0≤x∧x≤18):0≤(oc l).1∧(oc l).1≤18∧0≤(oc l).2.1∧(oc l).2.1≤18∧0≤(oc l).2.2:=by
 have key:∀ (l:List Int) (st:Int×Int×Int),(∀ x∈l,0≤x∧x≤18)→(0≤st.1∧st.1≤18∧0≤st.2.1∧st.2.1≤18∧0≤st.2.2)→0≤(l.foldl M6 st).1∧(l.foldl M6 st).1≤18∧0≤(l.foldl M6 st).2.1∧(l.foldl M6 st).2.1≤18∧0≤(l.foldl M6 st).2.2:=by
  intro l
  induction l with
  | nil=>intro st _ h; exact h
  | cons x l ih =>
   intro st hx h
   have h1:=hx x (by simp)
   refine ih _ (fun y hy=>hx y (by simp[hy])) ?_
   obtain⟨a,b,c⟩:=st
   simp only[M6] at h ⊢
   refine⟨?_,?_,?_,?_,?_⟩<;>(repeat' split)<;>omega
 exact key l _ h (by simp)
theorem Ek {la ub:List Int} {s:Int} (h1:oS la) (h2:oS ub):∀ i,i≤ub.length→∀ x∈eU la ub s i,0≤x∧x≤18
 | 0,_,x,hx=>by cases hx
 | i+1,hi,x,hx=>by
  rw[eU] at hx
  split at hx
  ·rename_i hc
   rcases jO.1 hx with hx | hx
   ·exact Ek h1 h2 i (by omega) x hx
   ·rw[bH] at hx
    have k1:=wH h2 (i:=i) (by omega)
    have k2:=wH h1 (i:=((i:Int)+s).toNat) (by omega)
    omega
  ·exact Ek h1 h2 i (by omega) x hx
theorem HO {la ub:List Int} (s:Int) (h1:oS la) (h2:oS ub):0≤(stA la ub s).1∧(stA la ub s).1≤18∧0≤(stA la ub s).2.1∧(stA la ub s).2.1≤18∧0≤(stA la ub s).2.2:=XO (Ek h1 h2 _ (ai _))
theorem vp {m:Int} {l:List Int}:l.all (lg m)=true↔∀ x∈l,0≤x∧x≤m:=by simp[lg]
theorem CN {ls:List Int}:∀ (n i:Nat),ls.length-i=n→(iN ls i=0↔∀ j,i≤j→j<ls.length→(0≤ls.getD j 0∧ls.getD j 0≤3)∧(0<j→ls.getD (j-1) 0<ls.getD j 0)):=by
 intro n
 induction n with
 | zero=>intro i h; rw[Oc (by omega)]; exact⟨fun _ j h1 h2=>by omega,fun _=>rfl⟩
 | succ n ih =>
  intro i h
  by_cases h1:ls.getD i 0<0∨3<ls.getD i 0
  ·rw[Jr (by omega) h1]
   exact⟨fun e=>by omega,fun e=>by have:=(e i (ai _) (by omega)).1; omega⟩
  ·by_cases h2:0<i∧ls.getD i 0≤ls.getD (i-1) 0
   ·rw[Ob (by omega) h1 h2]
    exact⟨fun e=>by omega,fun e=>by have:=(e i (ai _) (by omega)).2 h2.1; omega⟩
   ·rw[q7 (by omega) h1 h2,ih (i+1) (by omega)]
    refine⟨fun e j hj yY => ?_,fun e j hj yY=>e j (by omega) yY⟩
    by_cases Jj:j=i
    ·subst Jj; exact⟨by omega,fun h3=>by omega⟩
    ·exact e j (by omega) yY
theorem YD {ls:List Int} (h:∀ j,0<j→j<ls.length→ls.getD (j-1) 0<ls.getD j 0):ls.Pairwise (· < ·):=by
 rw[List.pairwise_iff_getElem]
 have key:∀ j i,i<j→(hj:j<ls.length)→ls.getD i 0<ls.getD j 0:=by
  intro j
  induction j with
  | zero=>intro i hi; omega
  | succ j ih =>
   intro i hi hj
   have h1:=h (j+1) (by omega) hj
   simp only[Nat.add_sub_cancel] at h1
   by_cases e:i=j
   ·subst e; exact h1
   ·have:=ih i (by omega) (by omega); omega
 intro i j hi hj Jj
 have:=key j i Jj hj
 rwa [lU hi,lU hj] at this
theorem Yb {ls:List Int} (h:ls.Pairwise (· < ·)) {j:Nat} (h0:0<j) (hj:j<ls.length):ls.getD (j-1) 0<ls.getD j 0:=by
 rw[List.pairwise_iff_getElem] at h
 rw[lU hj,lU (by omega)]
 exact h _ _ _ _ (by omega)
theorem Ij {u l:List Int} {w:Int} {ls:List Int}:iW u l w ls=0↔Ok u l w ls:=by
 unfold iW
 constructor
 ·intro h
  split at h; omega
  split at h; omega
  split at h; omega
  split at h; omega
  split at h; omega
  split at h; omega
  rename_i h1 h2 h3 h4 h5 h6
  simp only[not_or,Bool.not_eq_false] at h5
  have hz:=(CN _ 0 rfl).1 h
  refine⟨by omega,by omega,by omega,vp.1 h5.1,vp.1 h5.2.1,by omega,by omega,fun e=>h6 (by rw[e]; rfl),fun x hx => ?_,YD fun j hj yY=>(hz j (jN _) yY).2 hj⟩
  obtain⟨j,hj,rfl⟩:=List.getElem_of_mem hx
  have:=(hz j (jN _) hj).1
  rwa [lU hj] at this
 ·intro h
  have h1:=h.n3
  have h2:=h.n8
  have h3:=h.len
  have h4:=h.w0
  have h5:=h.w2
  have h6:ls.length≠0:=fun e=>h.ne (dm e)
  rw[if_neg (by omega),if_neg (by omega),if_neg (by omega),if_neg (by omega),if_neg (by rw[vp.2 h.hu,vp.2 h.hl]; simp; omega),if_neg h6]
  exact(CN _ 0 rfl).2 fun j _ hj=>⟨h.Zn _ (jV hj),fun h0=>Yb h.Zb h0 hj⟩
def Sh (u l ls:List Int):Prop:=u.length≤1000∧l.length≤1000∧ls.length≤1000
theorem XS {ua la VZ ub lb VY:List Int} {wa wb:Int} (h1:Sh ua la VZ) (h2:Sh ub lb VY):∀ p∈[pd ua la wa VZ,pd ub lb wb VY],jJ p:=by
 intro p hp
 simp only[bt,dL,or_false] at hp
 rcases hp with rfl | rfl
 ·exact h1
 ·exact h2
theorem Gn {ua la VZ ub lb VY:List Int} {wa wb:Int} (h:gK [pd ua la wa VZ,pd ub lb wb VY]=0):Ok ua la wa VZ∧Ok ub lb wb VY:=by
 simp only[gK] at h
 split at h
 ·rename_i h1; exact(h1 h).elim
 ·rename_i h1
  split at h
  ·rename_i h2; exact(h2 h).elim
  ·rename_i h2; exact⟨Ij.1 (Decidable.not_not.1 h1),Ij.1 (Decidable.not_not.1 h2)⟩
theorem Ok.num {u l:List Int} {w:Int} {ls:List Int} (h:Ok u l w ls):(3≤u.length∧u.length≤8∧l.length=u.length∧0≤w∧w≤2)∧oS u∧oS l:=⟨⟨h.n3,h.n8,h.len,h.w0,h.w2⟩,h.hu,h.hl⟩
def adL (la ub:List Int) (wa wb s:Int):O9.den:=((oc (eU la ub s ub.length)).2.1,(oc (eU la ub s ub.length)).1+wa+wb,())
def adt (la ub:List Int) (s:Int) (i:Nat):Option Int:=if 0≤(i:Int)+s∧(i:Int)+s<la.length then some (ub.getD i 0+la.getD ((i:Int)+s).toNat 0) else none
def oZ (n:Int) (u l:List Int):List Int:=if n=1 then l.reverse else if n=2 then u.reverse else if n=3 then l else u
def o5 (n:Int) (u l:List Int):List Int:=if n=1 then u.reverse else if n=2 then l.reverse else if n=3 then u else l
theorem Qg {l a l1:List Int} {w:Int} {ls:List Int} (h:Ok a l1 w ls) (hn:l1.length=l.length) (hl:oS l):Ok (l.map (9-·)) l1 w ls where
 n3:=by have:=h.n3; have:=h.len; simp; omega
 n8:=by have:=h.n8; have:=h.len; simp; omega
 len:=by simp; omega
 hu:=fun x hx=>by
  simp only[fN] at hx
  obtain⟨y,hy,rfl⟩:=hx
  have:=hl y hy
  omega
 hl:=h.hl
 w0:=h.w0
 w2:=h.w2
 ne:=h.ne
 Zn:=h.Zn
 Zb:=h.Zb
def adI (la ub:List Int) (w s:Int):Int×Int×Int:=if (stA la ub s).2.2<3 then (0,0,7) else if (stA la ub s).2.1-(stA la ub s).1>w then (0,0,11) else ((stA la ub s).2.1,(stA la ub s).1+w,0)
end Go.Tv
end
