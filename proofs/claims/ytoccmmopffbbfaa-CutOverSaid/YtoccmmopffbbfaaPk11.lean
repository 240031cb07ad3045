import Derived.Test.YtoccmmopffbbfaaPk05
import Derived.Test.YtoccmmopffbbfaaPk10
namespace Go.Tv
open Go Go.Di Go.Proofs
set_option maxRecDepth 100000
theorem spec_17 {tab:IsoF} (tk:TabK tab) {n:Nat}:ISpec (isoT tab n) 17 [] (fun v=>v=bval true):=by
 intro dargs hd
 rw[rtl_nil' hd]
 refine⟨.val (.bool true),bval true,?_,rfl,by simp only[RT],rfl,rfl⟩
 simp only[isoN,isoOf,tk.fit,DV.pure,DV.pure2,if_true]
theorem sh_ok {u l:List Int} {w:Int} {ls:List Int} (h:Ok u l w ls):Sh u l ls:=by
 refine⟨by have:=h.n8; omega,by have:=h.n8; have:=h.len; omega,?_⟩
 have key:∀ (ls:List Int) (m:Int),m≤4→(∀ x∈ls,m≤x∧x≤3)→ls.Pairwise (· < ·)→(ls.length:Int)≤4-m:=by
  intro ls
  induction ls with
  | nil=>intro m hm _ _; simp; omega
  | cons x ls ih =>
   intro m hm h1 h2
   rw[List.pairwise_cons] at h2
   have h3:=h1 x (by simp)
   have:=ih (x+1) (by omega) (fun y hy=>⟨by have:=h2.1 y hy; omega,(h1 y (by simp[hy])).2⟩) h2.2
   simp only[List.length_cons]
   omega
 have:=key ls 0 (by omega) h.lie h.asc
 omega
theorem xor2 {y:Int} (h:0≤y∧y≤3):∃ x:Nat,x<4∧xorI x 2=y:=by
 have:y=0∨y=1∨y=2∨y=3:=by omega
 rcases this with rfl | rfl | rfl | rfl
 ·exact⟨2,by omega,by decide⟩
 ·exact⟨3,by omega,by decide⟩
 ·exact⟨0,by omega,by decide⟩
 ·exact⟨1,by omega,by decide⟩
theorem laid_ne {z:Int} {ls:List Int} (hz:∀ y:Int,0≤y∧y≤3→∃ x:Nat,x<4∧xorI x z=y) (hne:ls≠[]) (hl:∀ x∈ls,0≤x∧x≤3):laidL z ls 4≠[]:=by
 obtain⟨y,r,rfl⟩:=List.exists_cons_of_ne_nil hne
 obtain⟨x,hx,he⟩:=hz y (hl y (by simp))
 refine List.ne_nil_of_mem (a:=(x:Int)) ?_
 simp only[laidL,List.mem_filter,List.mem_map,List.mem_range]
 exact⟨⟨x,hx,rfl⟩,decide_eq_true (by rw[he]; simp)⟩
theorem ok_over {u l:List Int} {w:Int} {ls:List Int} (h:Ok u l w ls):Ok u.reverse l.reverse w (laidL 2 ls 4) where
 n3:=by simpa using h.n3
 n8:=by simpa using h.n8
 len:=by simpa using h.len
 hu:=by simpa using h.hu
 hl:=by simpa using h.hl
 w0:=h.w0
 w2:=h.w2
 ne:=laid_ne (fun _ hy=>xor2 hy) h.ne h.lie
 lie:=fun x hx=>by have:=laidL_in x hx; omega
 asc:=laidL_asc _ _ _
theorem stF_spec:∀ {l:List Int},l≠[]→((stF l).1∈l∧∀ x∈l,(stF l).1≤x)∧((stF l).2.1∈l∧∀ x∈l,x≤(stF l).2.1)∧(stF l).2.2=l.length:=by
 have key:∀ (l m:List Int) (lo hi:Int),m≠[]→(lo∈m∧∀ x∈m,lo≤x)→(hi∈m∧∀ x∈m,x≤hi) →
   ((l.foldl stS (lo,hi,(m.length:Int))).1∈m++l∧∀ x∈m++l,(l.foldl stS (lo,hi,(m.length:Int))).1≤x)∧((l.foldl stS (lo,hi,(m.length:Int))).2.1∈m++l∧∀ x∈m++l,x≤(l.foldl stS (lo,hi,(m.length:Int))).2.1)∧(l.foldl stS (lo,hi,(m.length:Int))).2.2=(m++l).length:=by
  intro l
  induction l with
  | nil=>intro m lo hi _ h1 h2; simpa using ⟨h1,h2⟩
  | cons x l ih =>
   intro m lo hi hm h1 h2
   have hn:(m.length:Int)≠0:=by have:=List.length_pos_iff.2 hm; omega
   have e:stS (lo,hi,(m.length:Int)) x=(if x<lo then x else lo,if x>hi then x else hi,((m++[x]).length:Int)):=by
    simp[stS,hm]
   rw[List.foldl_cons,e]
   have e2:m++x::l=(m++[x])++l:=by simp
   rw[e2]
   refine ih (m++[x]) _ _ (by simp) ⟨?_,?_⟩ ⟨?_,?_⟩
   ·split
    ·simp
    ·simp[h1.1]
   ·refine all_snoc (fun y hy => ?_) ?_
    ·have:=h1.2 y hy; split<;>omega
    ·split<;>omega
   ·split
    ·simp
    ·simp[h2.1]
   ·refine all_snoc (fun y hy => ?_) ?_
    ·have:=h2.2 y hy; split<;>omega
    ·split<;>omega
 intro l hl
 obtain⟨x,l,rfl⟩:=List.exists_cons_of_ne_nil hl
 have e:stF (x::l)=l.foldl stS (x,x,(([x]:List Int).length:Int)):=by
  rw[stF,List.foldl_cons]
  congr 1
  simp[stS]
 rw[e]
 exact key l [x] x x (by simp) (by simp) (by simp)
theorem stF_same {l m:List Int} (hn:l.length=m.length) (h:∀ x,x∈l↔x∈m):stF l=stF m:=by
 by_cases hl:l=[]
 ·subst hl
  have:m=[]:=List.eq_nil_of_length_eq_zero (by simpa using hn.symm)
  rw[this]
 ·have hm:m≠[]:=fun e=>hl (List.eq_nil_of_length_eq_zero (by rw[hn,e]; rfl))
  obtain⟨a1,a2,a3⟩:=stF_spec hl
  obtain⟨b1,b2,b3⟩:=stF_spec hm
  have e1:(stF l).1=(stF m).1:=by
   have:=a1.2 _ ((h _).2 b1.1); have:=b1.2 _ ((h _).1 a1.1); omega
  have e2:(stF l).2.1=(stF m).2.1:=by
   have:=a2.2 _ ((h _).2 b2.1); have:=b2.2 _ ((h _).1 a2.1); omega
  have e3:(stF l).2.2=(stF m).2.2:=by rw[a3,b3,hn]
  exact Prod.ext e1 (Prod.ext e2 e3)
def colAt (la ub:List Int) (s:Int) (i:Nat):Option Int:=if 0≤(i:Int)+s∧(i:Int)+s<la.length then some (ub.getD i 0+la.getD ((i:Int)+s).toNat 0) else none
theorem colL_eq (la ub:List Int) (s:Int):∀ n,colL la ub s n=(List.range n).filterMap (colAt la ub s)
 | 0=>rfl
 | n+1=>by
  rw[colL,List.range_succ,List.filterMap_append,← colL_eq la ub s n]
  split
  ·rename_i h; simp[colAt,h]
  ·rename_i h; simp[colAt,h]
theorem getD_rev {l:List Int} {i:Nat} (h:i<l.length):l.reverse.getD i 0=l.getD (l.length-1-i) 0:=by
 rw[getD_at (by simpa using h),getD_at (by omega),List.getElem_reverse]
theorem range_rev (n:Nat):(List.range n).reverse=(List.range n).map fun i=>n-1-i:=by
 apply List.ext_getElem
 ·simp
 ·intro i h1 h2
  simp only[List.length_reverse,List.length_range] at h1
  simp[List.getElem_reverse]
theorem fm_congr {α β:Type} {f g:α→Option β}:∀ {l:List α},(∀ x∈l,f x=g x)→l.filterMap f=l.filterMap g
 | [],_=>rfl
 | x::l,h=>by rw[List.filterMap_cons,List.filterMap_cons,h x (by simp),fm_congr (fun y hy=>h y (by simp[hy]))]
theorem fil_map {A B:Nat→Int} {σ:Int→Int} {f g:Int→Bool}:∀ {R:List Nat},(∀ i∈R,σ (B i)=A i∧g (A i)=f (B i))→(R.map A).filter g=((R.map B).filter f).map σ
 | [],_=>rfl
 | i::R,h=>by
  have ih:=fil_map (R:=R) (A:=A) (B:=B) (σ:=σ) (f:=f) (g:=g) fun j hj=>h j (by simp[hj])
  obtain⟨h1,h2⟩:=h i (by simp)
  simp only[List.map_cons,List.filter_cons,h2]
  split
  ·rw[List.map_cons,h1,ih]
  ·exact ih
theorem col_over {la ub:List Int} {s:Int}:colL la.reverse ub.reverse ((la.length:Int)-ub.length-s) ub.length=(colL la ub s ub.length).reverse:=by
 rw[colL_eq,colL_eq,← List.filterMap_reverse,range_rev,List.filterMap_map]
 refine fm_congr fun i hi => ?_
 rw[List.mem_range] at hi
 simp only[colAt,Function.comp,List.length_reverse]
 by_cases h:0≤(i:Int)+((la.length:Int)-ub.length-s)∧(i:Int)+((la.length:Int)-ub.length-s)<la.length
 ·rw[if_pos h,if_pos (by omega),getD_rev hi,getD_rev (by omega)]
  congr 3
  omega
 ·rw[if_neg h,if_neg (by omega)]
theorem st_over {la ub:List Int} {s:Int}:stF (colL la.reverse ub.reverse ((la.length:Int)-ub.length-s) ub.length)=stF (colL la ub s ub.length):=by
 rw[col_over]
 exact stF_same (by simp) (by simp)
theorem fits_over {la ub:List Int} {w s:Int}:fitsAt la.reverse ub.reverse w ((la.length:Int)-ub.length-s)=fitsAt la ub w s:=by
 unfold fitsAt
 rw[List.length_reverse,st_over]
theorem shL_over {la ub:List Int} {w:Int}:shL la.reverse ub.reverse w (ub.reverse.length+la.reverse.length+1)=((shL la ub w (ub.length+la.length+1)).map fun s=>(la.length:Int)-ub.length-s).reverse:=by
 unfold shL
 rw[List.length_reverse,List.length_reverse,← List.map_reverse,← List.filter_reverse,← List.map_reverse,range_rev,List.map_map]
 refine fil_map fun i hi => ?_
 rw[List.mem_range] at hi
 simp only[Function.comp]
 have e:(i:Int)-(ub.length:Int)=(la.length:Int)-ub.length-(((ub.length+la.length+1-1-i:Nat):Int)-ub.length):=by omega
 exact⟨e.symm,by rw[e,fits_over]⟩
theorem indexI_mem {l:List Int} {x:Int} (h:x∈l):∃ j:Nat,indexI l x=j∧j<l.length∧l.getD j 0=x:=by
 refine⟨l.idxOf x,by rw[indexI,if_pos h],List.idxOf_lt_length_of_mem h,?_⟩
 rw[getD_at (List.idxOf_lt_length_of_mem h),List.getElem_idxOf]
theorem cut_at {la ub l:List Int} {wa wb:Int} {i:Nat} {d:RangeT.den} (h:i<l.length):(l.map (cutD la ub wa wb)).getD i d=cutD la ub wa wb (l.getD i 0):=by
 rw[getD_at h]; simp[List.getD_eq_getElem?_getD,h]
theorem cut_over {la ub:List Int} {wa wb s:Int}:cutD la.reverse ub.reverse wa wb ((la.length:Int)-ub.length-s)=cutD la ub wa wb s:=by
 unfold cutD
 rw[List.length_reverse,st_over]
theorem over_at {la ub:List Int} {w s:Int} {nu:Nat} (hn:la.length=nu) (hs:s∈shL la ub w (ub.length+la.length+1)) :
  0≤indexI (shL la.reverse ub.reverse w (ub.reverse.length+la.reverse.length+1)) ((nu:Int)-ub.length-s)∧indexI (shL la.reverse ub.reverse w (ub.reverse.length+la.reverse.length+1)) ((nu:Int)-ub.length-s)<((shL la.reverse ub.reverse w (ub.reverse.length+la.reverse.length+1)).length:Int) ∧
  (shL la.reverse ub.reverse w (ub.reverse.length+la.reverse.length+1)).getD (indexI (shL la.reverse ub.reverse w (ub.reverse.length+la.reverse.length+1)) ((nu:Int)-ub.length-s)).toNat 0=(nu:Int)-ub.length-s:=by
 subst hn
 have hm:(la.length:Int)-ub.length-s∈shL la.reverse ub.reverse w (ub.reverse.length+la.reverse.length+1):=by
  rw[shL_over,List.mem_reverse,List.mem_map]
  exact⟨s,hs,rfl⟩
 obtain⟨j,h1,h2,h3⟩:=indexI_mem hm
 rw[h1]
 exact⟨by omega,by omega,by rw[Int.toNat_natCast]; exact h3⟩
theorem over_eq {la ub S1 S2:List Int} {wa wb X:Int} {nu i:Nat} {d:RangeT.den} (hn:la.length=nu) (hi:i<S1.length) (h:0≤X∧X<(S2.length:Int)∧S2.getD X.toNat 0=(nu:Int)-ub.length-S1.getD i 0):(S2.map (cutD la.reverse ub.reverse wa wb)).getD X.toNat d=(S1.map (cutD la ub wa wb)).getD i d:=by
 subst hn
 rw[cut_at (by omega),cut_at hi,h.2.2,cut_over]
theorem spec_6 {tab:IsoF} (tk:TabK tab) {n:Nat} (nums:List Int):ISpec (isoT tab (n+9)) 6 ([.sl I64 nums .no]) (fun v=>v=bval true):=by
 refine ispec_of (fn:=Try.f6) (rts:=[some .bool]) Try.func6 rfl (fun _=>tk.other _ _ (by decide) (by decide) (by decide)) ?_
 show WT _ _ _ _ _ _ _ _ _ _ (mkE 88 [(0,TV.sl I64 nums Ap.no)]) [] _
 refine wt_seq ?_
 refine zr [0,2] 1 (mkE 88 [(0,TV.sl I64 nums Ap.no),(2,vv (vb false))]) [] (by kernel_rfl) ?_
 refine wt_seq ?_
 refine wt_regL ?_
 refine zl 1 1 (mkE 88 [(0,TV.sl I64 nums Ap.no),(2,vv (vb false)),(14,TV.sl I64 nums Ap.no)]) [] (by kernel_rfl) ?_
 refine wl_ncall (tt:=ttb) (g:=11) (targs:=[.sl I64 nums .no]) (dst:=some 15) (by kernel_rfl) (spec_11 tk _) ?_
 rintro _ rfl
 refine ze [0,2,3] 1 (mkE 88 [(0,.sl I64 nums .no),(2,vv (vb false)),(3,.ptr 0 0)]) [TB.cells [.sl I64 nums .no,vv (Value.int IntKind.u64 (1:Int))]] (by kernel_rfl) ?_
 refine wt_seq ?_
 refine wt_regL ?_
 refine zl 1 1 (mkE 88 [(0,.sl I64 nums .no),(2,vv (vb false)),(3,.ptr 0 0),(16,.ptr 0 0)]) [TB.cells [.sl I64 nums .no,vv (Value.int IntKind.u64 (1:Int))]] (by kernel_rfl) ?_
 refine wl_pcall (tt:=ttb) (g:=12) (kp:=0) (targs:=[.ptr 0 0,vv (vi 6)]) (ts:=[.sl I64 nums .no,vv (Value.int IntKind.u64 (1:Int))]) (dst:=some 17) (by kernel_rfl) (spec_12 tk _ _ _ (by first | assumption | omega | (simp; done) | (simp; omega)) (by first | assumption | omega | (simp; done) | (simp; omega))) ?_
 rintro _ _ ⟨u,l,w,ls,rest1,last1,rfl,rfl,h,h1,h2,h3,h4,h5,h6⟩
 refine ze [0,2,3,4] 2 (mkE 88 [(0,.sl I64 nums .no),(2,vv (vb false)),(3,.ptr 0 0),(4,.ptr 1 0)]) [TB.cells [.sl I64 rest1 .no,vv (Value.int IntKind.u64 last1)],TB.cells [.sl I64 u .no,.sl I64 l .no,vv (vi w),.sl I64 ls .no]] (by kernel_rfl) ?_
 refine wt_seq ?_
 refine wt_regL ?_
 refine zl 2 2 (mkE 88 [(0,.sl I64 nums .no),(2,vv (vb false)),(3,.ptr 0 0),(4,.ptr 1 0),(18,.ptr 0 0),(19,.agg [.sl I64 u .no,.sl I64 l .no,vv (vi w),.sl I64 ls .no])]) [TB.cells [.sl I64 rest1 .no,vv (Value.int IntKind.u64 last1)],TB.cells [.sl I64 u .no,.sl I64 l .no,vv (vi w),.sl I64 ls .no]] (by kernel_rfl) ?_
 refine wl_pcall (tt:=ttb) (g:=13) (kp:=0) (targs:=[.ptr 0 0,.agg [.sl I64 u .no,.sl I64 l .no,vv (vi w),.sl I64 ls .no]]) (ts:=[.sl I64 rest1 .no,vv (Value.int IntKind.u64 last1)]) (dst:=some 20) (by kernel_rfl) (spec_13 tk _ _ _ _ _ _ (by first | assumption | omega | (simp; done) | (simp; omega)) (by first | assumption | omega | (simp; done) | (simp; omega))) ?_
 rintro _ _ ⟨u1,l1,w1,ls1,rest11,last11,rfl,rfl,h7,h8,h9,h10,h11,h12,h13⟩
 refine ze [0,2,3,4,5] 2 (mkE 88 [(0,.sl I64 nums .no),(2,vv (vb false)),(3,.ptr 0 0),(4,.ptr 1 0),(5,.ptr 2 0)]) [TB.cells [.sl I64 rest11 .no,vv (Value.int IntKind.u64 last11)],TB.cells [.sl I64 u .no,.sl I64 l .no,vv (vi w),.sl I64 ls .no],TB.cells [.sl I64 u1 .no,.sl I64 l1 .no,vv (vi w1),.sl I64 ls1 .no]] (by kernel_rfl) ?_
 refine wt_seq ?_
 refine wt_seq ?_
 refine wt_regL ?_
 refine zl 1 1 (mkE 88 [(0,.sl I64 nums .no),(2,vv (vb false)),(3,.ptr 0 0),(4,.ptr 1 0),(5,.ptr 2 0),(21,.ptr 0 0)]) [TB.cells [.sl I64 rest11 .no,vv (Value.int IntKind.u64 last11)],TB.cells [.sl I64 u .no,.sl I64 l .no,vv (vi w),.sl I64 ls .no],TB.cells [.sl I64 u1 .no,.sl I64 l1 .no,vv (vi w1),.sl I64 ls1 .no]] (by kernel_rfl) ?_
 refine wl_pcall (tt:=ttb) (g:=27) (kp:=0) (targs:=[.ptr 0 0,vv (vi 2)]) (ts:=[.sl I64 rest11 .no,vv (Value.int IntKind.u64 last11)]) (dst:=some 22) (by kernel_rfl) (spec_27 tk _ _ _ (by first | assumption | omega | (simp; done) | (simp; omega)) (by first | assumption | omega | (simp; done) | (simp; omega))) ?_
 rintro _ _ ⟨b,rest12,last12,rfl,rfl⟩
 refine wl_done (te1:=(mkE 88 [(0,.sl I64 nums .no),(2,vv (vb false)),(3,.ptr 0 0),(4,.ptr 1 0),(5,.ptr 2 0),(22,vv (vb b))])) (tS1:=[TB.cells [.sl I64 rest12 .no,vv (Value.int IntKind.u64 last12)],TB.cells [.sl I64 u .no,.sl I64 l .no,vv (vi w),.sl I64 ls .no],TB.cells [.sl I64 u1 .no,.sl I64 l1 .no,vv (vi w1),.sl I64 ls1 .no]]) [0,2,3,4,5,22] (by kernel_rfl) (by kernel_rfl) ?_
 refine wt_cond (t:=b) (by kernel_rfl) (fun hc => ?_) (fun hc => ?_)
 ·skip
  refine wt_regL ?_
  refine zl 1 1 (mkE 88 [(0,.sl I64 nums .no),(2,vv (vb false)),(3,.ptr 0 0),(4,.ptr 1 0),(5,.ptr 2 0),(22,vv (vb b)),(23,.ptr 0 0)]) [TB.cells [.sl I64 rest12 .no,vv (Value.int IntKind.u64 last12)],TB.cells [.sl I64 u .no,.sl I64 l .no,vv (vi w),.sl I64 ls .no],TB.cells [.sl I64 u1 .no,.sl I64 l1 .no,vv (vi w1),.sl I64 ls1 .no]] (by kernel_rfl) ?_
  refine wl_pcall (tt:=ttb) (g:=12) (kp:=0) (targs:=[.ptr 0 0,vv (vi 6)]) (ts:=[.sl I64 rest12 .no,vv (Value.int IntKind.u64 last12)]) (dst:=some 24) (by kernel_rfl) (spec_12 tk _ _ _ (by first | assumption | omega | (simp; done) | (simp; omega)) (by first | assumption | omega | (simp; done) | (simp; omega))) ?_
  rintro _ _ ⟨u2,l2,w2,ls2,rest13,last13,rfl,rfl,h14,h15,h16,h17,h18,h19,h20⟩
  refine ze [0,2,3,4,5] 1 (mkE 88 [(0,.sl I64 nums .no),(2,vv (vb false)),(3,.ptr 0 0),(4,.ptr 1 0),(5,.ptr 2 0)]) [TB.cells [.sl I64 rest13 .no,vv (Value.int IntKind.u64 last13)],TB.cells [.sl I64 u .no,.sl I64 l .no,vv (vi w),.sl I64 ls .no],TB.cells [.sl I64 u2 .no,.sl I64 l2 .no,vv (vi w2),.sl I64 ls2 .no]] (by kernel_rfl) ?_
  refine wt_seq ?_
  refine wt_regL ?_
  refine zl 2 2 (mkE 88 [(0,.sl I64 nums .no),(2,vv (vb false)),(3,.ptr 0 0),(4,.ptr 1 0),(5,.ptr 2 0),(26,.agg [.sl I64 u .no,.sl I64 l .no,vv (vi w),.sl I64 ls .no]),(27,.agg [.sl I64 u2 .no,.sl I64 l2 .no,vv (vi w2),.sl I64 ls2 .no])]) [TB.cells [.sl I64 rest13 .no,vv (Value.int IntKind.u64 last13)],TB.cells [.sl I64 u .no,.sl I64 l .no,vv (vi w),.sl I64 ls .no],TB.cells [.sl I64 u2 .no,.sl I64 l2 .no,vv (vi w2),.sl I64 ls2 .no]] (by kernel_rfl) ?_
  refine wl_icall (tt:=ttb) (g:=28) (targs:=[.agg [.sl I64 u .no,.sl I64 l .no,vv (vi w),.sl I64 ls .no],.agg [.sl I64 u2 .no,.sl I64 l2 .no,vv (vi w2),.sl I64 ls2 .no]]) (dst:=some 28) (by kernel_rfl) (spec_28 tk _ _ _ _ _ _ _ _ (by first | exact sh_ok (by assumption) | exact two_chkL (by assumption) (by assumption) | omega | (dsimp only; omega) | (dsimp only; omega)) (by first | exact sh_ok (by assumption) | exact two_chkL (by assumption) (by assumption) | omega | (dsimp only; omega) | (dsimp only; omega)) (by first | exact sh_ok (by assumption) | exact two_chkL (by assumption) (by assumption) | omega | (dsimp only; omega) | (dsimp only; omega)) (by first | exact sh_ok (by assumption) | exact two_chkL (by assumption) (by assumption) | omega | (dsimp only; omega) | (dsimp only; omega)) (by first | exact sh_ok (by assumption) | exact two_chkL (by assumption) (by assumption) | omega | (dsimp only; omega) | (dsimp only; omega))) ?_
  rintro _ rfl
  refine ze [0,2,3,4,5,6,7,8] 7 (mkE 88 [(0,.sl I64 nums .no),(2,vv (vb false)),(3,.ptr 0 0),(4,.ptr 1 0),(5,.ptr 2 0),(6,.sl I64 (shL l u2 (w+w2) (u2.length+l.length+1)) .no),(7,.sl RangeT (List.map (cutD l u2 w w2) (shL l u2 (w+w2) (u2.length+l.length+1))) .no),(8,vv (vb true))]) [TB.cells [.sl I64 rest13 .no,vv (Value.int IntKind.u64 last13)],TB.cells [.sl I64 u .no,.sl I64 l .no,vv (vi w),.sl I64 ls .no],TB.cells [.sl I64 u2 .no,.sl I64 l2 .no,vv (vi w2),.sl I64 ls2 .no]] (by kernel_rfl) ?_
  refine wt_seq ?_
  refine wt_quiet (by kernel_rfl) ?_
  refine zq 1 1 (mkE 88 [(0,.sl I64 nums .no),(2,vv (vb false)),(3,.ptr 0 0),(4,.ptr 1 0),(5,.ptr 2 0),(6,.sl I64 (shL l u2 (w+w2) (u2.length+l.length+1)) .no),(7,.sl RangeT (List.map (cutD l u2 w w2) (shL l u2 (w+w2) (u2.length+l.length+1))) .no),(8,vv (vb true)),(33,.agg [.sl I64 u .no,.sl I64 l .no,vv (vi w),.sl I64 ls .no])]) (by kernel_rfl) ?_
  refine wq_call (tt:=ttb) (g:=16) (targs:=[.agg [.sl I64 u .no,.sl I64 l .no,vv (vi w),.sl I64 ls .no],vv (vi 2)]) (dst:=some 34) (by kernel_rfl) (spec_16_2 tk _ _ _ _ (by first | omega | exact(sh_ok (by assumption)).2.2) (by first | omega | exact(sh_ok (by assumption)).2.2) (by first | omega | exact(sh_ok (by assumption)).2.2)) ?_
  rintro _ rfl
  refine zq 3 1 (mkE 88 [(0,.sl I64 nums .no),(2,vv (vb false)),(3,.ptr 0 0),(4,.ptr 1 0),(5,.ptr 2 0),(6,.sl I64 (shL l u2 (w+w2) (u2.length+l.length+1)) .no),(7,.sl RangeT (List.map (cutD l u2 w w2) (shL l u2 (w+w2) (u2.length+l.length+1))) .no),(8,vv (vb true)),(33,.agg [.sl I64 u .no,.sl I64 l .no,vv (vi w),.sl I64 ls .no]),(34,.agg [.sl I64 u.reverse .no,.sl I64 l.reverse .no,vv (vi w),.sl I64 (laidL (2:Int) ls 4) .no]),(35,.agg [.sl I64 u2 .no,.sl I64 l2 .no,vv (vi w2),.sl I64 ls2 .no])]) (by kernel_rfl) ?_
  refine wq_call (tt:=ttb) (g:=16) (targs:=[.agg [.sl I64 u2 .no,.sl I64 l2 .no,vv (vi w2),.sl I64 ls2 .no],vv (vi 2)]) (dst:=some 36) (by kernel_rfl) (spec_16_2 tk _ _ _ _ (by first | omega | exact(sh_ok (by assumption)).2.2) (by first | omega | exact(sh_ok (by assumption)).2.2) (by first | omega | exact(sh_ok (by assumption)).2.2)) ?_
  rintro _ rfl
  refine wq_call (tt:=ttb) (g:=28) (targs:=[.agg [.sl I64 u.reverse .no,.sl I64 l.reverse .no,vv (vi w),.sl I64 (laidL (2:Int) ls 4) .no],.agg [.sl I64 u2.reverse .no,.sl I64 l2.reverse .no,vv (vi w2),.sl I64 (laidL (2:Int) ls2 4) .no]]) (dst:=some 37) (by kernel_rfl) (spec_28 tk _ _ _ _ _ _ _ _ (by first | exact sh_ok (ok_over (by assumption)) | exact two_chkL (ok_over (by assumption)) (ok_over (by assumption)) | (simp; omega)) (by first | exact sh_ok (ok_over (by assumption)) | exact two_chkL (ok_over (by assumption)) (ok_over (by assumption)) | (simp; omega)) (by first | exact sh_ok (ok_over (by assumption)) | exact two_chkL (ok_over (by assumption)) (ok_over (by assumption)) | (simp; omega)) (by first | exact sh_ok (ok_over (by assumption)) | exact two_chkL (ok_over (by assumption)) (ok_over (by assumption)) | (simp; omega)) (by first | exact sh_ok (ok_over (by assumption)) | exact two_chkL (ok_over (by assumption)) (ok_over (by assumption)) | (simp; omega))) ?_
  rintro _ rfl
  refine zqe [0,2,3,4,5,6,7,8,9,10,11] 7 (mkE 88 [(0,.sl I64 nums .no),(2,vv (vb false)),(3,.ptr 0 0),(4,.ptr 1 0),(5,.ptr 2 0),(6,.sl I64 (shL l u2 (w+w2) (u2.length+l.length+1)) .no),(7,.sl RangeT (List.map (cutD l u2 w w2) (shL l u2 (w+w2) (u2.length+l.length+1))) .no),(8,vv (vb true)),(9,.sl I64 (shL l.reverse u2.reverse (w+w2) (u2.reverse.length+l.reverse.length+1)) .no),(10,.sl RangeT (List.map (cutD l.reverse u2.reverse w w2) (shL l.reverse u2.reverse (w+w2) (u2.reverse.length+l.reverse.length+1))) .no),(11,vv (vb true))]) (by kernel_rfl) ?_
  refine wt_seq ?_
  refine wt_seq ?_
  refine zr [0,2,3,4,5,6,7,8,9,10,11,53] 13 (mkE 88 [(0,.sl I64 nums .no),(2,vv (vb false)),(3,.ptr 0 0),(4,.ptr 1 0),(5,.ptr 2 0),(6,.sl I64 (shL l u2 (w+w2) (u2.length+l.length+1)) .no),(7,.sl RangeT (List.map (cutD l u2 w w2) (shL l u2 (w+w2) (u2.length+l.length+1))) .no),(8,vv (vb true)),(9,.sl I64 (shL l.reverse u2.reverse (w+w2) (u2.reverse.length+l.reverse.length+1)) .no),(10,.sl RangeT (List.map (cutD l.reverse u2.reverse w w2) (shL l.reverse u2.reverse (w+w2) (u2.reverse.length+l.reverse.length+1))) .no),(11,vv (vb true)),(53,vv (vb ((↑(shL l u2 (w+w2) (u2.length+l.length+1)).length:Int)!=(↑(shL l.reverse u2.reverse (w+w2) (u2.reverse.length+l.reverse.length+1)).length:Int))))]) [TB.cells [.sl I64 rest13 .no,vv (Value.int IntKind.u64 last13)],TB.cells [.sl I64 u .no,.sl I64 l .no,vv (vi w),.sl I64 ls .no],TB.cells [.sl I64 u2 .no,.sl I64 l2 .no,vv (vi w2),.sl I64 ls2 .no]] (by kernel_rfl) ?_
  refine wt_cond (t:=(↑(shL l u2 (w+w2) (u2.length+l.length+1)).length:Int)!=(↑(shL l.reverse u2.reverse (w+w2) (u2.reverse.length+l.reverse.length+1)).length:Int)) (by kernel_rfl) (fun hc1 => ?_) (fun hc1 => ?_)
  ·exact absurd hc1 (by rw[shL_over]; simp)
  ·skip
   have hc1:=beq_of' hc1
   refine wt_skip ?_
   refine wt_seq ?_
   refine wt_seq ?_
   refine zr [0,2,3,4,5,6,7,8,9,10,11,12] 1 (mkE 88 [(0,.sl I64 nums .no),(2,vv (vb false)),(3,.ptr 0 0),(4,.ptr 1 0),(5,.ptr 2 0),(6,.sl I64 (shL l u2 (w+w2) (u2.length+l.length+1)) .no),(7,.sl RangeT (List.map (cutD l u2 w w2) (shL l u2 (w+w2) (u2.length+l.length+1))) .no),(8,vv (vb true)),(9,.sl I64 (shL l.reverse u2.reverse (w+w2) (u2.reverse.length+l.reverse.length+1)) .no),(10,.sl RangeT (List.map (cutD l.reverse u2.reverse w w2) (shL l.reverse u2.reverse (w+w2) (u2.reverse.length+l.reverse.length+1))) .no),(11,vv (vb true)),(12,vv (vi 0))]) [TB.cells [.sl I64 rest13 .no,vv (Value.int IntKind.u64 last13)],TB.cells [.sl I64 u .no,.sl I64 l .no,vv (vi w),.sl I64 ls .no],TB.cells [.sl I64 u2 .no,.sl I64 l2 .no,vv (vi w2),.sl I64 ls2 .no]] (by kernel_rfl) ?_
   refine wt_block ?_
   refine wt_loop (σ:=Nat) (fun(i:Nat)=>(mkE 88 [(4,.ptr 1 0),(5,.ptr 2 0),(6,.sl I64 (shL l u2 (w+w2) (u2.length+l.length+1)) .no),(7,.sl RangeT ((shL l u2 (w+w2) (u2.length+l.length+1)).map (cutD l u2 w w2)) .no),(9,.sl I64 (shL l.reverse u2.reverse (w+w2) (u2.reverse.length+l.reverse.length+1)) .no),(10,.sl RangeT ((shL l.reverse u2.reverse (w+w2) (u2.reverse.length+l.reverse.length+1)).map (cutD l.reverse u2.reverse w w2)) .no),(12,ival (i:Nat))],([TB.cells [.sl I64 rest13 .no,vv (Value.int IntKind.u64 last13)],TB.cells [.sl I64 u .no,.sl I64 l .no,vv (vi w),.sl I64 ls .no],TB.cells [.sl I64 u2 .no,.sl I64 l2 .no,vv (vi w2),.sl I64 ls2 .no]]:List TB))) (fun(i:Nat)=>i≤(shL l u2 (w+w2) (u2.length+l.length+1)).length∧(shL l u2 (w+w2) (u2.length+l.length+1)).length≤20) (fun(i:Nat)=>(shL l u2 (w+w2) (u2.length+l.length+1)).length-i) (0) (fits_of [4,5,6,7,9,10,12] [] [] 100 [] (by kernel_rfl) (by kernel_rfl) (by kernel_rfl) (by kernel_rfl) (by kernel_rfl)) (by (try dsimp only); exact⟨Nat.zero_le _,Nat.le_trans (shL_le _) (by omega)⟩) (by (try dsimp only); have:=shL_le (la:=l) (ub:=u2) (wear:=w+w2) (u2.length+l.length); unfold LL; omega) ?_
   intro i hg
   have hg:i≤(shL l u2 (w+w2) (u2.length+l.length+1)).length∧(shL l u2 (w+w2) (u2.length+l.length+1)).length≤20:=hg
   show WT _ _ _ _ _ _ _ _ _ _ (mkE 88 [(4,.ptr 1 0),(5,.ptr 2 0),(6,.sl I64 (shL l u2 (w+w2) (u2.length+l.length+1)) .no),(7,.sl RangeT (List.map (cutD l u2 w w2) (shL l u2 (w+w2) (u2.length+l.length+1))) .no),(9,.sl I64 (shL l.reverse u2.reverse (w+w2) (u2.reverse.length+l.reverse.length+1)) .no),(10,.sl RangeT (List.map (cutD l.reverse u2.reverse w w2) (shL l.reverse u2.reverse (w+w2) (u2.reverse.length+l.reverse.length+1))) .no),(12,vv (vi (↑i:Int)))]) [TB.cells [.sl I64 rest13 .no,vv (Value.int IntKind.u64 last13)],TB.cells [.sl I64 u .no,.sl I64 l .no,vv (vi w),.sl I64 ls .no],TB.cells [.sl I64 u2 .no,.sl I64 l2 .no,vv (vi w2),.sl I64 ls2 .no]] _
   refine wt_seq ?_
   refine wt_seq ?_
   refine zr [4,5,6,7,9,10,12,57] 4 (mkE 88 [(4,.ptr 1 0),(5,.ptr 2 0),(6,.sl I64 (shL l u2 (w+w2) (u2.length+l.length+1)) .no),(7,.sl RangeT (List.map (cutD l u2 w w2) (shL l u2 (w+w2) (u2.length+l.length+1))) .no),(9,.sl I64 (shL l.reverse u2.reverse (w+w2) (u2.reverse.length+l.reverse.length+1)) .no),(10,.sl RangeT (List.map (cutD l.reverse u2.reverse w w2) (shL l.reverse u2.reverse (w+w2) (u2.reverse.length+l.reverse.length+1))) .no),(12,vv (vi (↑i:Int))),(57,vv (vb (decide ((↑i:Int)<(↑(shL l u2 (w+w2) (u2.length+l.length+1)).length:Int)))))]) [TB.cells [.sl I64 rest13 .no,vv (Value.int IntKind.u64 last13)],TB.cells [.sl I64 u .no,.sl I64 l .no,vv (vi w),.sl I64 ls .no],TB.cells [.sl I64 u2 .no,.sl I64 l2 .no,vv (vi w2),.sl I64 ls2 .no]] (by kernel_rfl) ?_
   refine wt_cond (t:=decide ((↑i:Int)<(↑(shL l u2 (w+w2) (u2.length+l.length+1)).length:Int))) (by kernel_rfl) (fun hc2 => ?_) (fun hc2 => ?_)
   ·skip
    have hc2:=of_decide_eq_true hc2
    have hf: fitsAt l u2 (w+w2) ((shL l u2 (w+w2) (u2.length+l.length+1)).getD i 0)=true ∧ -(u2.length:Int)≤(shL l u2 (w+w2) (u2.length+l.length+1)).getD i 0∧(shL l u2 (w+w2) (u2.length+l.length+1)).getD i 0<((u2.length+l.length+1:Nat):Int)-u2.length:=mem_shL (mem_getD (by omega))
    refine wt_skip ?_
    refine wt_seq ?_
    refine wt_block ?_
    refine wt_seq ?_
    refine wt_quiet (by kernel_rfl) ?_
    refine wq_seg 1000 (P:=Tp) (ty:=Ty) (tt:=ttb) (k':=13) (te':=(mkE 88 [(4,.ptr 1 0),(5,.ptr 2 0),(6,.sl I64 (shL l u2 (w+w2) (u2.length+l.length+1)) .no),(7,.sl RangeT (List.map (cutD l u2 w w2) (shL l u2 (w+w2) (u2.length+l.length+1))) .no),(9,.sl I64 (shL l.reverse u2.reverse (w+w2) (u2.reverse.length+l.reverse.length+1)) .no),(10,.sl RangeT (List.map (cutD l.reverse u2.reverse w w2) (shL l.reverse u2.reverse (w+w2) (u2.reverse.length+l.reverse.length+1))) .no),(12,vv (vi (↑i:Int))),(57,vv (vb (decide ((↑i:Int)<(↑(shL l u2 (w+w2) (u2.length+l.length+1)).length:Int))))),(60,.sl I64 (shL l.reverse u2.reverse (w+w2) (u2.reverse.length+l.reverse.length+1)) .no),(61,.ptr 1 0),(62,.sl I64 u .no),(63,vv (vi (↑u.length:Int))),(64,.ptr 2 0),(65,.sl I64 u2 .no),(66,vv (vi (↑u2.length:Int))),(67,vv (vi (IntKind.i64.wrap ((↑u.length:Int)-(↑u2.length:Int))))),(68,.sl I64 (shL l u2 (w+w2) (u2.length+l.length+1)) .no),(69,vv (vi (↑i:Int))),(70,.eptr I64 (shL l u2 (w+w2) (u2.length+l.length+1)) i 0),(71,vv (vi ((shL l u2 (w+w2) (u2.length+l.length+1)).getD i 0))),(72,vv (vi (IntKind.i64.wrap (IntKind.i64.wrap ((↑u.length:Int)-(↑u2.length:Int))-(shL l u2 (w+w2) (u2.length+l.length+1)).getD i 0))))])) (cp:=True∧True∧True∧True∧True∧True∧True∧True∧True∧True∧((0:Int)≤(↑i:Int)∧(↑i:Int)<(↑(shL l u2 (w+w2) (u2.length+l.length+1)).length:Int))∧True∧True∧True) (by kernel_rfl) (by simp only[true_and,and_true]; first | omega | (simp only[List.length_map]; omega) | (simp; omega) | (simp; done)) ?_
    rw[wr_i64 (n:=(↑u.length:Int)-(↑u2.length:Int)) (by omega) (by omega)]
    rw[wr_i64 (n:=(↑u.length:Int)-(↑u2.length:Int)-(shL l u2 (w+w2) (u2.length+l.length+1)).getD i 0) (by omega) (by omega)]
    refine wq_call (tt:=ttb) (g:=29) (targs:=[.sl I64 (shL l.reverse u2.reverse (w+w2) (u2.reverse.length+l.reverse.length+1)) .no,vv (vi ((↑u.length:Int)-(↑u2.length:Int)-(shL l u2 (w+w2) (u2.length+l.length+1)).getD i 0))]) (dst:=some 73) (by kernel_rfl) (spec_29 tk _ _ (by first | (have:=shL_le (la:=l.reverse) (ub:=u2.reverse) (wear:=w+w2) (u2.reverse.length+l.reverse.length); simp at this ⊢; omega))) ?_
    rintro _ rfl
    have hf1: 0≤(indexI (shL l.reverse u2.reverse (w+w2) (u2.reverse.length+l.reverse.length+1)) ((u.length:Int)-u2.length-(shL l u2 (w+w2) (u2.length+l.length+1)).getD i 0))∧(indexI (shL l.reverse u2.reverse (w+w2) (u2.reverse.length+l.reverse.length+1)) ((u.length:Int)-u2.length-(shL l u2 (w+w2) (u2.length+l.length+1)).getD i 0))<((shL l.reverse u2.reverse (w+w2) (u2.reverse.length+l.reverse.length+1)).length:Int)∧(shL l.reverse u2.reverse (w+w2) (u2.reverse.length+l.reverse.length+1)).getD (indexI (shL l.reverse u2.reverse (w+w2) (u2.reverse.length+l.reverse.length+1)) ((u.length:Int)-u2.length-(shL l u2 (w+w2) (u2.length+l.length+1)).getD i 0)).toNat 0=(u.length:Int)-u2.length-(shL l u2 (w+w2) (u2.length+l.length+1)).getD i 0:=over_at (by omega) (mem_getD (by omega))
    refine zqe [4,5,6,7,9,10,12,13] 1 (mkE 88 [(4,.ptr 1 0),(5,.ptr 2 0),(6,.sl I64 (shL l u2 (w+w2) (u2.length+l.length+1)) .no),(7,.sl RangeT (List.map (cutD l u2 w w2) (shL l u2 (w+w2) (u2.length+l.length+1))) .no),(9,.sl I64 (shL l.reverse u2.reverse (w+w2) (u2.reverse.length+l.reverse.length+1)) .no),(10,.sl RangeT (List.map (cutD l.reverse u2.reverse w w2) (shL l.reverse u2.reverse (w+w2) (u2.reverse.length+l.reverse.length+1))) .no),(12,vv (vi (↑i:Int))),(13,vv (vi (indexI (shL l.reverse u2.reverse (w+w2) (u2.reverse.length+l.reverse.length+1)) ((↑u.length:Int)-(↑u2.length:Int)-(shL l u2 (w+w2) (u2.length+l.length+1)).getD i 0))))]) (by kernel_rfl) ?_
    refine wt_seq ?_
    refine wt_quiet (by kernel_rfl) ?_
    refine wq_seg 3 (P:=Tp) (ty:=Ty) (tt:=ttb) (k':=3) (te':=(mkE 88 [(4,.ptr 1 0),(5,.ptr 2 0),(6,.sl I64 (shL l u2 (w+w2) (u2.length+l.length+1)) .no),(7,.sl RangeT (List.map (cutD l u2 w w2) (shL l u2 (w+w2) (u2.length+l.length+1))) .no),(9,.sl I64 (shL l.reverse u2.reverse (w+w2) (u2.reverse.length+l.reverse.length+1)) .no),(10,.sl RangeT (List.map (cutD l.reverse u2.reverse w w2) (shL l.reverse u2.reverse (w+w2) (u2.reverse.length+l.reverse.length+1))) .no),(12,vv (vi (↑i:Int))),(13,vv (vi (indexI (shL l.reverse u2.reverse (w+w2) (u2.reverse.length+l.reverse.length+1)) ((↑u.length:Int)-(↑u2.length:Int)-(shL l u2 (w+w2) (u2.length+l.length+1)).getD i 0)))),(74,vv (vi (indexI (shL l.reverse u2.reverse (w+w2) (u2.reverse.length+l.reverse.length+1)) ((↑u.length:Int)-(↑u2.length:Int)-(shL l u2 (w+w2) (u2.length+l.length+1)).getD i 0)))),(75,vv (vb (decide (indexI (shL l.reverse u2.reverse (w+w2) (u2.reverse.length+l.reverse.length+1)) ((↑u.length:Int)-(↑u2.length:Int)-(shL l u2 (w+w2) (u2.length+l.length+1)).getD i 0)<(0:Int))))),(76,vv (vb (decide (indexI (shL l.reverse u2.reverse (w+w2) (u2.reverse.length+l.reverse.length+1)) ((↑u.length:Int)-(↑u2.length:Int)-(shL l u2 (w+w2) (u2.length+l.length+1)).getD i 0)<(0:Int)))))])) (cp:=True∧True∧True∧True) (by kernel_rfl) ⟨trivial,⟨trivial,⟨trivial,trivial⟩⟩⟩ ?_
    refine(Bool.eq_false_or_eq_true (decide (indexI (shL l.reverse u2.reverse (w+w2) (u2.reverse.length+l.reverse.length+1)) ((↑u.length:Int)-(↑u2.length:Int)-(shL l u2 (w+w2) (u2.length+l.length+1)).getD i 0)<(0:Int)))).elim (fun hb => ?_) (fun hb => ?_)
    ·skip
     refine wq_told (te1:=(mkE 88 [(4,.ptr 1 0),(5,.ptr 2 0),(6,.sl I64 (shL l u2 (w+w2) (u2.length+l.length+1)) .no),(7,.sl RangeT (List.map (cutD l u2 w w2) (shL l u2 (w+w2) (u2.length+l.length+1))) .no),(9,.sl I64 (shL l.reverse u2.reverse (w+w2) (u2.reverse.length+l.reverse.length+1)) .no),(10,.sl RangeT (List.map (cutD l.reverse u2.reverse w w2) (shL l.reverse u2.reverse (w+w2) (u2.reverse.length+l.reverse.length+1))) .no),(12,vv (vi (↑i:Int))),(13,vv (vi (indexI (shL l.reverse u2.reverse (w+w2) (u2.reverse.length+l.reverse.length+1)) ((↑u.length:Int)-(↑u2.length:Int)-(shL l u2 (w+w2) (u2.length+l.length+1)).getD i 0)))),(74,vv (vi (indexI (shL l.reverse u2.reverse (w+w2) (u2.reverse.length+l.reverse.length+1)) ((↑u.length:Int)-(↑u2.length:Int)-(shL l u2 (w+w2) (u2.length+l.length+1)).getD i 0)))),(75,vv (vb true)),(76,vv (vb true))])) (by rw[hb]) ?_
     have hb:=of_decide_eq_true hb
     exfalso; omega
    ·skip
     refine wq_told (te1:=(mkE 88 [(4,.ptr 1 0),(5,.ptr 2 0),(6,.sl I64 (shL l u2 (w+w2) (u2.length+l.length+1)) .no),(7,.sl RangeT (List.map (cutD l u2 w w2) (shL l u2 (w+w2) (u2.length+l.length+1))) .no),(9,.sl I64 (shL l.reverse u2.reverse (w+w2) (u2.reverse.length+l.reverse.length+1)) .no),(10,.sl RangeT (List.map (cutD l.reverse u2.reverse w w2) (shL l.reverse u2.reverse (w+w2) (u2.reverse.length+l.reverse.length+1))) .no),(12,vv (vi (↑i:Int))),(13,vv (vi (indexI (shL l.reverse u2.reverse (w+w2) (u2.reverse.length+l.reverse.length+1)) ((↑u.length:Int)-(↑u2.length:Int)-(shL l u2 (w+w2) (u2.length+l.length+1)).getD i 0)))),(74,vv (vi (indexI (shL l.reverse u2.reverse (w+w2) (u2.reverse.length+l.reverse.length+1)) ((↑u.length:Int)-(↑u2.length:Int)-(shL l u2 (w+w2) (u2.length+l.length+1)).getD i 0)))),(75,vv (vb false)),(76,vv (vb false))])) (by rw[hb]) ?_
     have hb:=of_decide_eq_false hb
     refine wq_seg 8 (P:=Tp) (ty:=Ty) (tt:=ttb) (k':=11) (te':=(mkE 88 [(4,.ptr 1 0),(5,.ptr 2 0),(6,.sl I64 (shL l u2 (w+w2) (u2.length+l.length+1)) .no),(7,.sl RangeT (List.map (cutD l u2 w w2) (shL l u2 (w+w2) (u2.length+l.length+1))) .no),(9,.sl I64 (shL l.reverse u2.reverse (w+w2) (u2.reverse.length+l.reverse.length+1)) .no),(10,.sl RangeT (List.map (cutD l.reverse u2.reverse w w2) (shL l.reverse u2.reverse (w+w2) (u2.reverse.length+l.reverse.length+1))) .no),(12,vv (vi (↑i:Int))),(13,vv (vi (indexI (shL l.reverse u2.reverse (w+w2) (u2.reverse.length+l.reverse.length+1)) ((↑u.length:Int)-(↑u2.length:Int)-(shL l u2 (w+w2) (u2.length+l.length+1)).getD i 0)))),(74,vv (vi (indexI (shL l.reverse u2.reverse (w+w2) (u2.reverse.length+l.reverse.length+1)) ((↑u.length:Int)-(↑u2.length:Int)-(shL l u2 (w+w2) (u2.length+l.length+1)).getD i 0)))),(75,vv (vb false)),(76,vv (vb false)),(77,.sl RangeT (List.map (cutD l.reverse u2.reverse w w2) (shL l.reverse u2.reverse (w+w2) (u2.reverse.length+l.reverse.length+1))) .no),(78,vv (vi (indexI (shL l.reverse u2.reverse (w+w2) (u2.reverse.length+l.reverse.length+1)) ((↑u.length:Int)-(↑u2.length:Int)-(shL l u2 (w+w2) (u2.length+l.length+1)).getD i 0)))),(79,.eptr RangeT (List.map (cutD l.reverse u2.reverse w w2) (shL l.reverse u2.reverse (w+w2) (u2.reverse.length+l.reverse.length+1))) (indexI (shL l.reverse u2.reverse (w+w2) (u2.reverse.length+l.reverse.length+1)) ((↑u.length:Int)-(↑u2.length:Int)-(shL l u2 (w+w2) (u2.length+l.length+1)).getD i 0)).toNat 0),(80,.agg [vv (vi ((List.map (cutD l.reverse u2.reverse w w2) (shL l.reverse u2.reverse (w+w2) (u2.reverse.length+l.reverse.length+1))).getD (indexI (shL l.reverse u2.reverse (w+w2) (u2.reverse.length+l.reverse.length+1)) ((↑u.length:Int)-(↑u2.length:Int)-(shL l u2 (w+w2) (u2.length+l.length+1)).getD i 0)).toNat (0,0,())).fst),vv (vi ((List.map (cutD l.reverse u2.reverse w w2) (shL l.reverse u2.reverse (w+w2) (u2.reverse.length+l.reverse.length+1))).getD (indexI (shL l.reverse u2.reverse (w+w2) (u2.reverse.length+l.reverse.length+1)) ((↑u.length:Int)-(↑u2.length:Int)-(shL l u2 (w+w2) (u2.length+l.length+1)).getD i 0)).toNat (0,0,())).snd.fst)]),(81,.sl RangeT (List.map (cutD l u2 w w2) (shL l u2 (w+w2) (u2.length+l.length+1))) .no),(82,vv (vi (↑i:Int))),(83,.eptr RangeT (List.map (cutD l u2 w w2) (shL l u2 (w+w2) (u2.length+l.length+1))) i 0),(84,.agg [vv (vi ((List.map (cutD l u2 w w2) (shL l u2 (w+w2) (u2.length+l.length+1))).getD i (0,0,())).fst),vv (vi ((List.map (cutD l u2 w w2) (shL l u2 (w+w2) (u2.length+l.length+1))).getD i (0,0,())).snd.fst)])])) (cp:=True∧True∧((0:Int)≤indexI (shL l.reverse u2.reverse (w+w2) (u2.reverse.length+l.reverse.length+1)) ((↑u.length:Int)-(↑u2.length:Int)-(shL l u2 (w+w2) (u2.length+l.length+1)).getD i 0)∧indexI (shL l.reverse u2.reverse (w+w2) (u2.reverse.length+l.reverse.length+1)) ((↑u.length:Int)-(↑u2.length:Int)-(shL l u2 (w+w2) (u2.length+l.length+1)).getD i 0)<(↑(List.map (cutD l.reverse u2.reverse w w2) (shL l.reverse u2.reverse (w+w2) (u2.reverse.length+l.reverse.length+1))).length:Int))∧True∧True∧True∧((0:Int)≤(↑i:Int)∧(↑i:Int)<(↑(List.map (cutD l u2 w w2) (shL l u2 (w+w2) (u2.length+l.length+1))).length:Int))∧True∧True) (by kernel_rfl) (by simp only[true_and,and_true]; first | omega | (simp only[List.length_map]; omega) | (simp; omega) | (simp; done)) ?_
     refine wq_bin (dst:=some 85) (op := .neq) (t:=43) (x:=Operand.tmp 80) (y:=Operand.tmp 84) (u:=43) (a := .agg #[vi (((List.map (cutD l.reverse u2.reverse w w2) (shL l.reverse u2.reverse (w+w2) (u2.reverse.length+l.reverse.length+1))).getD (indexI (shL l.reverse u2.reverse (w+w2) (u2.reverse.length+l.reverse.length+1)) ((↑u.length:Int)-(↑u2.length:Int)-(shL l u2 (w+w2) (u2.length+l.length+1)).getD i 0)).toNat (0,0,())).fst),vi (((List.map (cutD l.reverse u2.reverse w w2) (shL l.reverse u2.reverse (w+w2) (u2.reverse.length+l.reverse.length+1))).getD (indexI (shL l.reverse u2.reverse (w+w2) (u2.reverse.length+l.reverse.length+1)) ((↑u.length:Int)-(↑u2.length:Int)-(shL l u2 (w+w2) (u2.length+l.length+1)).getD i 0)).toNat (0,0,())).snd.fst)]) (b := .agg #[vi (((List.map (cutD l u2 w w2) (shL l u2 (w+w2) (u2.length+l.length+1))).getD i (0,0,())).fst),vi (((List.map (cutD l u2 w w2) (shL l u2 (w+w2) (u2.length+l.length+1))).getD i (0,0,())).snd.fst)]) (v:=vb (!(((((List.map (cutD l.reverse u2.reverse w w2) (shL l.reverse u2.reverse (w+w2) (u2.reverse.length+l.reverse.length+1))).getD (indexI (shL l.reverse u2.reverse (w+w2) (u2.reverse.length+l.reverse.length+1)) ((↑u.length:Int)-(↑u2.length:Int)-(shL l u2 (w+w2) (u2.length+l.length+1)).getD i 0)).toNat (0,0,())).fst:Int)==(((List.map (cutD l u2 w w2) (shL l u2 (w+w2) (u2.length+l.length+1))).getD i (0,0,())).fst:Int))&&(((((List.map (cutD l.reverse u2.reverse w w2) (shL l.reverse u2.reverse (w+w2) (u2.reverse.length+l.reverse.length+1))).getD (indexI (shL l.reverse u2.reverse (w+w2) (u2.reverse.length+l.reverse.length+1)) ((↑u.length:Int)-(↑u2.length:Int)-(shL l u2 (w+w2) (u2.length+l.length+1)).getD i 0)).toNat (0,0,())).snd.fst:Int)==(((List.map (cutD l u2 w w2) (shL l u2 (w+w2) (u2.length+l.length+1))).getD i (0,0,())).snd.fst:Int))&&true)))) (by kernel_rfl) (by kernel_rfl) (by kernel_rfl) (cmp_43 _ _ _ _ _ _) ?_
     refine zqe [4,5,6,7,9,10,12,13,86] 1 (mkE 88 [(4,.ptr 1 0),(5,.ptr 2 0),(6,.sl I64 (shL l u2 (w+w2) (u2.length+l.length+1)) .no),(7,.sl RangeT (List.map (cutD l u2 w w2) (shL l u2 (w+w2) (u2.length+l.length+1))) .no),(9,.sl I64 (shL l.reverse u2.reverse (w+w2) (u2.reverse.length+l.reverse.length+1)) .no),(10,.sl RangeT (List.map (cutD l.reverse u2.reverse w w2) (shL l.reverse u2.reverse (w+w2) (u2.reverse.length+l.reverse.length+1))) .no),(12,vv (vi (↑i:Int))),(13,vv (vi (indexI (shL l.reverse u2.reverse (w+w2) (u2.reverse.length+l.reverse.length+1)) ((↑u.length:Int)-(↑u2.length:Int)-(shL l u2 (w+w2) (u2.length+l.length+1)).getD i 0)))),(86,vv (vb !(((List.map (cutD l.reverse u2.reverse w w2) (shL l.reverse u2.reverse (w+w2) (u2.reverse.length+l.reverse.length+1))).getD (indexI (shL l.reverse u2.reverse (w+w2) (u2.reverse.length+l.reverse.length+1)) ((↑u.length:Int)-(↑u2.length:Int)-(shL l u2 (w+w2) (u2.length+l.length+1)).getD i 0)).toNat (0,0,())).fst==((List.map (cutD l u2 w w2) (shL l u2 (w+w2) (u2.length+l.length+1))).getD i (0,0,())).fst&&(((List.map (cutD l.reverse u2.reverse w w2) (shL l.reverse u2.reverse (w+w2) (u2.reverse.length+l.reverse.length+1))).getD (indexI (shL l.reverse u2.reverse (w+w2) (u2.reverse.length+l.reverse.length+1)) ((↑u.length:Int)-(↑u2.length:Int)-(shL l u2 (w+w2) (u2.length+l.length+1)).getD i 0)).toNat (0,0,())).snd.fst==((List.map (cutD l u2 w w2) (shL l u2 (w+w2) (u2.length+l.length+1))).getD i (0,0,())).snd.fst&&true))))]) (by kernel_rfl) ?_
     refine wt_cond (t := !(((List.map (cutD l.reverse u2.reverse w w2) (shL l.reverse u2.reverse (w+w2) (u2.reverse.length+l.reverse.length+1))).getD (indexI (shL l.reverse u2.reverse (w+w2) (u2.reverse.length+l.reverse.length+1)) ((↑u.length:Int)-(↑u2.length:Int)-(shL l u2 (w+w2) (u2.length+l.length+1)).getD i 0)).toNat (0,0,())).fst==((List.map (cutD l u2 w w2) (shL l u2 (w+w2) (u2.length+l.length+1))).getD i (0,0,())).fst&&(((List.map (cutD l.reverse u2.reverse w w2) (shL l.reverse u2.reverse (w+w2) (u2.reverse.length+l.reverse.length+1))).getD (indexI (shL l.reverse u2.reverse (w+w2) (u2.reverse.length+l.reverse.length+1)) ((↑u.length:Int)-(↑u2.length:Int)-(shL l u2 (w+w2) (u2.length+l.length+1)).getD i 0)).toNat (0,0,())).snd.fst==((List.map (cutD l u2 w w2) (shL l u2 (w+w2) (u2.length+l.length+1))).getD i (0,0,())).snd.fst&&true))) (by kernel_rfl) (fun hc3 => ?_) (fun hc3 => ?_)
     ·exact absurd hc3 (by rw[over_eq (h:=hf1) (by omega) (by omega)]; simp)
     ·skip
      refine wt_skip ?_
      refine zr [4,5,6,7,9,10,12,13] 3 (mkE 88 [(4,.ptr 1 0),(5,.ptr 2 0),(6,.sl I64 (shL l u2 (w+w2) (u2.length+l.length+1)) .no),(7,.sl RangeT (List.map (cutD l u2 w w2) (shL l u2 (w+w2) (u2.length+l.length+1))) .no),(9,.sl I64 (shL l.reverse u2.reverse (w+w2) (u2.reverse.length+l.reverse.length+1)) .no),(10,.sl RangeT (List.map (cutD l.reverse u2.reverse w w2) (shL l.reverse u2.reverse (w+w2) (u2.reverse.length+l.reverse.length+1))) .no),(12,vv (vi (IntKind.i64.wrap ((↑i:Int)+(1:Int))))),(13,vv (vi (indexI (shL l.reverse u2.reverse (w+w2) (u2.reverse.length+l.reverse.length+1)) ((↑u.length:Int)-(↑u2.length:Int)-(shL l u2 (w+w2) (u2.length+l.length+1)).getD i 0))))]) [TB.cells [.sl I64 rest13 .no,vv (Value.int IntKind.u64 last13)],TB.cells [.sl I64 u .no,.sl I64 l .no,vv (vi w),.sl I64 ls .no],TB.cells [.sl I64 u2 .no,.sl I64 l2 .no,vv (vi w2),.sl I64 ls2 .no]] (by kernel_rfl) ?_
      rw[wr_i64 (n:=(↑i:Int)+(1:Int)) (by omega) (by omega)]
      refine⟨i+1,fits_of [4,5,6,7,9,10,12] [] [] 100 [] (by kernel_rfl) (by kernel_rfl) (by kernel_rfl) (by kernel_rfl) (by kernel_rfl),(by (try dsimp only); omega),(by (try dsimp only); omega)⟩
   ·skip
    have hc2:=of_decide_eq_false hc2
    refine wt_exit ?_
    refine wt_seq ?_
    refine wt_regL ?_
    refine wl_icall (tt:=ttb) (g:=17) (targs:=[]) (dst:=some 87) (by kernel_rfl) (spec_17 tk) ?_
    rintro _ rfl
    refine ze [2,4,5,6,7,9,10,12] 1 (mkE 88 [(2,vv (vb true)),(4,.ptr 1 0),(5,.ptr 2 0),(6,.sl I64 (shL l u2 (w+w2) (u2.length+l.length+1)) .no),(7,.sl RangeT (List.map (cutD l u2 w w2) (shL l u2 (w+w2) (u2.length+l.length+1))) .no),(9,.sl I64 (shL l.reverse u2.reverse (w+w2) (u2.reverse.length+l.reverse.length+1)) .no),(10,.sl RangeT (List.map (cutD l.reverse u2.reverse w w2) (shL l.reverse u2.reverse (w+w2) (u2.reverse.length+l.reverse.length+1))) .no),(12,vv (vi (↑i:Int)))]) [TB.cells [.sl I64 rest13 .no,vv (Value.int IntKind.u64 last13)],TB.cells [.sl I64 u .no,.sl I64 l .no,vv (vi w),.sl I64 ls .no],TB.cells [.sl I64 u2 .no,.sl I64 l2 .no,vv (vi w2),.sl I64 ls2 .no]] (by kernel_rfl) ?_
    refine wt_ret ?_
    refine⟨trivial,[vv (vb true)],by kernel_rfl,by kernel_rfl,by kernel_rfl,?_⟩
    rfl
 ·skip
  refine wt_skip ?_
  refine wt_seq ?_
  refine wt_regL ?_
  refine zl 2 2 (mkE 88 [(0,.sl I64 nums .no),(2,vv (vb false)),(3,.ptr 0 0),(4,.ptr 1 0),(5,.ptr 2 0),(22,vv (vb b)),(26,.agg [.sl I64 u .no,.sl I64 l .no,vv (vi w),.sl I64 ls .no]),(27,.agg [.sl I64 u1 .no,.sl I64 l1 .no,vv (vi w1),.sl I64 ls1 .no])]) [TB.cells [.sl I64 rest12 .no,vv (Value.int IntKind.u64 last12)],TB.cells [.sl I64 u .no,.sl I64 l .no,vv (vi w),.sl I64 ls .no],TB.cells [.sl I64 u1 .no,.sl I64 l1 .no,vv (vi w1),.sl I64 ls1 .no]] (by kernel_rfl) ?_
  refine wl_icall (tt:=ttb) (g:=28) (targs:=[.agg [.sl I64 u .no,.sl I64 l .no,vv (vi w),.sl I64 ls .no],.agg [.sl I64 u1 .no,.sl I64 l1 .no,vv (vi w1),.sl I64 ls1 .no]]) (dst:=some 28) (by kernel_rfl) (spec_28 tk _ _ _ _ _ _ _ _ (by first | exact sh_ok (by assumption) | exact two_chkL (by assumption) (by assumption) | omega | (dsimp only; omega) | (dsimp only; omega)) (by first | exact sh_ok (by assumption) | exact two_chkL (by assumption) (by assumption) | omega | (dsimp only; omega) | (dsimp only; omega)) (by first | exact sh_ok (by assumption) | exact two_chkL (by assumption) (by assumption) | omega | (dsimp only; omega) | (dsimp only; omega)) (by first | exact sh_ok (by assumption) | exact two_chkL (by assumption) (by assumption) | omega | (dsimp only; omega) | (dsimp only; omega)) (by first | exact sh_ok (by assumption) | exact two_chkL (by assumption) (by assumption) | omega | (dsimp only; omega) | (dsimp only; omega))) ?_
  rintro _ rfl
  refine ze [0,2,3,4,5,6,7,8] 7 (mkE 88 [(0,.sl I64 nums .no),(2,vv (vb false)),(3,.ptr 0 0),(4,.ptr 1 0),(5,.ptr 2 0),(6,.sl I64 (shL l u1 (w+w1) (u1.length+l.length+1)) .no),(7,.sl RangeT (List.map (cutD l u1 w w1) (shL l u1 (w+w1) (u1.length+l.length+1))) .no),(8,vv (vb true))]) [TB.cells [.sl I64 rest12 .no,vv (Value.int IntKind.u64 last12)],TB.cells [.sl I64 u .no,.sl I64 l .no,vv (vi w),.sl I64 ls .no],TB.cells [.sl I64 u1 .no,.sl I64 l1 .no,vv (vi w1),.sl I64 ls1 .no]] (by kernel_rfl) ?_
  refine wt_seq ?_
  refine wt_quiet (by kernel_rfl) ?_
  refine zq 1 1 (mkE 88 [(0,.sl I64 nums .no),(2,vv (vb false)),(3,.ptr 0 0),(4,.ptr 1 0),(5,.ptr 2 0),(6,.sl I64 (shL l u1 (w+w1) (u1.length+l.length+1)) .no),(7,.sl RangeT (List.map (cutD l u1 w w1) (shL l u1 (w+w1) (u1.length+l.length+1))) .no),(8,vv (vb true)),(33,.agg [.sl I64 u .no,.sl I64 l .no,vv (vi w),.sl I64 ls .no])]) (by kernel_rfl) ?_
  refine wq_call (tt:=ttb) (g:=16) (targs:=[.agg [.sl I64 u .no,.sl I64 l .no,vv (vi w),.sl I64 ls .no],vv (vi 2)]) (dst:=some 34) (by kernel_rfl) (spec_16_2 tk _ _ _ _ (by first | omega | exact(sh_ok (by assumption)).2.2) (by first | omega | exact(sh_ok (by assumption)).2.2) (by first | omega | exact(sh_ok (by assumption)).2.2)) ?_
  rintro _ rfl
  refine zq 3 1 (mkE 88 [(0,.sl I64 nums .no),(2,vv (vb false)),(3,.ptr 0 0),(4,.ptr 1 0),(5,.ptr 2 0),(6,.sl I64 (shL l u1 (w+w1) (u1.length+l.length+1)) .no),(7,.sl RangeT (List.map (cutD l u1 w w1) (shL l u1 (w+w1) (u1.length+l.length+1))) .no),(8,vv (vb true)),(33,.agg [.sl I64 u .no,.sl I64 l .no,vv (vi w),.sl I64 ls .no]),(34,.agg [.sl I64 u.reverse .no,.sl I64 l.reverse .no,vv (vi w),.sl I64 (laidL (2:Int) ls 4) .no]),(35,.agg [.sl I64 u1 .no,.sl I64 l1 .no,vv (vi w1),.sl I64 ls1 .no])]) (by kernel_rfl) ?_
  refine wq_call (tt:=ttb) (g:=16) (targs:=[.agg [.sl I64 u1 .no,.sl I64 l1 .no,vv (vi w1),.sl I64 ls1 .no],vv (vi 2)]) (dst:=some 36) (by kernel_rfl) (spec_16_2 tk _ _ _ _ (by first | omega | exact(sh_ok (by assumption)).2.2) (by first | omega | exact(sh_ok (by assumption)).2.2) (by first | omega | exact(sh_ok (by assumption)).2.2)) ?_
  rintro _ rfl
  refine wq_call (tt:=ttb) (g:=28) (targs:=[.agg [.sl I64 u.reverse .no,.sl I64 l.reverse .no,vv (vi w),.sl I64 (laidL (2:Int) ls 4) .no],.agg [.sl I64 u1.reverse .no,.sl I64 l1.reverse .no,vv (vi w1),.sl I64 (laidL (2:Int) ls1 4) .no]]) (dst:=some 37) (by kernel_rfl) (spec_28 tk _ _ _ _ _ _ _ _ (by first | exact sh_ok (ok_over (by assumption)) | exact two_chkL (ok_over (by assumption)) (ok_over (by assumption)) | (simp; omega)) (by first | exact sh_ok (ok_over (by assumption)) | exact two_chkL (ok_over (by assumption)) (ok_over (by assumption)) | (simp; omega)) (by first | exact sh_ok (ok_over (by assumption)) | exact two_chkL (ok_over (by assumption)) (ok_over (by assumption)) | (simp; omega)) (by first | exact sh_ok (ok_over (by assumption)) | exact two_chkL (ok_over (by assumption)) (ok_over (by assumption)) | (simp; omega)) (by first | exact sh_ok (ok_over (by assumption)) | exact two_chkL (ok_over (by assumption)) (ok_over (by assumption)) | (simp; omega))) ?_
  rintro _ rfl
  refine zqe [0,2,3,4,5,6,7,8,9,10,11] 7 (mkE 88 [(0,.sl I64 nums .no),(2,vv (vb false)),(3,.ptr 0 0),(4,.ptr 1 0),(5,.ptr 2 0),(6,.sl I64 (shL l u1 (w+w1) (u1.length+l.length+1)) .no),(7,.sl RangeT (List.map (cutD l u1 w w1) (shL l u1 (w+w1) (u1.length+l.length+1))) .no),(8,vv (vb true)),(9,.sl I64 (shL l.reverse u1.reverse (w+w1) (u1.reverse.length+l.reverse.length+1)) .no),(10,.sl RangeT (List.map (cutD l.reverse u1.reverse w w1) (shL l.reverse u1.reverse (w+w1) (u1.reverse.length+l.reverse.length+1))) .no),(11,vv (vb true))]) (by kernel_rfl) ?_
  refine wt_seq ?_
  refine wt_seq ?_
  refine zr [0,2,3,4,5,6,7,8,9,10,11,53] 13 (mkE 88 [(0,.sl I64 nums .no),(2,vv (vb false)),(3,.ptr 0 0),(4,.ptr 1 0),(5,.ptr 2 0),(6,.sl I64 (shL l u1 (w+w1) (u1.length+l.length+1)) .no),(7,.sl RangeT (List.map (cutD l u1 w w1) (shL l u1 (w+w1) (u1.length+l.length+1))) .no),(8,vv (vb true)),(9,.sl I64 (shL l.reverse u1.reverse (w+w1) (u1.reverse.length+l.reverse.length+1)) .no),(10,.sl RangeT (List.map (cutD l.reverse u1.reverse w w1) (shL l.reverse u1.reverse (w+w1) (u1.reverse.length+l.reverse.length+1))) .no),(11,vv (vb true)),(53,vv (vb ((↑(shL l u1 (w+w1) (u1.length+l.length+1)).length:Int)!=(↑(shL l.reverse u1.reverse (w+w1) (u1.reverse.length+l.reverse.length+1)).length:Int))))]) [TB.cells [.sl I64 rest12 .no,vv (Value.int IntKind.u64 last12)],TB.cells [.sl I64 u .no,.sl I64 l .no,vv (vi w),.sl I64 ls .no],TB.cells [.sl I64 u1 .no,.sl I64 l1 .no,vv (vi w1),.sl I64 ls1 .no]] (by kernel_rfl) ?_
  refine wt_cond (t:=(↑(shL l u1 (w+w1) (u1.length+l.length+1)).length:Int)!=(↑(shL l.reverse u1.reverse (w+w1) (u1.reverse.length+l.reverse.length+1)).length:Int)) (by kernel_rfl) (fun hc1 => ?_) (fun hc1 => ?_)
  ·exact absurd hc1 (by rw[shL_over]; simp)
  ·skip
   have hc1:=beq_of' hc1
   refine wt_skip ?_
   refine wt_seq ?_
   refine wt_seq ?_
   refine zr [0,2,3,4,5,6,7,8,9,10,11,12] 1 (mkE 88 [(0,.sl I64 nums .no),(2,vv (vb false)),(3,.ptr 0 0),(4,.ptr 1 0),(5,.ptr 2 0),(6,.sl I64 (shL l u1 (w+w1) (u1.length+l.length+1)) .no),(7,.sl RangeT (List.map (cutD l u1 w w1) (shL l u1 (w+w1) (u1.length+l.length+1))) .no),(8,vv (vb true)),(9,.sl I64 (shL l.reverse u1.reverse (w+w1) (u1.reverse.length+l.reverse.length+1)) .no),(10,.sl RangeT (List.map (cutD l.reverse u1.reverse w w1) (shL l.reverse u1.reverse (w+w1) (u1.reverse.length+l.reverse.length+1))) .no),(11,vv (vb true)),(12,vv (vi 0))]) [TB.cells [.sl I64 rest12 .no,vv (Value.int IntKind.u64 last12)],TB.cells [.sl I64 u .no,.sl I64 l .no,vv (vi w),.sl I64 ls .no],TB.cells [.sl I64 u1 .no,.sl I64 l1 .no,vv (vi w1),.sl I64 ls1 .no]] (by kernel_rfl) ?_
   refine wt_block ?_
   refine wt_loop (σ:=Nat) (fun(i:Nat)=>(mkE 88 [(4,.ptr 1 0),(5,.ptr 2 0),(6,.sl I64 (shL l u1 (w+w1) (u1.length+l.length+1)) .no),(7,.sl RangeT ((shL l u1 (w+w1) (u1.length+l.length+1)).map (cutD l u1 w w1)) .no),(9,.sl I64 (shL l.reverse u1.reverse (w+w1) (u1.reverse.length+l.reverse.length+1)) .no),(10,.sl RangeT ((shL l.reverse u1.reverse (w+w1) (u1.reverse.length+l.reverse.length+1)).map (cutD l.reverse u1.reverse w w1)) .no),(12,ival (i:Nat))],([TB.cells [.sl I64 rest12 .no,vv (Value.int IntKind.u64 last12)],TB.cells [.sl I64 u .no,.sl I64 l .no,vv (vi w),.sl I64 ls .no],TB.cells [.sl I64 u1 .no,.sl I64 l1 .no,vv (vi w1),.sl I64 ls1 .no]]:List TB))) (fun(i:Nat)=>i≤(shL l u1 (w+w1) (u1.length+l.length+1)).length∧(shL l u1 (w+w1) (u1.length+l.length+1)).length≤20) (fun(i:Nat)=>(shL l u1 (w+w1) (u1.length+l.length+1)).length-i) (0) (fits_of [4,5,6,7,9,10,12] [] [] 100 [] (by kernel_rfl) (by kernel_rfl) (by kernel_rfl) (by kernel_rfl) (by kernel_rfl)) (by (try dsimp only); exact⟨Nat.zero_le _,Nat.le_trans (shL_le _) (by omega)⟩) (by (try dsimp only); have:=shL_le (la:=l) (ub:=u1) (wear:=w+w1) (u1.length+l.length); unfold LL; omega) ?_
   intro i hg
   have hg:i≤(shL l u1 (w+w1) (u1.length+l.length+1)).length∧(shL l u1 (w+w1) (u1.length+l.length+1)).length≤20:=hg
   show WT _ _ _ _ _ _ _ _ _ _ (mkE 88 [(4,.ptr 1 0),(5,.ptr 2 0),(6,.sl I64 (shL l u1 (w+w1) (u1.length+l.length+1)) .no),(7,.sl RangeT (List.map (cutD l u1 w w1) (shL l u1 (w+w1) (u1.length+l.length+1))) .no),(9,.sl I64 (shL l.reverse u1.reverse (w+w1) (u1.reverse.length+l.reverse.length+1)) .no),(10,.sl RangeT (List.map (cutD l.reverse u1.reverse w w1) (shL l.reverse u1.reverse (w+w1) (u1.reverse.length+l.reverse.length+1))) .no),(12,vv (vi (↑i:Int)))]) [TB.cells [.sl I64 rest12 .no,vv (Value.int IntKind.u64 last12)],TB.cells [.sl I64 u .no,.sl I64 l .no,vv (vi w),.sl I64 ls .no],TB.cells [.sl I64 u1 .no,.sl I64 l1 .no,vv (vi w1),.sl I64 ls1 .no]] _
   refine wt_seq ?_
   refine wt_seq ?_
   refine zr [4,5,6,7,9,10,12,57] 4 (mkE 88 [(4,.ptr 1 0),(5,.ptr 2 0),(6,.sl I64 (shL l u1 (w+w1) (u1.length+l.length+1)) .no),(7,.sl RangeT (List.map (cutD l u1 w w1) (shL l u1 (w+w1) (u1.length+l.length+1))) .no),(9,.sl I64 (shL l.reverse u1.reverse (w+w1) (u1.reverse.length+l.reverse.length+1)) .no),(10,.sl RangeT (List.map (cutD l.reverse u1.reverse w w1) (shL l.reverse u1.reverse (w+w1) (u1.reverse.length+l.reverse.length+1))) .no),(12,vv (vi (↑i:Int))),(57,vv (vb (decide ((↑i:Int)<(↑(shL l u1 (w+w1) (u1.length+l.length+1)).length:Int)))))]) [TB.cells [.sl I64 rest12 .no,vv (Value.int IntKind.u64 last12)],TB.cells [.sl I64 u .no,.sl I64 l .no,vv (vi w),.sl I64 ls .no],TB.cells [.sl I64 u1 .no,.sl I64 l1 .no,vv (vi w1),.sl I64 ls1 .no]] (by kernel_rfl) ?_
   refine wt_cond (t:=decide ((↑i:Int)<(↑(shL l u1 (w+w1) (u1.length+l.length+1)).length:Int))) (by kernel_rfl) (fun hc2 => ?_) (fun hc2 => ?_)
   ·skip
    have hc2:=of_decide_eq_true hc2
    have hf: fitsAt l u1 (w+w1) ((shL l u1 (w+w1) (u1.length+l.length+1)).getD i 0)=true ∧ -(u1.length:Int)≤(shL l u1 (w+w1) (u1.length+l.length+1)).getD i 0∧(shL l u1 (w+w1) (u1.length+l.length+1)).getD i 0<((u1.length+l.length+1:Nat):Int)-u1.length:=mem_shL (mem_getD (by omega))
    refine wt_skip ?_
    refine wt_seq ?_
    refine wt_block ?_
    refine wt_seq ?_
    refine wt_quiet (by kernel_rfl) ?_
    refine wq_seg 1000 (P:=Tp) (ty:=Ty) (tt:=ttb) (k':=13) (te':=(mkE 88 [(4,.ptr 1 0),(5,.ptr 2 0),(6,.sl I64 (shL l u1 (w+w1) (u1.length+l.length+1)) .no),(7,.sl RangeT (List.map (cutD l u1 w w1) (shL l u1 (w+w1) (u1.length+l.length+1))) .no),(9,.sl I64 (shL l.reverse u1.reverse (w+w1) (u1.reverse.length+l.reverse.length+1)) .no),(10,.sl RangeT (List.map (cutD l.reverse u1.reverse w w1) (shL l.reverse u1.reverse (w+w1) (u1.reverse.length+l.reverse.length+1))) .no),(12,vv (vi (↑i:Int))),(57,vv (vb (decide ((↑i:Int)<(↑(shL l u1 (w+w1) (u1.length+l.length+1)).length:Int))))),(60,.sl I64 (shL l.reverse u1.reverse (w+w1) (u1.reverse.length+l.reverse.length+1)) .no),(61,.ptr 1 0),(62,.sl I64 u .no),(63,vv (vi (↑u.length:Int))),(64,.ptr 2 0),(65,.sl I64 u1 .no),(66,vv (vi (↑u1.length:Int))),(67,vv (vi (IntKind.i64.wrap ((↑u.length:Int)-(↑u1.length:Int))))),(68,.sl I64 (shL l u1 (w+w1) (u1.length+l.length+1)) .no),(69,vv (vi (↑i:Int))),(70,.eptr I64 (shL l u1 (w+w1) (u1.length+l.length+1)) i 0),(71,vv (vi ((shL l u1 (w+w1) (u1.length+l.length+1)).getD i 0))),(72,vv (vi (IntKind.i64.wrap (IntKind.i64.wrap ((↑u.length:Int)-(↑u1.length:Int))-(shL l u1 (w+w1) (u1.length+l.length+1)).getD i 0))))])) (cp:=True∧True∧True∧True∧True∧True∧True∧True∧True∧True∧((0:Int)≤(↑i:Int)∧(↑i:Int)<(↑(shL l u1 (w+w1) (u1.length+l.length+1)).length:Int))∧True∧True∧True) (by kernel_rfl) (by simp only[true_and,and_true]; first | omega | (simp only[List.length_map]; omega) | (simp; omega) | (simp; done)) ?_
    rw[wr_i64 (n:=(↑u.length:Int)-(↑u1.length:Int)) (by omega) (by omega)]
    rw[wr_i64 (n:=(↑u.length:Int)-(↑u1.length:Int)-(shL l u1 (w+w1) (u1.length+l.length+1)).getD i 0) (by omega) (by omega)]
    refine wq_call (tt:=ttb) (g:=29) (targs:=[.sl I64 (shL l.reverse u1.reverse (w+w1) (u1.reverse.length+l.reverse.length+1)) .no,vv (vi ((↑u.length:Int)-(↑u1.length:Int)-(shL l u1 (w+w1) (u1.length+l.length+1)).getD i 0))]) (dst:=some 73) (by kernel_rfl) (spec_29 tk _ _ (by first | (have:=shL_le (la:=l.reverse) (ub:=u1.reverse) (wear:=w+w1) (u1.reverse.length+l.reverse.length); simp at this ⊢; omega))) ?_
    rintro _ rfl
    have hf1: 0≤(indexI (shL l.reverse u1.reverse (w+w1) (u1.reverse.length+l.reverse.length+1)) ((u.length:Int)-u1.length-(shL l u1 (w+w1) (u1.length+l.length+1)).getD i 0))∧(indexI (shL l.reverse u1.reverse (w+w1) (u1.reverse.length+l.reverse.length+1)) ((u.length:Int)-u1.length-(shL l u1 (w+w1) (u1.length+l.length+1)).getD i 0))<((shL l.reverse u1.reverse (w+w1) (u1.reverse.length+l.reverse.length+1)).length:Int)∧(shL l.reverse u1.reverse (w+w1) (u1.reverse.length+l.reverse.length+1)).getD (indexI (shL l.reverse u1.reverse (w+w1) (u1.reverse.length+l.reverse.length+1)) ((u.length:Int)-u1.length-(shL l u1 (w+w1) (u1.length+l.length+1)).getD i 0)).toNat 0=(u.length:Int)-u1.length-(shL l u1 (w+w1) (u1.length+l.length+1)).getD i 0:=over_at (by omega) (mem_getD (by omega))
    refine zqe [4,5,6,7,9,10,12,13] 1 (mkE 88 [(4,.ptr 1 0),(5,.ptr 2 0),(6,.sl I64 (shL l u1 (w+w1) (u1.length+l.length+1)) .no),(7,.sl RangeT (List.map (cutD l u1 w w1) (shL l u1 (w+w1) (u1.length+l.length+1))) .no),(9,.sl I64 (shL l.reverse u1.reverse (w+w1) (u1.reverse.length+l.reverse.length+1)) .no),(10,.sl RangeT (List.map (cutD l.reverse u1.reverse w w1) (shL l.reverse u1.reverse (w+w1) (u1.reverse.length+l.reverse.length+1))) .no),(12,vv (vi (↑i:Int))),(13,vv (vi (indexI (shL l.reverse u1.reverse (w+w1) (u1.reverse.length+l.reverse.length+1)) ((↑u.length:Int)-(↑u1.length:Int)-(shL l u1 (w+w1) (u1.length+l.length+1)).getD i 0))))]) (by kernel_rfl) ?_
    refine wt_seq ?_
    refine wt_quiet (by kernel_rfl) ?_
    refine wq_seg 3 (P:=Tp) (ty:=Ty) (tt:=ttb) (k':=3) (te':=(mkE 88 [(4,.ptr 1 0),(5,.ptr 2 0),(6,.sl I64 (shL l u1 (w+w1) (u1.length+l.length+1)) .no),(7,.sl RangeT (List.map (cutD l u1 w w1) (shL l u1 (w+w1) (u1.length+l.length+1))) .no),(9,.sl I64 (shL l.reverse u1.reverse (w+w1) (u1.reverse.length+l.reverse.length+1)) .no),(10,.sl RangeT (List.map (cutD l.reverse u1.reverse w w1) (shL l.reverse u1.reverse (w+w1) (u1.reverse.length+l.reverse.length+1))) .no),(12,vv (vi (↑i:Int))),(13,vv (vi (indexI (shL l.reverse u1.reverse (w+w1) (u1.reverse.length+l.reverse.length+1)) ((↑u.length:Int)-(↑u1.length:Int)-(shL l u1 (w+w1) (u1.length+l.length+1)).getD i 0)))),(74,vv (vi (indexI (shL l.reverse u1.reverse (w+w1) (u1.reverse.length+l.reverse.length+1)) ((↑u.length:Int)-(↑u1.length:Int)-(shL l u1 (w+w1) (u1.length+l.length+1)).getD i 0)))),(75,vv (vb (decide (indexI (shL l.reverse u1.reverse (w+w1) (u1.reverse.length+l.reverse.length+1)) ((↑u.length:Int)-(↑u1.length:Int)-(shL l u1 (w+w1) (u1.length+l.length+1)).getD i 0)<(0:Int))))),(76,vv (vb (decide (indexI (shL l.reverse u1.reverse (w+w1) (u1.reverse.length+l.reverse.length+1)) ((↑u.length:Int)-(↑u1.length:Int)-(shL l u1 (w+w1) (u1.length+l.length+1)).getD i 0)<(0:Int)))))])) (cp:=True∧True∧True∧True) (by kernel_rfl) ⟨trivial,⟨trivial,⟨trivial,trivial⟩⟩⟩ ?_
    refine(Bool.eq_false_or_eq_true (decide (indexI (shL l.reverse u1.reverse (w+w1) (u1.reverse.length+l.reverse.length+1)) ((↑u.length:Int)-(↑u1.length:Int)-(shL l u1 (w+w1) (u1.length+l.length+1)).getD i 0)<(0:Int)))).elim (fun hb => ?_) (fun hb => ?_)
    ·skip
     refine wq_told (te1:=(mkE 88 [(4,.ptr 1 0),(5,.ptr 2 0),(6,.sl I64 (shL l u1 (w+w1) (u1.length+l.length+1)) .no),(7,.sl RangeT (List.map (cutD l u1 w w1) (shL l u1 (w+w1) (u1.length+l.length+1))) .no),(9,.sl I64 (shL l.reverse u1.reverse (w+w1) (u1.reverse.length+l.reverse.length+1)) .no),(10,.sl RangeT (List.map (cutD l.reverse u1.reverse w w1) (shL l.reverse u1.reverse (w+w1) (u1.reverse.length+l.reverse.length+1))) .no),(12,vv (vi (↑i:Int))),(13,vv (vi (indexI (shL l.reverse u1.reverse (w+w1) (u1.reverse.length+l.reverse.length+1)) ((↑u.length:Int)-(↑u1.length:Int)-(shL l u1 (w+w1) (u1.length+l.length+1)).getD i 0)))),(74,vv (vi (indexI (shL l.reverse u1.reverse (w+w1) (u1.reverse.length+l.reverse.length+1)) ((↑u.length:Int)-(↑u1.length:Int)-(shL l u1 (w+w1) (u1.length+l.length+1)).getD i 0)))),(75,vv (vb true)),(76,vv (vb true))])) (by rw[hb]) ?_
     have hb:=of_decide_eq_true hb
     exfalso; omega
    ·skip
     refine wq_told (te1:=(mkE 88 [(4,.ptr 1 0),(5,.ptr 2 0),(6,.sl I64 (shL l u1 (w+w1) (u1.length+l.length+1)) .no),(7,.sl RangeT (List.map (cutD l u1 w w1) (shL l u1 (w+w1) (u1.length+l.length+1))) .no),(9,.sl I64 (shL l.reverse u1.reverse (w+w1) (u1.reverse.length+l.reverse.length+1)) .no),(10,.sl RangeT (List.map (cutD l.reverse u1.reverse w w1) (shL l.reverse u1.reverse (w+w1) (u1.reverse.length+l.reverse.length+1))) .no),(12,vv (vi (↑i:Int))),(13,vv (vi (indexI (shL l.reverse u1.reverse (w+w1) (u1.reverse.length+l.reverse.length+1)) ((↑u.length:Int)-(↑u1.length:Int)-(shL l u1 (w+w1) (u1.length+l.length+1)).getD i 0)))),(74,vv (vi (indexI (shL l.reverse u1.reverse (w+w1) (u1.reverse.length+l.reverse.length+1)) ((↑u.length:Int)-(↑u1.length:Int)-(shL l u1 (w+w1) (u1.length+l.length+1)).getD i 0)))),(75,vv (vb false)),(76,vv (vb false))])) (by rw[hb]) ?_
     have hb:=of_decide_eq_false hb
     refine wq_seg 8 (P:=Tp) (ty:=Ty) (tt:=ttb) (k':=11) (te':=(mkE 88 [(4,.ptr 1 0),(5,.ptr 2 0),(6,.sl I64 (shL l u1 (w+w1) (u1.length+l.length+1)) .no),(7,.sl RangeT (List.map (cutD l u1 w w1) (shL l u1 (w+w1) (u1.length+l.length+1))) .no),(9,.sl I64 (shL l.reverse u1.reverse (w+w1) (u1.reverse.length+l.reverse.length+1)) .no),(10,.sl RangeT (List.map (cutD l.reverse u1.reverse w w1) (shL l.reverse u1.reverse (w+w1) (u1.reverse.length+l.reverse.length+1))) .no),(12,vv (vi (↑i:Int))),(13,vv (vi (indexI (shL l.reverse u1.reverse (w+w1) (u1.reverse.length+l.reverse.length+1)) ((↑u.length:Int)-(↑u1.length:Int)-(shL l u1 (w+w1) (u1.length+l.length+1)).getD i 0)))),(74,vv (vi (indexI (shL l.reverse u1.reverse (w+w1) (u1.reverse.length+l.reverse.length+1)) ((↑u.length:Int)-(↑u1.length:Int)-(shL l u1 (w+w1) (u1.length+l.length+1)).getD i 0)))),(75,vv (vb false)),(76,vv (vb false)),(77,.sl RangeT (List.map (cutD l.reverse u1.reverse w w1) (shL l.reverse u1.reverse (w+w1) (u1.reverse.length+l.reverse.length+1))) .no),(78,vv (vi (indexI (shL l.reverse u1.reverse (w+w1) (u1.reverse.length+l.reverse.length+1)) ((↑u.length:Int)-(↑u1.length:Int)-(shL l u1 (w+w1) (u1.length+l.length+1)).getD i 0)))),(79,.eptr RangeT (List.map (cutD l.reverse u1.reverse w w1) (shL l.reverse u1.reverse (w+w1) (u1.reverse.length+l.reverse.length+1))) (indexI (shL l.reverse u1.reverse (w+w1) (u1.reverse.length+l.reverse.length+1)) ((↑u.length:Int)-(↑u1.length:Int)-(shL l u1 (w+w1) (u1.length+l.length+1)).getD i 0)).toNat 0),(80,.agg [vv (vi ((List.map (cutD l.reverse u1.reverse w w1) (shL l.reverse u1.reverse (w+w1) (u1.reverse.length+l.reverse.length+1))).getD (indexI (shL l.reverse u1.reverse (w+w1) (u1.reverse.length+l.reverse.length+1)) ((↑u.length:Int)-(↑u1.length:Int)-(shL l u1 (w+w1) (u1.length+l.length+1)).getD i 0)).toNat (0,0,())).fst),vv (vi ((List.map (cutD l.reverse u1.reverse w w1) (shL l.reverse u1.reverse (w+w1) (u1.reverse.length+l.reverse.length+1))).getD (indexI (shL l.reverse u1.reverse (w+w1) (u1.reverse.length+l.reverse.length+1)) ((↑u.length:Int)-(↑u1.length:Int)-(shL l u1 (w+w1) (u1.length+l.length+1)).getD i 0)).toNat (0,0,())).snd.fst)]),(81,.sl RangeT (List.map (cutD l u1 w w1) (shL l u1 (w+w1) (u1.length+l.length+1))) .no),(82,vv (vi (↑i:Int))),(83,.eptr RangeT (List.map (cutD l u1 w w1) (shL l u1 (w+w1) (u1.length+l.length+1))) i 0),(84,.agg [vv (vi ((List.map (cutD l u1 w w1) (shL l u1 (w+w1) (u1.length+l.length+1))).getD i (0,0,())).fst),vv (vi ((List.map (cutD l u1 w w1) (shL l u1 (w+w1) (u1.length+l.length+1))).getD i (0,0,())).snd.fst)])])) (cp:=True∧True∧((0:Int)≤indexI (shL l.reverse u1.reverse (w+w1) (u1.reverse.length+l.reverse.length+1)) ((↑u.length:Int)-(↑u1.length:Int)-(shL l u1 (w+w1) (u1.length+l.length+1)).getD i 0)∧indexI (shL l.reverse u1.reverse (w+w1) (u1.reverse.length+l.reverse.length+1)) ((↑u.length:Int)-(↑u1.length:Int)-(shL l u1 (w+w1) (u1.length+l.length+1)).getD i 0)<(↑(List.map (cutD l.reverse u1.reverse w w1) (shL l.reverse u1.reverse (w+w1) (u1.reverse.length+l.reverse.length+1))).length:Int))∧True∧True∧True∧((0:Int)≤(↑i:Int)∧(↑i:Int)<(↑(List.map (cutD l u1 w w1) (shL l u1 (w+w1) (u1.length+l.length+1))).length:Int))∧True∧True) (by kernel_rfl) (by simp only[true_and,and_true]; first | omega | (simp only[List.length_map]; omega) | (simp; omega) | (simp; done)) ?_
     refine wq_bin (dst:=some 85) (op := .neq) (t:=43) (x:=Operand.tmp 80) (y:=Operand.tmp 84) (u:=43) (a := .agg #[vi (((List.map (cutD l.reverse u1.reverse w w1) (shL l.reverse u1.reverse (w+w1) (u1.reverse.length+l.reverse.length+1))).getD (indexI (shL l.reverse u1.reverse (w+w1) (u1.reverse.length+l.reverse.length+1)) ((↑u.length:Int)-(↑u1.length:Int)-(shL l u1 (w+w1) (u1.length+l.length+1)).getD i 0)).toNat (0,0,())).fst),vi (((List.map (cutD l.reverse u1.reverse w w1) (shL l.reverse u1.reverse (w+w1) (u1.reverse.length+l.reverse.length+1))).getD (indexI (shL l.reverse u1.reverse (w+w1) (u1.reverse.length+l.reverse.length+1)) ((↑u.length:Int)-(↑u1.length:Int)-(shL l u1 (w+w1) (u1.length+l.length+1)).getD i 0)).toNat (0,0,())).snd.fst)]) (b := .agg #[vi (((List.map (cutD l u1 w w1) (shL l u1 (w+w1) (u1.length+l.length+1))).getD i (0,0,())).fst),vi (((List.map (cutD l u1 w w1) (shL l u1 (w+w1) (u1.length+l.length+1))).getD i (0,0,())).snd.fst)]) (v:=vb (!(((((List.map (cutD l.reverse u1.reverse w w1) (shL l.reverse u1.reverse (w+w1) (u1.reverse.length+l.reverse.length+1))).getD (indexI (shL l.reverse u1.reverse (w+w1) (u1.reverse.length+l.reverse.length+1)) ((↑u.length:Int)-(↑u1.length:Int)-(shL l u1 (w+w1) (u1.length+l.length+1)).getD i 0)).toNat (0,0,())).fst:Int)==(((List.map (cutD l u1 w w1) (shL l u1 (w+w1) (u1.length+l.length+1))).getD i (0,0,())).fst:Int))&&(((((List.map (cutD l.reverse u1.reverse w w1) (shL l.reverse u1.reverse (w+w1) (u1.reverse.length+l.reverse.length+1))).getD (indexI (shL l.reverse u1.reverse (w+w1) (u1.reverse.length+l.reverse.length+1)) ((↑u.length:Int)-(↑u1.length:Int)-(shL l u1 (w+w1) (u1.length+l.length+1)).getD i 0)).toNat (0,0,())).snd.fst:Int)==(((List.map (cutD l u1 w w1) (shL l u1 (w+w1) (u1.length+l.length+1))).getD i (0,0,())).snd.fst:Int))&&true)))) (by kernel_rfl) (by kernel_rfl) (by kernel_rfl) (cmp_43 _ _ _ _ _ _) ?_
     refine zqe [4,5,6,7,9,10,12,13,86] 1 (mkE 88 [(4,.ptr 1 0),(5,.ptr 2 0),(6,.sl I64 (shL l u1 (w+w1) (u1.length+l.length+1)) .no),(7,.sl RangeT (List.map (cutD l u1 w w1) (shL l u1 (w+w1) (u1.length+l.length+1))) .no),(9,.sl I64 (shL l.reverse u1.reverse (w+w1) (u1.reverse.length+l.reverse.length+1)) .no),(10,.sl RangeT (List.map (cutD l.reverse u1.reverse w w1) (shL l.reverse u1.reverse (w+w1) (u1.reverse.length+l.reverse.length+1))) .no),(12,vv (vi (↑i:Int))),(13,vv (vi (indexI (shL l.reverse u1.reverse (w+w1) (u1.reverse.length+l.reverse.length+1)) ((↑u.length:Int)-(↑u1.length:Int)-(shL l u1 (w+w1) (u1.length+l.length+1)).getD i 0)))),(86,vv (vb !(((List.map (cutD l.reverse u1.reverse w w1) (shL l.reverse u1.reverse (w+w1) (u1.reverse.length+l.reverse.length+1))).getD (indexI (shL l.reverse u1.reverse (w+w1) (u1.reverse.length+l.reverse.length+1)) ((↑u.length:Int)-(↑u1.length:Int)-(shL l u1 (w+w1) (u1.length+l.length+1)).getD i 0)).toNat (0,0,())).fst==((List.map (cutD l u1 w w1) (shL l u1 (w+w1) (u1.length+l.length+1))).getD i (0,0,())).fst&&(((List.map (cutD l.reverse u1.reverse w w1) (shL l.reverse u1.reverse (w+w1) (u1.reverse.length+l.reverse.length+1))).getD (indexI (shL l.reverse u1.reverse (w+w1) (u1.reverse.length+l.reverse.length+1)) ((↑u.length:Int)-(↑u1.length:Int)-(shL l u1 (w+w1) (u1.length+l.length+1)).getD i 0)).toNat (0,0,())).snd.fst==((List.map (cutD l u1 w w1) (shL l u1 (w+w1) (u1.length+l.length+1))).getD i (0,0,())).snd.fst&&true))))]) (by kernel_rfl) ?_
     refine wt_cond (t := !(((List.map (cutD l.reverse u1.reverse w w1) (shL l.reverse u1.reverse (w+w1) (u1.reverse.length+l.reverse.length+1))).getD (indexI (shL l.reverse u1.reverse (w+w1) (u1.reverse.length+l.reverse.length+1)) ((↑u.length:Int)-(↑u1.length:Int)-(shL l u1 (w+w1) (u1.length+l.length+1)).getD i 0)).toNat (0,0,())).fst==((List.map (cutD l u1 w w1) (shL l u1 (w+w1) (u1.length+l.length+1))).getD i (0,0,())).fst&&(((List.map (cutD l.reverse u1.reverse w w1) (shL l.reverse u1.reverse (w+w1) (u1.reverse.length+l.reverse.length+1))).getD (indexI (shL l.reverse u1.reverse (w+w1) (u1.reverse.length+l.reverse.length+1)) ((↑u.length:Int)-(↑u1.length:Int)-(shL l u1 (w+w1) (u1.length+l.length+1)).getD i 0)).toNat (0,0,())).snd.fst==((List.map (cutD l u1 w w1) (shL l u1 (w+w1) (u1.length+l.length+1))).getD i (0,0,())).snd.fst&&true))) (by kernel_rfl) (fun hc3 => ?_) (fun hc3 => ?_)
     ·exact absurd hc3 (by rw[over_eq (h:=hf1) (by omega) (by omega)]; simp)
     ·skip
      refine wt_skip ?_
      refine zr [4,5,6,7,9,10,12,13] 3 (mkE 88 [(4,.ptr 1 0),(5,.ptr 2 0),(6,.sl I64 (shL l u1 (w+w1) (u1.length+l.length+1)) .no),(7,.sl RangeT (List.map (cutD l u1 w w1) (shL l u1 (w+w1) (u1.length+l.length+1))) .no),(9,.sl I64 (shL l.reverse u1.reverse (w+w1) (u1.reverse.length+l.reverse.length+1)) .no),(10,.sl RangeT (List.map (cutD l.reverse u1.reverse w w1) (shL l.reverse u1.reverse (w+w1) (u1.reverse.length+l.reverse.length+1))) .no),(12,vv (vi (IntKind.i64.wrap ((↑i:Int)+(1:Int))))),(13,vv (vi (indexI (shL l.reverse u1.reverse (w+w1) (u1.reverse.length+l.reverse.length+1)) ((↑u.length:Int)-(↑u1.length:Int)-(shL l u1 (w+w1) (u1.length+l.length+1)).getD i 0))))]) [TB.cells [.sl I64 rest12 .no,vv (Value.int IntKind.u64 last12)],TB.cells [.sl I64 u .no,.sl I64 l .no,vv (vi w),.sl I64 ls .no],TB.cells [.sl I64 u1 .no,.sl I64 l1 .no,vv (vi w1),.sl I64 ls1 .no]] (by kernel_rfl) ?_
      rw[wr_i64 (n:=(↑i:Int)+(1:Int)) (by omega) (by omega)]
      refine⟨i+1,fits_of [4,5,6,7,9,10,12] [] [] 100 [] (by kernel_rfl) (by kernel_rfl) (by kernel_rfl) (by kernel_rfl) (by kernel_rfl),(by (try dsimp only); omega),(by (try dsimp only); omega)⟩
   ·skip
    have hc2:=of_decide_eq_false hc2
    refine wt_exit ?_
    refine wt_seq ?_
    refine wt_regL ?_
    refine wl_icall (tt:=ttb) (g:=17) (targs:=[]) (dst:=some 87) (by kernel_rfl) (spec_17 tk) ?_
    rintro _ rfl
    refine ze [2,4,5,6,7,9,10,12] 1 (mkE 88 [(2,vv (vb true)),(4,.ptr 1 0),(5,.ptr 2 0),(6,.sl I64 (shL l u1 (w+w1) (u1.length+l.length+1)) .no),(7,.sl RangeT (List.map (cutD l u1 w w1) (shL l u1 (w+w1) (u1.length+l.length+1))) .no),(9,.sl I64 (shL l.reverse u1.reverse (w+w1) (u1.reverse.length+l.reverse.length+1)) .no),(10,.sl RangeT (List.map (cutD l.reverse u1.reverse w w1) (shL l.reverse u1.reverse (w+w1) (u1.reverse.length+l.reverse.length+1))) .no),(12,vv (vi (↑i:Int)))]) [TB.cells [.sl I64 rest12 .no,vv (Value.int IntKind.u64 last12)],TB.cells [.sl I64 u .no,.sl I64 l .no,vv (vi w),.sl I64 ls .no],TB.cells [.sl I64 u1 .no,.sl I64 l1 .no,vv (vi w1),.sl I64 ls1 .no]] (by kernel_rfl) ?_
    refine wt_ret ?_
    refine⟨trivial,[vv (vb true)],by kernel_rfl,by kernel_rfl,by kernel_rfl,?_⟩
    rfl
end Go.Tv
