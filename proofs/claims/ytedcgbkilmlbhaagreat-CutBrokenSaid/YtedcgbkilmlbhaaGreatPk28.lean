import Derived.Test.YtedcgbkilmlbhaaGreatPk24
import Derived.Test.YtedcgbkilmlbhaaGreatChecked
namespace Go.Co
open Go Go.Conc Go.Proofs
variable {af : Machine → Trace → Prop} {main : Bool} {K : Gm → Goroutine → World → Prop} {p : Pc} {γ : So} {w : World}
def Hv (low up : List Int) (s : Int) (st : Int × Int × Int) (i : Nat) : Int × Int × Int :=
 if (i : Int) + s < 0 ∨ (low.length : Int) ≤ i + s then st
 else if st.2.2 = 0 then (up.getD i 0 + low.getD (i + s).toNat 0, up.getD i 0 + low.getD (i + s).toNat 0, 1)
 else (if up.getD i 0 + low.getD (i + s).toNat 0 < st.1 then up.getD i 0 + low.getD (i + s).toNat 0 else st.1, if st.2.1 < up.getD i 0 + low.getD (i + s).toNat 0 then up.getD i 0 + low.getD (i + s).toNat 0 else st.2.1, st.2.2 + 1)
def zU (low up : List Int) (s : Int) (k : Nat) : Int × Int × Int := (List.range k).foldl (Hv low up s) (0, 0, 0)
def s9 (low up : List Int) (s : Int) : Int × Int × Int := zU low up s up.length
theorem tR (low up : List Int) (s : Int) (k : Nat) : zU low up s (k + 1) = Hv low up s (zU low up s k) k := by simp [zU, List.range_succ]
def PJ (l : List Int) : Prop := l.length ≤ 1000 ∧ ∀ (i : Nat) (x : Int), l[i]? = some x → 0 ≤ x ∧ x ≤ 9
theorem It (low up : List Int) (s : Int) (k : Nat) : 0 ≤ (zU low up s k).2.2 ∧ (zU low up s k).2.2 ≤ k := by
 induction k with
 | zero => simp [zU]
 | succ k ih =>
  rw [tR]
  unfold Hv
  split
  ·omega
  ·split <;> simp <;> omega
theorem Is (low up : List Int) (s : Int) (h : s ≤ -(up.length : Int) ∨ (low.length : Int) ≤ s) : ∀ k, k ≤ up.length → zU low up s k = (0, 0, 0) := by
 intro k
 induction k with
 | zero => intro _; rfl
 | succ k ih =>
  intro hk
  rw [tR, ih (by omega)]
  unfold Hv
  rw [if_pos (by omega)]
theorem rz {n : Int} (h : -9223372036854775808 ≤ n) (h' : n ≤ 9223372036854775807) : IntKind.i64.wrap n = n := by rw [IntKind.wrap_i64]; omega
def ZR (ua lb : Value) (A B : Option Addr) (ca cb : Nat) (low up : List Int) (s : Int) (bA bB : Nat) (st : Int × Int × Int) (k : Nat) (u : Nat → Value) : Act :=
 ⟨#[.agg #[ua, .slice A low.length ca], .agg #[.slice B up.length cb, lb], .int .i64 s, .pointer (some ⟨bA, 0, none⟩), .pointer (some ⟨bB, 0, none⟩), u 5, .int .i64 st.1, .int .i64 st.2.1, .int .i64 st.2.2, u 9, u 10, u 11, u 12, u 13, u 14, u 15, u 16, u 17, u 18, u 19, u 20, u 21, u 22, u 23, u 24, u 25, u 26, .slice B up.length cb, .int .i64 up.length, .int .i64 k, u 30, u 31, u 32, u 33, u 34, u 35, u 36, u 37, u 38, u 39, u 40, u 41, u 42, u 43, u 44, u 45, u 46, u 47, u 48, u 49, u 50, u 51, u 52, u 53, u 54, u 55, u 56, u 57, u 58, u 59, u 60, u 61, u 62, u 63, u 64, u 65, u 66, u 67, u 68], []⟩
def Ya (r : Int × Int × Int) : Value := .tuple #[.int .i64 r.1, .int .i64 r.2.1, .int .i64 r.2.2]
set_option maxRecDepth 100000 in
set_option maxHeartbeats 2000000 in
theorem WB (C : KC Tryz.prog main K z8 Du) (hp : p ≠ .ret) {ua ub la lb : Value} {low up : List Int} (s : Int) (hl : uF γ w la low) (hu : uF γ w ub up) (K9 : PJ low) (Pt : PJ up) :
  tC K Tryz.prog (p, γ) 78 #[.agg #[ua, la], .agg #[ub, lb], .int .i64 s] w fun γ' v w' => γ'.1 = p ∧ v = Ya (s9 low up s) ∧ Kept γ w γ'.2 w' := by
 refine yQ Tryz.func78 (by rfl) rfl ?_
 simp only [Tryz.ntmps78, List.size_toArray, List.length_cons, List.length_nil, Nat.reduceAdd, Nat.reduceSub, Array.replicate_succ, Array.replicate_zero, List.push_toArray, List.append_toArray, List.nil_append, List.cons_append]
 refine aN C (av C ?_)
 simp only [List.size_toArray, List.length_cons, List.length_nil, Nat.reduceAdd, Nat.zero_add, List.range, List.range.loop]
 refine mg C hp (ob := ?ob1) rfl (by rfl) (fun w => run_eq_of fun K hK => ?r1) (fun w => ?e1) ?h1
 case r1 => go_simp; exact hK
 case e1 => simp [go_sem]
 intro w1 Lr
 try walk_nrm
 have vG := (hl.rely Lr).alloc w1.heap.size (.cells #[ua, la] 91)
 have hu1 := (hu.rely Lr).alloc w1.heap.size (.cells #[ua, la] 91)
 have PC : aF _ _ ⟨w1.heap.size, 1, none⟩ la := aF.fresh (γ := γ) (w := w1) (cs := #[ua, la]) (t := 91) rfl rfl
 have ow := (Kept.rely Lr).trans (Kept.alloc γ w1 w1.heap.size (.cells #[ua, la] 91))
 refine mg C hp (ob := ?ob2) rfl (by rfl) (fun w => run_eq_of fun K hK => ?r2) (fun w => ?e2) ?h2
 case r2 => go_simp; exact hK
 case e2 => simp [go_sem]
 intro w2 KV
 try walk_nrm
 have pQ := (vG.rely KV).alloc w2.heap.size (.cells #[ub, lb] 91)
 have Yv := (hu1.rely KV).alloc w2.heap.size (.cells #[ub, lb] 91)
 have xd := (PC.rely KV).alloc w2.heap.size (.cells #[ub, lb] 91)
 have wP : aF _ _ ⟨w2.heap.size, 0, none⟩ ub := aF.fresh (γ := γ.more w1.heap.size) (w := w2) (cs := #[ub, lb]) (t := 91) rfl rfl
 have HH := ow.trans ((Kept.rely KV).trans (Kept.alloc _ w2 w2.heap.size (.cells #[ub, lb] 91)))
 refine ah C (v := ?v3) rfl (by rfl) (fun w => run_eq_of fun K hK => ?r3) (fun w => ?e3) ?h3
 case r3 => go_simp; exact hK
 case e3 => first | (simp [go_sem]; done) | (simp [go_sem, *]; done)
 try walk_nrm
 refine ah C (v := ?v4) rfl (by rfl) (fun w => run_eq_of fun K hK => ?r4) (fun w => ?e4) ?h4
 case r4 => go_simp; exact hK
 case e4 => first | (simp [go_sem]; done) | (simp [go_sem, *]; done)
 try walk_nrm
 refine ah C (v := ?v5) rfl (by rfl) (fun w => run_eq_of fun K hK => ?r5) (fun w => ?e5) ?h5
 case r5 => go_simp; exact hK
 case e5 => first | (simp [go_sem]; done) | (simp [go_sem, *]; done)
 try walk_nrm
 refine aH C ?_
 refine aN C ?_
 clear hl hu vG hu1 PC ow KV Lr
 generalize (γ.more w1.heap.size).more w2.heap.size = γ2 at *
 generalize w2.alloc (.cells #[ub, lb] 91) = W at *
 generalize w2.heap.size = bB at *
 generalize w1.heap.size = bA at *
 obtain ⟨A, ca, rfl, hA⟩ := pQ
 obtain ⟨B, cb, rfl, hB⟩ := Yv
 have HX := K9.1
 have x5 := Pt.1
 have hwa : IntKind.i64.wrap (0 - (up.length : Int)) = -(up.length : Int) := by rw [rz] <;> omega
 have hwb : IntKind.i64.wrap (-(up.length : Int)) = -(up.length : Int) := by rw [rz] <;> omega
 have DY : ∀ (a : Act) (st : Int × Int × Int), a.defers = [] → a.tmps.getD 6 undef = .int .i64 st.1 → a.tmps.getD 7 undef = .int .i64 st.2.1 → a.tmps.getD 8 undef = .int .i64 st.2.2 → st = s9 low up s → Ie Tryz.prog Tryz.f78 (fun (γ' : Gm) (v : Value) (w' : World) => γ'.1 = p ∧ v = Ya (s9 low up s) ∧ Kept γ w γ'.2 w') (p, γ2) .ret a W := by
  intro a st hd h6 h7 h8 hst
  refine ⟨hd, Ya st, ?_, rfl, by rw [hst], HH⟩
  intro w'
  constructor
  ·simp at h6 h7 h8
   simp [results, Tryz.results78, h6, h7, h8, Ya, go_sem]
  ·simp [results, Tryz.results78, go_sem]
 by_cases Je : s ≤ -(up.length : Int)
 ·have UY : decide (s ≤ -(up.length : Int)) = true := by simpa using Je
  refine aN C (av C ?_)
  simp only [List.size_toArray, List.length_cons, List.length_nil, Nat.reduceAdd, Nat.zero_add, List.range, List.range.loop]
  refine ah C (v := ?v6) rfl (by rfl) (fun w => run_eq_of fun K hK => ?r6) (fun w => ?e6) ?h6
  case r6 => go_simp; exact hK
  case e6 => first | (simp [go_sem]; done) | (simp [go_sem, *]; done)
  try walk_nrm
  refine ah C (v := ?v7) rfl (by rfl) (fun w => run_eq_of fun K hK => ?r7) (fun w => ?e7) ?h7
  case r7 => go_simp; exact hK
  case e7 => first | (simp [go_sem]; done) | (simp [go_sem, *]; done)
  try walk_nrm
  refine cq C hp (v := ?v8) rfl (by rfl) (fun w₁ h₁ => ⟨run_eq_of fun K hK => ?r8, ?e8⟩) ?h8
  case r8 => have hc := (aF.rely wP h₁).2; go_simp; exact hK
  case e8 => have hc := (aF.rely wP h₁).2; intro e he; simp [go_sem, hc] at he; subst he; exact (aF.rely wP h₁).ni
  try walk_nrm
  refine ah C (v := ?v9) rfl (by rfl) (fun w => run_eq_of fun K hK => ?r9) (fun w => ?e9) ?h9
  case r9 => go_simp; exact hK
  case e9 => first | (simp [go_sem]; done) | (simp [go_sem, *]; done)
  try walk_nrm
  refine ah C (v := ?v10) rfl (by rfl) (fun w => run_eq_of fun K hK => ?r10) (fun w => ?e10) ?qZ
  case r10 => go_simp; exact hK
  case e10 => simp [go_sem, Op.unary]
  try walk_nrm
  refine ah C (v := ?v11) rfl (by rfl) (fun w => run_eq_of fun K hK => ?r11) (fun w => ?e11) ?z7
  case r11 => go_simp; exact hK
  case e11 => first | (simp [go_sem]; done) | (simp [go_sem, *]; done)
  try walk_nrm
  refine ah C (v := ?v12) rfl (by rfl) (fun w => run_eq_of fun K hK => ?r12) (fun w => ?e12) ?Lg
  case r12 => go_simp; exact hK
  case e12 => first | (simp [go_sem]; done) | (simp [go_sem, *]; done)
  try walk_nrm
  refine bW C rfl (by rfl) ?_
  try walk_nrm
  refine bW C rfl (by rfl) ?_
  try walk_nrm
  refine bW C rfl (by rfl) ?_
  try walk_nrm
  refine bW C rfl (by rfl) ?_
  try walk_nrm
  refine bW C rfl (by rfl) ?_
  try walk_nrm
  refine ah C (v := ?v13) rfl (by rfl) (fun w => run_eq_of fun K hK => ?r13) (fun w => ?e13) ?Tf
  case r13 => go_simp; exact hK
  case e13 => first | (simp [go_sem]; done) | (simp [go_sem, *]; done)
  try walk_nrm
  refine aH C ?_
  co_then
  refine cr C (t := true) rfl ?_
  simp only [if_true]
  refine aN C (av C ?_)
  simp only [List.size_toArray, List.length_cons, List.length_nil, Nat.reduceAdd, Nat.zero_add, List.range, List.range.loop]
  refine ah C (v := ?v14) rfl (by rfl) (fun w => run_eq_of fun K hK => ?r14) (fun w => ?e14) ?Y0
  case r14 => go_simp; exact hK
  case e14 => first | (simp [go_sem]; done) | (simp [go_sem, *]; done)
  try walk_nrm
  refine ah C (v := ?v15) rfl (by rfl) (fun w => run_eq_of fun K hK => ?r15) (fun w => ?e15) ?Qb
  case r15 => go_simp; exact hK
  case e15 => first | (simp [go_sem]; done) | (simp [go_sem, *]; done)
  try walk_nrm
  refine ah C (v := ?v16) rfl (by rfl) (fun w => run_eq_of fun K hK => ?r16) (fun w => ?e16) ?U0
  case r16 => go_simp; exact hK
  case e16 => first | (simp [go_sem]; done) | (simp [go_sem, *]; done)
  try walk_nrm
  refine aH C ?_
  co_then
  refine yh C ?_
  co_then
  exact DY _ (0, 0, 0) rfl rfl rfl rfl (Is low up s (by omega) _ (Nat.le_refl _)).symm
 ·have UY : decide (s ≤ -(up.length : Int)) = false := by simpa using Je
  by_cases hs2 : (low.length : Int) ≤ s
  ·have YN : decide ((low.length : Int) ≤ s) = true := by simpa using hs2
   refine aN C (av C ?_)
   simp only [List.size_toArray, List.length_cons, List.length_nil, Nat.reduceAdd, Nat.zero_add, List.range, List.range.loop]
   refine ah C (v := ?v17) rfl (by rfl) (fun w => run_eq_of fun K hK => ?r17) (fun w => ?e17) ?YZ
   case r17 => go_simp; exact hK
   case e17 => first | (simp [go_sem]; done) | (simp [go_sem, *]; done)
   try walk_nrm
   refine ah C (v := ?v18) rfl (by rfl) (fun w => run_eq_of fun K hK => ?r18) (fun w => ?e18) ?h18
   case r18 => go_simp; exact hK
   case e18 => first | (simp [go_sem]; done) | (simp [go_sem, *]; done)
   try walk_nrm
   refine cq C hp (v := ?v19) rfl (by rfl) (fun w₁ h₁ => ⟨run_eq_of fun K hK => ?r19, ?e19⟩) ?h19
   case r19 => have hc := (aF.rely wP h₁).2; go_simp; exact hK
   case e19 => have hc := (aF.rely wP h₁).2; intro e he; simp [go_sem, hc] at he; subst he; exact (aF.rely wP h₁).ni
   try walk_nrm
   refine ah C (v := ?v20) rfl (by rfl) (fun w => run_eq_of fun K hK => ?r20) (fun w => ?e20) ?h20
   case r20 => go_simp; exact hK
   case e20 => first | (simp [go_sem]; done) | (simp [go_sem, *]; done)
   try walk_nrm
   refine ah C (v := ?v21) rfl (by rfl) (fun w => run_eq_of fun K hK => ?r21) (fun w => ?e21) ?h21
   case r21 => go_simp; exact hK
   case e21 => simp [go_sem, Op.unary]
   try walk_nrm
   refine ah C (v := ?v22) rfl (by rfl) (fun w => run_eq_of fun K hK => ?r22) (fun w => ?e22) ?h22
   case r22 => go_simp; exact hK
   case e22 => first | (simp [go_sem]; done) | (simp [go_sem, *]; done)
   try walk_nrm
   refine ah C (v := ?v23) rfl (by rfl) (fun w => run_eq_of fun K hK => ?r23) (fun w => ?e23) ?h23
   case r23 => go_simp; exact hK
   case e23 => first | (simp [go_sem]; done) | (simp [go_sem, *]; done)
   try walk_nrm
   refine ah C (v := ?v24) rfl (by rfl) (fun w => run_eq_of fun K hK => ?r24) (fun w => ?e24) ?h24
   case r24 => go_simp; exact hK
   case e24 => first | (simp [go_sem]; done) | (simp [go_sem, *]; done)
   try walk_nrm
   refine ah C (v := ?v25) rfl (by rfl) (fun w => run_eq_of fun K hK => ?r25) (fun w => ?e25) ?h25
   case r25 => go_simp; exact hK
   case e25 => first | (simp [go_sem]; done) | (simp [go_sem, *]; done)
   try walk_nrm
   refine cq C hp (v := ?v26) rfl (by rfl) (fun w₁ h₁ => ⟨run_eq_of fun K hK => ?r26, ?e26⟩) ?h26
   case r26 => have hc := (aF.rely xd h₁).2; go_simp; exact hK
   case e26 => have hc := (aF.rely xd h₁).2; intro e he; simp [go_sem, hc] at he; subst he; exact (aF.rely xd h₁).ni
   try walk_nrm
   refine ah C (v := ?v27) rfl (by rfl) (fun w => run_eq_of fun K hK => ?r27) (fun w => ?e27) ?h27
   case r27 => go_simp; exact hK
   case e27 => first | (simp [go_sem]; done) | (simp [go_sem, *]; done)
   try walk_nrm
   refine ah C (v := ?v28) rfl (by rfl) (fun w => run_eq_of fun K hK => ?r28) (fun w => ?e28) ?h28
   case r28 => go_simp; exact hK
   case e28 => first | (simp [go_sem]; done) | (simp [go_sem, *]; done)
   try walk_nrm
   refine ah C (v := ?v29) rfl (by rfl) (fun w => run_eq_of fun K hK => ?r29) (fun w => ?e29) ?h29
   case r29 => go_simp; exact hK
   case e29 => first | (simp [go_sem]; done) | (simp [go_sem, *]; done)
   try walk_nrm
   refine aH C ?_
   co_then
   refine cr C (t := true) rfl ?_
   simp only [if_true]
   refine aN C (av C ?_)
   simp only [List.size_toArray, List.length_cons, List.length_nil, Nat.reduceAdd, Nat.zero_add, List.range, List.range.loop]
   refine ah C (v := ?v30) rfl (by rfl) (fun w => run_eq_of fun K hK => ?r30) (fun w => ?e30) ?h30
   case r30 => go_simp; exact hK
   case e30 => first | (simp [go_sem]; done) | (simp [go_sem, *]; done)
   try walk_nrm
   refine ah C (v := ?v31) rfl (by rfl) (fun w => run_eq_of fun K hK => ?r31) (fun w => ?e31) ?h31
   case r31 => go_simp; exact hK
   case e31 => first | (simp [go_sem]; done) | (simp [go_sem, *]; done)
   try walk_nrm
   refine ah C (v := ?v32) rfl (by rfl) (fun w => run_eq_of fun K hK => ?r32) (fun w => ?e32) ?h32
   case r32 => go_simp; exact hK
   case e32 => first | (simp [go_sem]; done) | (simp [go_sem, *]; done)
   try walk_nrm
   refine aH C ?_
   co_then
   refine yh C ?_
   co_then
   exact DY _ (0, 0, 0) rfl rfl rfl rfl (Is low up s (by omega) _ (Nat.le_refl _)).symm
  ·have YN : decide ((low.length : Int) ≤ s) = false := by simpa using hs2
   refine aN C (av C ?_)
   simp only [List.size_toArray, List.length_cons, List.length_nil, Nat.reduceAdd, Nat.zero_add, List.range, List.range.loop]
   refine ah C (v := ?v33) rfl (by rfl) (fun w => run_eq_of fun K hK => ?r33) (fun w => ?e33) ?h33
   case r33 => go_simp; exact hK
   case e33 => first | (simp [go_sem]; done) | (simp [go_sem, *]; done)
   try walk_nrm
   refine ah C (v := ?v34) rfl (by rfl) (fun w => run_eq_of fun K hK => ?r34) (fun w => ?e34) ?h34
   case r34 => go_simp; exact hK
   case e34 => first | (simp [go_sem]; done) | (simp [go_sem, *]; done)
   try walk_nrm
   refine cq C hp (v := ?v35) rfl (by rfl) (fun w₁ h₁ => ⟨run_eq_of fun K hK => ?r35, ?e35⟩) ?h35
   case r35 => have hc := (aF.rely wP h₁).2; go_simp; exact hK
   case e35 => have hc := (aF.rely wP h₁).2; intro e he; simp [go_sem, hc] at he; subst he; exact (aF.rely wP h₁).ni
   try walk_nrm
   refine ah C (v := ?v36) rfl (by rfl) (fun w => run_eq_of fun K hK => ?r36) (fun w => ?e36) ?h36
   case r36 => go_simp; exact hK
   case e36 => first | (simp [go_sem]; done) | (simp [go_sem, *]; done)
   try walk_nrm
   refine ah C (v := ?v37) rfl (by rfl) (fun w => run_eq_of fun K hK => ?r37) (fun w => ?e37) ?h37
   case r37 => go_simp; exact hK
   case e37 => simp [go_sem, Op.unary]
   try walk_nrm
   refine ah C (v := ?v38) rfl (by rfl) (fun w => run_eq_of fun K hK => ?r38) (fun w => ?e38) ?h38
   case r38 => go_simp; exact hK
   case e38 => first | (simp [go_sem]; done) | (simp [go_sem, *]; done)
   try walk_nrm
   refine ah C (v := ?v39) rfl (by rfl) (fun w => run_eq_of fun K hK => ?r39) (fun w => ?e39) ?h39
   case r39 => go_simp; exact hK
   case e39 => first | (simp [go_sem]; done) | (simp [go_sem, *]; done)
   try walk_nrm
   refine ah C (v := ?v40) rfl (by rfl) (fun w => run_eq_of fun K hK => ?r40) (fun w => ?e40) ?h40
   case r40 => go_simp; exact hK
   case e40 => first | (simp [go_sem]; done) | (simp [go_sem, *]; done)
   try walk_nrm
   refine ah C (v := ?v41) rfl (by rfl) (fun w => run_eq_of fun K hK => ?r41) (fun w => ?e41) ?h41
   case r41 => go_simp; exact hK
   case e41 => first | (simp [go_sem]; done) | (simp [go_sem, *]; done)
   try walk_nrm
   refine cq C hp (v := ?v42) rfl (by rfl) (fun w₁ h₁ => ⟨run_eq_of fun K hK => ?r42, ?e42⟩) ?h42
   case r42 => have hc := (aF.rely xd h₁).2; go_simp; exact hK
   case e42 => have hc := (aF.rely xd h₁).2; intro e he; simp [go_sem, hc] at he; subst he; exact (aF.rely xd h₁).ni
   try walk_nrm
   refine ah C (v := ?v43) rfl (by rfl) (fun w => run_eq_of fun K hK => ?r43) (fun w => ?e43) ?h43
   case r43 => go_simp; exact hK
   case e43 => first | (simp [go_sem]; done) | (simp [go_sem, *]; done)
   try walk_nrm
   refine ah C (v := ?v44) rfl (by rfl) (fun w => run_eq_of fun K hK => ?r44) (fun w => ?e44) ?h44
   case r44 => go_simp; exact hK
   case e44 => first | (simp [go_sem]; done) | (simp [go_sem, *]; done)
   try walk_nrm
   refine ah C (v := ?v45) rfl (by rfl) (fun w => run_eq_of fun K hK => ?r45) (fun w => ?e45) ?h45
   case r45 => go_simp; exact hK
   case e45 => first | (simp [go_sem]; done) | (simp [go_sem, *]; done)
   try walk_nrm
   refine aH C ?_
   co_then
   refine cr C (t := false) rfl ?_
   simp only [Bool.false_eq_true, if_false]
   refine ij C ?_
   co_then
   refine aN C (aN C (av C ?_))
   simp only [List.size_toArray, List.length_cons, List.length_nil, Nat.reduceAdd, Nat.zero_add, List.range, List.range.loop]
   refine ah C (v := ?v46) rfl (by rfl) (fun w => run_eq_of fun K hK => ?r46) (fun w => ?e46) ?h46
   case r46 => go_simp; exact hK
   case e46 => first | (simp [go_sem]; done) | (simp [go_sem, *]; done)
   try walk_nrm
   refine cq C hp (v := ?v47) rfl (by rfl) (fun w₁ h₁ => ⟨run_eq_of fun K hK => ?r47, ?e47⟩) ?h47
   case r47 => have hc := (aF.rely wP h₁).2; go_simp; exact hK
   case e47 => have hc := (aF.rely wP h₁).2; intro e he; simp [go_sem, hc] at he; subst he; exact (aF.rely wP h₁).ni
   try walk_nrm
   refine ah C (v := ?v48) rfl (by rfl) (fun w => run_eq_of fun K hK => ?r48) (fun w => ?e48) ?h48
   case r48 => go_simp; exact hK
   case e48 => first | (simp [go_sem]; done) | (simp [go_sem, *]; done)
   try walk_nrm
   refine ah C (v := ?v49) rfl (by rfl) (fun w => run_eq_of fun K hK => ?r49) (fun w => ?e49) ?h49
   case r49 => go_simp; exact hK
   case e49 => first | (simp [go_sem]; done) | (simp [go_sem, *]; done)
   try walk_nrm
   refine aH C ?_
   co_then
   refine er C ?_
   refine lz C (fun n γ' a w' => γ' = (p, γ2) ∧ w' = W ∧ ∃ k, k ≤ up.length ∧ n = up.length - k ∧ ∃ u, a = ZR ua lb A B ca cb low up s bA bB (zU low up s k) k u) (n := up.length) ⟨rfl, rfl, 0, by omega, by omega, lG rfl⟩ ?_
   rintro n γ' a w' ⟨hγ, Yr, k, hk, hn, u, ha⟩
   subst hγ Yr
   have hN := It low up s k
   have hS := tR low up s k
   have hSk : ∀ r, Hv low up s (zU low up s k) k = r → zU low up s (k + 1) = r := fun r h => hS.trans h
   clear hS
   have Zu : k = up.length → s9 low up s = zU low up s k := fun h => by rw [h]; rfl
   generalize zU low up s k = st at *
   unfold ZR at ha
   subst ha
   refine aN C (av C ?_)
   simp only [List.size_toArray, List.length_cons, List.length_nil, Nat.zero_add, List.range, List.range.loop]
   by_cases hlt : k < up.length
   ·have X1 : decide ((k : Int) < (up.length : Int)) = true := by simpa using hlt
    obtain ⟨x, hx⟩ : ∃ x, up[k]? = some x := ⟨_, List.getElem?_eq_getElem hlt⟩
    obtain ⟨bd, YW, hsB⟩ := hB k x hx
    subst YW
    have hxb := Pt.2 k x hx
    have UE : IntKind.i64.wrap ((k : Int) + s) = (k : Int) + s := by rw [rz] <;> omega
    have hw5 : IntKind.i64.wrap ((k : Int) + 1) = (k : Int) + 1 := by rw [rz] <;> omega
    have hgx : up.getD k 0 = x := by simp [List.getD, hx]
    refine ah C (v := ?v50) rfl (by rfl) (fun w => run_eq_of fun K hK => ?r50) (fun w => ?e50) ?X7
    case r50 => go_simp; exact hK
    case e50 => first | (simp [go_sem]; done) | (simp [go_sem, *]; done)
    try walk_nrm
    refine aH C ?_
    co_then
    refine aN C (cr C (t := true) rfl ?_)
    simp only [if_true]
    refine ij C ?_
    co_then
    refine aN C (er C (aN C (av C ?_)))
    simp only [List.size_toArray, List.length_cons, List.length_nil, Nat.reduceAdd, Nat.zero_add, List.range, List.range.loop]
    refine ah C (v := ?v51) rfl (by rfl) (fun w => run_eq_of fun K hK => ?r51) (fun w => ?e51) ?X6
    case r51 => go_simp; exact hK
    case e51 => first | (simp [go_sem]; done) | (simp [go_sem, *]; done)
    try walk_nrm
    refine ah C (v := ?v52) rfl (by rfl) (fun w => run_eq_of fun K hK => ?r52) (fun w => ?e52) ?X5
    case r52 => go_simp; exact hK
    case e52 => first | (simp [go_sem]; done) | (simp [go_sem, *]; done)
    try walk_nrm
    refine cq C hp (v := ?v53) rfl (by rfl) (fun w₁ h₁ => ⟨run_eq_of fun K hK => ?r53, ?e53⟩) ?h53
    case r53 => have hc := (aF.rely hsB h₁).2; go_simp; exact hK
    case e53 => have hc := (aF.rely hsB h₁).2; intro e he; simp [go_sem, hc] at he; subst he; exact (aF.rely hsB h₁).ni
    try walk_nrm
    refine ah C (v := ?v54) rfl (by rfl) (fun w => run_eq_of fun K hK => ?r54) (fun w => ?e54) ?h54
    case r54 => go_simp; exact hK
    case e54 => first | (simp [go_sem]; done) | (simp [go_sem, *]; done)
    try walk_nrm
    refine ah C (v := ?v55) rfl (by rfl) (fun w => run_eq_of fun K hK => ?r55) (fun w => ?e55) ?h55
    case r55 => go_simp; exact hK
    case e55 => first | (simp [go_sem]; done) | (simp [go_sem, *]; done)
    try walk_nrm
    refine aH C ?_
    co_then
    refine aN C (av C ?_)
    simp only [List.size_toArray, List.length_cons, List.length_nil, Nat.reduceAdd, Nat.zero_add, List.range, List.range.loop]
    refine ah C (v := ?v56) rfl (by rfl) (fun w => run_eq_of fun K hK => ?r56) (fun w => ?e56) ?h56
    case r56 => go_simp; exact hK
    case e56 => first | (simp [go_sem]; done) | (simp [go_sem, *]; done)
    try walk_nrm
    refine ah C (v := ?v57) rfl (by rfl) (fun w => run_eq_of fun K hK => ?r57) (fun w => ?e57) ?h57
    case r57 => go_simp; exact hK
    case e57 => first | (simp [go_sem]; done) | (simp [go_sem, *]; done)
    try walk_nrm
    refine ah C (v := ?v58) rfl (by rfl) (fun w => run_eq_of fun K hK => ?r58) (fun w => ?e58) ?h58
    case r58 => go_simp; exact hK
    case e58 => first | (simp [go_sem]; done) | (simp [go_sem, *]; done)
    try walk_nrm
    refine ah C (v := ?v59) rfl (by rfl) (fun w => run_eq_of fun K hK => ?r59) (fun w => ?e59) ?h59
    case r59 => go_simp; exact hK
    case e59 => first | (simp [go_sem]; done) | (simp [go_sem, *]; done)
    try walk_nrm
    refine aH C ?_
    co_then
    refine aN C (aN C (av C ?_))
    simp only [List.size_toArray, List.length_cons, List.length_nil, Nat.reduceAdd, Nat.zero_add, List.range, List.range.loop]
    by_cases Dg : (k : Int) + s < 0
    ·have P6 : decide ((k : Int) + s < 0) = true := by simpa using Dg
     refine ah C (v := ?v60) rfl (by rfl) (fun w => run_eq_of fun K hK => ?r60) (fun w => ?e60) ?h60
     case r60 => go_simp; exact hK
     case e60 => first | (simp [go_sem]; done) | (simp [go_sem, *]; done)
     try walk_nrm
     refine ah C (v := ?v61) rfl (by rfl) (fun w => run_eq_of fun K hK => ?r61) (fun w => ?e61) ?h61
     case r61 => go_simp; exact hK
     case e61 => first | (simp [go_sem]; done) | (simp [go_sem, *]; done)
     try walk_nrm
     refine ah C (v := ?v62) rfl (by rfl) (fun w => run_eq_of fun K hK => ?r62) (fun w => ?e62) ?h62
     case r62 => go_simp; exact hK
     case e62 => first | (simp [go_sem]; done) | (simp [go_sem, *]; done)
     try walk_nrm
     refine bW C rfl (by rfl) ?_
     try walk_nrm
     refine bW C rfl (by rfl) ?_
     try walk_nrm
     refine bW C rfl (by rfl) ?_
     try walk_nrm
     refine bW C rfl (by rfl) ?_
     try walk_nrm
     refine bW C rfl (by rfl) ?_
     try walk_nrm
     refine ah C (v := ?v63) rfl (by rfl) (fun w => run_eq_of fun K hK => ?r63) (fun w => ?e63) ?YY
     case r63 => go_simp; exact hK
     case e63 => first | (simp [go_sem]; done) | (simp [go_sem, *]; done)
     try walk_nrm
     refine aH C ?_
     co_then
     refine cr C (t := true) rfl ?_
     simp only [if_true]
     refine kA C ?_
     co_then
     have hst : Hv low up s st k = st := by unfold Hv; rw [if_pos (.inl Dg)]
     refine av C ?_
     simp only [List.size_toArray, List.length_cons, List.length_nil, Nat.reduceAdd, Nat.zero_add, List.range, List.range.loop]
     refine ah C (v := ?v64) rfl (by rfl) (fun w => run_eq_of fun K hK => ?r64) (fun w => ?e64) ?h64
     case r64 => go_simp; exact hK
     case e64 => first | (simp [go_sem]; done) | (simp [go_sem, *]; done)
     try walk_nrm
     refine ah C (v := ?v65) rfl (by rfl) (fun w => run_eq_of fun K hK => ?r65) (fun w => ?e65) ?h65
     case r65 => go_simp; exact hK
     case e65 => first | (simp [go_sem]; done) | (simp [go_sem, *]; done)
     try walk_nrm
     refine aH C (cO ?_)
     refine ⟨up.length - (k + 1), by omega, rfl, rfl, k + 1, by omega, rfl, lG ?_⟩
     rw [hSk _ hst]
     rfl
    ·have P6 : decide ((k : Int) + s < 0) = false := by simpa using Dg
     by_cases sW : (low.length : Int) ≤ (k : Int) + s
     ·have YM : decide ((low.length : Int) ≤ (k : Int) + s) = true := by simpa using sW
      refine ah C (v := ?v66) rfl (by rfl) (fun w => run_eq_of fun K hK => ?r66) (fun w => ?e66) ?h66
      case r66 => go_simp; exact hK
      case e66 => first | (simp [go_sem]; done) | (simp [go_sem, *]; done)
      try walk_nrm
      refine ah C (v := ?v67) rfl (by rfl) (fun w => run_eq_of fun K hK => ?r67) (fun w => ?e67) ?h67
      case r67 => go_simp; exact hK
      case e67 => first | (simp [go_sem]; done) | (simp [go_sem, *]; done)
      try walk_nrm
      refine ah C (v := ?v68) rfl (by rfl) (fun w => run_eq_of fun K hK => ?r68) (fun w => ?e68) ?h68
      case r68 => go_simp; exact hK
      case e68 => first | (simp [go_sem]; done) | (simp [go_sem, *]; done)
      try walk_nrm
      refine ah C (v := ?v69) rfl (by rfl) (fun w => run_eq_of fun K hK => ?r69) (fun w => ?e69) ?h69
      case r69 => go_simp; exact hK
      case e69 => first | (simp [go_sem]; done) | (simp [go_sem, *]; done)
      try walk_nrm
      refine ah C (v := ?v70) rfl (by rfl) (fun w => run_eq_of fun K hK => ?r70) (fun w => ?e70) ?h70
      case r70 => go_simp; exact hK
      case e70 => first | (simp [go_sem]; done) | (simp [go_sem, *]; done)
      try walk_nrm
      refine cq C hp (v := ?v71) rfl (by rfl) (fun w₁ h₁ => ⟨run_eq_of fun K hK => ?r71, ?e71⟩) ?h71
      case r71 => have hc := (aF.rely xd h₁).2; go_simp; exact hK
      case e71 => have hc := (aF.rely xd h₁).2; intro e he; simp [go_sem, hc] at he; subst he; exact (aF.rely xd h₁).ni
      try walk_nrm
      refine ah C (v := ?v72) rfl (by rfl) (fun w => run_eq_of fun K hK => ?r72) (fun w => ?e72) ?h72
      case r72 => go_simp; exact hK
      case e72 => first | (simp [go_sem]; done) | (simp [go_sem, *]; done)
      try walk_nrm
      refine ah C (v := ?v73) rfl (by rfl) (fun w => run_eq_of fun K hK => ?r73) (fun w => ?e73) ?h73
      case r73 => go_simp; exact hK
      case e73 => first | (simp [go_sem]; done) | (simp [go_sem, *]; done)
      try walk_nrm
      refine ah C (v := ?v74) rfl (by rfl) (fun w => run_eq_of fun K hK => ?r74) (fun w => ?e74) ?h74
      case r74 => go_simp; exact hK
      case e74 => first | (simp [go_sem]; done) | (simp [go_sem, *]; done)
      try walk_nrm
      refine aH C ?_
      co_then
      refine cr C (t := true) rfl ?_
      simp only [if_true]
      refine kA C ?_
      co_then
      have hst : Hv low up s st k = st := by unfold Hv; rw [if_pos (.inr sW)]
      refine av C ?_
      simp only [List.size_toArray, List.length_cons, List.length_nil, Nat.reduceAdd, Nat.zero_add, List.range, List.range.loop]
      refine ah C (v := ?v75) rfl (by rfl) (fun w => run_eq_of fun K hK => ?r75) (fun w => ?e75) ?h75
      case r75 => go_simp; exact hK
      case e75 => first | (simp [go_sem]; done) | (simp [go_sem, *]; done)
      try walk_nrm
      refine ah C (v := ?v76) rfl (by rfl) (fun w => run_eq_of fun K hK => ?r76) (fun w => ?e76) ?h76
      case r76 => go_simp; exact hK
      case e76 => first | (simp [go_sem]; done) | (simp [go_sem, *]; done)
      try walk_nrm
      refine aH C (cO ?_)
      refine ⟨up.length - (k + 1), by omega, rfl, rfl, k + 1, by omega, rfl, lG ?_⟩
      rw [hSk _ hst]
      rfl
     ·have YM : decide ((low.length : Int) ≤ (k : Int) + s) = false := by simpa using sW
      refine ah C (v := ?v77) rfl (by rfl) (fun w => run_eq_of fun K hK => ?r77) (fun w => ?e77) ?h77
      case r77 => go_simp; exact hK
      case e77 => first | (simp [go_sem]; done) | (simp [go_sem, *]; done)
      try walk_nrm
      refine ah C (v := ?v78) rfl (by rfl) (fun w => run_eq_of fun K hK => ?r78) (fun w => ?e78) ?h78
      case r78 => go_simp; exact hK
      case e78 => first | (simp [go_sem]; done) | (simp [go_sem, *]; done)
      try walk_nrm
      refine ah C (v := ?v79) rfl (by rfl) (fun w => run_eq_of fun K hK => ?r79) (fun w => ?e79) ?h79
      case r79 => go_simp; exact hK
      case e79 => first | (simp [go_sem]; done) | (simp [go_sem, *]; done)
      try walk_nrm
      refine ah C (v := ?v80) rfl (by rfl) (fun w => run_eq_of fun K hK => ?r80) (fun w => ?e80) ?h80
      case r80 => go_simp; exact hK
      case e80 => first | (simp [go_sem]; done) | (simp [go_sem, *]; done)
      try walk_nrm
      refine ah C (v := ?v81) rfl (by rfl) (fun w => run_eq_of fun K hK => ?r81) (fun w => ?e81) ?h81
      case r81 => go_simp; exact hK
      case e81 => first | (simp [go_sem]; done) | (simp [go_sem, *]; done)
      try walk_nrm
      refine cq C hp (v := ?v82) rfl (by rfl) (fun w₁ h₁ => ⟨run_eq_of fun K hK => ?r82, ?e82⟩) ?h82
      case r82 => have hc := (aF.rely xd h₁).2; go_simp; exact hK
      case e82 => have hc := (aF.rely xd h₁).2; intro e he; simp [go_sem, hc] at he; subst he; exact (aF.rely xd h₁).ni
      try walk_nrm
      refine ah C (v := ?v83) rfl (by rfl) (fun w => run_eq_of fun K hK => ?r83) (fun w => ?e83) ?h83
      case r83 => go_simp; exact hK
      case e83 => first | (simp [go_sem]; done) | (simp [go_sem, *]; done)
      try walk_nrm
      refine ah C (v := ?v84) rfl (by rfl) (fun w => run_eq_of fun K hK => ?r84) (fun w => ?e84) ?h84
      case r84 => go_simp; exact hK
      case e84 => first | (simp [go_sem]; done) | (simp [go_sem, *]; done)
      try walk_nrm
      refine ah C (v := ?v85) rfl (by rfl) (fun w => run_eq_of fun K hK => ?r85) (fun w => ?e85) ?h85
      case r85 => go_simp; exact hK
      case e85 => first | (simp [go_sem]; done) | (simp [go_sem, *]; done)
      try walk_nrm
      refine aH C ?_
      co_then
      refine cr C (t := false) rfl ?_
      simp only [Bool.false_eq_true, if_false]
      refine ij C ?_
      co_then
      obtain ⟨y, hy⟩ : ∃ y, low[((k : Int) + s).toNat]? = some y := ⟨_, List.getElem?_eq_getElem (by omega)⟩
      obtain ⟨al, hAe, Pv⟩ := hA _ y hy
      subst hAe
      have hyb := K9.2 _ y hy
      have hw4 : IntKind.i64.wrap (x + y) = x + y := by rw [rz] <;> omega
      have hw6 : IntKind.i64.wrap (st.2.2 + 1) = st.2.2 + 1 := by rw [rz] <;> omega
      have hgy : low.getD ((k : Int) + s).toNat 0 = y := by simp [List.getD, hy]
      have xH : 0 ≤ (k : Int) + s := by omega
      have hi1 : (k : Int) + s < (low.length : Int) := by omega
      refine aN C (av C ?_)
      simp only [List.size_toArray, List.length_cons, List.length_nil, Nat.reduceAdd, Nat.zero_add, List.range, List.range.loop]
      refine ah C (v := ?v86) rfl (by rfl) (fun w => run_eq_of fun K hK => ?r86) (fun w => ?e86) ?h86
      case r86 => go_simp; exact hK
      case e86 => first | (simp [go_sem]; done) | (simp [go_sem, *]; done)
      try walk_nrm
      refine ah C (v := ?v87) rfl (by rfl) (fun w => run_eq_of fun K hK => ?r87) (fun w => ?e87) ?h87
      case r87 => go_simp; exact hK
      case e87 => first | (simp [go_sem]; done) | (simp [go_sem, *]; done)
      try walk_nrm
      refine cq C hp (v := ?v88) rfl (by rfl) (fun w₁ h₁ => ⟨run_eq_of fun K hK => ?r88, ?e88⟩) ?h88
      case r88 => have hc := (aF.rely xd h₁).2; go_simp; exact hK
      case e88 => have hc := (aF.rely xd h₁).2; intro e he; simp [go_sem, hc] at he; subst he; exact (aF.rely xd h₁).ni
      try walk_nrm
      refine ah C (v := ?v89) rfl (by rfl) (fun w => run_eq_of fun K hK => ?r89) (fun w => ?e89) ?h89
      case r89 => go_simp; exact hK
      case e89 => first | (simp [go_sem]; done) | (simp [go_sem, *]; done)
      try walk_nrm
      refine ah C (v := ?v90) rfl (by rfl) (fun w => run_eq_of fun K hK => ?r90) (fun w => ?e90) ?h90
      case r90 => go_simp; exact hK
      case e90 => first | (simp [go_sem]; done) | (simp [go_sem, *]; done)
      try walk_nrm
      refine cq C hp (v := ?v91) rfl (by rfl) (fun w₁ h₁ => ⟨run_eq_of fun K hK => ?r91, ?e91⟩) ?h91
      case r91 => have hc := (aF.rely Pv h₁).2; go_simp; exact hK
      case e91 => have hc := (aF.rely Pv h₁).2; intro e he; simp [go_sem, hc] at he; subst he; exact (aF.rely Pv h₁).ni
      try walk_nrm
      refine ah C (v := ?v92) rfl (by rfl) (fun w => run_eq_of fun K hK => ?r92) (fun w => ?e92) ?h92
      case r92 => go_simp; exact hK
      case e92 => first | (simp [go_sem]; done) | (simp [go_sem, *]; done)
      try walk_nrm
      refine ah C (v := ?v93) rfl (by rfl) (fun w => run_eq_of fun K hK => ?r93) (fun w => ?e93) ?h93
      case r93 => go_simp; exact hK
      case e93 => first | (simp [go_sem]; done) | (simp [go_sem, *]; done)
      try walk_nrm
      refine aH C ?_
      co_then
      refine aN C (aN C (av C ?_))
      simp only [List.size_toArray, List.length_cons, List.length_nil, Nat.reduceAdd, Nat.zero_add, List.range, List.range.loop]
      have Vv : st.2.2 = 0 → Hv low up s st k = (x + y, x + y, 1) := by
       intro h0
       unfold Hv
       rw [if_neg (by omega), if_pos h0, hgx, hgy]
      have Vu : st.2.2 ≠ 0 → Hv low up s st k = (if x + y < st.1 then x + y else st.1, if st.2.1 < x + y then x + y else st.2.1, st.2.2 + 1) := by
       intro h0
       unfold Hv
       rw [if_neg (by omega), if_neg h0, hgx, hgy]
      clear Zu
      obtain ⟨s1, s2, s3⟩ := st
      simp only at *
      by_cases P7 : s3 = 0
      ·subst P7
       have hst := Vv rfl
       clear Vv Vu
       refine ah C (v := ?v94) rfl (by rfl) (fun w => run_eq_of fun K hK => ?r94) (fun w => ?e94) ?h94
       case r94 => go_simp; exact hK
       case e94 => first | (simp [go_sem]; done) | (simp [go_sem, *]; done)
       try walk_nrm
       refine ah C (v := ?v95) rfl (by rfl) (fun w => run_eq_of fun K hK => ?r95) (fun w => ?e95) ?h95
       case r95 => go_simp; exact hK
       case e95 => first | (simp [go_sem]; done) | (simp [go_sem, *]; done)
       try walk_nrm
       refine aH C ?_
       co_then
       refine cr C (t := true) rfl ?_
       simp only [if_true]
       refine av C ?_
       simp only [List.size_toArray, List.length_cons, List.length_nil, Nat.reduceAdd, Nat.zero_add, List.range, List.range.loop]
       refine ah C (v := ?v96) rfl (by rfl) (fun w => run_eq_of fun K hK => ?r96) (fun w => ?e96) ?h96
       case r96 => go_simp; exact hK
       case e96 => first | (simp [go_sem]; done) | (simp [go_sem, *]; done)
       try walk_nrm
       refine ah C (v := ?v97) rfl (by rfl) (fun w => run_eq_of fun K hK => ?r97) (fun w => ?e97) ?h97
       case r97 => go_simp; exact hK
       case e97 => first | (simp [go_sem]; done) | (simp [go_sem, *]; done)
       try walk_nrm
       refine ah C (v := ?v98) rfl (by rfl) (fun w => run_eq_of fun K hK => ?r98) (fun w => ?e98) ?h98
       case r98 => go_simp; exact hK
       case e98 => first | (simp [go_sem]; done) | (simp [go_sem, *]; done)
       try walk_nrm
       refine ah C (v := ?v99) rfl (by rfl) (fun w => run_eq_of fun K hK => ?r99) (fun w => ?e99) ?h99
       case r99 => go_simp; exact hK
       case e99 => first | (simp [go_sem]; done) | (simp [go_sem, *]; done)
       try walk_nrm
       refine aH C ?_
       co_then
       refine av C ?_
       simp only [List.size_toArray, List.length_cons, List.length_nil, Nat.reduceAdd, Nat.zero_add, List.range, List.range.loop]
       refine ah C (v := ?Ze) rfl (by rfl) (fun w => run_eq_of fun K hK => ?r100) (fun w => ?e100) ?adD
       case r100 => go_simp; exact hK
       case e100 => first | (simp [go_sem]; done) | (simp [go_sem, *]; done)
       try walk_nrm
       refine ah C (v := ?Zd) rfl (by rfl) (fun w => run_eq_of fun K hK => ?r101) (fun w => ?e101) ?adC
       case r101 => go_simp; exact hK
       case e101 => first | (simp [go_sem]; done) | (simp [go_sem, *]; done)
       try walk_nrm
       refine ah C (v := ?Zc) rfl (by rfl) (fun w => run_eq_of fun K hK => ?r102) (fun w => ?e102) ?adB
       case r102 => go_simp; exact hK
       case e102 => simp [go_sem, og]
       try walk_nrm
       refine ah C (v := ?acS) rfl (by rfl) (fun w => run_eq_of fun K hK => ?r103) (fun w => ?e103) ?adA
       case r103 => go_simp; exact hK
       case e103 => first | (simp [go_sem]; done) | (simp [go_sem, *]; done)
       try walk_nrm
       refine ah C (v := ?acR) rfl (by rfl) (fun w => run_eq_of fun K hK => ?r104) (fun w => ?e104) ?adz
       case r104 => go_simp; exact hK
       case e104 => first | (simp [go_sem]; done) | (simp [go_sem, *]; done)
       try walk_nrm
       refine ah C (v := ?v105) rfl (by rfl) (fun w => run_eq_of fun K hK => ?r105) (fun w => ?e105) ?ady
       case r105 => go_simp; exact hK
       case e105 => simp [go_sem, om]
       try walk_nrm
       refine ah C (v := ?acQ) rfl (by rfl) (fun w => run_eq_of fun K hK => ?r106) (fun w => ?e106) ?adx
       case r106 => go_simp; exact hK
       case e106 => first | (simp [go_sem]; done) | (simp [go_sem, *]; done)
       try walk_nrm
       refine ah C (v := ?v107) rfl (by rfl) (fun w => run_eq_of fun K hK => ?r107) (fun w => ?e107) ?adw
       case r107 => go_simp; exact hK
       case e107 => first | (simp [go_sem]; done) | (simp [go_sem, *]; done)
       try walk_nrm
       refine ah C (v := ?acP) rfl (by rfl) (fun w => run_eq_of fun K hK => ?r108) (fun w => ?e108) ?adv
       case r108 => go_simp; exact hK
       case e108 => first | (simp [go_sem]; done) | (simp [go_sem, *]; done)
       try walk_nrm
       refine ah C (v := ?v109) rfl (by rfl) (fun w => run_eq_of fun K hK => ?r109) (fun w => ?e109) ?adu
       case r109 => go_simp; exact hK
       case e109 => first | (simp [go_sem]; done) | (simp [go_sem, *]; done)
       try walk_nrm
       refine ah C (v := ?acO) rfl (by rfl) (fun w => run_eq_of fun K hK => ?r110) (fun w => ?e110) ?adt
       case r110 => go_simp; exact hK
       case e110 => first | (simp [go_sem]; done) | (simp [go_sem, *]; done)
       try walk_nrm
       refine aH C ?_
       co_then
       refine av C ?_
       simp only [List.size_toArray, List.length_cons, List.length_nil, Nat.reduceAdd, Nat.zero_add, List.range, List.range.loop]
       refine ah C (v := ?acN) rfl (by rfl) (fun w => run_eq_of fun K hK => ?r111) (fun w => ?e111) ?ads
       case r111 => go_simp; exact hK
       case e111 => first | (simp [go_sem]; done) | (simp [go_sem, *]; done)
       try walk_nrm
       refine ah C (v := ?acM) rfl (by rfl) (fun w => run_eq_of fun K hK => ?r112) (fun w => ?e112) ?adr
       case r112 => go_simp; exact hK
       case e112 => first | (simp [go_sem]; done) | (simp [go_sem, *]; done)
       try walk_nrm
       refine aH C (cO ?_)
       refine ⟨up.length - (k + 1), by omega, rfl, rfl, k + 1, by omega, rfl, lG ?_⟩
       rw [hSk _ hst]
       rfl
      ·have hd6 : decide (s3 = 0) = false := by simpa using P7
       have ac1 : (s3 == 0) = false := by simpa using P7
       have hst := Vu P7
       clear Vv Vu
       refine ah C (v := ?Zb) rfl (by rfl) (fun w => run_eq_of fun K hK => ?r113) (fun w => ?e113) ?adq
       case r113 => go_simp; exact hK
       case e113 => first | (simp [go_sem]; done) | (simp [go_sem, *]; done)
       try walk_nrm
       refine ah C (v := ?acL) rfl (by rfl) (fun w => run_eq_of fun K hK => ?r114) (fun w => ?e114) ?adp
       case r114 => go_simp; exact hK
       case e114 => first | (simp [go_sem]; done) | (simp [go_sem, *]; done)
       try walk_nrm
       refine aH C ?_
       co_then
       refine cr C (t := false) rfl ?_
       simp only [Bool.false_eq_true, if_false]
       refine ij C ?_
       co_then
       refine av C ?_
       simp only [List.size_toArray, List.length_cons, List.length_nil, Nat.reduceAdd, Nat.zero_add, List.range, List.range.loop]
       refine ah C (v := ?acK) rfl (by rfl) (fun w => run_eq_of fun K hK => ?r115) (fun w => ?e115) ?ado
       case r115 => go_simp; exact hK
       case e115 => first | (simp [go_sem]; done) | (simp [go_sem, *]; done)
       try walk_nrm
       refine ah C (v := ?Va) rfl (by rfl) (fun w => run_eq_of fun K hK => ?r116) (fun w => ?e116) ?adn
       case r116 => go_simp; exact hK
       case e116 => first | (simp [go_sem]; done) | (simp [go_sem, *]; done)
       try walk_nrm
       refine ah C (v := ?v117) rfl (by rfl) (fun w => run_eq_of fun K hK => ?r117) (fun w => ?e117) ?adm
       case r117 => go_simp; exact hK
       case e117 => simp [go_sem, og]
       try walk_nrm
       refine ah C (v := ?acJ) rfl (by rfl) (fun w => run_eq_of fun K hK => ?r118) (fun w => ?e118) ?adl
       case r118 => go_simp; exact hK
       case e118 => first | (simp [go_sem]; done) | (simp [go_sem, *]; done)
       try walk_nrm
       refine ah C (v := ?acI) rfl (by rfl) (fun w => run_eq_of fun K hK => ?r119) (fun w => ?e119) ?adk
       case r119 => go_simp; exact hK
       case e119 => first | (simp [go_sem]; done) | (simp [go_sem, *]; done)
       try walk_nrm
       refine ah C (v := ?acH) rfl (by rfl) (fun w => run_eq_of fun K hK => ?r120) (fun w => ?e120) ?adj
       case r120 => go_simp; exact hK
       case e120 => simp [go_sem, om]
       try walk_nrm
       refine ah C (v := ?acG) rfl (by rfl) (fun w => run_eq_of fun K hK => ?r121) (fun w => ?e121) ?adi
       case r121 => go_simp; exact hK
       case e121 => first | (simp [go_sem]; done) | (simp [go_sem, *]; done)
       try walk_nrm
       refine ah C (v := ?acF) rfl (by rfl) (fun w => run_eq_of fun K hK => ?r122) (fun w => ?e122) ?adh
       case r122 => go_simp; exact hK
       case e122 => first | (simp [go_sem]; done) | (simp [go_sem, *]; done)
       try walk_nrm
       refine ah C (v := ?acE) rfl (by rfl) (fun w => run_eq_of fun K hK => ?r123) (fun w => ?e123) ?adg
       case r123 => go_simp; exact hK
       case e123 => first | (simp [go_sem]; done) | (simp [go_sem, *]; done)
       try walk_nrm
       refine ah C (v := ?v124) rfl (by rfl) (fun w => run_eq_of fun K hK => ?r124) (fun w => ?e124) ?adf
       case r124 => go_simp; exact hK
       case e124 => first | (simp [go_sem]; done) | (simp [go_sem, *]; done)
       try walk_nrm
       refine ah C (v := ?acD) rfl (by rfl) (fun w => run_eq_of fun K hK => ?r125) (fun w => ?e125) ?ade
       case r125 => go_simp; exact hK
       case e125 => first | (simp [go_sem]; done) | (simp [go_sem, *]; done)
       try walk_nrm
       refine aH C ?_
       co_then
       refine av C ?_
       simp only [List.size_toArray, List.length_cons, List.length_nil, Nat.reduceAdd, Nat.zero_add, List.range, List.range.loop]
       refine ah C (v := ?acC) rfl (by rfl) (fun w => run_eq_of fun K hK => ?r126) (fun w => ?e126) ?adb
       case r126 => go_simp; exact hK
       case e126 => first | (simp [go_sem]; done) | (simp [go_sem, *]; done)
       try walk_nrm
       refine ah C (v := ?v127) rfl (by rfl) (fun w => run_eq_of fun K hK => ?r127) (fun w => ?e127) ?ada
       case r127 => go_simp; exact hK
       case e127 => first | (simp [go_sem]; done) | (simp [go_sem, *]; done)
       try walk_nrm
       refine aH C (cO ?_)
       refine ⟨up.length - (k + 1), by omega, rfl, rfl, k + 1, by omega, rfl, lG ?_⟩
       rw [hSk _ hst]
       rfl
   ·have HE : k = up.length := by omega
    subst HE
    have X1 : decide ((up.length : Int) < (up.length : Int)) = false := by simp
    refine ah C (v := ?acB) rfl (by rfl) (fun w => run_eq_of fun K hK => ?r128) (fun w => ?e128) ?ac9
    case r128 => go_simp; exact hK
    case e128 => first | (simp [go_sem]; done) | (simp [go_sem, *]; done)
    try walk_nrm
    refine aH C ?_
    co_then
    refine aN C (cr C (t := false) rfl ?_)
    simp only [Bool.false_eq_true, if_false]
    refine kA C ?_
    co_then
    refine aN C (av C ?_)
    simp only [List.size_toArray, List.length_cons, List.length_nil, Nat.reduceAdd, Nat.zero_add, List.range, List.range.loop]
    refine ah C (v := ?acA) rfl (by rfl) (fun w => run_eq_of fun K hK => ?r129) (fun w => ?e129) ?ac8
    case r129 => go_simp; exact hK
    case e129 => first | (simp [go_sem]; done) | (simp [go_sem, *]; done)
    try walk_nrm
    refine ah C (v := ?v130) rfl (by rfl) (fun w => run_eq_of fun K hK => ?r130) (fun w => ?e130) ?ac7
    case r130 => go_simp; exact hK
    case e130 => first | (simp [go_sem]; done) | (simp [go_sem, *]; done)
    try walk_nrm
    refine ah C (v := ?v131) rfl (by rfl) (fun w => run_eq_of fun K hK => ?r131) (fun w => ?e131) ?ac6
    case r131 => go_simp; exact hK
    case e131 => first | (simp [go_sem]; done) | (simp [go_sem, *]; done)
    try walk_nrm
    refine ah C (v := ?acz) rfl (by rfl) (fun w => run_eq_of fun K hK => ?r132) (fun w => ?e132) ?ac5
    case r132 => go_simp; exact hK
    case e132 => first | (simp [go_sem]; done) | (simp [go_sem, *]; done)
    try walk_nrm
    refine ah C (v := ?acy) rfl (by rfl) (fun w => run_eq_of fun K hK => ?r133) (fun w => ?e133) ?ac4
    case r133 => go_simp; exact hK
    case e133 => first | (simp [go_sem]; done) | (simp [go_sem, *]; done)
    try walk_nrm
    refine ah C (v := ?acw) rfl (by rfl) (fun w => run_eq_of fun K hK => ?r134) (fun w => ?e134) ?ac3
    case r134 => go_simp; exact hK
    case e134 => first | (simp [go_sem]; done) | (simp [go_sem, *]; done)
    try walk_nrm
    refine aH C ?_
    co_then
    refine yh C ?_
    exact DY _ st rfl rfl rfl rfl (Zu rfl).symm
end Go.Co
