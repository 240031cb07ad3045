import Derived.Test.YtoccmmopffbbfaaPk06
section
namespace Go.Tv
open Go Go.Di Go.Proofs
set_option maxRecDepth 100000
theorem getD_at {l : List Int} {i : Nat} (h : i < l.length) : l.getD i 0 = l[i] := by simp [List.getD_eq_getElem?_getD, h]
theorem take_one {l : List Int} {i : Nat} (h : i < l.length) : l.take (i + 1) = l.take i ++ [l.getD i 0] := by
  rw [getD_at h, List.take_append_getElem]
theorem drop_one {l : List Int} {i : Nat} (h : i < l.length) : (l.drop (i + 1)).reverse ++ [l.getD i 0] = (l.drop i).reverse := by
  rw [getD_at h, List.drop_eq_getElem_cons h, List.reverse_cons]
theorem mem_getD {l : List Int} {i : Nat} (h : i < l.length) : l.getD i 0 ∈ l := by
  rw [getD_at h]; exact List.getElem_mem _
def indexI (l : List Int) (x : Int) : Int := if x ∈ l then (l.idxOf x : Int) else -1
theorem indexI_at {l : List Int} {x : Int} {i : Nat} (h : i < l.length) (h1 : x ∉ l.take i) (h2 : l.getD i 0 = x) : indexI l x = i := by
  have hm : x ∈ l := by rw [← h2]; exact mem_getD h
  have e : l = l.take i ++ x :: l.drop (i + 1) := by
    rw [← h2, getD_at h, ← List.drop_eq_getElem_cons h, List.take_append_drop]
  rw [indexI, if_pos hm]
  congr 1
  conv => lhs; rw [e]
  rw [List.idxOf_append, if_neg h1, List.idxOf_cons_self, List.length_take]
  omega
abbrev dice (rest : List Int) (last : Int) : List TV := [.sl I64 rest .no, .val (.int .u64 last)]
theorem wrap_u64' (n : Int) : IntKind.u64.wrap n = n % 18446744073709551616 := by simp [IntKind.wrap, IntKind.bits, IntKind.signed]
theorem u64_in (n : Int) : 0 ≤ IntKind.u64.wrap n ∧ IntKind.u64.wrap n < 18446744073709551616 := by rw [wrap_u64']; omega
theorem fdiv32 (a : Int) : a.fdiv 4294967296 = a / 4294967296 := Int.fdiv_eq_ediv_of_nonneg _ (by omega)
theorem hi_of {x n : Int} (h : IntKind.u64.wrap n = x) : 0 ≤ x.fdiv 4294967296 ∧ x.fdiv 4294967296 < 4294967296 := by
  have := u64_in n
  rw [fdiv32, ← h]; omega
theorem to_in {k m : Int} (hm : m ≤ 1000) (h0 : 0 < m) (hk : 0 ≤ k) (hk' : k < 4294967296) : 0 ≤ IntKind.i64.wrap ((IntKind.u64.wrap (k * IntKind.u64.wrap (m + 1))).fdiv 4294967296) ∧ (IntKind.i64.wrap ((IntKind.u64.wrap (k * IntKind.u64.wrap (m + 1))).fdiv 4294967296) ≤ m ∨ IntKind.i64.wrap ((IntKind.u64.wrap (k * IntKind.u64.wrap (m + 1))).fdiv 4294967296) = 0) := by
  have h1 : k * (m + 1) ≤ 4294967295 * (m + 1) := Int.mul_le_mul_of_nonneg_right (by omega) (by omega)
  have h2 : 0 ≤ k * (m + 1) := Int.mul_nonneg hk (by omega)
  rw [wrap_u64' (m + 1), Int.emod_eq_of_lt (a := m + 1) (by omega) (by omega), fdiv32, wrap_u64']
  generalize k * (m + 1) = p at *
  rw [Int.emod_eq_of_lt (by omega) (by omega), wr_i64 (by omega) (by omega)]
  omega
theorem all_snoc {α : Type} {P : α → Prop} {l : List α} {a : α} (h : ∀ x ∈ l, P x) (ha : P a) : ∀ x ∈ l ++ [a], P x := by
  intro x hx
  rcases List.mem_append.1 hx with hx | hx
  · exact h x hx
  · rw [List.mem_singleton.1 hx]; exact ha
theorem asc_snoc {l : List Int} {a : Int} (h : l.Pairwise (· < ·)) (ha : ∀ x ∈ l, x < a) : (l ++ [a]).Pairwise (· < ·) := by
  rw [List.pairwise_append]
  exact ⟨h, List.pairwise_singleton _ _, fun x hx y hy => by rw [List.mem_singleton.1 hy]; exact ha x hx⟩
theorem map_take_snoc {f : Int → Int} {l : List Int} {i : Nat} (h : i < l.length) : (l.take i).map f ++ [f (l.getD i 0)] = (l.take (i + 1)).map f := by
  rw [take_one h, List.map_append]; rfl
abbrev pcV (u l : List Int) (w : Int) (ls : List Int) : TV := .agg [.sl I64 u .no, .sl I64 l .no, ival w, .sl I64 ls .no]
abbrev Num (u l : List Int) (w : Int) : Prop := 3 ≤ u.length ∧ u.length ≤ 8 ∧ l.length = u.length ∧ 0 ≤ w ∧ w ≤ 2
structure Ok (u l : List Int) (w : Int) (ls : List Int) : Prop where
  n3 : 3 ≤ u.length
  n8 : u.length ≤ 8
  len : l.length = u.length
  hu : ∀ x ∈ u, 0 ≤ x ∧ x ≤ 9
  hl : ∀ x ∈ l, 0 ≤ x ∧ x ≤ 9
  w0 : 0 ≤ w
  w2 : w ≤ 2
  ne : ls ≠ []
  lie : ∀ x ∈ ls, 0 ≤ x ∧ x ≤ 3
  asc : ls.Pairwise (· < ·)
def xorI (a b : Int) : Int := IntKind.i64.wrap ((BitVec.ofInt 64 a ^^^ BitVec.ofInt 64 b).toNat : Int)
def laidL (y : Int) (ls : List Int) (i : Nat) : List Int := ((List.range i).map Int.ofNat).filter fun x => decide (xorI x y ∈ ls)
theorem laidL_yes {y : Int} {ls : List Int} {i : Nat} (h : xorI i y ∈ ls) : laidL y ls i ++ [(i : Int)] = laidL y ls (i + 1) := by
  simp [laidL, List.range_succ, List.filter_append, h]
theorem laidL_no {y : Int} {ls : List Int} {i : Nat} (h : ¬ xorI i y ∈ ls) : laidL y ls i = laidL y ls (i + 1) := by
  simp [laidL, List.range_succ, List.filter_append, h]
theorem laidL_len (y : Int) (ls : List Int) (i : Nat) : (laidL y ls i).length ≤ i := by
  unfold laidL
  refine Nat.le_trans (List.length_filter_le _ _) ?_
  simp
theorem laidL_in {y : Int} {ls : List Int} {i : Nat} : ∀ x ∈ laidL y ls i, 0 ≤ x ∧ x < i := by
  intro x hx
  simp only [laidL, List.mem_filter, List.mem_map, List.mem_range] at hx
  obtain ⟨⟨k, hk, rfl⟩, -⟩ := hx
  exact ⟨Int.natCast_nonneg k, Int.ofNat_lt.2 hk⟩
theorem laidL_asc (y : Int) (ls : List Int) (i : Nat) : (laidL y ls i).Pairwise (· < ·) := by
  unfold laidL
  refine List.Pairwise.filter _ ?_
  rw [List.pairwise_map]
  exact (List.pairwise_lt_range (n := i)).imp fun h => Int.ofNat_lt.2 h
def inB (most x : Int) : Bool := decide (0 ≤ x ∧ x ≤ most)
theorem all_one {most : Int} {l : List Int} {i : Nat} (h : i < l.length) (h1 : (l.take i).all (inB most) = true) (h2 : inB most (l.getD i 0) = true) : (l.take (i + 1)).all (inB most) = true := by
  rw [take_one h, List.all_append, h1, List.all_cons, h2]; rfl
theorem not_all {most : Int} {l : List Int} {i : Nat} (h : i < l.length) (h2 : inB most (l.getD i 0) = false) : l.all (inB most) = false := by
  refine Bool.eq_false_iff.2 fun h1 => ?_
  rw [List.all_eq_true.1 h1 _ (mem_getD h)] at h2
  cases h2
def lieE (ls : List Int) (i : Nat) : Int := if i < ls.length then (if ls.getD i 0 < 0 ∨ 3 < ls.getD i 0 then 8 else if 0 < i ∧ ls.getD i 0 ≤ ls.getD (i - 1) 0 then 5 else lieE ls (i + 1)) else 0
  termination_by ls.length - i
def chk (u l : List Int) (w : Int) (ls : List Int) : Int :=
  if u.length < 3 then 7 else if 8 < u.length then 6 else if l.length < u.length then 7 else if u.length < l.length then 6
  else if u.all (inB 9) = false ∨ l.all (inB 9) = false ∨ w < 0 ∨ 2 < w then 1 else if ls.length = 0 then 7 else lieE ls 0
theorem lie_8 {ls : List Int} {i : Nat} (h : i < ls.length) (h1 : ls.getD i 0 < 0 ∨ 3 < ls.getD i 0) : lieE ls i = 8 := by rw [lieE, if_pos h, if_pos h1]
theorem lie_5 {ls : List Int} {i : Nat} (h : i < ls.length) (h1 : ¬ (ls.getD i 0 < 0 ∨ 3 < ls.getD i 0)) (h2 : 0 < i ∧ ls.getD i 0 ≤ ls.getD (i - 1) 0) : lieE ls i = 5 := by rw [lieE, if_pos h, if_neg h1, if_pos h2]
theorem lie_next {ls : List Int} {i : Nat} (h : i < ls.length) (h1 : ¬ (ls.getD i 0 < 0 ∨ 3 < ls.getD i 0)) (h2 : ¬ (0 < i ∧ ls.getD i 0 ≤ ls.getD (i - 1) 0)) : lieE ls i = lieE ls (i + 1) := by
  conv => lhs; rw [lieE]
  rw [if_pos h, if_neg h1, if_neg h2]
theorem lie_0 {ls : List Int} {i : Nat} (h : ¬ i < ls.length) : lieE ls i = 0 := by rw [lieE, if_neg h]
theorem chk_lie {u l : List Int} {w : Int} {ls : List Int} (h1 : ¬ u.length < 3) (h2 : ¬ 8 < u.length) (h3 : ¬ l.length < u.length) (h4 : ¬ u.length < l.length) (h5 : (!u.all (inB 9)) = false) (h6 : (!l.all (inB 9)) = false) (h7 : ¬ w < 0) (h8 : ¬ 2 < w) (h9 : ls.length ≠ 0) : chk u l w ls = lieE ls 0 := by
  simp only [Bool.not_eq_eq_eq_not, Bool.not_false] at h5 h6
  rw [chk, if_neg h1, if_neg h2, if_neg h3, if_neg h4, if_neg (by rw [h5, h6]; simp [h7, h8]), if_neg h9]
abbrev PD : Type := PieceT.den
abbrev pd (u l : List Int) (w : Int) (ls : List Int) : PD := (u, l, w, ls, ())
def chkP (p : PD) : Int := chk p.1 p.2.1 p.2.2.1 p.2.2.2.1
def chkL : List PD → Int
  | [] => 0
  | p :: l => if chkP p ≠ 0 then chkP p else chkL l
theorem chkL_append {l m : List PD} (h : chkL l = 0) : chkL (l ++ m) = chkL m := by
  induction l with
  | nil => rfl
  | cons p l ih =>
    simp only [chkL] at h ⊢
    split at h
    · rename_i h1; exact (h1 h).elim
    · rename_i h1; simp only [List.cons_append, chkL, if_neg h1]; exact ih h
theorem chkL_at {l : List PD} {i : Nat} {d : PD} (h : i < l.length) (h1 : chkL (l.take i) = 0) (h2 : chkP (l.getD i d) ≠ 0) : chkL l = chkP (l.getD i d) := by
  have e : l.getD i d = l[i] := by simp [List.getD_eq_getElem?_getD, h]
  rw [e] at h2 ⊢
  conv => lhs; rw [← List.take_append_drop i l, List.drop_eq_getElem_cons h]
  rw [chkL_append h1, chkL, if_pos h2]
theorem chkL_one {l : List PD} {i : Nat} {d : PD} (h : i < l.length) (h1 : chkL (l.take i) = 0) (h2 : chkP (l.getD i d) = 0) : chkL (l.take (i + 1)) = 0 := by
  have e : l.getD i d = l[i] := by simp [List.getD_eq_getElem?_getD, h]
  rw [e] at h2
  rw [← List.take_append_getElem h, chkL_append h1, chkL, if_neg (by simp [h2])]; rfl
def shortP (p : PD) : Prop := p.1.length ≤ 1000 ∧ p.2.1.length ≤ 1000 ∧ p.2.2.2.1.length ≤ 1000
theorem getD_all {P : PD → Prop} {l : List PD} {i : Nat} {d : PD} (h : i < l.length) (hl : ∀ p ∈ l, P p) : P (l.getD i d) := by
  have e : l.getD i d = l[i] := by simp [List.getD_eq_getElem?_getD, h]
  rw [e]; exact hl _ (List.getElem_mem _)
abbrev edV (u l : List Int) : TV := .agg [.sl I64 u .no, .sl I64 l .no]
def inH (l : List Int) : Prop := ∀ x ∈ l, 0 ≤ x ∧ x ≤ 9
theorem inH_at {l : List Int} {i : Nat} (h : inH l) (hi : i < l.length) : 0 ≤ l.getD i 0 ∧ l.getD i 0 ≤ 9 := h _ (mem_getD hi)
def colL (la ub : List Int) (s : Int) : Nat → List Int
  | 0 => []
  | i + 1 => if 0 ≤ (i : Int) + s ∧ (i : Int) + s < la.length then colL la ub s i ++ [ub.getD i 0 + la.getD ((i : Int) + s).toNat 0] else colL la ub s i
def stS (st : Int × Int × Int) (x : Int) : Int × Int × Int := (if x < (if st.2.2 = 0 then x else st.1) then x else (if st.2.2 = 0 then x else st.1), if x > (if st.2.2 = 0 then x else st.2.1) then x else (if st.2.2 = 0 then x else st.2.1), st.2.2 + 1)
def stF (l : List Int) : Int × Int × Int := l.foldl stS (0, 0, 0)
theorem stF_snoc {l : List Int} {lo hi m x : Int} (h : stF l = (lo, hi, m)) (h0 : m = 0) : stF (l ++ [x]) = (if x < x then x else x, if x > x then x else x, m + 1) := by
  subst h0
  rw [stF, List.foldl_append, ← stF, h]; rfl
theorem stF_snoc' {l : List Int} {lo hi m x : Int} (h : stF l = (lo, hi, m)) (h0 : m ≠ 0) : stF (l ++ [x]) = (if x < lo then x else lo, if x > hi then x else hi, m + 1) := by
  rw [stF, List.foldl_append, ← stF, h]
  simp only [List.foldl_cons, List.foldl_nil, stS, if_neg h0]
theorem colL_none {la ub : List Int} {s : Int} (h : s ≤ -(ub.length : Int) ∨ (la.length : Int) ≤ s) : colL la ub s ub.length = [] := by
  have key : ∀ i, i ≤ ub.length → colL la ub s i = [] := by
    intro i
    induction i with
    | zero => intro _; rfl
    | succ i ih => intro hi; rw [colL, if_neg (by omega)]; exact ih (by omega)
  exact key _ (Nat.le_refl _)
abbrev stA (la ub : List Int) (s : Int) : Int × Int × Int := stF (colL la ub s ub.length)
def fitsAt (la ub : List Int) (wear s : Int) : Bool := decide (3 ≤ (stF (colL la ub s ub.length)).2.2 ∧ (stF (colL la ub s ub.length)).2.1 - (stF (colL la ub s ub.length)).1 ≤ wear)
def shL (la ub : List Int) (wear : Int) (k : Nat) : List Int := ((List.range k).map fun (j : Nat) => (j : Int) - (ub.length : Int)).filter (fitsAt la ub wear)
theorem shL_yes {la ub : List Int} {wear : Int} {k : Nat} (h : fitsAt la ub wear ((k : Int) - (ub.length : Int)) = true) : shL la ub wear k ++ [(k : Int) - (ub.length : Int)] = shL la ub wear (k + 1) := by
  simp [shL, List.range_succ, List.filter_append, h]
theorem shL_no {la ub : List Int} {wear : Int} {k : Nat} (h : fitsAt la ub wear ((k : Int) - (ub.length : Int)) = false) : shL la ub wear k = shL la ub wear (k + 1) := by
  simp [shL, List.range_succ, List.filter_append, h]
theorem shL_len (la ub : List Int) (wear : Int) (k : Nat) : (shL la ub wear k).length ≤ k := by
  unfold shL
  refine Nat.le_trans (List.length_filter_le _ _) ?_
  simp
theorem stF_in {l : List Int} (h : ∀ x ∈ l, 0 ≤ x ∧ x ≤ 18) : 0 ≤ (stF l).1 ∧ (stF l).1 ≤ 18 ∧ 0 ≤ (stF l).2.1 ∧ (stF l).2.1 ≤ 18 ∧ 0 ≤ (stF l).2.2 := by
  have key : ∀ (l : List Int) (st : Int × Int × Int), (∀ x ∈ l, 0 ≤ x ∧ x ≤ 18) → (0 ≤ st.1 ∧ st.1 ≤ 18 ∧ 0 ≤ st.2.1 ∧ st.2.1 ≤ 18 ∧ 0 ≤ st.2.2) → 0 ≤ (l.foldl stS st).1 ∧ (l.foldl stS st).1 ≤ 18 ∧ 0 ≤ (l.foldl stS st).2.1 ∧ (l.foldl stS st).2.1 ≤ 18 ∧ 0 ≤ (l.foldl stS st).2.2 := by
    intro l
    induction l with
    | nil => intro st _ h; exact h
    | cons x l ih =>
      intro st hx h
      have h1 := hx x (by simp)
      refine ih _ (fun y hy => hx y (by simp [hy])) ?_
      obtain ⟨a, b, c⟩ := st
      simp only [stS] at h ⊢
      refine ⟨?_, ?_, ?_, ?_, ?_⟩ <;> (repeat' split) <;> omega
  exact key l _ h (by simp)
theorem colL_in {la ub : List Int} {s : Int} (h1 : inH la) (h2 : inH ub) : ∀ i, i ≤ ub.length → ∀ x ∈ colL la ub s i, 0 ≤ x ∧ x ≤ 18
  | 0, _, x, hx => by cases hx
  | i + 1, hi, x, hx => by
    rw [colL] at hx
    split at hx
    · rename_i hc
      rcases List.mem_append.1 hx with hx | hx
      · exact colL_in h1 h2 i (by omega) x hx
      · rw [List.mem_singleton] at hx
        have k1 := inH_at h2 (i := i) (by omega)
        have k2 := inH_at h1 (i := ((i : Int) + s).toNat) (by omega)
        omega
    · exact colL_in h1 h2 i (by omega) x hx
theorem stA_in {la ub : List Int} (s : Int) (h1 : inH la) (h2 : inH ub) : 0 ≤ (stA la ub s).1 ∧ (stA la ub s).1 ≤ 18 ∧ 0 ≤ (stA la ub s).2.1 ∧ (stA la ub s).2.1 ≤ 18 ∧ 0 ≤ (stA la ub s).2.2 := stF_in (colL_in h1 h2 _ (Nat.le_refl _))
theorem all_inB {m : Int} {l : List Int} : l.all (inB m) = true ↔ ∀ x ∈ l, 0 ≤ x ∧ x ≤ m := by simp [inB]
theorem lieE_zero {ls : List Int} : ∀ (n i : Nat), ls.length - i = n → (lieE ls i = 0 ↔ ∀ j, i ≤ j → j < ls.length → (0 ≤ ls.getD j 0 ∧ ls.getD j 0 ≤ 3) ∧ (0 < j → ls.getD (j - 1) 0 < ls.getD j 0)) := by
  intro n
  induction n with
  | zero => intro i h; rw [lie_0 (by omega)]; exact ⟨fun _ j h1 h2 => by omega, fun _ => rfl⟩
  | succ n ih =>
    intro i h
    by_cases h1 : ls.getD i 0 < 0 ∨ 3 < ls.getD i 0
    · rw [lie_8 (by omega) h1]
      exact ⟨fun e => by omega, fun e => by have := (e i (Nat.le_refl _) (by omega)).1; omega⟩
    · by_cases h2 : 0 < i ∧ ls.getD i 0 ≤ ls.getD (i - 1) 0
      · rw [lie_5 (by omega) h1 h2]
        exact ⟨fun e => by omega, fun e => by have := (e i (Nat.le_refl _) (by omega)).2 h2.1; omega⟩
      · rw [lie_next (by omega) h1 h2, ih (i + 1) (by omega)]
        refine ⟨fun e j hj hj' => ?_, fun e j hj hj' => e j (by omega) hj'⟩
        by_cases hij : j = i
        · subst hij; exact ⟨by omega, fun h3 => by omega⟩
        · exact e j (by omega) hj'
theorem asc_of {ls : List Int} (h : ∀ j, 0 < j → j < ls.length → ls.getD (j - 1) 0 < ls.getD j 0) : ls.Pairwise (· < ·) := by
  rw [List.pairwise_iff_getElem]
  have key : ∀ j i, i < j → (hj : j < ls.length) → ls.getD i 0 < ls.getD j 0 := by
    intro j
    induction j with
    | zero => intro i hi; omega
    | succ j ih =>
      intro i hi hj
      have h1 := h (j + 1) (by omega) hj
      simp only [Nat.add_sub_cancel] at h1
      by_cases e : i = j
      · subst e; exact h1
      · have := ih i (by omega) (by omega); omega
  intro i j hi hj hij
  have := key j i hij hj
  rwa [getD_at hi, getD_at hj] at this
theorem of_asc {ls : List Int} (h : ls.Pairwise (· < ·)) {j : Nat} (h0 : 0 < j) (hj : j < ls.length) : ls.getD (j - 1) 0 < ls.getD j 0 := by
  rw [List.pairwise_iff_getElem] at h
  rw [getD_at hj, getD_at (by omega)]
  exact h _ _ _ _ (by omega)
theorem chk_ok {u l : List Int} {w : Int} {ls : List Int} : chk u l w ls = 0 ↔ Ok u l w ls := by
  unfold chk
  constructor
  · intro h
    split at h; omega
    split at h; omega
    split at h; omega
    split at h; omega
    split at h; omega
    split at h; omega
    rename_i h1 h2 h3 h4 h5 h6
    simp only [not_or, Bool.not_eq_false] at h5
    have hz := (lieE_zero _ 0 rfl).1 h
    refine ⟨by omega, by omega, by omega, all_inB.1 h5.1, all_inB.1 h5.2.1, by omega, by omega, fun e => h6 (by rw [e]; rfl), fun x hx => ?_, asc_of fun j hj hj' => (hz j (Nat.zero_le _) hj').2 hj⟩
    obtain ⟨j, hj, rfl⟩ := List.getElem_of_mem hx
    have := (hz j (Nat.zero_le _) hj).1
    rwa [getD_at hj] at this
  · intro h
    have h1 := h.n3
    have h2 := h.n8
    have h3 := h.len
    have h4 := h.w0
    have h5 := h.w2
    have h6 : ls.length ≠ 0 := fun e => h.ne (List.eq_nil_of_length_eq_zero e)
    rw [if_neg (by omega), if_neg (by omega), if_neg (by omega), if_neg (by omega), if_neg (by rw [all_inB.2 h.hu, all_inB.2 h.hl]; simp; omega), if_neg h6]
    exact (lieE_zero _ 0 rfl).2 fun j _ hj => ⟨h.lie _ (mem_getD hj), fun h0 => of_asc h.asc h0 hj⟩
def Sh (u l ls : List Int) : Prop := u.length ≤ 1000 ∧ l.length ≤ 1000 ∧ ls.length ≤ 1000
theorem short2 {ua la lsa ub lb lsb : List Int} {wa wb : Int} (h1 : Sh ua la lsa) (h2 : Sh ub lb lsb) : ∀ p ∈ [pd ua la wa lsa, pd ub lb wb lsb], shortP p := by
  intro p hp
  simp only [List.mem_cons, List.not_mem_nil, or_false] at hp
  rcases hp with rfl | rfl
  · exact h1
  · exact h2
theorem chkL_two {ua la lsa ub lb lsb : List Int} {wa wb : Int} (h : chkL [pd ua la wa lsa, pd ub lb wb lsb] = 0) : Ok ua la wa lsa ∧ Ok ub lb wb lsb := by
  simp only [chkL] at h
  split at h
  · rename_i h1; exact (h1 h).elim
  · rename_i h1
    split at h
    · rename_i h2; exact (h2 h).elim
    · rename_i h2; exact ⟨chk_ok.1 (Decidable.not_not.1 h1), chk_ok.1 (Decidable.not_not.1 h2)⟩
theorem two_chkL {ua la lsa ub lb lsb : List Int} {wa wb : Int} (h1 : Ok ua la wa lsa) (h2 : Ok ub lb wb lsb) : chkL [pd ua la wa lsa, pd ub lb wb lsb] = 0 := by
  have e1 : chkP (pd ua la wa lsa) = 0 := chk_ok.2 h1
  have e2 : chkP (pd ub lb wb lsb) = 0 := chk_ok.2 h2
  simp [chkL, e1, e2]
theorem Ok.num {u l : List Int} {w : Int} {ls : List Int} (h : Ok u l w ls) : (3 ≤ u.length ∧ u.length ≤ 8 ∧ l.length = u.length ∧ 0 ≤ w ∧ w ≤ 2) ∧ inH u ∧ inH l := ⟨⟨h.n3, h.n8, h.len, h.w0, h.w2⟩, h.hu, h.hl⟩
def cutD (la ub : List Int) (wa wb s : Int) : RangeT.den := ((stF (colL la ub s ub.length)).2.1, (stF (colL la ub s ub.length)).1 + wa + wb, ())
theorem cut_snoc {la ub l : List Int} {wa wb : Int} {i : Nat} (h : i < l.length) : (l.take i).map (cutD la ub wa wb) ++ [((stF (colL la ub (l.getD i 0) ub.length)).2.1, (stF (colL la ub (l.getD i 0) ub.length)).1 + wa + wb, ())] = (l.take (i + 1)).map (cutD la ub wa wb) := by
  rw [take_one h, List.map_append]; rfl
theorem mem_shL {la ub : List Int} {wear s : Int} {k : Nat} (h : s ∈ shL la ub wear k) : fitsAt la ub wear s = true ∧ -(ub.length : Int) ≤ s ∧ s < (k : Int) - ub.length := by
  simp only [shL, List.mem_filter, List.mem_map, List.mem_range] at h
  obtain ⟨⟨j, hj, rfl⟩, h⟩ := h
  exact ⟨h, by omega, by omega⟩
theorem fitsAt_first {la ub : List Int} {wear : Int} : fitsAt la ub wear (-(ub.length : Int)) = false := by
  refine decide_eq_false fun h => ?_
  rw [colL_none (.inl (Int.le_refl _))] at h
  have h1 := h.1
  have : (stF []).2.2 = 0 := rfl
  rw [this] at h1
  exact absurd h1 (by omega)
theorem shL_le {la ub : List Int} {wear : Int} (k : Nat) : (shL la ub wear (k + 1)).length ≤ k := by
  induction k with
  | zero =>
    rw [← shL_no (k := 0) (by rw [show ((0 : Nat) : Int) - (ub.length : Int) = -(ub.length : Int) by omega]; exact fitsAt_first)]
    exact shL_len la ub wear 0
  | succ k ih =>
    cases h : fitsAt la ub wear (((k + 1 : Nat) : Int) - (ub.length : Int)) with
    | true => rw [← shL_yes h, List.length_append]; simpa using ih
    | false => rw [← shL_no h]; omega
theorem sh_ok {u l : List Int} {w : Int} {ls : List Int} (h : Ok u l w ls) : Sh u l ls := by
  refine ⟨by have := h.n8; omega, by have := h.n8; have := h.len; omega, ?_⟩
  have key : ∀ (ls : List Int) (m : Int), m ≤ 4 → (∀ x ∈ ls, m ≤ x ∧ x ≤ 3) → ls.Pairwise (· < ·) → (ls.length : Int) ≤ 4 - m := by
    intro ls
    induction ls with
    | nil => intro m hm _ _; simp; omega
    | cons x ls ih =>
      intro m hm h1 h2
      rw [List.pairwise_cons] at h2
      have h3 := h1 x (by simp)
      have := ih (x + 1) (by omega) (fun y hy => ⟨by have := h2.1 y hy; omega, (h1 y (by simp [hy])).2⟩) h2.2
      simp only [List.length_cons]
      omega
  have := key ls 0 (by omega) h.lie h.asc
  omega
theorem xor2 {y : Int} (h : 0 ≤ y ∧ y ≤ 3) : ∃ x : Nat, x < 4 ∧ xorI x 2 = y := by
  have : y = 0 ∨ y = 1 ∨ y = 2 ∨ y = 3 := by omega
  rcases this with rfl | rfl | rfl | rfl
  · exact ⟨2, by omega, by decide⟩
  · exact ⟨3, by omega, by decide⟩
  · exact ⟨0, by omega, by decide⟩
  · exact ⟨1, by omega, by decide⟩
theorem laid_ne {z : Int} {ls : List Int} (hz : ∀ y : Int, 0 ≤ y ∧ y ≤ 3 → ∃ x : Nat, x < 4 ∧ xorI x z = y) (hne : ls ≠ []) (hl : ∀ x ∈ ls, 0 ≤ x ∧ x ≤ 3) : laidL z ls 4 ≠ [] := by
  obtain ⟨y, r, rfl⟩ := List.exists_cons_of_ne_nil hne
  obtain ⟨x, hx, he⟩ := hz y (hl y (by simp))
  refine List.ne_nil_of_mem (a := (x : Int)) ?_
  simp only [laidL, List.mem_filter, List.mem_map, List.mem_range]
  exact ⟨⟨x, hx, rfl⟩, decide_eq_true (by rw [he]; simp)⟩
theorem ok_over {u l : List Int} {w : Int} {ls : List Int} (h : Ok u l w ls) : Ok u.reverse l.reverse w (laidL 2 ls 4) where
  n3 := by simpa using h.n3
  n8 := by simpa using h.n8
  len := by simpa using h.len
  hu := by simpa using h.hu
  hl := by simpa using h.hl
  w0 := h.w0
  w2 := h.w2
  ne := laid_ne (fun _ hy => xor2 hy) h.ne h.lie
  lie := fun x hx => by have := laidL_in x hx; omega
  asc := laidL_asc _ _ _
theorem stF_spec : ∀ {l : List Int}, l ≠ [] → ((stF l).1 ∈ l ∧ ∀ x ∈ l, (stF l).1 ≤ x) ∧ ((stF l).2.1 ∈ l ∧ ∀ x ∈ l, x ≤ (stF l).2.1) ∧ (stF l).2.2 = l.length := by
  have key : ∀ (l m : List Int) (lo hi : Int), m ≠ [] → (lo ∈ m ∧ ∀ x ∈ m, lo ≤ x) → (hi ∈ m ∧ ∀ x ∈ m, x ≤ hi) →
      ((l.foldl stS (lo, hi, (m.length : Int))).1 ∈ m ++ l ∧ ∀ x ∈ m ++ l, (l.foldl stS (lo, hi, (m.length : Int))).1 ≤ x) ∧ ((l.foldl stS (lo, hi, (m.length : Int))).2.1 ∈ m ++ l ∧ ∀ x ∈ m ++ l, x ≤ (l.foldl stS (lo, hi, (m.length : Int))).2.1) ∧ (l.foldl stS (lo, hi, (m.length : Int))).2.2 = (m ++ l).length := by
    intro l
    induction l with
    | nil => intro m lo hi _ h1 h2; simpa using ⟨h1, h2⟩
    | cons x l ih =>
      intro m lo hi hm h1 h2
      have hn : (m.length : Int) ≠ 0 := by have := List.length_pos_iff.2 hm; omega
      have e : stS (lo, hi, (m.length : Int)) x = (if x < lo then x else lo, if x > hi then x else hi, ((m ++ [x]).length : Int)) := by
        simp [stS, hm]
      rw [List.foldl_cons, e]
      have e2 : m ++ x :: l = (m ++ [x]) ++ l := by simp
      rw [e2]
      refine ih (m ++ [x]) _ _ (by simp) ⟨?_, ?_⟩ ⟨?_, ?_⟩
      · split
        · simp
        · simp [h1.1]
      · refine all_snoc (fun y hy => ?_) ?_
        · have := h1.2 y hy; split <;> omega
        · split <;> omega
      · split
        · simp
        · simp [h2.1]
      · refine all_snoc (fun y hy => ?_) ?_
        · have := h2.2 y hy; split <;> omega
        · split <;> omega
  intro l hl
  obtain ⟨x, l, rfl⟩ := List.exists_cons_of_ne_nil hl
  have e : stF (x :: l) = l.foldl stS (x, x, (([x] : List Int).length : Int)) := by
    rw [stF, List.foldl_cons]
    congr 1
    simp [stS]
  rw [e]
  exact key l [x] x x (by simp) (by simp) (by simp)
theorem stF_same {l m : List Int} (hn : l.length = m.length) (h : ∀ x, x ∈ l ↔ x ∈ m) : stF l = stF m := by
  by_cases hl : l = []
  · subst hl
    have : m = [] := List.eq_nil_of_length_eq_zero (by simpa using hn.symm)
    rw [this]
  · have hm : m ≠ [] := fun e => hl (List.eq_nil_of_length_eq_zero (by rw [hn, e]; rfl))
    obtain ⟨a1, a2, a3⟩ := stF_spec hl
    obtain ⟨b1, b2, b3⟩ := stF_spec hm
    have e1 : (stF l).1 = (stF m).1 := by
      have := a1.2 _ ((h _).2 b1.1); have := b1.2 _ ((h _).1 a1.1); omega
    have e2 : (stF l).2.1 = (stF m).2.1 := by
      have := a2.2 _ ((h _).2 b2.1); have := b2.2 _ ((h _).1 a2.1); omega
    have e3 : (stF l).2.2 = (stF m).2.2 := by rw [a3, b3, hn]
    exact Prod.ext e1 (Prod.ext e2 e3)
def colAt (la ub : List Int) (s : Int) (i : Nat) : Option Int := if 0 ≤ (i : Int) + s ∧ (i : Int) + s < la.length then some (ub.getD i 0 + la.getD ((i : Int) + s).toNat 0) else none
theorem colL_eq (la ub : List Int) (s : Int) : ∀ n, colL la ub s n = (List.range n).filterMap (colAt la ub s)
  | 0 => rfl
  | n + 1 => by
    rw [colL, List.range_succ, List.filterMap_append, ← colL_eq la ub s n]
    split
    · rename_i h; simp [colAt, h]
    · rename_i h; simp [colAt, h]
theorem getD_rev {l : List Int} {i : Nat} (h : i < l.length) : l.reverse.getD i 0 = l.getD (l.length - 1 - i) 0 := by
  rw [getD_at (by simpa using h), getD_at (by omega), List.getElem_reverse]
theorem range_rev (n : Nat) : (List.range n).reverse = (List.range n).map fun i => n - 1 - i := by
  apply List.ext_getElem
  · simp
  · intro i h1 h2
    simp only [List.length_reverse, List.length_range] at h1
    simp [List.getElem_reverse]
theorem fm_congr {α β : Type} {f g : α → Option β} : ∀ {l : List α}, (∀ x ∈ l, f x = g x) → l.filterMap f = l.filterMap g
  | [], _ => rfl
  | x :: l, h => by rw [List.filterMap_cons, List.filterMap_cons, h x (by simp), fm_congr (fun y hy => h y (by simp [hy]))]
theorem fil_map {A B : Nat → Int} {σ : Int → Int} {f g : Int → Bool} : ∀ {R : List Nat}, (∀ i ∈ R, σ (B i) = A i ∧ g (A i) = f (B i)) → (R.map A).filter g = ((R.map B).filter f).map σ
  | [], _ => rfl
  | i :: R, h => by
    have ih := fil_map (R := R) (A := A) (B := B) (σ := σ) (f := f) (g := g) fun j hj => h j (by simp [hj])
    obtain ⟨h1, h2⟩ := h i (by simp)
    simp only [List.map_cons, List.filter_cons, h2]
    split
    · rw [List.map_cons, h1, ih]
    · exact ih
theorem col_over {la ub : List Int} {s : Int} : colL la.reverse ub.reverse ((la.length : Int) - ub.length - s) ub.length = (colL la ub s ub.length).reverse := by
  rw [colL_eq, colL_eq, ← List.filterMap_reverse, range_rev, List.filterMap_map]
  refine fm_congr fun i hi => ?_
  rw [List.mem_range] at hi
  simp only [colAt, Function.comp, List.length_reverse]
  by_cases h : 0 ≤ (i : Int) + ((la.length : Int) - ub.length - s) ∧ (i : Int) + ((la.length : Int) - ub.length - s) < la.length
  · rw [if_pos h, if_pos (by omega), getD_rev hi, getD_rev (by omega)]
    congr 3
    omega
  · rw [if_neg h, if_neg (by omega)]
theorem st_over {la ub : List Int} {s : Int} : stF (colL la.reverse ub.reverse ((la.length : Int) - ub.length - s) ub.length) = stF (colL la ub s ub.length) := by
  rw [col_over]
  exact stF_same (by simp) (by simp)
theorem fits_over {la ub : List Int} {w s : Int} : fitsAt la.reverse ub.reverse w ((la.length : Int) - ub.length - s) = fitsAt la ub w s := by
  unfold fitsAt
  rw [List.length_reverse, st_over]
theorem shL_over {la ub : List Int} {w : Int} : shL la.reverse ub.reverse w (ub.reverse.length + la.reverse.length + 1) = ((shL la ub w (ub.length + la.length + 1)).map fun s => (la.length : Int) - ub.length - s).reverse := by
  unfold shL
  rw [List.length_reverse, List.length_reverse, ← List.map_reverse, ← List.filter_reverse, ← List.map_reverse, range_rev, List.map_map]
  refine fil_map fun i hi => ?_
  rw [List.mem_range] at hi
  simp only [Function.comp]
  have e : (i : Int) - (ub.length : Int) = (la.length : Int) - ub.length - (((ub.length + la.length + 1 - 1 - i : Nat) : Int) - ub.length) := by omega
  exact ⟨e.symm, by rw [e, fits_over]⟩
theorem indexI_mem {l : List Int} {x : Int} (h : x ∈ l) : ∃ j : Nat, indexI l x = j ∧ j < l.length ∧ l.getD j 0 = x := by
  refine ⟨l.idxOf x, by rw [indexI, if_pos h], List.idxOf_lt_length_of_mem h, ?_⟩
  rw [getD_at (List.idxOf_lt_length_of_mem h), List.getElem_idxOf]
theorem cut_at {la ub l : List Int} {wa wb : Int} {i : Nat} {d : RangeT.den} (h : i < l.length) : (l.map (cutD la ub wa wb)).getD i d = cutD la ub wa wb (l.getD i 0) := by
  rw [getD_at h]; simp [List.getD_eq_getElem?_getD, h]
theorem cut_over {la ub : List Int} {wa wb s : Int} : cutD la.reverse ub.reverse wa wb ((la.length : Int) - ub.length - s) = cutD la ub wa wb s := by
  unfold cutD
  rw [List.length_reverse, st_over]
theorem over_at {la ub : List Int} {w s : Int} {nu : Nat} (hn : la.length = nu) (hs : s ∈ shL la ub w (ub.length + la.length + 1)) :
    0 ≤ indexI (shL la.reverse ub.reverse w (ub.reverse.length + la.reverse.length + 1)) ((nu : Int) - ub.length - s) ∧ indexI (shL la.reverse ub.reverse w (ub.reverse.length + la.reverse.length + 1)) ((nu : Int) - ub.length - s) < ((shL la.reverse ub.reverse w (ub.reverse.length + la.reverse.length + 1)).length : Int) ∧
    (shL la.reverse ub.reverse w (ub.reverse.length + la.reverse.length + 1)).getD (indexI (shL la.reverse ub.reverse w (ub.reverse.length + la.reverse.length + 1)) ((nu : Int) - ub.length - s)).toNat 0 = (nu : Int) - ub.length - s := by
  subst hn
  have hm : (la.length : Int) - ub.length - s ∈ shL la.reverse ub.reverse w (ub.reverse.length + la.reverse.length + 1) := by
    rw [shL_over, List.mem_reverse, List.mem_map]
    exact ⟨s, hs, rfl⟩
  obtain ⟨j, h1, h2, h3⟩ := indexI_mem hm
  rw [h1]
  exact ⟨by omega, by omega, by rw [Int.toNat_natCast]; exact h3⟩
def layU (n : Int) (u l : List Int) : List Int := if n = 1 then l.reverse else if n = 2 then u.reverse else if n = 3 then l else u
def layL (n : Int) (u l : List Int) : List Int := if n = 1 then u.reverse else if n = 2 then l.reverse else if n = 3 then u else l
theorem ok_below {l a l1 : List Int} {w : Int} {ls : List Int} (h : Ok a l1 w ls) (hn : l1.length = l.length) (hl : inH l) : Ok (l.map (9 - ·)) l1 w ls where
  n3 := by have := h.n3; have := h.len; simp; omega
  n8 := by have := h.n8; have := h.len; simp; omega
  len := by simp; omega
  hu := fun x hx => by
    simp only [List.mem_map] at hx
    obtain ⟨y, hy, rfl⟩ := hx
    have := hl y hy
    omega
  hl := h.hl
  w0 := h.w0
  w2 := h.w2
  ne := h.ne
  lie := h.lie
  asc := h.asc
def fitR (la ub : List Int) (w s : Int) : Int × Int × Int := if (stA la ub s).2.2 < 3 then (0, 0, 7) else if (stA la ub s).2.1 - (stA la ub s).1 > w then (0, 0, 11) else ((stA la ub s).2.1, (stA la ub s).1 + w, 0)
theorem fitR_ok {la ub : List Int} {w s : Int} (h : fitsAt la ub w s = true) : fitR la ub w s = ((stA la ub s).2.1, (stA la ub s).1 + w, 0) := by
  have h := of_decide_eq_true h
  rw [fitR, if_neg (Int.not_lt.2 h.1), if_neg (Int.not_lt.2 h.2)]
end Go.Tv
end
section
namespace Go.Tv
open Go Go.Di Go.Proofs
set_option maxRecDepth 100000
def D53 : List TV → Dn
  | [.sl (.int .i64) l .no, .val (.int .i64 x)] => some ([l.length ≤ 1000], .res (bval (decide (x ∈ l))) [] [], [(3, .ex Nat fun i => .st { sl := [(5, ival i)], good := [i ≤ l.length, x ∉ l.take i], m := l.length - i })])
  | _ => none
theorem v53 : VI T0 Try.f53 [some .bool] D53 := by
  intro a p s j h hp
  unfold D53 at h
  split at h <;> cases h
  rename_i l x
  have h1 := hp.1
  refine vcp (A := (∃ (a : Nat), (0 : Int) = (↑a : Int) ∧ a ≤ l.length ∧ ¬x ∈ List.take a l ∧ l.length - a < (1000000 : Nat)) ∧ ∀ (a : Nat), a ≤ l.length → ¬x ∈ List.take a l → vcIf (decide ((↑a : Int) < (↑l.length : Int))) (((0 : Int) ≤ (↑a : Int) ∧ (↑a : Int) < (↑l.length : Int)) ∧ vcIf (l.getD a (0 : Int) == x) (true = decide (x ∈ l) ∧ True) (rng ((↑a : Int) + (1 : Int)) ∧ ∃ (a_3 : Nat), l = l ∧ x = x ∧ (↑a : Int) + (1 : Int) = (↑a_3 : Int) ∧ a_3 ≤ l.length ∧ ¬x ∈ List.take a_3 l ∧ l.length - a_3 < l.length - a)) (false = decide (x ∈ l) ∧ True)) (by kernel_rfl) ?_
  simp only [vc_dec, vc_beq, vc_bne, vc_not, nil_e, rng, and_true, true_and, eq_self]
  refine ⟨⟨0, by omega, by omega, by simp, by omega⟩, fun i h2 h3 => ⟨fun h4 => ⟨by omega, fun h5 => ?_, fun h5 => ⟨by omega, i + 1, by omega, by omega, ?_, by omega⟩⟩, fun h4 => ?_⟩⟩
  · rw [decide_eq_true]; rw [← h5]; exact mem_getD (by omega)
  · rw [take_one (by omega)]; simp only [List.mem_append, List.mem_singleton, not_or]; exact ⟨h3, fun e => h5 e.symm⟩
  · rw [show i = l.length by omega, List.take_length] at h3; rw [decide_eq_false h3]
def D52 : List TV → Dn
  | [.sl (.int .i64) l .no] => some ([l.length ≤ 1000], .res (.sl I64 l.reverse .no) [] [], [(4, .ex Nat fun i => .st { sl := [(3, .sl I64 ((l.drop i).reverse) (.lab 0)), (4, ival ((i : Nat) - 1 : Int))], own := [(3, 1)], good := [i ≤ l.length], m := i })])
  | _ => none
theorem v52 : VI T0 Try.f52 [some IntsT] D52 := by
  intro a p s j h hp
  unfold D52 at h
  split at h <;> cases h
  rename_i l
  have h1 := hp.1
  refine vcp (A := rng ((↑l.length : Int) - (1 : Int)) ∧ (∃ (a : Nat), [] = (List.drop a l).reverse ∧ (↑l.length : Int) - (1 : Int) = (↑a : Int) - (1 : Int) ∧ a ≤ l.length ∧ a < (1000000 : Nat)) ∧ ∀ (a : Nat), a ≤ l.length → vcIf (decide ((↑a : Int) - (1 : Int) ≥ (0 : Int))) (((0 : Int) ≤ (↑a : Int) - (1 : Int) ∧ (↑a : Int) - (1 : Int) < (↑l.length : Int)) ∧ (List.drop a l).reverse.length + (1 : Nat) ≤ (1000000000 : Nat) ∧ rng ((↑a : Int) - (1 : Int) - (1 : Int)) ∧ ∃ (a_2 : Nat), l = l ∧ nilE I64.den ∧ (List.drop a l).reverse ++ [l.getD ((↑a : Int) - (1 : Int)).toNat (0 : Int)] = (List.drop a_2 l).reverse ∧ (↑a : Int) - (1 : Int) - (1 : Int) = (↑a_2 : Int) - (1 : Int) ∧ a_2 ≤ l.length ∧ a_2 < a) ((List.drop a l).reverse = l.reverse ∧ True)) (by kernel_rfl) ?_
  simp only [vc_dec, vc_beq, vc_bne, vc_not, nil_e, rng, and_true, true_and, eq_self]
  refine ⟨by omega, ⟨l.length, by simp, by omega, by omega, by omega⟩, fun i h2 => ⟨fun h3 => ⟨by omega, by simp; omega, by omega, i - 1, ?_, by omega, by omega, by omega⟩, fun h3 => ?_⟩⟩
  · obtain ⟨j, rfl⟩ : ∃ j, i = j + 1 := ⟨i - 1, by omega⟩
    rw [show ((j + 1 : Nat) : Int) - 1 = (j : Int) by omega, Int.toNat_natCast, drop_one (by omega)]; rfl
  · rw [show i = 0 by omega, List.drop_zero]
def D29 : List TV → Dn
  | [.sl (.int .i64) l .no, .val (.int .i64 x)] => some ([l.length ≤ 1000], .res (ival (indexI l x)) [] [], [(3, .ex Nat fun i => .st { sl := [(5, ival i)], good := [i ≤ l.length, x ∉ l.take i], m := l.length - i })])
  | _ => none
theorem v29 : VI T0 Try.f29 [some I64] D29 := by
  intro a p s j h hp
  unfold D29 at h
  split at h <;> cases h
  rename_i l x
  have h1 := hp.1
  refine vcp (A := (∃ (a : Nat), (0 : Int) = (↑a : Int) ∧ a ≤ l.length ∧ ¬x ∈ List.take a l ∧ l.length - a < (1000000 : Nat)) ∧ ∀ (a : Nat), a ≤ l.length → ¬x ∈ List.take a l → vcIf (decide ((↑a : Int) < (↑l.length : Int))) (((0 : Int) ≤ (↑a : Int) ∧ (↑a : Int) < (↑l.length : Int)) ∧ vcIf (l.getD a (0 : Int) != x) (rng ((↑a : Int) + (1 : Int)) ∧ ∃ (a_3 : Nat), l = l ∧ x = x ∧ (0 : Int) = (0 : Int) ∧ (↑a : Int) + (1 : Int) = (↑a_3 : Int) ∧ a_3 ≤ l.length ∧ ¬x ∈ List.take a_3 l ∧ l.length - a_3 < l.length - a) (vcIf ((↑a : Int) == (↑l.length : Int)) ((-1 : Int) = indexI l x ∧ True) ((↑a : Int) = indexI l x ∧ True))) (vcIf ((↑a : Int) == (↑l.length : Int)) ((-1 : Int) = indexI l x ∧ True) ((↑a : Int) = indexI l x ∧ True))) (by kernel_rfl) ?_
  simp only [vc_dec, vc_beq, vc_bne, vc_not, nil_e, rng, and_true, true_and, eq_self]
  refine ⟨⟨0, by omega, by omega, by simp, by omega⟩, fun i h2 h3 => ⟨fun h4 => ⟨by omega, fun h5 => ⟨fun h6 => by omega, fun _ => ?_⟩, fun h5 => ⟨by omega, i + 1, by omega, by omega, ?_, by omega⟩⟩, fun h4 => ⟨fun h6 => ?_, fun h6 => by omega⟩⟩⟩
  · rw [indexI_at (by omega) h3 h5]
  · rw [take_one (by omega)]; simp only [List.mem_append, List.mem_singleton, not_or]; exact ⟨h3, fun e => h5 e.symm⟩
  · rw [show i = l.length by omega, List.take_length] at h3; rw [indexI, if_neg h3]
def D97 : List TV → List TV → Dn
  | [.val (.int .i64 x), .ptr 0 0], [.val (.int .i64 most)] => some ([], .res (bval (!inB most x)) [ival most] [], [])
  | _, _ => none
theorem v97 : VC T0 Try.f97 [some .bool] [some I64] D97 := by
  intro a cs p s j h hp
  unfold D97 at h
  split at h <;> cases h
  rename_i x most
  refine vcp (A := vcIf (decide (x < (0 : Int))) (true = !inB most x ∧ most = most ∧ True) (decide (x > most) = !inB most x ∧ most = most ∧ True)) (by kernel_rfl) ?_
  simp only [vc_dec, vc_beq, vc_bne, vc_not, nil_e, rng, and_true, true_and, eq_self]
  refine ⟨fun h => ?_, fun h => ?_⟩
  · rw [inB, decide_eq_false (by omega)]; rfl
  · rw [inB, ← decide_not, decide_eq_decide]; omega
def T1 : Tbl := (((T0.addI 53 fun a => dS (D53 a)).addI 52 fun a => dS (D52 a)).addI 29 fun a => dS (D29 a)).addC 97 fun a c => dS (D97 a c)
def D109 : List TV → List TV → Dn
  | [.sl (.int .i64) l .no, .fn 97 [] [.ptr 0 0]], [.val (.int .i64 most)] => some ([l.length ≤ 1000], .ex Int fun k => .res (ival k) [ival most] [if l.all (inB most) then k = -1 else 0 ≤ k], [(3, .ex Nat fun i => .st { sl := [(8, ival i)], good := [i ≤ l.length, (l.take i).all (inB most) = true], m := l.length - i })])
  | _, _ => none
theorem v109 : VC T1 Try.f109 [some I64] [some I64] D109 := by
  intro a cs p s j h hp
  unfold D109 at h
  split at h <;> cases h
  rename_i l most
  have h1 := hp.1
  refine vcp (A := (∃ (a : Nat), (0 : Int) = (↑a : Int) ∧ a ≤ l.length ∧ (List.take a l).all (inB most) = true ∧ l.length - a < (1000000 : Nat)) ∧ ∀ (a : Nat), a ≤ l.length → (List.take a l).all (inB most) = true → vcIf (decide ((↑a : Int) < (↑l.length : Int))) (((0 : Int) ≤ (↑a : Int) ∧ (↑a : Int) < (↑l.length : Int)) ∧ vcIf (!inB most (l.getD a (0 : Int))) (∃ (a_3 : Int), (↑a : Int) = a_3 ∧ most = most ∧ (if l.all (inB most) = true then a_3 = (-1 : Int) else (0 : Int) ≤ a_3) ∧ True) (rng ((↑a : Int) + (1 : Int)) ∧ ∃ (a_3 : Nat), l = l ∧ (↑l.length : Int) = (↑l.length : Int) ∧ (↑a : Int) + (1 : Int) = (↑a_3 : Int) ∧ most = most ∧ a_3 ≤ l.length ∧ (List.take a_3 l).all (inB most) = true ∧ l.length - a_3 < l.length - a)) (∃ (a : Int), (-1 : Int) = a ∧ most = most ∧ (if l.all (inB most) = true then a = (-1 : Int) else (0 : Int) ≤ a) ∧ True)) (by kernel_rfl) ?_
  simp only [vc_dec, vc_beq, vc_bne, vc_not, nil_e, rng, and_true, true_and, eq_self]
  refine ⟨⟨0, by omega, by omega, by simp, by omega⟩, fun i h2 h3 => ⟨fun h4 => ⟨by omega, ?_⟩, fun h4 => ?_⟩⟩
  · rw [vc_iff]
    refine ⟨fun h5 => ⟨by omega, i + 1, by omega, by omega, all_one (by omega) h3 h5, by omega⟩, fun h5 => ⟨_, rfl, ?_⟩⟩
    rw [not_all (i := i) (by omega) h5]; simp
  · rw [show i = l.length by omega, List.take_length] at h3; exact ⟨_, rfl, by rw [h3]; simp⟩
def D16 : List TV → Dn
  | [.agg [.sl (.int .i64) u .no, .sl (.int .i64) l .no, .val (.int .i64 w), .sl (.int .i64) ls .no], .val (.int .i64 n)] => some ([u.length ≤ 1000, l.length ≤ 1000, ls.length ≤ 1000, 0 ≤ n, n ≤ 3], .res (pcV (layU n u l) (layL n u l) w (laidL n ls 4)) [] [],
    [(2, .ex (List Int) fun u1 => .ex (List Int) fun l1 => .st { sl := [(5, .ptr 13 0)], pl := [(13, [.sl I64 u1 .no, .sl I64 l1 .no, ival w, .nils])], good := [u1 = if n = 1 ∨ n = 3 then l.reverse else u, l1 = if n = 1 ∨ n = 3 then u.reverse else l] }),
     (4, .st { sl := [(5, .ptr 13 0)], pl := [(13, [.sl I64 (layU n u l) .no, .sl I64 (layL n u l) .no, ival w, .nils])] }),
     (8, .ex Nat fun i => .st { sl := [(6, ival i)], pl := [(13, [.sl I64 (layU n u l) .no, .sl I64 (layL n u l) .no, ival w, .sl I64 (laidL n ls i) (.lab 14)])], own := [(3, 1)], good := [i ≤ 4], m := 4 - i })])
  | _ => none
theorem v16 : VI T1 Try.f16 [some PieceT] D16 := by
  intro a p s j h hp
  unfold D16 at h
  split at h <;> cases h
  rename_i u l w ls n
  obtain ⟨h1, h2, h3, h4, h5, -⟩ := hp
  refine vcp (A := (0 : Nat) + u.length ≤ (1000000000 : Nat) ∧ (0 : Nat) + l.length ≤ (1000000000 : Nat) ∧ vcIf (n == (1 : Int)) (l.length ≤ (1000 : Nat) ∧ u.length ≤ (1000 : Nat) ∧ ∃ (a : List Int), ∃ (a_1 : List Int), n = n ∧ u = u ∧ l = l ∧ w = w ∧ ls = ls ∧ (0 : Int) = (0 : Int) ∧ l.reverse = a ∧ u.reverse = a_1 ∧ w = w ∧ (a = if n = (1 : Int) ∨ n = (3 : Int) then l.reverse else u) ∧ (a_1 = if n = (1 : Int) ∨ n = (3 : Int) then u.reverse else l) ∧ True) (vcIf (n == (3 : Int)) (l.length ≤ (1000 : Nat) ∧ u.length ≤ (1000 : Nat) ∧ ∃ (a : List Int), ∃ (a_1 : List Int), n = n ∧ u = u ∧ l = l ∧ w = w ∧ ls = ls ∧ (0 : Int) = (0 : Int) ∧ l.reverse = a ∧ u.reverse = a_1 ∧ w = w ∧ (a = if n = (1 : Int) ∨ n = (3 : Int) then l.reverse else u) ∧ (a_1 = if n = (1 : Int) ∨ n = (3 : Int) then u.reverse else l) ∧ True) (∃ (a : List Int), ∃ (a_1 : List Int), n = n ∧ u = u ∧ l = l ∧ w = w ∧ ls = ls ∧ (0 : Int) = (0 : Int) ∧ u = a ∧ l = a_1 ∧ w = w ∧ (a = if n = (1 : Int) ∨ n = (3 : Int) then l.reverse else u) ∧ (a_1 = if n = (1 : Int) ∨ n = (3 : Int) then u.reverse else l) ∧ True)) ∧ ∀ (a a_1 : List Int), (a = if n = (1 : Int) ∨ n = (3 : Int) then l.reverse else u) → (a_1 = if n = (1 : Int) ∨ n = (3 : Int) then u.reverse else l) → vcIf (n == (2 : Int)) (a.length ≤ (1000 : Nat) ∧ a_1.length ≤ (1000 : Nat) ∧ n = n ∧ u = u ∧ l = l ∧ w = w ∧ ls = ls ∧ (0 : Int) = (0 : Int) ∧ a.reverse = layU n u l ∧ a_1.reverse = layL n u l ∧ w = w ∧ True) (vcIf (n == (3 : Int)) (a.length ≤ (1000 : Nat) ∧ a_1.length ≤ (1000 : Nat) ∧ n = n ∧ u = u ∧ l = l ∧ w = w ∧ ls = ls ∧ (0 : Int) = (0 : Int) ∧ a.reverse = layU n u l ∧ a_1.reverse = layL n u l ∧ w = w ∧ True) (n = n ∧ u = u ∧ l = l ∧ w = w ∧ ls = ls ∧ (0 : Int) = (0 : Int) ∧ a = layU n u l ∧ a_1 = layL n u l ∧ w = w ∧ True)) ∧ (∃ (a : Nat), (0 : Int) = (↑a : Int) ∧ layU n u l = layU n u l ∧ layL n u l = layL n u l ∧ w = w ∧ [] = laidL n ls a ∧ a ≤ (4 : Nat) ∧ (4 : Nat) - a < (1000000 : Nat)) ∧ ∀ (a : Nat), a ≤ (4 : Nat) → vcIf (decide ((↑a : Int) ≤ (3 : Int))) (ls.length ≤ (1000 : Nat) ∧ vcIf (decide (IntKind.i64.wrap (↑(BitVec.ofInt IntKind.i64.bits (↑a : Int) ^^^ BitVec.ofInt IntKind.i64.bits n).toNat : Int) ∈ ls)) ((laidL n ls a).length + (1 : Nat) ≤ (1000000000 : Nat) ∧ rng ((↑a : Int) + (1 : Int)) ∧ ∃ (a_5 : Nat), n = n ∧ (↑a : Int) + (1 : Int) = (↑a_5 : Int) ∧ u = u ∧ l = l ∧ w = w ∧ ls = ls ∧ (0 : Int) = (0 : Int) ∧ layU n u l = layU n u l ∧ layL n u l = layL n u l ∧ w = w ∧ laidL n ls a ++ [(↑a : Int)] = laidL n ls a_5 ∧ a_5 ≤ (4 : Nat) ∧ (4 : Nat) - a_5 < (4 : Nat) - a) (rng ((↑a : Int) + (1 : Int)) ∧ ∃ (a_5 : Nat), n = n ∧ (↑a : Int) + (1 : Int) = (↑a_5 : Int) ∧ u = u ∧ l = l ∧ w = w ∧ ls = ls ∧ (0 : Int) = (0 : Int) ∧ layU n u l = layU n u l ∧ layL n u l = layL n u l ∧ w = w ∧ laidL n ls a = laidL n ls a_5 ∧ a_5 ≤ (4 : Nat) ∧ (4 : Nat) - a_5 < (4 : Nat) - a)) (layU n u l = layU n u l ∧ layL n u l = layL n u l ∧ w = w ∧ laidL n ls a = laidL n ls (4 : Nat) ∧ True)) (by kernel_rfl) ?_
  simp only [vc_dec, vc_beq, vc_bne, rng, and_true, true_and, eq_self]
  refine ⟨by omega, by omega, ⟨fun e => ⟨h2, h1, _, _, rfl, rfl, by simp [e], by simp [e]⟩, fun e => ⟨fun e1 => ⟨h2, h1, _, _, rfl, rfl, by simp [e1], by simp [e1]⟩, fun e1 => ⟨_, _, rfl, rfl, by simp [e, e1], by simp [e, e1]⟩⟩⟩, ?_⟩
  rintro _ _ rfl rfl
  refine ⟨⟨fun e => ⟨by split <;> simp_all, by split <;> simp_all, by simp [e, layU], by simp [e, layL]⟩, fun e => ⟨fun e1 => ⟨by split <;> simp_all, by split <;> simp_all, by simp [e1, layU], by simp [e1, layL]⟩, fun e1 => ⟨by simp [e, e1, layU], by simp [e, e1, layL]⟩⟩⟩, ⟨0, rfl, rfl, by omega, by omega⟩, fun i hi => ⟨fun h => ⟨h3, ?_⟩, fun h => by rw [show i = 4 by omega]⟩⟩
  have hx := laidL_len n ls i
  change (xorI i n ∈ ls → _) ∧ (¬ xorI i n ∈ ls → _)
  exact ⟨fun h => ⟨by omega, by omega, i + 1, by omega, laidL_yes h, by omega, by omega⟩, fun h => ⟨by omega, i + 1, by omega, laidL_no h, by omega, by omega⟩⟩
section
variable {tab : IsoF} (tk : TabK tab)
include tk
theorem tok1 : TOK tab 1 T1 := mkC (tok_0 tk) Try.func97 rfl v97 (mkI tk (tok_0 tk) (by decide) Try.func29 rfl v29 (mkI tk (tok_0 tk) (by decide) Try.func52 rfl v52 (mkI tk (tok_0 tk) (by decide) Try.func53 rfl v53 (tok_up (tok_0 tk)))))
end
end Go.Tv
end
