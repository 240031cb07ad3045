import Derived.Test.YtoccmmopffbbfaaPk07
import Derived.Test.YtoccmmopffbbfaaPk08
section
namespace Go.Tv
open Go Go.Di Go.Proofs
theorem mem_col {la ub : List Int} {s x : Int} : ∀ {n : Nat}, x ∈ colL la ub s n ↔ ∃ i : Nat, i < n ∧ 0 ≤ (i : Int) + s ∧ (i : Int) + s < la.length ∧ x = ub.getD i 0 + la.getD ((i : Int) + s).toNat 0
  | 0 => by simp [colL]
  | n + 1 => by
    have ih := mem_col (la := la) (ub := ub) (s := s) (x := x) (n := n)
    rw [colL]
    constructor
    · intro h
      split at h
      · rename_i hc
        rcases List.mem_append.1 h with h | h
        · obtain ⟨i, h1, h2⟩ := ih.1 h
          exact ⟨i, by omega, h2⟩
        · exact ⟨n, by omega, hc.1, hc.2, by simpa using h⟩
      · obtain ⟨i, h1, h2⟩ := ih.1 h
        exact ⟨i, by omega, h2⟩
    · rintro ⟨i, h1, h2, h3, h4⟩
      by_cases hi : i = n
      · subst hi
        rw [if_pos ⟨h2, h3⟩, h4]
        simp
      · have := ih.2 ⟨i, by omega, h2, h3, h4⟩
        split
        · exact List.mem_append_left _ this
        · exact this
theorem len_col {la ub : List Int} {s : Int} : ∀ {n : Nat}, ((colL la ub s n).length : Int) = max 0 (min (n : Int) ((la.length : Int) - s) - max 0 (-s))
  | 0 => by simp only [colL, List.length_nil]; omega
  | n + 1 => by
    have ih := len_col (la := la) (ub := ub) (s := s) (n := n)
    rw [colL]
    split
    · rw [List.length_append, List.length_singleton]; omega
    · omega
theorem st_side {la ub : List Int} {s : Int} : stF (colL ub.reverse la.reverse ((ub.length : Int) - la.length + s) la.length) = stF (colL la ub s ub.length) := by
  refine stF_same ?_ fun x => ?_
  · have h1 := len_col (la := ub.reverse) (ub := la.reverse) (s := (ub.length : Int) - la.length + s) (n := la.length)
    have h2 := len_col (la := la) (ub := ub) (s := s) (n := ub.length)
    simp only [List.length_reverse] at h1
    omega
  · rw [mem_col, mem_col]
    simp only [List.length_reverse]
    constructor
    · rintro ⟨i, h1, h2, h3, rfl⟩
      refine ⟨((la.length : Int) - 1 - i - s).toNat, by omega, by omega, by omega, ?_⟩
      rw [getD_rev h1, getD_rev (by omega), Int.add_comm]
      congr 2 <;> omega
    · rintro ⟨i, h1, h2, h3, rfl⟩
      refine ⟨((la.length : Int) - 1 - ((i : Int) + s)).toNat, by omega, by omega, by omega, ?_⟩
      rw [getD_rev (by omega), getD_rev (by omega), Int.add_comm]
      congr 2 <;> omega
theorem fits_side {la ub : List Int} {w s : Int} : fitsAt ub.reverse la.reverse w ((ub.length : Int) - la.length + s) = fitsAt la ub w s := by
  unfold fitsAt
  rw [List.length_reverse, st_side]
theorem shL_side {la ub : List Int} {w : Int} : shL ub.reverse la.reverse w (la.reverse.length + ub.reverse.length + 1) = (shL la ub w (ub.length + la.length + 1)).map fun s => (ub.length : Int) - la.length + s := by
  unfold shL
  rw [List.length_reverse, List.length_reverse, Nat.add_comm la.length ub.length]
  refine fil_map fun i hi => ?_
  have e : (i : Int) - (la.length : Int) = (ub.length : Int) - la.length + ((i : Int) - ub.length) := by omega
  exact ⟨e.symm, by rw [e, fits_side]⟩
theorem cut_side {la ub : List Int} {wa wb s : Int} : cutD ub.reverse la.reverse wb wa ((ub.length : Int) - la.length + s) = cutD la ub wa wb s := by
  unfold cutD
  rw [List.length_reverse, st_side, Int.add_assoc, Int.add_comm wb wa, ← Int.add_assoc]
theorem xor1 {y : Int} (h : 0 ≤ y ∧ y ≤ 3) : ∃ x : Nat, x < 4 ∧ xorI x 1 = y := by
  have : y = 0 ∨ y = 1 ∨ y = 2 ∨ y = 3 := by omega
  rcases this with rfl | rfl | rfl | rfl
  · exact ⟨1, by omega, by decide⟩
  · exact ⟨0, by omega, by decide⟩
  · exact ⟨3, by omega, by decide⟩
  · exact ⟨2, by omega, by decide⟩
theorem ok_turned {u l : List Int} {w : Int} {ls : List Int} (h : Ok u l w ls) : Ok l.reverse u.reverse w (laidL 1 ls 4) where
  n3 := by have := h.n3; have := h.len; simp; omega
  n8 := by have := h.n8; have := h.len; simp; omega
  len := by have := h.len; simp; omega
  hu := by simpa using h.hl
  hl := by simpa using h.hu
  w0 := h.w0
  w2 := h.w2
  ne := laid_ne (fun _ hy => xor1 hy) h.ne h.lie
  lie := fun x hx => by have := laidL_in x hx; omega
  asc := laidL_asc _ _ _
theorem idx_map {l : List Int} {g : Int → Int} {i : Nat} (hi : i < l.length) : 0 ≤ indexI (l.map g) (g (l.getD i 0)) ∧ indexI (l.map g) (g (l.getD i 0)) < (l.map g).length ∧ (l.map g).getD (indexI (l.map g) (g (l.getD i 0))).toNat 0 = g (l.getD i 0) := by
  obtain ⟨j, h1, h2, h3⟩ := indexI_mem (l := l.map g) (x := g (l.getD i 0)) (List.mem_map.2 ⟨_, mem_getD hi, rfl⟩)
  rw [h1]
  exact ⟨by omega, by omega, by rw [Int.toNat_natCast]; exact h3⟩
theorem layU1 {u l : List Int} : layU 1 u l = l.reverse := rfl
theorem layL1 {u l : List Int} : layL 1 u l = u.reverse := rfl
theorem layU2 {u l : List Int} : layU 2 u l = u.reverse := rfl
theorem layL2 {u l : List Int} : layL 2 u l = l.reverse := rfl
theorem x_len {u l u2 l2 ls ls2 x : List Int} {w w2 : Int} (h1 : Ok u l w ls) (h2 : Ok u2 l2 w2 ls2) (hx : x = shL l u2 (w + w2) (u2.length + l.length + 1)) : x.length ≤ 16 := by
  have := h1.num; have := h2.num; rw [hx]; exact Nat.le_trans (shL_le _) (by omega)
theorem x_in {la ub x : List Int} {w : Int} (hx : x = shL la ub w (ub.length + la.length + 1)) {i : Nat} (hi : i < x.length) : -(ub.length : Int) ≤ x.getD i 0 ∧ x.getD i 0 < la.length + 1 := by
  have := mem_shL (la := la) (ub := ub) (wear := w) (s := x.getD i 0) (k := ub.length + la.length + 1) (by rw [← hx]; exact mem_getD hi)
  omega
end Go.Tv
end
section
namespace Go.Tv
open Go Go.Di Go.Proofs
set_option maxRecDepth 100000
def D5 : List TV → Dn
  | [.sl (.int .i64) _ .no] => some ([], .res (bval true) [] [],
    [(4, .ex (List Int) fun u => .ex (List Int) fun l => .ex Int fun w => .ex (List Int) fun ls => .ex (List Int) fun r => .ex Int fun z => .st { sl := [], pl := [(0, dice r z), (2, [.sl I64 u .no, .sl I64 l .no, ival w, .sl I64 ls .no])], good := [Ok u l w ls] }),
     (13, .dep fun te _ => withSl te 6 fun x => .ex Nat fun i => .st { sl := [(12, ival i)], good := [i ≤ x.length], m := x.length - i })])
  | _ => none
theorem v5 : VI T8 Try.f5 [some .bool] D5 := by
  intro a p s j h hp
  unfold D5 at h
  split at h <;> cases h
  rename_i nums
  refine vcp (A := (3 : Int) ≤ (6 : Int) ∧ (6 : Int) ≤ (8 : Int) ∧ ∀ (a a_1 : List Int) (a_2 : Int) (a_3 a_4 : List Int) (a_5 : Int), Ok a a_1 a_2 a_3 → (↑a.length : Int) ≤ (6 : Int) → Ok a a_1 a_2 a_3 ∧ ∀ (a_8 a_9 : List Int) (a_10 : Int) (a_11 a_12 : List Int) (a_13 : Int), Ok a_8 a_9 a_10 a_11 → a_8 = List.map (fun (x : I64.den) => (9 : I64.den) - x) a_1 → ((2 : Int) ≤ (1000 : Int) ∧ (0 : Int) ≤ (2 : Int) ∧ ∀ (a_16 : Bool) (a_17 : Int) (a_18 : List Int) (a_19 : Int), vcIf a_16 ((3 : Int) ≤ (6 : Int) ∧ (6 : Int) ≤ (8 : Int) ∧ ∀ (a_20 a_21 : List Int) (a_22 : Int) (a_23 a_24 : List Int) (a_25 : Int), Ok a_20 a_21 a_22 a_23 → (↑a_20.length : Int) ≤ (6 : Int) → ∃ (a_28 : List Int), ∃ (a_29 : List Int), ∃ (a_30 : Int), ∃ (a_31 : List Int), ∃ (a_32 : List Int), ∃ (a_33 : Int), false = false ∧ a_24 = a_32 ∧ a_25 = a_33 ∧ a = a ∧ a_1 = a_1 ∧ a_2 = a_2 ∧ a_3 = a_3 ∧ a_20 = a_28 ∧ a_21 = a_29 ∧ a_22 = a_30 ∧ a_23 = a_31 ∧ Ok a_28 a_29 a_30 a_31 ∧ True) (∃ (a_20 : List Int), ∃ (a_21 : List Int), ∃ (a_22 : Int), ∃ (a_23 : List Int), ∃ (a_24 : List Int), ∃ (a_25 : Int), false = false ∧ a_18 = a_24 ∧ a_19 = a_25 ∧ a = a ∧ a_1 = a_1 ∧ a_2 = a_2 ∧ a_3 = a_3 ∧ a_8 = a_20 ∧ a_9 = a_21 ∧ a_10 = a_22 ∧ a_11 = a_23 ∧ Ok a_20 a_21 a_22 a_23 ∧ True)) ∧ ∀ (a_16 a_17 : List Int) (a_18 : Int) (a_19 a_20 : List Int) (a_21 : Int), Ok a_16 a_17 a_18 a_19 → Ok a a_1 a_2 a_3 ∧ Ok a_16 a_17 a_18 a_19 ∧ ∀ (a_23 : List Int), a_23 = shL a_1 a_16 (a_2 + a_18) (a_16.length + a_1.length + (1 : Nat)) → a_16.length ≤ (1000 : Nat) ∧ a_17.length ≤ (1000 : Nat) ∧ a_19.length ≤ (1000 : Nat) ∧ (0 : Int) ≤ (1 : Int) ∧ (1 : Int) ≤ (3 : Int) ∧ a.length ≤ (1000 : Nat) ∧ a_1.length ≤ (1000 : Nat) ∧ a_3.length ≤ (1000 : Nat) ∧ (0 : Int) ≤ (1 : Int) ∧ (1 : Int) ≤ (3 : Int) ∧ Ok (layU (1 : Int) a_16 a_17) (layL (1 : Int) a_16 a_17) a_18 (laidL (1 : Int) a_19 (4 : Nat)) ∧ Ok (layU (1 : Int) a a_1) (layL (1 : Int) a a_1) a_2 (laidL (1 : Int) a_3 (4 : Nat)) ∧ ∀ (a_25 : List Int), a_25 = shL (layL (1 : Int) a_16 a_17) (layU (1 : Int) a a_1) (a_18 + a_2) ((layU (1 : Int) a a_1).length + (layL (1 : Int) a_16 a_17).length + (1 : Nat)) → vcIf ((↑a_23.length : Int) != (↑a_25.length : Int)) (false = true ∧ True) ((∃ (a : Nat), (0 : Int) = (↑a : Int) ∧ a ≤ a_23.length ∧ a_23.length - a < (1000000 : Nat)) ∧ ∀ (a_27 : Nat), a_27 ≤ a_23.length → vcIf (decide ((↑a_27 : Int) < (↑a_23.length : Int))) (rng ((↑a_16.length : Int) - (↑a.length : Int)) ∧ ((0 : Int) ≤ (↑a_27 : Int) ∧ (↑a_27 : Int) < (↑a_23.length : Int)) ∧ rng ((↑a_16.length : Int) - (↑a.length : Int) + a_23.getD a_27 (0 : Int)) ∧ a_25.length ≤ (1000 : Nat) ∧ vcIf (decide (indexI a_25 ((↑a_16.length : Int) - (↑a.length : Int) + a_23.getD a_27 (0 : Int)) < (0 : Int))) (false = true ∧ True) (((0 : Int) ≤ indexI a_25 ((↑a_16.length : Int) - (↑a.length : Int) + a_23.getD a_27 (0 : Int)) ∧ indexI a_25 ((↑a_16.length : Int) - (↑a.length : Int) + a_23.getD a_27 (0 : Int)) < (↑(List.map (cutD (layL (1 : Int) a_16 a_17) (layU (1 : Int) a a_1) a_18 a_2) a_25).length : Int)) ∧ ((0 : Int) ≤ (↑a_27 : Int) ∧ (↑a_27 : Int) < (↑(List.map (cutD a_1 a_16 a_2 a_18) a_23).length : Int)) ∧ vcIf (!(((List.map (cutD (layL (1 : Int) a_16 a_17) (layU (1 : Int) a a_1) a_18 a_2) a_25).getD (indexI a_25 ((↑a_16.length : Int) - (↑a.length : Int) + a_23.getD a_27 (0 : Int))).toNat ((0 : Int), (0 : Int), ())).fst == ((List.map (cutD a_1 a_16 a_2 a_18) a_23).getD a_27 ((0 : Int), (0 : Int), ())).fst && (((List.map (cutD (layL (1 : Int) a_16 a_17) (layU (1 : Int) a a_1) a_18 a_2) a_25).getD (indexI a_25 ((↑a_16.length : Int) - (↑a.length : Int) + a_23.getD a_27 (0 : Int))).toNat ((0 : Int), (0 : Int), ())).snd.fst == ((List.map (cutD a_1 a_16 a_2 a_18) a_23).getD a_27 ((0 : Int), (0 : Int), ())).snd.fst && true))) (false = true ∧ True) (rng ((↑a_27 : Int) + (1 : Int)) ∧ ∃ (a_29 : Nat), a_23 = a_23 ∧ List.map (cutD a_1 a_16 a_2 a_18) a_23 = List.map (cutD a_1 a_16 a_2 a_18) a_23 ∧ a_25 = a_25 ∧ List.map (cutD (layL (1 : Int) a_16 a_17) (layU (1 : Int) a a_1) a_18 a_2) a_25 = List.map (cutD (layL (1 : Int) a_16 a_17) (layU (1 : Int) a a_1) a_18 a_2) a_25 ∧ (↑a_27 : Int) + (1 : Int) = (↑a_29 : Int) ∧ a_20 = a_20 ∧ a_21 = a_21 ∧ a = a ∧ a_1 = a_1 ∧ a_2 = a_2 ∧ a_3 = a_3 ∧ a_16 = a_16 ∧ a_17 = a_17 ∧ a_18 = a_18 ∧ a_19 = a_19 ∧ a_29 ≤ a_23.length ∧ a_23.length - a_29 < a_23.length - a_27))) (true = true ∧ True))) (by kernel_rfl) ?_
  simp only [vc_dec, vc_beq, vc_bne, vc_not, vc_and, vc_tt, nil_e, rng, and_true, true_and, eq_self, Bool.false_eq_true, layU1, layL1]
  refine ⟨by omega, by omega, fun u l w ls r z h1 h2 => ⟨h1, fun u1 l1 w1 ls1 r1 z1 h3 _ => ⟨⟨by omega, by omega, fun b _ r2 z2 => ?_⟩, fun u2 l2 w2 ls2 r3 z3 h4 => ⟨h1, h4, fun x hx => ?_⟩⟩⟩⟩
  · rw [vc_iff]; exact ⟨fun _ => ⟨by omega, by omega, fun u3 l3 w3 ls3 r4 z4 h5 _ => ⟨_, _, _, _, _, _, rfl, rfl, rfl, rfl, rfl, rfl, h5⟩⟩, fun _ => ⟨_, _, _, _, _, _, rfl, rfl, rfl, rfl, rfl, rfl, h3⟩⟩
  have n1 := h1.num
  have n2 := h4.num
  have s1 := sh_ok h1
  have s2 := sh_ok h4
  refine ⟨s2.1, s2.2.1, s2.2.2, by omega, by omega, s1.1, s1.2.1, s1.2.2, by omega, by omega, ok_turned h4, ok_turned h1, fun y hy => ?_⟩
  have xl := x_len h1 h4 hx
  have hy' : y = x.map fun s => (u2.length : Int) - u.length + s := by rw [hy, Int.add_comm w2 w, shL_side, ← hx, h1.len]
  have e1 : y.length = x.length := by rw [hy']; simp
  refine ⟨fun _ => ⟨⟨0, rfl, by omega, by omega⟩, fun i hi => ⟨fun h5 => ?_, fun _ => trivial⟩⟩, fun h => h (by rw [e1])⟩
  have e := idx_map (l := x) (g := fun s => (u2.length : Int) - u.length + s) (i := i) (by omega)
  rw [← hy'] at e
  have hm := x_in hx (i := i) (by omega)
  refine ⟨by omega, by omega, by omega, by omega, fun h6 => by omega, fun h6 => ⟨⟨by omega, by rw [List.length_map]; exact e.2.1⟩, ⟨by omega, by rw [List.length_map]; omega⟩, ?_⟩⟩
  rw [cut_at (by omega), cut_at (by omega), e.2.2, ← h1.len, cut_side]
  exact ⟨fun _ => ⟨fun _ => ⟨by omega, i + 1, by omega, by omega, by omega⟩, fun h => h rfl⟩, fun h => h rfl⟩
theorem v6 : VI T8 Try.f6 [some .bool] D5 := by
  intro a p s j h hp
  unfold D5 at h
  split at h <;> cases h
  rename_i nums
  refine vcp (A := (3 : Int) ≤ (6 : Int) ∧ (6 : Int) ≤ (8 : Int) ∧ ∀ (a a_1 : List Int) (a_2 : Int) (a_3 a_4 : List Int) (a_5 : Int), Ok a a_1 a_2 a_3 → (↑a.length : Int) ≤ (6 : Int) → Ok a a_1 a_2 a_3 ∧ ∀ (a_8 a_9 : List Int) (a_10 : Int) (a_11 a_12 : List Int) (a_13 : Int), Ok a_8 a_9 a_10 a_11 → a_8 = List.map (fun (x : I64.den) => (9 : I64.den) - x) a_1 → ((2 : Int) ≤ (1000 : Int) ∧ (0 : Int) ≤ (2 : Int) ∧ ∀ (a_16 : Bool) (a_17 : Int) (a_18 : List Int) (a_19 : Int), vcIf a_16 ((3 : Int) ≤ (6 : Int) ∧ (6 : Int) ≤ (8 : Int) ∧ ∀ (a_20 a_21 : List Int) (a_22 : Int) (a_23 a_24 : List Int) (a_25 : Int), Ok a_20 a_21 a_22 a_23 → (↑a_20.length : Int) ≤ (6 : Int) → ∃ (a_28 : List Int), ∃ (a_29 : List Int), ∃ (a_30 : Int), ∃ (a_31 : List Int), ∃ (a_32 : List Int), ∃ (a_33 : Int), false = false ∧ a_24 = a_32 ∧ a_25 = a_33 ∧ a = a ∧ a_1 = a_1 ∧ a_2 = a_2 ∧ a_3 = a_3 ∧ a_20 = a_28 ∧ a_21 = a_29 ∧ a_22 = a_30 ∧ a_23 = a_31 ∧ Ok a_28 a_29 a_30 a_31 ∧ True) (∃ (a_20 : List Int), ∃ (a_21 : List Int), ∃ (a_22 : Int), ∃ (a_23 : List Int), ∃ (a_24 : List Int), ∃ (a_25 : Int), false = false ∧ a_18 = a_24 ∧ a_19 = a_25 ∧ a = a ∧ a_1 = a_1 ∧ a_2 = a_2 ∧ a_3 = a_3 ∧ a_8 = a_20 ∧ a_9 = a_21 ∧ a_10 = a_22 ∧ a_11 = a_23 ∧ Ok a_20 a_21 a_22 a_23 ∧ True)) ∧ ∀ (a_16 a_17 : List Int) (a_18 : Int) (a_19 a_20 : List Int) (a_21 : Int), Ok a_16 a_17 a_18 a_19 → Ok a a_1 a_2 a_3 ∧ Ok a_16 a_17 a_18 a_19 ∧ ∀ (a_23 : List Int), a_23 = shL a_1 a_16 (a_2 + a_18) (a_16.length + a_1.length + (1 : Nat)) → a.length ≤ (1000 : Nat) ∧ a_1.length ≤ (1000 : Nat) ∧ a_3.length ≤ (1000 : Nat) ∧ (0 : Int) ≤ (2 : Int) ∧ (2 : Int) ≤ (3 : Int) ∧ a_16.length ≤ (1000 : Nat) ∧ a_17.length ≤ (1000 : Nat) ∧ a_19.length ≤ (1000 : Nat) ∧ (0 : Int) ≤ (2 : Int) ∧ (2 : Int) ≤ (3 : Int) ∧ Ok (layU (2 : Int) a a_1) (layL (2 : Int) a a_1) a_2 (laidL (2 : Int) a_3 (4 : Nat)) ∧ Ok (layU (2 : Int) a_16 a_17) (layL (2 : Int) a_16 a_17) a_18 (laidL (2 : Int) a_19 (4 : Nat)) ∧ ∀ (a_25 : List Int), a_25 = shL (layL (2 : Int) a a_1) (layU (2 : Int) a_16 a_17) (a_2 + a_18) ((layU (2 : Int) a_16 a_17).length + (layL (2 : Int) a a_1).length + (1 : Nat)) → vcIf ((↑a_23.length : Int) != (↑a_25.length : Int)) (false = true ∧ True) ((∃ (a : Nat), (0 : Int) = (↑a : Int) ∧ a ≤ a_23.length ∧ a_23.length - a < (1000000 : Nat)) ∧ ∀ (a_27 : Nat), a_27 ≤ a_23.length → vcIf (decide ((↑a_27 : Int) < (↑a_23.length : Int))) (rng ((↑a.length : Int) - (↑a_16.length : Int)) ∧ ((0 : Int) ≤ (↑a_27 : Int) ∧ (↑a_27 : Int) < (↑a_23.length : Int)) ∧ rng ((↑a.length : Int) - (↑a_16.length : Int) - a_23.getD a_27 (0 : Int)) ∧ a_25.length ≤ (1000 : Nat) ∧ vcIf (decide (indexI a_25 ((↑a.length : Int) - (↑a_16.length : Int) - a_23.getD a_27 (0 : Int)) < (0 : Int))) (false = true ∧ True) (((0 : Int) ≤ indexI a_25 ((↑a.length : Int) - (↑a_16.length : Int) - a_23.getD a_27 (0 : Int)) ∧ indexI a_25 ((↑a.length : Int) - (↑a_16.length : Int) - a_23.getD a_27 (0 : Int)) < (↑(List.map (cutD (layL (2 : Int) a a_1) (layU (2 : Int) a_16 a_17) a_2 a_18) a_25).length : Int)) ∧ ((0 : Int) ≤ (↑a_27 : Int) ∧ (↑a_27 : Int) < (↑(List.map (cutD a_1 a_16 a_2 a_18) a_23).length : Int)) ∧ vcIf (!(((List.map (cutD (layL (2 : Int) a a_1) (layU (2 : Int) a_16 a_17) a_2 a_18) a_25).getD (indexI a_25 ((↑a.length : Int) - (↑a_16.length : Int) - a_23.getD a_27 (0 : Int))).toNat ((0 : Int), (0 : Int), ())).fst == ((List.map (cutD a_1 a_16 a_2 a_18) a_23).getD a_27 ((0 : Int), (0 : Int), ())).fst && (((List.map (cutD (layL (2 : Int) a a_1) (layU (2 : Int) a_16 a_17) a_2 a_18) a_25).getD (indexI a_25 ((↑a.length : Int) - (↑a_16.length : Int) - a_23.getD a_27 (0 : Int))).toNat ((0 : Int), (0 : Int), ())).snd.fst == ((List.map (cutD a_1 a_16 a_2 a_18) a_23).getD a_27 ((0 : Int), (0 : Int), ())).snd.fst && true))) (false = true ∧ True) (rng ((↑a_27 : Int) + (1 : Int)) ∧ ∃ (a_29 : Nat), a_23 = a_23 ∧ List.map (cutD a_1 a_16 a_2 a_18) a_23 = List.map (cutD a_1 a_16 a_2 a_18) a_23 ∧ a_25 = a_25 ∧ List.map (cutD (layL (2 : Int) a a_1) (layU (2 : Int) a_16 a_17) a_2 a_18) a_25 = List.map (cutD (layL (2 : Int) a a_1) (layU (2 : Int) a_16 a_17) a_2 a_18) a_25 ∧ (↑a_27 : Int) + (1 : Int) = (↑a_29 : Int) ∧ a_20 = a_20 ∧ a_21 = a_21 ∧ a = a ∧ a_1 = a_1 ∧ a_2 = a_2 ∧ a_3 = a_3 ∧ a_16 = a_16 ∧ a_17 = a_17 ∧ a_18 = a_18 ∧ a_19 = a_19 ∧ a_29 ≤ a_23.length ∧ a_23.length - a_29 < a_23.length - a_27))) (true = true ∧ True))) (by kernel_rfl) ?_
  simp only [vc_dec, vc_beq, vc_bne, vc_not, vc_and, vc_tt, nil_e, rng, and_true, true_and, eq_self, Bool.false_eq_true, layU2, layL2]
  refine ⟨by omega, by omega, fun u l w ls r z h1 h2 => ⟨h1, fun u1 l1 w1 ls1 r1 z1 h3 _ => ⟨⟨by omega, by omega, fun b _ r2 z2 => ?_⟩, fun u2 l2 w2 ls2 r3 z3 h4 => ⟨h1, h4, fun x hx => ?_⟩⟩⟩⟩
  · rw [vc_iff]; exact ⟨fun _ => ⟨by omega, by omega, fun u3 l3 w3 ls3 r4 z4 h5 _ => ⟨_, _, _, _, _, _, rfl, rfl, rfl, rfl, rfl, rfl, h5⟩⟩, fun _ => ⟨_, _, _, _, _, _, rfl, rfl, rfl, rfl, rfl, rfl, h3⟩⟩
  have n1 := h1.num
  have n2 := h4.num
  have s1 := sh_ok h1
  have s2 := sh_ok h4
  refine ⟨s1.1, s1.2.1, s1.2.2, by omega, by omega, s2.1, s2.2.1, s2.2.2, by omega, by omega, ok_over h1, ok_over h4, fun y hy => ?_⟩
  have xl := x_len h1 h4 hx
  have hy' : y = (x.map fun s => (u.length : Int) - u2.length - s).reverse := by rw [hy, shL_over, ← hx, h1.len]
  have e1 : y.length = x.length := by rw [hy']; simp
  refine ⟨fun _ => ⟨⟨0, rfl, by omega, by omega⟩, fun i hi => ⟨fun h5 => ?_, fun _ => trivial⟩⟩, fun h => h (by rw [e1])⟩
  have e := over_at (la := l) (ub := u2) (w := w + w2) (s := x.getD i 0) (nu := u.length) h1.len (by rw [← hx]; exact mem_getD (by omega))
  rw [← hy] at e
  have hm := x_in hx (i := i) (by omega)
  refine ⟨by omega, by omega, by omega, by omega, fun h6 => by omega, fun h6 => ⟨⟨by omega, by rw [List.length_map]; exact e.2.1⟩, ⟨by omega, by rw [List.length_map]; omega⟩, ?_⟩⟩
  rw [cut_at (by omega), cut_at (by omega), e.2.2, ← h1.len, cut_over]
  exact ⟨fun _ => ⟨fun _ => ⟨by omega, i + 1, by omega, by omega, by omega⟩, fun h => h rfl⟩, fun h => h rfl⟩
section
variable {tab : IsoF} (tk : TabK tab)
include tk
theorem law_spec {f : FuncId} {fn : Func} {D : List TV → Dn} {k : Nat} {T : Tbl} (hT : TOK tab k T) (hne : f ≠ 51 ∧ f ≠ 110 ∧ f ≠ 17) (hf : Tp.funcs[f]? = some fn) (hb : fn.body.isSome = true) {rts : List (Option TT)} (h : VI T fn rts D) {a : List TV} {j : List (Nat × LA)} (hD : D a = some ([], .res (bval true) [] [], j)) (n : Nat) : ISpec (isoT tab (n + (k + 1))) f a (fun v => v = bval true) :=
  ((mkI tk hT hne hf hb h (tok_up hT) n).I f a [] (.res (bval true) [] []) (by simp only [Tbl.addI, if_true, hD]; rfl) trivial).mono fun v hv => hv.1
end
end Go.Tv
end
