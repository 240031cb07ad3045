import Derived.Test.YtedcgbkilmlbhaaGreatPk10
section
namespace Go.Tv
open Go Go.Di Go.Proofs
set_option maxRecDepth 100000
theorem Jw (la ub : List Int) (s : Int) : ∀ i, (gl la ub s i).length ≤ i
  | 0 => Nat.le_refl 0
  | i + 1 => by
    have := Jw la ub s i
    rw [gl]; split
    · rw [List.length_append, List.length_singleton]; omega
    · omega
def Ww : List TV → Dn
  | [.val (.int .i64 x), .val (.int .i64 lo), .val (.int .i64 hi)] => some ([], .res (mz (decide (lo ≤ x ∧ x ≤ hi))) [] [], [])
  | _ => none
theorem v107 : VI T0 Tryz.f100 [some .bool] Ww := by
  refine jN fun a => ?_
  unfold Ww
  split
  rotate_left
  · trivial
  rename_i x lo hi
  intro hp
  refine Am (A := aI (decide (lo ≤ x)) (decide (x ≤ hi) = decide (lo ≤ x ∧ x ≤ hi) ∧ True) (false = decide (lo ≤ x ∧ x ≤ hi) ∧ True)) (by kernel_rfl) ?_
  rw [iB]
  refine ⟨fun h => ⟨?_, trivial⟩, fun h => ⟨?_, trivial⟩⟩
  · simp only [decide_eq_true_eq] at h; rw [decide_eq_decide]; omega
  · simp only [decide_eq_false_iff_not] at h; symm; rw [decide_eq_false_iff_not]; omega
def G1 : gh := T0.dw 100 fun a => dS (Ww a)
def Wx : List TV → Dn
  | [.sl (.int .i64) l .no] => some ([l.length ≤ 1000], .ex Int fun e => .res (bt e) [] [e = if l.all (kK 9) = true then 0 else 1], [(3, .ex Nat fun i => .st { sl := [(3, bt i)], dn := [i ≤ l.length, (l.take i).all (kK 9) = true], m := l.length - i })])
  | _ => none
theorem abx : VI G1 Tryz.f93 [some bW] Wx := by
  refine jN fun a => ?_
  unfold Wx
  split
  rotate_left
  · trivial
  rename_i l
  intro hp
  refine Am (A := (∃ (a : Nat), (0 : Int) = (↑a : Int) ∧ a ≤ l.length ∧ (List.take a l).all (kK (9 : Int)) = true ∧ l.length - a < (1000000 : Nat)) ∧ ∀ (a : Nat), a ≤ l.length → (List.take a l).all (kK (9 : Int)) = true → aI (decide ((↑a : Int) < (↑l.length : Int))) (((0 : Int) ≤ (↑a : Int) ∧ (↑a : Int) < (↑l.length : Int)) ∧ aI (!decide ((0 : Int) ≤ l.getD a (0 : Int) ∧ l.getD a (0 : Int) ≤ (9 : Int))) (∃ (a : Int), (1 : Int) = a ∧ (a = if l.all (kK (9 : Int)) = true then (0 : Int) else (1 : Int)) ∧ True) (dK ((↑a : Int) + (1 : Int)) ∧ ∃ (a_1 : Nat), l = l ∧ (↑a : Int) + (1 : Int) = (↑a_1 : Int) ∧ a_1 ≤ l.length ∧ (List.take a_1 l).all (kK (9 : Int)) = true ∧ l.length - a_1 < l.length - a)) (∃ (a : Int), (0 : Int) = a ∧ (a = if l.all (kK (9 : Int)) = true then (0 : Int) else (1 : Int)) ∧ True)) (by kernel_rfl) ?_
  have h1 := hp.1
  simp only [bJ, cS, eR, dK, and_true, true_and, eq_self]
  refine ⟨⟨0, rfl, by omega, rfl, by omega⟩, fun i h2 h3 => ⟨fun h4 => ⟨by omega, fun h5 => ⟨by omega, i + 1, by omega, by omega, JF (by omega) h3 (decide_eq_true h5), by omega⟩, fun h5 => ⟨1, rfl, ?_⟩⟩, fun h4 => ⟨0, rfl, ?_⟩⟩⟩
  · rw [Jg (i := i) (by omega) (decide_eq_false h5)]; rfl
  · rw [show i = l.length by omega, List.take_length] at h3
    rw [if_pos h3]
def G2 : gh := G1.dw 93 fun a => dS (Wx a)
def D91 : List TV → Dn
  | [.agg [.sl (.int .i64) au .no, .sl (.int .i64) al .no, .val (.int .i64 aw), .sl (.int .i64) aq .no]] => some ([Sh au al aq], .res (bt (gf au al aw aq)) [] [], [(29, .ex Nat fun i => .st { sl := [(5, bt i)], dn := [i ≤ aq.length, gX aq 0 = gX aq i], m := aq.length - i })])
  | _ => none
def v91.q1 (p0 : Nat) (p1 p2 : List Int) (p3 : Int) (p4 : List Int) : Prop := dK ((↑p0 : Int) + (1 : Int)) ∧ ∃ (a : Nat), (↑p0 : Int) + (1 : Int) = (↑a : Int) ∧ p1 = p1 ∧ p2 = p2 ∧ p3 = p3 ∧ p4 = p4 ∧ a ≤ p4.length ∧ gX p4 (0 : Nat) = gX p4 a ∧ p4.length - a < p4.length - p0
theorem v91 : VI G2 Tryz.f92 [some bW] D91 := by
  refine jN fun a => ?_
  unfold D91
  split
  rotate_left
  · trivial
  rename_i u l w ls
  intro hp
  change List Int at u l ls
  refine Am (A := aI (decide ((↑u.length : Int) < (3 : Int))) ((7 : Int) = gf u l w ls ∧ True) (aI (decide ((↑u.length : Int) > (8 : Int))) ((6 : Int) = gf u l w ls ∧ True) (aI (decide ((↑l.length : Int) < (↑u.length : Int))) ((7 : Int) = gf u l w ls ∧ True) (aI (decide ((↑l.length : Int) > (↑u.length : Int))) ((6 : Int) = gf u l w ls ∧ True) (u.length ≤ (1000 : Nat) ∧ ∀ (a : Int), (a = if u.all (kK (9 : Int)) = true then (0 : Int) else (1 : Int)) → aI (a != (0 : Int)) (a = gf u l w ls ∧ True) (l.length ≤ (1000 : Nat) ∧ ∀ (a : Int), (a = if l.all (kK (9 : Int)) = true then (0 : Int) else (1 : Int)) → aI (a != (0 : Int)) (a = gf u l w ls ∧ True) (aI (!decide ((0 : Int) ≤ w ∧ w ≤ (2 : Int))) ((1 : Int) = gf u l w ls ∧ True) (aI ((↑ls.length : Int) == (0 : Int)) ((7 : Int) = gf u l w ls ∧ True) ((∃ (a : Nat), (0 : Int) = (↑a : Int) ∧ a ≤ ls.length ∧ gX ls (0 : Nat) = gX ls a ∧ ls.length - a < (1000000 : Nat)) ∧ ∀ (a : Nat), a ≤ ls.length → gX ls (0 : Nat) = gX ls a → aI (decide ((↑a : Int) < (↑ls.length : Int))) (((0 : Int) ≤ (↑a : Int) ∧ (↑a : Int) < (↑ls.length : Int)) ∧ aI (!decide ((0 : Int) ≤ ls.getD a (0 : Int) ∧ ls.getD a (0 : Int) ≤ (3 : Int))) ((8 : Int) = gf u l w ls ∧ True) (aI (decide ((↑a : Int) > (0 : Int))) (((0 : Int) ≤ (↑a : Int) ∧ (↑a : Int) < (↑ls.length : Int)) ∧ dK ((↑a : Int) - (1 : Int)) ∧ ((0 : Int) ≤ (↑a : Int) - (1 : Int) ∧ (↑a : Int) - (1 : Int) < (↑ls.length : Int)) ∧ aI (decide (ls.getD a (0 : Int) ≤ ls.getD ((↑a : Int) - (1 : Int)).toNat (0 : Int))) ((5 : Int) = gf u l w ls ∧ True) (v91.q1 a u l w ls)) (v91.q1 a u l w ls))) ((0 : Int) = gf u l w ls ∧ True)))))))))) (by kernel_rfl) ?_
  unfold v91.q1
  obtain ⟨h1, h2, h3⟩ := hp.1
  simp only [bJ, dm, cE, cS, eR, dK, and_true, true_and, eq_self]
  refine ⟨fun a1 => ?_, fun a1 => ⟨fun a2 => ?_, fun a2 => ⟨fun a3 => ?_, fun a3 => ⟨fun a4 => ?_, fun a4 => ⟨by omega, fun e he => ?_⟩⟩⟩⟩⟩
  · rw [gf, if_pos (by omega)]
  · rw [gf, if_neg (by omega), if_pos (by omega)]
  · rw [gf, if_neg (by omega), if_neg (by omega), if_pos (by omega)]
  · rw [gf, if_neg (by omega), if_neg (by omega), if_neg (by omega), if_pos (by omega)]
  have e1 : ∀ (_ : u.all (kK 9) = false ∨ l.all (kK 9) = false ∨ w < 0 ∨ 2 < w), gf u l w ls = 1 := fun h => by rw [gf, if_neg (by omega), if_neg (by omega), if_neg (by omega), if_neg (by omega), if_pos h]
  cases b1 : u.all (kK 9) with
  | false => rw [b1] at he; subst he; exact ⟨fun h => absurd h (by decide), fun _ => (e1 (.inl b1)).symm⟩
  | true =>
  rw [b1] at he; subst he
  refine ⟨fun _ => ⟨by omega, fun e he => ?_⟩, fun h => absurd rfl h⟩
  cases b2 : l.all (kK 9) with
  | false => rw [b2] at he; subst he; exact ⟨fun h => absurd h (by decide), fun _ => (e1 (.inr (.inl b2))).symm⟩
  | true =>
  rw [b2] at he; subst he
  refine ⟨fun _ => ⟨fun b5 => ⟨fun b6 => ?_, fun b6 => ?_⟩, fun b5 => (e1 (by omega)).symm⟩, fun h => absurd rfl h⟩
  · rw [gf, if_neg (by omega), if_neg (by omega), if_neg (by omega), if_neg (by omega), if_neg (by rw [b1, b2]; simp; omega), if_pos (by omega)]
  have e : gf u l w ls = gX ls 0 := Jx (by omega) (by omega) (by omega) (by omega) (by rw [b1]; rfl) (by rw [b2]; rfl) (by omega) (by omega) (by omega)
  rw [e]
  refine ⟨⟨0, rfl, by omega, rfl, by omega⟩, fun i k1 k2 => ⟨fun k3 => ⟨by omega, fun k4 => ⟨fun k5 => ⟨by omega, by omega, by omega, fun k6 => ?_, fun k6 => ⟨by omega, i + 1, by omega, by omega, k2.trans (pF (by omega) (by omega) ?_), by omega⟩⟩, fun k5 => ⟨by omega, i + 1, by omega, by omega, k2.trans (pF (by omega) (by omega) (by omega)), by omega⟩⟩, fun k4 => ?_⟩, fun k3 => ?_⟩⟩
  · rw [k2, MW (by omega) (by omega) ⟨by omega, by rw [show i - 1 = ((i : Int) - 1).toNat by omega]; exact k6⟩]
  · rw [show i - 1 = ((i : Int) - 1).toNat by omega]; exact fun h => k6 h.2
  · rw [k2, Iq (by omega) (by omega)]
  · rw [k2, MX (by omega)]
def G3 : gh := G2.dw 92 fun a => dS (D91 a)
def D61 : List TV → Dn
  | [.agg [.sl (.int .i64) au .no, .sl (.int .i64) al .no, .val (.int .i64 aw), .sl (.int .i64) aq .no], .agg [.sl (.int .i64) bu .no, .sl (.int .i64) bl .no, .val (.int .i64 bw), .sl (.int .i64) bq .no]] => some ([Sh au al aq, Sh bu bl bq], .ex Int fun e => .res (bt e) [] [e = iA [pd au al aw aq, pd bu bl bw bq]], [])
  | _ => none
def qT (la ub : List Int) (s : Int) (i k : Nat) : List Int := if 0 ≤ (i : Int) + s ∧ (i : Int) + s < k then gl la ub s i ++ [ub.getD i 0 + la.getD ((i : Int) + s).toNat 0] else gl la ub s i
def aad (te : List TV) (i : Nat) (k : Nat → LA) : LA :=
  match te.getD i .unk with
  | .val (.int .i64 n) => k n.toNat
  | _ => .un 0
def D62 : List TV → Dn
  | [.agg [.sl (.int .i64) au .no, .sl (.int .i64) al .no, .val (.int .i64 aw), .sl (.int .i64) aq .no], .agg [.sl (.int .i64) bu .no, .sl (.int .i64) bl .no, .val (.int .i64 bw), .sl (.int .i64) bq .no], .val (.int .i64 s)] => some ([al.length ≤ 1000, bu.length ≤ 1000, sV al, sV bu], .res (.sl bW (gl al bu s bu.length) .no) [] [],
    [(4, .ex Nat fun i => .st { sl := [(7, .sl bW (gl al bu s i) (.oC 2)), (8, bt i)], own := [(3, 1)], dn := [i ≤ bu.length], m := bu.length - i }),
     (9, .dep fun te _ => aad te 8 fun i => .ex Nat fun k => .st { sl := [(7, .sl bW (qT al bu s i k) (.oC 2)), (9, bt k)], dn := [k ≤ al.length], m := al.length - k })])
  | _ => none
def v62.q1 (p0 p1 : Nat) (p2 p3 p4 : List bW.den) (p5 : Int) (p6 p7 : List bW.den) (p8 : Int) (p9 : List bW.den) (YE : Nat) : Prop := (↑p0 : Int) = (↑p0 : Int) ∧ (↑p1 : Int) + (1 : Int) = (↑YE : Int) ∧ (↑p0 : Int) = (↑p0 : Int) ∧ p2 = p2 ∧ (↑p2.length : Int) = (↑p2.length : Int) ∧ true = true ∧ p3 = p3 ∧ p4 = p4 ∧ p5 = p5 ∧ p6 = p6 ∧ p2 = p2 ∧ p7 = p7 ∧ p8 = p8 ∧ p9 = p9 ∧ YE ≤ p4.length ∧ p4.length - YE < p4.length - p1
theorem v62 : VI T0 Tryz.f117 [some bZ] D62 := by
  refine jN fun a => ?_
  unfold D62
  split
  rotate_left
  · trivial
  rename_i u l w ls u2 l2 w2 FX s
  intro hp
  refine Am (A := (∃ (a : Nat), [] = gl l u2 s a ∧ (0 : Int) = (↑a : Int) ∧ a ≤ u2.length ∧ u2.length - a < (1000000 : Nat)) ∧ ∀ (a : Nat), a ≤ u2.length → aI (decide ((↑a : Int) < (↑u2.length : Int))) ((∃ (a_1 : Nat), gl l u2 s a = qT l u2 s a a_1 ∧ (0 : Int) = (↑a_1 : Int) ∧ a_1 ≤ l.length ∧ l.length - a_1 < (1000000 : Nat)) ∧ ∀ (a_1 : Nat), a_1 ≤ l.length → aI (decide ((↑a_1 : Int) < (↑l.length : Int))) (dK ((↑a_1 : Int) - (↑a : Int)) ∧ aI ((↑a_1 : Int) - (↑a : Int) == s) (((0 : Int) ≤ (↑a_1 : Int) ∧ (↑a_1 : Int) < (↑l.length : Int)) ∧ ((0 : Int) ≤ (↑a : Int) ∧ (↑a : Int) < (↑u2.length : Int)) ∧ dK (l.getD a_1 (0 : Int) + u2.getD a (0 : Int)) ∧ (qT l u2 s a a_1).length + (1 : Nat) ≤ (1000000000 : Nat) ∧ dK ((↑a_1 : Int) + (1 : Int)) ∧ ∃ (a_2 : Nat), s = s ∧ ox bW.den ∧ qT l u2 s a a_1 ++ [l.getD a_1 (0 : Int) + u2.getD a (0 : Int)] = qT l u2 s a a_2 ∧ v62.q1 a a_1 u2 u l w ls l2 w2 FX a_2) (dK ((↑a_1 : Int) + (1 : Int)) ∧ ∃ (a_2 : Nat), s = s ∧ ox bW.den ∧ qT l u2 s a a_1 = qT l u2 s a a_2 ∧ v62.q1 a a_1 u2 u l w ls l2 w2 FX a_2)) (dK ((↑a : Int) + (1 : Int)) ∧ ∃ (a_2 : Nat), s = s ∧ ox bW.den ∧ qT l u2 s a a_1 = gl l u2 s a_2 ∧ (↑a : Int) + (1 : Int) = (↑a_2 : Int) ∧ u = u ∧ l = l ∧ w = w ∧ ls = ls ∧ u2 = u2 ∧ l2 = l2 ∧ w2 = w2 ∧ FX = FX ∧ a_2 ≤ u2.length ∧ u2.length - a_2 < u2.length - a)) (gl l u2 s a = gl l u2 s u2.length ∧ True)) (by kernel_rfl) ?_
  unfold v62.q1
  obtain ⟨h1, h2, h3, h4, -⟩ := hp
  change List Int at l u2
  simp only [bJ, dm, cE, cS, eR, dK, and_true, true_and, eq_self]
  refine ⟨⟨0, rfl, by omega, by omega, by omega⟩, fun i k1 => ⟨fun k2 => ⟨⟨0, by rw [qT, if_neg (by omega)], by omega, by omega, by omega⟩, fun k k3 => ⟨fun k4 => ⟨by omega, fun k5 => ⟨by omega, by omega, ?_, ?_, by omega, k + 1, ?_, by omega, by omega, by omega⟩, fun k5 => ⟨by omega, k + 1, ?_, by omega, by omega, by omega⟩⟩, fun k4 => ⟨by omega, i + 1, ?_, by omega, by omega, by omega⟩⟩⟩, fun k2 => ?_⟩⟩
  · have := vh h3 (i := k) (by omega)
    have := vh h4 (i := i) (by omega)
    omega
  · have := Jw l u2 s i
    rw [qT, if_neg (by omega)]; omega
  · rw [qT, if_neg (by omega), qT, if_pos (by omega), show ((i : Int) + s).toNat = k by omega, Int.add_comm]
  · by_cases h : 0 ≤ (i : Int) + s ∧ (i : Int) + s < k
    · rw [qT, if_pos h, qT, if_pos (by omega)]
    · rw [qT, if_neg h, qT, if_neg (by omega)]
  · rw [show k = l.length by omega]; rfl
  · rw [show i = u2.length by omega]
def D64 : List TV → Dn
  | [.sl (.int .i64) l .no] => some ([0 < l.length, l.length ≤ 1000], .res (.ep [bt (s4 l).1, bt (s4 l).2.1]) [] [],
    [(4, .ex Nat fun i => .ex Int fun lo => .ex Int fun hi => .st { sl := [(4, bt lo), (5, bt hi), (6, bt i)], dn := [i ≤ l.length, 0 < i, s4 (l.take i) = (lo, hi, (i : Int))], m := l.length - i })])
  | _ => none
def G4 : gh := (T0.dw 117 fun a => dS (D62 a)).dw 118 fun a => dS (D64 a)
def D63 : List TV → Dn
  | [.agg [.sl (.int .i64) au .no, .sl (.int .i64) al .no, .val (.int .i64 aw), .sl (.int .i64) aq .no], .agg [.sl (.int .i64) bu .no, .sl (.int .i64) bl .no, .val (.int .i64 bw), .sl (.int .i64) bq .no], .val (.int .i64 s)] => some ([al.length ≤ 1000, bu.length ≤ 1000, sV al, sV bu, 0 ≤ aw, aw ≤ 2, 0 ≤ bw, bw ≤ 2], .res (mz (iW al bu (aw + bw) s)) [] [], [])
  | _ => none
def G5 : gh := (((G3.dw 96 fun a => dS (D61 a)).dw 117 fun a => dS (D62 a)).dw 80 fun a => dS (D63 a)).dw 118 fun a => dS (D64 a)
def DC (la ub : List Int) (w : Int) (k : Nat) : List Int := ((List.range k).map fun (j : Nat) => (j : Int) - 8).filter (iW la ub w)
theorem RQ {la ub : List Int} {w : Int} {k : Nat} (h : iW la ub w ((k : Int) - 8) = true) : DC la ub w k ++ [(k : Int) - 8] = DC la ub w (k + 1) := by
  simp [DC, List.range_succ, h]
theorem W6 {la ub : List Int} {w : Int} {k : Nat} (h : iW la ub w ((k : Int) - 8) = false) : DC la ub w k = DC la ub w (k + 1) := by
  simp [DC, List.range_succ, h]
theorem W7 (la ub : List Int) (w : Int) (k : Nat) : (DC la ub w k).length ≤ k := by
  refine Nat.le_trans (List.length_filter_le _ _) ?_
  simp
theorem Fc {la ub : List Int} {w s : Int} (h : s ≤ -(ub.length : Int) ∨ (la.length : Int) ≤ s) : iW la ub w s = false := by
  rw [iW, vQ h, decide_eq_false_iff_not]
  exact fun h => absurd h.1 (by decide)
theorem W5 {la ub : List Int} {w : Int} (h1 : la.length ≤ 8) (h2 : ub.length ≤ 8) : DC la ub w 17 = xB la ub w (ub.length + la.length + 1) := by
  have e : (17 : Nat) = (8 - ub.length) + ((ub.length + la.length + 1) + (8 - la.length)) := by omega
  have e0 : ∀ (l : List Int), (∀ s ∈ l, iW la ub w s = false) → l.filter (iW la ub w) = [] := fun l h => List.filter_eq_nil_iff.2 fun s hs => by rw [h s hs]; decide
  have f1 : ((List.range (8 - ub.length)).map fun (j : Nat) => (j : Int) - 8).filter (iW la ub w) = [] := e0 _ fun s hs => by
    simp only [List.mem_map, List.mem_range] at hs
    obtain ⟨j, hj, rfl⟩ := hs
    exact Fc (.inl (by omega))
  have f2 : ((List.range (8 - la.length)).map fun (j : Nat) => (((8 - ub.length) + ((ub.length + la.length + 1) + j) : Nat) : Int) - 8).filter (iW la ub w) = [] := e0 _ fun s hs => by
    simp only [List.mem_map, List.mem_range] at hs
    obtain ⟨j, hj, rfl⟩ := hs
    exact Fc (.inr (by omega))
  rw [DC, e, List.range_add, List.range_add]
  simp only [List.map_append, List.filter_append, List.map_map, Function.comp_def]
  rw [f1, f2, List.nil_append, List.append_nil, xB]
  congr 1
  refine List.map_congr_left fun j _ => ?_
  omega
def D66 : List TV → Dn
  | [.agg [.sl (.int .i64) au .no, .sl (.int .i64) al .no, .val (.int .i64 aw), .sl (.int .i64) aq .no], .agg [.sl (.int .i64) bu .no, .sl (.int .i64) bl .no, .val (.int .i64 bw), .sl (.int .i64) bq .no]] => some ([Ok au al aw aq, Ok bu bl bw bq], .res (.sl bW (xB al bu (aw + bw) (bu.length + al.length + 1)) .no) [] [],
    [(4, .ex Nat fun k => .st { sl := [(5, .sl bW (DC al bu (aw + bw) k) (.oC 2)), (6, bt ((k : Int) - 8))], own := [(3, 1)], dn := [k ≤ 17], m := 17 - k })])
  | _ => none
theorem v66 : VI G5 Tryz.f109 [some bZ] D66 := by
  refine jN fun a => ?_
  unfold D66
  split
  rotate_left
  · trivial
  rename_i u l w ls u2 l2 w2 FX
  intro hp
  refine Am (A := (∃ (a : Nat), [] = DC l u2 (w + w2) a ∧ (-8 : Int) = (↑a : Int) - (8 : Int) ∧ a ≤ (17 : Nat) ∧ (17 : Nat) - a < (1000000 : Nat)) ∧ ∀ (a : Nat), a ≤ (17 : Nat) → aI (decide ((↑a : Int) - (8 : Int) ≤ (8 : Int))) (l.length ≤ (1000 : Nat) ∧ u2.length ≤ (1000 : Nat) ∧ sV l ∧ sV u2 ∧ (0 : Int) ≤ w ∧ w ≤ (2 : Int) ∧ (0 : Int) ≤ w2 ∧ w2 ≤ (2 : Int) ∧ aI (iW l u2 (w + w2) ((↑a : Int) - (8 : Int))) ((DC l u2 (w + w2) a).length + (1 : Nat) ≤ (1000000000 : Nat) ∧ dK ((↑a : Int) - (8 : Int) + (1 : Int)) ∧ ∃ (a_1 : Nat), ox bW.den ∧ DC l u2 (w + w2) a ++ [(↑a : Int) - (8 : Int)] = DC l u2 (w + w2) a_1 ∧ (↑a : Int) - (8 : Int) + (1 : Int) = (↑a_1 : Int) - (8 : Int) ∧ u = u ∧ l = l ∧ w = w ∧ ls = ls ∧ u2 = u2 ∧ l2 = l2 ∧ w2 = w2 ∧ FX = FX ∧ a_1 ≤ (17 : Nat) ∧ (17 : Nat) - a_1 < (17 : Nat) - a) (dK ((↑a : Int) - (8 : Int) + (1 : Int)) ∧ ∃ (a_1 : Nat), ox bW.den ∧ DC l u2 (w + w2) a = DC l u2 (w + w2) a_1 ∧ (↑a : Int) - (8 : Int) + (1 : Int) = (↑a_1 : Int) - (8 : Int) ∧ u = u ∧ l = l ∧ w = w ∧ ls = ls ∧ u2 = u2 ∧ l2 = l2 ∧ w2 = w2 ∧ FX = FX ∧ a_1 ≤ (17 : Nat) ∧ (17 : Nat) - a_1 < (17 : Nat) - a)) (DC l u2 (w + w2) a = xB l u2 (w + w2) (u2.length + l.length + (1 : Nat)) ∧ True)) (by kernel_rfl) ?_
  obtain ⟨h1, h2, -⟩ := hp
  have n1 := h1.num
  have n2 := h2.num
  simp only [bJ, dm, cE, cS, eR, dK, and_true, true_and, eq_self]
  refine ⟨⟨0, rfl, by omega, by omega, by omega⟩, fun k k1 => ⟨fun k2 => ⟨by omega, by omega, h1.hl, h2.hu, by omega, by omega, by omega, by omega, ?_⟩, fun k2 => ?_⟩⟩
  · have := W7 l u2 (w + w2) k
    rw [iB]
    refine ⟨fun f => ⟨by omega, by omega, k + 1, RQ f, by omega, by omega, by omega⟩, fun f => ⟨by omega, k + 1, W6 f, by omega, by omega, by omega⟩⟩
  · rw [show k = 17 by omega, W5 (by omega) (by omega)]
def G6 : gh := G5.dw 109 fun a => dS (D66 a)
def F4 (p : PD) : Bool := decide (p.1.length ≤ 20 ∧ p.2.1.length ≤ 20 ∧ p.2.2.2.1.length ≤ 20)
theorem RS {l : List PD} {i : Nat} {d : PD} (h : i < l.length) (h1 : (l.take i).all F4 = true) (h2 : F4 (l.getD i d) = true) : (l.take (i + 1)).all F4 = true := by
  have e : l.getD i d = l[i] := by simp [List.getD_eq_getElem?_getD, h]
  rw [e] at h2
  rw [← List.take_append_getElem h, List.all_append, h1, List.all_cons, h2]; rfl
theorem GA {l : List PD} {i : Nat} {d : PD} (h : i < l.length) (h2 : F4 (l.getD i d) = false) : l.all F4 = false := by
  have e : l.getD i d = l[i] := by simp [List.getD_eq_getElem?_getD, h]
  rw [e] at h2
  refine Bool.eq_false_iff.2 fun h1 => ?_
  rw [List.all_eq_true.1 h1 _ (List.getElem_mem h)] at h2
  cases h2
def D18 : List TV → Dn
  | [.sl (.pair (.sl (.int .i64)) (.pair (.sl (.int .i64)) (.pair (.int .i64) (.pair (.sl (.int .i64)) .unit)))) l .no] => some ([], .ex Bool fun b => .res (mz b) [] [b = (decide (l.length ≤ 20) && l.all F4)], [(3, .ex Nat fun i => .st { sl := [(3, bt i)], dn := [i ≤ l.length, i ≤ 20, (l.take i).all F4 = true], m := 20 - i })])
  | _ => none
def v18.q1 (p0 : List (aJ).den) (p1 : Bool) : Prop := ∃ (a : Bool), p1 = a ∧ a = (decide (p0.length ≤ (20 : Nat)) && p0.all F4) ∧ True
theorem v18 : VI T0 Tryz.f11 [some .bool] D18 := by
  refine jN fun a => ?_
  unfold D18
  split
  rotate_left
  · trivial
  rename_i l
  intro hp
  refine Am (A := (∃ (a : Nat), (0 : Int) = (↑a : Int) ∧ a ≤ l.length ∧ a ≤ (20 : Nat) ∧ (List.take a l).all F4 = true ∧ (20 : Nat) - a < (1000000 : Nat)) ∧ ∀ (a : Nat), a ≤ l.length → a ≤ (20 : Nat) → (List.take a l).all F4 = true → aI (decide ((↑a : Int) < (↑l.length : Int))) (aI (decide ((↑a : Int) < (20 : Int))) (((0 : Int) ≤ (↑a : Int) ∧ (↑a : Int) < (↑l.length : Int)) ∧ aI (decide ((↑(List.length (l.getD a ([], [], (0 : Int), [], ())).fst) : Int) > (20 : Int))) (v18.q1 l false) (((0 : Int) ≤ (↑a : Int) ∧ (↑a : Int) < (↑l.length : Int)) ∧ aI (decide ((↑(List.length (l.getD a ([], [], (0 : Int), [], ())).snd.fst) : Int) > (20 : Int))) (v18.q1 l false) (((0 : Int) ≤ (↑a : Int) ∧ (↑a : Int) < (↑l.length : Int)) ∧ aI (decide ((↑(List.length (l.getD a ([], [], (0 : Int), [], ())).snd.snd.snd.fst) : Int) > (20 : Int))) (v18.q1 l false) (dK ((↑a : Int) + (1 : Int)) ∧ ∃ (a_1 : Nat), l = l ∧ (↑a : Int) + (1 : Int) = (↑a_1 : Int) ∧ a_1 ≤ l.length ∧ a_1 ≤ (20 : Nat) ∧ (List.take a_1 l).all F4 = true ∧ (20 : Nat) - a_1 < (20 : Nat) - a)))) (v18.q1 l (decide ((↑l.length : Int) ≤ (20 : Int))))) (v18.q1 l (decide ((↑l.length : Int) ≤ (20 : Int))))) (by kernel_rfl) ?_
  unfold v18.q1
  change List PD at l
  simp only [bJ, dm, cE, cS, eR, dK, and_true, true_and, eq_self]
  refine ⟨⟨0, rfl, by omega, by omega, rfl, by omega⟩, fun i k1 k2 k3 => ⟨fun k4 => ⟨fun k5 => ⟨by omega, fun k6 => ⟨_, rfl, ?_⟩, fun k6 => ⟨by omega, fun k7 => ⟨_, rfl, ?_⟩, fun k7 => ⟨by omega, fun k8 => ⟨_, rfl, ?_⟩, fun k8 => ⟨by omega, i + 1, by omega, by omega, by omega, RS (d := ([], [], 0, [], ())) (by omega) k3 (decide_eq_true ⟨by omega, by omega, by omega⟩), by omega⟩⟩⟩⟩, fun k5 => ⟨_, rfl, ?_⟩⟩, fun k4 => ⟨_, rfl, ?_⟩⟩⟩
  · rw [GA (i := i) (d := ([], [], 0, [], ())) (by omega) (decide_eq_false fun h => by omega), Bool.and_false]
  · rw [GA (i := i) (d := ([], [], 0, [], ())) (by omega) (decide_eq_false fun h => by omega), Bool.and_false]
  · rw [GA (i := i) (d := ([], [], 0, [], ())) (by omega) (decide_eq_false fun h => by omega), Bool.and_false]
  · rw [decide_eq_false (by omega), decide_eq_false (by omega)]; rfl
  · rw [show i = l.length by omega, List.take_length] at k3
    rw [k3, Bool.and_true, decide_eq_decide]; omega
def S58 : List TV → Sp
  | [.sl (.int .i64) l .no] => some ([l.length ≤ 1000], .res (.sl bW l .no) [] [])
  | _ => none
def T0d : gh := T0.dw 43 S58
def D20 : List TV → Dn
  | [.agg [.sl (.int .i64) au .no, .sl (.int .i64) al .no, .val (.int .i64 aw), .sl (.int .i64) aq .no]] => some ([Sh au al aq], .res (JJ au al aw aq) [] [], [])
  | _ => none
theorem v20 : VI T0d Tryz.f42 [some aJ] D20 := by
  refine jN fun a => ?_
  unfold D20
  split
  rotate_left
  · trivial
  rename_i u l w ls
  intro hp
  refine Am (A := u.length ≤ (1000 : Nat) ∧ l.length ≤ (1000 : Nat) ∧ ls.length ≤ (1000 : Nat) ∧ u = u ∧ l = l ∧ w = w ∧ ls = ls ∧ True) (by kernel_rfl) ?_
  obtain ⟨h1, h2, h3⟩ := hp.1
  exact ⟨h1, h2, h3, rfl, rfl, rfl, rfl, trivial⟩
def D25 : List TV → Dn
  | [.sl (.int .i64) l .no, .sl (.int .i64) m .no] => some ([l.length ≤ 1000, m.length ≤ 1000], .res (mz (decide (l = m))) [] [], [(4, .ex Nat fun i => .ex Bool fun b => .st { sl := [(5, mz b), (6, bt i)], dn := [i ≤ l.length, b = decide (l.length = m.length ∧ l.take i = m.take i)], m := l.length - i })])
  | _ => none
theorem v25 : VI T0 Tryz.f49 [some .bool] D25 := by
  refine jN fun a => ?_
  unfold D25
  split
  rotate_left
  · trivial
  rename_i l m
  intro hp
  refine Am (A := (∃ (a : Nat), ∃ (a_1 : Bool), ((↑l.length : Int) == (↑m.length : Int)) = a_1 ∧ (0 : Int) = (↑a : Int) ∧ a ≤ l.length ∧ a_1 = decide (l.length = m.length ∧ List.take a l = List.take a m) ∧ l.length - a < (1000000 : Nat)) ∧ ∀ (a : Nat) (a_1 : Bool), a ≤ l.length → a_1 = decide (l.length = m.length ∧ List.take a l = List.take a m) → aI a_1 (aI (decide ((↑a : Int) < (↑l.length : Int))) (((0 : Int) ≤ (↑a : Int) ∧ (↑a : Int) < (↑l.length : Int)) ∧ ((0 : Int) ≤ (↑a : Int) ∧ (↑a : Int) < (↑m.length : Int)) ∧ dK ((↑a : Int) + (1 : Int)) ∧ ∃ (a_2 : Nat), ∃ (a_3 : Bool), l = l ∧ m = m ∧ false = false ∧ (l.getD a (0 : Int) == m.getD a (0 : Int)) = a_3 ∧ (↑a : Int) + (1 : Int) = (↑a_2 : Int) ∧ a_2 ≤ l.length ∧ a_3 = decide (l.length = m.length ∧ List.take a_2 l = List.take a_2 m) ∧ l.length - a_2 < l.length - a) (a_1 = decide (l = m) ∧ True)) (a_1 = decide (l = m) ∧ True)) (by kernel_rfl) ?_
  obtain ⟨h1, h2, -⟩ := hp
  simp only [bJ, dm, dK, and_true, true_and, eq_self]
  refine ⟨⟨0, _, rfl, rfl, by omega, ?_, by omega⟩, fun i b h3 h4 => ?_⟩
  · rw [Bool.eq_iff_iff]; simp; omega
  rw [iB]
  subst h4
  simp only [decide_eq_true_eq, decide_eq_false_iff_not]
  refine ⟨fun h5 => ⟨fun h6 => ⟨by omega, by omega, by omega, i + 1, _, rfl, by omega, by omega, ?_, by omega⟩, fun h6 => ?_⟩, fun h5 => ?_⟩
  · rw [Bool.eq_iff_iff, decide_eq_true_eq, take_one (by omega), take_one (by omega), beq_iff_eq]
    refine ⟨fun h => ⟨h5.1, by rw [h5.2, h]⟩, fun h => ?_⟩
    have := List.append_inj_right' h.2 rfl
    simpa using this
  · rw [decide_eq_decide]
    have e1 := h5.2
    rw [List.take_of_length_le (by omega), List.take_of_length_le (by omega)] at e1
    exact ⟨fun _ => e1, fun h => h5⟩
  · rw [decide_eq_decide]
    exact ⟨fun h => absurd h h5, fun h => by subst h; exact absurd ⟨rfl, rfl⟩ h5⟩
def G7 : gh := T0.dw 49 fun a => dS (D25 a)
def D26 : List TV → Dn
  | [.agg [.sl (.int .i64) au .no, .sl (.int .i64) al .no, .val (.int .i64 aw), .sl (.int .i64) aq .no], .agg [.sl (.int .i64) bu .no, .sl (.int .i64) bl .no, .val (.int .i64 bw), .sl (.int .i64) bq .no]] => some ([Sh au al aq, Sh bu bl bq], .res (mz (decide (au = bu ∧ al = bl ∧ aw = bw ∧ aq = bq))) [] [], [])
  | _ => none
theorem v26 : VI G7 Tryz.f48 [some .bool] D26 := by
  refine jN fun a => ?_
  unfold D26
  split
  rotate_left
  · trivial
  rename_i u l w ls u2 l2 w2 FX
  intro hp
  refine Am (A := u.length ≤ (1000 : Nat) ∧ u2.length ≤ (1000 : Nat) ∧ aI (decide (u = u2)) (l.length ≤ (1000 : Nat) ∧ l2.length ≤ (1000 : Nat) ∧ aI (decide (l = l2)) (aI (w == w2) (ls.length ≤ (1000 : Nat) ∧ FX.length ≤ (1000 : Nat) ∧ decide (ls = FX) = decide (u = u2 ∧ l = l2 ∧ w = w2 ∧ ls = FX) ∧ True) (false = decide (u = u2 ∧ l = l2 ∧ w = w2 ∧ ls = FX) ∧ True)) (false = decide (u = u2 ∧ l = l2 ∧ w = w2 ∧ ls = FX) ∧ True)) (false = decide (u = u2 ∧ l = l2 ∧ w = w2 ∧ ls = FX) ∧ True)) (by kernel_rfl) ?_
  obtain ⟨⟨a1, a2, a3⟩, ⟨b1, b2, b3⟩, -⟩ := hp
  simp only [bJ, dm, and_true]
  refine ⟨a1, b1, fun h1 => ⟨a2, b2, fun h2 => ⟨fun h3 => ⟨a3, b3, ?_⟩, fun h3 => ?_⟩, fun h2 => ?_⟩, fun h1 => ?_⟩
  · rw [decide_eq_decide]; exact ⟨fun h => ⟨h1, h2, h3, h⟩, fun h => h.2.2.2⟩
  · rw [decide_eq_false fun h => h3 h.2.2.1]
  · rw [decide_eq_false fun h => h2 h.2.1]
  · rw [decide_eq_false fun h => h1 h.1]
theorem Ny {c : Bool} {A B : Prop} (h : c = true) (hB : B) : aI (!c) A B := by subst h; exact hB
theorem W9 {p : PD} (h : F4 p = true) : dH p := by
  have := of_decide_eq_true h
  exact ⟨by omega, by omega, by omega⟩
structure MI (aV : bk) : Prop where
  dup : ∀ (l : List Int) d, l.length ≤ 1000 → RT c9 [] (.sl bW l .no) d → ∃ r, aV 43 [d] = some r ∧ r.pure = true ∧ RT c9 [] (.sl bW l .no) r
section
variable {aV : bk} (tk : oK aV) (tu : MI aV)
theorem Np {T : gh} {k : Nat} (tu : MI aV) (hT : jU aV k T) : jU aV k (T.dw 43 S58) := Il hT fun n a p s hs hp => by
  unfold S58 at hs
  split at hs
  · rename_i l
    cases hs
    intro bY hd
    obtain ⟨d, _, rfl, h1, h2⟩ := ai hd
    rw [aF h2]
    obtain ⟨r, k1, k2, k3⟩ := tu.dup l d hp.1 h1
    exact ⟨r, _, by simp only [xl, iS, k1, k2, if_true], k2, k3, rfl, rfl, trivial⟩
  · cases hs
include tk
theorem Z2 : jU aV 1 G1 := qI tk (gm tk) (by decide) Tryz.func100 rfl v107 (iC (gm tk))
theorem Z1 : jU aV 2 G2 := qI tk (Z2 tk) (by decide) Tryz.func93 rfl abx (iC (Z2 tk))
theorem Z0 : jU aV 3 G3 := qI tk (Z1 tk) (by decide) Tryz.func92 rfl v91 (iC (Z1 tk))
theorem ZZ : jU aV 1 G7 := qI tk (gm tk) (by decide) Tryz.func49 rfl v25 (iC (gm tk))
end
end Go.Tv
end
section
namespace Go.Tv
open Go Go.Di Go.Proofs
def WK (la ub:List Int) (nb k:Nat):List Int:=((List.range k).map fun(j:Nat)=>(j:Int)-(nb:Int)).filterMap fun s=>if 3≤(stA la ub s).2.2 then some ((stA la ub s).2.1-(stA la ub s).1) else none
def WH (ua la:List Int) (x:Int) (ub lb:List Int) (y:Int):List Int:=WK (bU x ua la) (bT y ub lb) ub.length (ub.length+ua.length+1)
def WJ (ua la ub lb ys:List Int) (x:Int):List Int:=ys.flatMap (WH ua la x ub lb)
def acP (ua la lsa ub lb lsb:List Int):List Int:=lsa.flatMap (WJ ua la ub lb lsb)
theorem eB {l:List Int} {f:Int→List Int} {c:Nat} (h:∀ x,(f x).length≤c):(l.flatMap f).length≤l.length*c:=by
 induction l with
 | nil=>simp
 | cons x l ih =>
  rw[List.flatMap_cons,List.length_append,List.length_cons,Nat.succ_mul]
  have:=h x
  omega
end Go.Tv
end
section
namespace Go.Tv
open Go Go.Di Go.Proofs
set_option maxRecDepth 100000
structure D1 (aV:bk):Prop where
 rev:∀ (l:List Int) d,l.length≤1000000→RT c9 [] (.sl bW l .no) d→∃ r,aV 133 [d]=some r∧r.pure=true∧RT c9 [] (.sl bW l.reverse .no) r
def Wj:List TV→Sp
 | [.sl (.int .i64) l .no]=>some ([l.length≤1000000],.res (.sl bW l.reverse .no) [] [])
 | _=>none
def D79:List TV→Dn
 | [.sl (.int .i64) l .no]=>some ([l≠[],l.length≤1000],.res (.sl bW l .no) [] [],[])
 | _=>none
theorem v79:VI T0 Tryz.f91 [some bZ] D79:=by
 intro a p s j h hp
 unfold D79 at h
 split at h<;>cases h
 rename_i l
 change List Int at l
 obtain⟨h1,h2,-⟩:=hp
 refine sY (A:=l≠[]∧(0:Nat)+l.length≤(1000000000:Nat)∧l=l∧True) (by kernel_rfl) ?_
 exact⟨h1,by omega,rfl,trivial⟩
def D98:List TV→Dn
 | [.sl (.int .i64) l .no,.val (.int .i64 x)]=>some ([l.length≤1000],.res (bt (oW l x)) [] [],[(3,.ex Nat fun i => .st { sl:=[(8,bt i)],dn:=[i≤l.length,x ∉ l.take i],m:=l.length-i })])
 | _=>none
theorem v98:VI T0 Tryz.f122 [some bW] D98:=by
 intro a p s j h hp
 unfold D98 at h
 split at h<;>cases h
 rename_i l x
 change List Int at l
 have h1:=hp.1
 refine sY (A:=(∃ (a:Nat),(0:Int)=(↑a:Int)∧a≤l.length∧¬x∈List.take a l∧l.length-a<(1000000:Nat))∧∀ (a:Nat),a≤l.length→¬x∈List.take a l→aI (decide ((↑a:Int)<(↑l.length:Int))) (((0:Int)≤(↑a:Int)∧(↑a:Int)<(↑l.length:Int))∧aI (x==l.getD a (0:Int)) ((↑a:Int)=oW l x∧True) (dK ((↑a:Int)+(1:Int))∧∃ (a_3:Nat),l=l∧x=x∧(↑l.length:Int)=(↑l.length:Int)∧(↑a:Int)+(1:Int)=(↑a_3:Int)∧a_3≤l.length∧¬x∈List.take a_3 l∧l.length-a_3<l.length-a)) ((-1:Int)=oW l x∧True)) (by kernel_rfl) ?_
 simp only[bJ,dm,cE,cS,eR,dK,and_true,true_and,eq_self]
 refine⟨⟨0,by omega,by omega,by simp,by omega⟩,fun i h2 h3=>⟨fun h4=>⟨by omega,fun h5 => ?_,fun h5=>⟨by omega,i+1,by omega,by omega,?_,by omega⟩⟩,fun h4 => ?_⟩⟩
 ·rw[Lk (by omega) h3 h5.symm]
 ·rw[take_one (by omega)]; simp only[List.mem_append,List.mem_singleton,not_or]; exact⟨h3,h5⟩
 ·rw[show i=l.length by omega,List.take_length] at h3; rw[oW,if_neg h3]
def D99:List TV→Dn
 | [.agg [.sl (.int .i64) u .no,.sl (.int .i64) l .no]]=>some ([],.res (Zj u l) [] [],[])
 | _=>none
theorem v99:VI T0 Tryz.f123 [some (.pair bZ (.pair bZ .unit))] D99:=by
 intro a p s j h hp
 unfold D99 at h
 split at h<;>cases h
 rename_i u l
 refine sY (A:=u=u∧l=l∧True) (by kernel_rfl) ?_
 exact⟨rfl,rfl,trivial⟩
def T0r:gh:=T0.dw 133 Wj
def WA:List TV→Dn
 | [.agg [.sl (.int .i64) u .no,.sl (.int .i64) l .no]]=>some ([u.length≤1000,l.length≤1000],.res (Zj l.reverse u.reverse) [] [],[])
 | _=>none
theorem abz:VI T0r Tryz.f124 [some (.pair bZ (.pair bZ .unit))] WA:=by
 intro a p s j h hp
 unfold WA at h
 split at h<;>cases h
 rename_i u l
 obtain⟨h1,h2,-⟩:=hp
 refine sY (A:=l.length≤(1000000:Nat)∧u.length≤(1000000:Nat)∧l.reverse=l.reverse∧u.reverse=u.reverse∧True) (by kernel_rfl) ?_
 exact⟨by omega,by omega,rfl,rfl,trivial⟩
def Wz:List TV→Dn
 | [.agg [.sl (.int .i64) u .no,.sl (.int .i64) l .no]]=>some ([u.length≤1000,l.length≤1000],.res (Zj u.reverse l.reverse) [] [],[])
 | _=>none
theorem aby:VI T0r Tryz.f125 [some (.pair bZ (.pair bZ .unit))] Wz:=by
 intro a p s j h hp
 unfold Wz at h
 split at h<;>cases h
 rename_i u l
 obtain⟨h1,h2,-⟩:=hp
 refine sY (A:=u.length≤(1000000:Nat)∧l.length≤(1000000:Nat)∧u.reverse=u.reverse∧l.reverse=l.reverse∧True) (by kernel_rfl) ?_
 exact⟨by omega,by omega,rfl,rfl,trivial⟩
def Wy:List TV→Dn
 | [.agg [.sl (.int .i64) u .no,.sl (.int .i64) l .no]]=>some ([],.res (Zj l u) [] [],[])
 | _=>none
theorem Zr:VI T0 Tryz.f126 [some (.pair bZ (.pair bZ .unit))] Wy:=by
 intro a p s j h hp
 unfold Wy at h
 split at h<;>cases h
 rename_i u l
 refine sY (A:=l=l∧u=u∧True) (by kernel_rfl) ?_
 exact⟨rfl,rfl,trivial⟩
def U1:gh:=(((((T0r.dw 91 fun a=>dS (D79 a)).dw 122 fun a=>dS (D98 a)).dw 123 fun a=>dS (D99 a)).dw 124 fun a=>dS (WA a)).dw 125 fun a=>dS (Wz a)).dw 126 fun a=>dS (Wy a)
def D80:List TV→Dn
 | [.sl (.int .i64) l .no,.val (.int .i64 x)]=>some ([l.length≤1000],.res (mz (decide (x∈l))) [] [],[])
 | _=>none
theorem v80:VI U1 Tryz.f95 [some .bool] D80:=by
 intro a p s j h hp
 unfold D80 at h
 split at h<;>cases h
 rename_i l x
 change List Int at l
 have h1:=hp.1
 refine sY (A:=l.length≤(1000:Nat)∧decide (oW l x≥(0:Int))=decide (x∈l)∧True) (by kernel_rfl) ?_
 refine⟨h1,?_,trivial⟩
 rw[decide_eq_decide,oW]
 split<;>simp_all
def D83:List TV→Dn
 | [.val (.int .i64 n),.agg [.sl (.int .i64) u .no,.sl (.int .i64) l .no]]=>some ([u.length≤1000,l.length≤1000,0≤n,n≤3],.res (Zj (bT n u l) (bU n u l)) [] [],[])
 | _=>none
theorem v83:VI U1 Tryz.f98 [some (.pair bZ (.pair bZ .unit))] D83:=by
 intro a p s j h hp
 unfold D83 at h
 split at h<;>cases h
 rename_i n u l
 obtain⟨h1,h2,h3,h4,-⟩:=hp
 refine sY (A:=aI (decide (n=(0:Int))) (u=bT n u l∧l=bU n u l∧True) (aI (decide (n=(1:Int))) (u.length≤(1000:Nat)∧l.length≤(1000:Nat)∧l.reverse=bT n u l∧u.reverse=bU n u l∧True) (aI (decide (n=(2:Int))) (u.length≤(1000:Nat)∧l.length≤(1000:Nat)∧u.reverse=bT n u l∧l.reverse=bU n u l∧True) (aI (decide (n=(3:Int))) (l=bT n u l∧u=bU n u l∧True) False)))) (by kernel_rfl) ?_
 have e:n=0∨n=1∨n=2∨n=3:=by omega
 rcases e with rfl | rfl | rfl | rfl
 ·exact⟨rfl,rfl,trivial⟩
 ·exact⟨h1,h2,rfl,rfl,trivial⟩
 ·exact⟨h1,h2,rfl,rfl,trivial⟩
 ·exact⟨rfl,rfl,trivial⟩
def U2:gh:=(U1.dw 95 fun a=>dS (D80 a)).dw 98 fun a=>dS (D83 a)
abbrev wkV (u l:List Int) (w:Int) (ls:List Int):TV := .agg [.sl bW u .no,.sl bW l .no,bt w,.sl bW ls .no,.sl bW u .no,.sl bW l .no,.sl bW l.reverse .no,.sl bW u.reverse .no,.sl bW u.reverse .no,.sl bW l.reverse .no,.sl bW l .no,.sl bW u .no]
def D50:List TV→Dn
 | [.agg [.sl (.int .i64) u .no,.sl (.int .i64) l .no,.val (.int .i64 w),.sl (.int .i64) ls .no]]=>some ([u.length≤1000,l.length≤1000],.res (wkV u l w ls) [] [],[(4,.un 5)])
 | _=>none
theorem v50:VI U2 Tryz.f61 [none] D50:=by
 refine jN fun a => ?_
 unfold D50
 split
 rotate_left
 ·trivial
 rename_i u l w ls
 intro hp
 refine Am (A:=u.length≤(1000:Nat)∧l.length≤(1000:Nat)∧(0:Int)≤(0:Int)∧(0:Int)≤(3:Int)∧True∧dK (1:Int)∧u.length≤(1000:Nat)∧l.length≤(1000:Nat)∧(0:Int)≤(1:Int)∧(1:Int)≤(3:Int)∧True∧dK (2:Int)∧u.length≤(1000:Nat)∧l.length≤(1000:Nat)∧(0:Int)≤(2:Int)∧(2:Int)≤(3:Int)∧True∧dK (3:Int)∧u.length≤(1000:Nat)∧l.length≤(1000:Nat)∧(0:Int)≤(3:Int)∧(3:Int)≤(3:Int)∧True∧dK (4:Int)∧u=u∧l=l∧w=w∧ls=ls∧bT (0:Int) u l=u∧bU (0:Int) u l=l∧bT (1:Int) u l=l.reverse∧bU (1:Int) u l=u.reverse∧bT (2:Int) u l=u.reverse∧bU (2:Int) u l=l.reverse∧bT (3:Int) u l=l∧bU (3:Int) u l=u∧True) (by kernel_rfl) ?_
 obtain⟨h1,h2,-⟩:=hp
 simp only[dK]
 repeat' (first | exact h1 | exact h2 | omega | rfl | trivial | apply And.intro)
section
variable {aV:bk} (tk:oK aV) (tr:D1 aV)
theorem iV {k:Nat} {T:gh} (h:jU aV k T):∀ m,jU aV (m+k) T
 | 0=>by rwa [Nat.zero_add]
 | m+1=>by have:=iC (iV h m); rwa [Nat.add_right_comm] at this
theorem GU {T:gh} {k:Nat} (tr:D1 aV) (hT:jU aV k T):jU aV k (T.dw 133 Wj):=Il hT fun n a p s hs hp=>by
 unfold Wj at hs
 split at hs
 ·rename_i l
  cases hs
  intro bY hd
  obtain⟨d,_,rfl,h1,h2⟩:=ai hd
  rw[aF h2]
  obtain⟨r,k1,k2,k3⟩:=tr.rev l d hp.1 h1
  exact⟨r,_,by simp only[xl,iS,k1,k2,if_true],k2,k3,rfl,rfl,trivial⟩
 ·cases hs
include tk tr
theorem Vr:jU aV 1 U1:=qI tk (gm tk) (by decide) Tryz.func126 rfl Zr (qI tk (GU tr (gm tk)) (by decide) Tryz.func125 rfl aby (qI tk (GU tr (gm tk)) (by decide) Tryz.func124 rfl abz (qI tk (gm tk) (by decide) Tryz.func123 rfl v99 (qI tk (gm tk) (by decide) Tryz.func122 rfl v98 (qI tk (gm tk) (by decide) Tryz.func91 rfl v79 (iC (GU tr (gm tk))))))))
theorem abA:jU aV 2 U2:=qI tk (Vr tk tr) (by decide) Tryz.func98 rfl v83 (qI tk (Vr tk tr) (by decide) Tryz.func95 rfl v80 (iC (Vr tk tr)))
def W8:gh:=((T8.dw 91 fun a=>dS (D79 a)).dw 95 fun a=>dS (D80 a)).dw 61 fun a=>dS (D50 a)
end
end Go.Tv
end
section
namespace Go.Tv
open Go Go.Di Go.Proofs
def fo (n:Int) (q:List Int):List Int:=q.map fun x=>uW x n
def kV (l:List Int):List Int:=l.mergeSort fun x y=>decide (x≤y)
theorem four {x:Int} (h:0≤x∧x≤3):x=0∨x=1∨x=2∨x=3:=by omega
theorem yy {x n:Int} (hx:0≤x∧x≤3) (hn:0≤n∧n≤3):(0≤uW x n∧uW x n≤3)∧uW (uW x n) n=x:=by
 rcases four hx with rfl | rfl | rfl | rfl<;>rcases four hn with rfl | rfl | rfl | rfl<;>decide
theorem Bu {l:List Int} (h:l.Pairwise (· < ·)):l.Nodup:=h.imp fun h=>by omega
theorem y6 {n x:Int} {q:List Int}:x∈dY n q 4↔(0≤x∧x≤3)∧uW x n∈q:=by
 simp only[dY,List.mem_filter,List.mem_map,List.mem_range,decide_eq_true_eq]
 constructor
 ·rintro⟨⟨k,hk,rfl⟩,h⟩
  exact⟨by simp only[Int.ofNat_eq_natCast]; omega,h⟩
 ·rintro⟨h1,h2⟩
  exact⟨⟨x.toNat,by omega,by simp only[Int.ofNat_eq_natCast]; omega⟩,h2⟩
theorem Ks {q:List Int} {n:Int} (hl:∀ x∈q,0≤x∧x≤3) (ha:q.Pairwise (· < ·)) (hn:0≤n∧n≤3):kV (fo n q)=dY n q 4:=by
 have h1:(fo n q).Nodup:=by
  have:=Bu ha
  unfold fo
  rw[List.Nodup,List.pairwise_map]
  refine this.imp_of_mem fun {a b} ha hb mm e=>mm ?_
  rw[← (yy (hl a ha) hn).2,← (yy (hl b hb) hn).2,e]
 have h2:=BD n q 4
 have hp:(fo n q).Perm (dY n q 4):=(List.perm_ext_iff_of_nodup h1 (Bu h2)).2 fun x=>by
  rw[y6,fo,List.mem_map]
  constructor
  ·rintro⟨y,hy,rfl⟩
   have:=yy (hl y hy) hn
   exact⟨this.1,by rw[this.2]; exact hy⟩
  ·rintro⟨hx,h⟩
   exact⟨_,h,(yy hx hn).2⟩
 refine List.Perm.eq_of_pairwise (le:=fun a b:Int=>a≤b) (fun a b _ _ h1 h2=>by omega) ?_ (h2.imp fun h=>by omega) ((List.mergeSort_perm _ _).trans hp)
 have:=List.pairwise_mergeSort (le:=fun x y:Int=>decide (x≤y)) (fun a b c h1 h2=>by simp at *; omega) (fun a b=>by simp; omega) (fo n q)
 exact this.imp fun h=>by simpa using h
end Go.Tv
end
section
namespace Go.Tv
open Go Go.Di Go.Proofs
set_option maxRecDepth 100000
def sU : Code → Code
 | .seq a _ => a
 | _ => .skip
def kz : Code → Code
 | .seq _ b => b
 | _ => .skip
def uX : List Code → Code → Code
 | [], r => r
 | c :: l, r => .seq c (uX l r)
noncomputable def y0 : Code := wE Tryz.f52
noncomputable def y5 : Code := kz (kz (kz (kz (kz y0))))
noncomputable def Zt : List Code := [sU y0, sU (kz y0), sU (kz (kz y0)), sU (kz (kz (kz y0))), sU (kz (kz (kz (kz y0)))), sU (sU y5)]
noncomputable def yo : Code := kz (sU y5)
noncomputable def D3 : Code := sU (kz y5)
noncomputable def Gr : Code := kz (kz y5)
theorem aab : y0 = uX [sU y0, sU (kz y0), sU (kz (kz y0)), sU (kz (kz (kz y0))), sU (kz (kz (kz (kz y0))))] (.seq (.seq (sU (sU y5)) yo) (.seq D3 Gr)) := by kernel_rfl
def LT : gh := U2.dw 89 fun a => dS (D77 a)
abbrev acZ (u l : TV) (w : Int) (q : TV) : List TV := [u, l, bt w, q]
def Vu (u l q : List Int) (w n : Int) : List TV := JZ 60 [JJ u l w q, bt n]
def zeroV : List TV := [.eu, .eu, bt 0, .eu]
def Mo (q : List Int) (n : Int) : List TV := ((((((List.replicate 60 TV.unk).set 1 (bt n)).set 4 (.ptr 1 0)).set 8 (.ptr 12 0)).set 41 (.sl bW q .no)).set 42 (bt q.length)).set 43 (bt 0)
def QH : List TV := ((List.replicate 60 TV.unk).set 4 (.ptr 1 0)).set 8 (.ptr 12 0)
def L0 (c : List TV) : List TB := ((List.replicate 13 TB.none).set 1 (.cells zeroV)).set 12 (.cells c)
def Wb (B : List Nat) (j6 : List TV) (gT : List TB) (e : DX) (te : List TV) (tS : List TB) : Prop :=
 match e with
 | .normal => IF B j6 gT { sl := [] } te tS True
 | _ => False
theorem NJ {u l q : List Int} {w : Int} (h : Ok u l w q) : gf u l w q = 0 := by
 exact CA.2 h
theorem Sw {u l q : List Int} {w : Int} (h : Ok u l w q) (n : Int) : bT n u l ≠ [] ∧ (bT n u l).length ≤ 1000 := by
 have h1 := h.n3
 have h2 := h.n8
 have h3 := h.len
 have : (bT n u l).length = u.length := by unfold bT; (repeat' split) <;> simp [h3]
 exact ⟨fun e => by rw [e] at this; simp at this; omega, by omega⟩
theorem Sy {u l q : List Int} {w : Int} (h : Ok u l w q) (n : Int) : bU n u l ≠ [] ∧ (bU n u l).length ≤ 1000 := by
 have h1 := h.n3
 have h2 := h.n8
 have h3 := h.len
 have : (bU n u l).length = u.length := by unfold bU; (repeat' split) <;> simp [h3]
 exact ⟨fun e => by rw [e] at this; simp at this; omega, by omega⟩
theorem xA1 (u l q : List Int) (w n : Int) (h : Ok u l w q) (hn : 0 ≤ n ∧ n ≤ 3) : Hd (sZ Tp Ty LC LT (DT Tp Ty LC LT 0) [] [] (uX Zt .skip) 0 0 (Vu u l q w n) [] (Wb [] (Mo q n) (L0 [.sl bW (bT n u l) .no, .sl bW (bU n u l) .no, bt w, .eu]))) := by
 refine Am (A := Sh u l q ∧ aI (gf u l w q != (0 : Int)) False (aI (decide (n < (0 : Int))) False (aI (decide (n > (3 : Int))) False (u.length ≤ (1000 : Nat) ∧ l.length ≤ (1000 : Nat) ∧ (0 : Int) ≤ n ∧ n ≤ (3 : Int) ∧ bT n u l ≠ [] ∧ (bT n u l).length ≤ (1000 : Nat) ∧ bU n u l ≠ [] ∧ (bU n u l).length ≤ (1000 : Nat) ∧ n = n ∧ q = q ∧ (↑q.length : Int) = (↑q.length : Int) ∧ (0 : Int) = (0 : Int) ∧ (0 : Int) = (0 : Int) ∧ bT n u l = bT n u l ∧ bU n u l = bU n u l ∧ w = w ∧ True)))) (by kernel_rfl) ?_
 have hc := NJ h
 have hs := A1 h
 have hU := Sw h n
 have hL := Sy h n
 simp only [bJ, cE, and_true, true_and, eq_self]
 exact ⟨hs, fun _ => ⟨fun e => absurd e (by omega), fun _ => ⟨fun e => absurd e (by omega), fun _ => ⟨hs.1, hs.2.1, hn.1, hn.2, hU.1, hU.2, hL.1, hL.2⟩⟩⟩, fun e => e hc⟩
theorem N5 {n : Int} {q : List Int} {k : Nat} (h : k < q.length) : fo n (q.take k) ++ [uW (q.getD k 0) n] = fo n (q.take (k + 1)) := by
 rw [fo, fo, List.take_add_one, List.map_append]
 simp [List.getD_eq_getElem?_getD, h]
def Ie (a : Option Addr) (k c : Nat) : TV := .val (.slice a k c)
def jY (q : List Int) (w n : Int) (a0 a1 : Option Addr) (k0 c0 k1 c1 : Nat) : List (Nat × LA) := [(0, .ex Nat fun k => .st { sl := [(43, bt k)], pl := [(12, [Ie a0 k0 c0, Ie a1 k1 c1, bt w, .sl bW (fo n (q.take k)) (.oC 13)])], own := [(3, 1)], dn := [k ≤ q.length], m := q.length - k })]
theorem xA2 (q : List Int) (w n : Int) (a0 a1 : Option Addr) (k0 c0 k1 c1 : Nat) (hq : q.length ≤ 1000) : Hd (sZ Tp Ty LC LT (DT Tp Ty LC LT 0) [1, 12] (jY q w n a0 a1 k0 c0 k1 c1) yo 0 272 (Mo q n) (L0 [Ie a0 k0 c0, Ie a1 k1 c1, bt w, .eu]) (Wb [1, 12] QH (L0 [Ie a0 k0 c0, Ie a1 k1 c1, bt w, .sl bW (fo n q) (.oC 13)] ++ [.own 3 1]))) := by
 refine Am (A := (∃ (a : Nat), (0 : Int) = (↑a : Int) ∧ Value.slice a0 k0 c0 = Value.slice a0 k0 c0 ∧ Value.slice a1 k1 c1 = Value.slice a1 k1 c1 ∧ w = w ∧ [] = fo n (List.take a q) ∧ a ≤ q.length ∧ (q.length - a) < (1000000 : Nat)) ∧ ∀ (a : Nat), a ≤ q.length → aI (decide ((↑a : Int) < (↑q.length : Int))) (((0 : Int) ≤ (↑a : Int) ∧ (↑a : Int) < (↑q.length : Int)) ∧ (fo n (List.take a q)).length + (1 : Nat) ≤ (1000000000 : Nat) ∧ dK ((↑a : Int) + (1 : Int)) ∧ ∃ (a_2 : Nat), n = n ∧ q = q ∧ (↑q.length : Int) = (↑q.length : Int) ∧ (↑a : Int) + (1 : Int) = (↑a_2 : Int) ∧ (0 : Int) = (0 : Int) ∧ Value.slice a0 k0 c0 = Value.slice a0 k0 c0 ∧ Value.slice a1 k1 c1 = Value.slice a1 k1 c1 ∧ w = w ∧ fo n (List.take a q) ++ [IntKind.i64.wrap (↑(BitVec.ofInt (64 : Nat) (q.getD a (0 : Int)) ^^^ BitVec.ofInt (64 : Nat) n).toNat : Int)] = fo n (List.take a_2 q) ∧ a_2 ≤ q.length ∧ (q.length - a_2) < (q.length - a)) ((0 : Int) = (0 : Int) ∧ Value.slice a0 k0 c0 = Value.slice a0 k0 c0 ∧ Value.slice a1 k1 c1 = Value.slice a1 k1 c1 ∧ w = w ∧ fo n (List.take a q) = fo n q ∧ True)) (by kernel_rfl) ?_
 simp only [bJ, dK, and_true, true_and, eq_self]
 refine ⟨⟨0, by omega, by simp [fo], by omega, by show q.length - 0 < 1000000; omega⟩, fun k hk => ⟨fun h1 => ⟨by omega, by simp [fo]; omega, by omega, k + 1, by omega, N5 (by omega), by omega, by show q.length - (k + 1) < q.length - k; omega⟩, fun h1 => ?_⟩⟩
 rw [show k = q.length by omega, List.take_length]
theorem xA3 (u l q : List Int) (w : Int) : Hd (sZ Tp Ty LC LT (DT Tp Ty LC LT 0) [] [] Gr 0 0 QH (L0 [.sl bW u .no, .sl bW l .no, bt w, .sl bW q .no]) (J8 (Q3 Ty (Tryz.f52.results.toList) [some aJ, some bW] (.res (.ep [.agg [.sl bW u .no, .sl bW l .no, bt w, .sl bW q .no], bt 0]) [] [])))) := by
 refine Am (A := u = u ∧ l = l ∧ w = w ∧ q = q ∧ (0 : Int) = (0 : Int) ∧ True) (by kernel_rfl) ?_
 exact ⟨rfl, rfl, rfl, rfl, rfl, trivial⟩
section
variable {aV : bk} (tk : oK aV) (tr : D1 aV)
include tk tr
theorem lok : jU aV 5 LT := qI tk (QD tk) (by decide) Tryz.func89 rfl v77 (iV (abA tk tr) 3)
end
end Go.Tv
end
section
namespace Go.Tv
open Go Go.Di Go.Proofs
set_option maxRecDepth 100000
structure Wh (aV:bk):Prop where
 lay:∀ (u l q:List Int) (w n:Int) d1 d2,Ok u l w q→0≤n∧n≤3→RT c9 [] (JJ u l w q) d1→RT c9 [] (bt n) d2→∃ r,aV 52 [d1,d2]=some r∧r.pure=true∧RT c9 [] (.ep [JJ (bT n u l) (bU n u l) w (dY n q 4),bt 0]) r
 no:∀ (u l q:List Int) (w n:Int) d1 d2,¬ (gf u l w q=0∧0≤n∧n≤3)→RT c9 [] (JJ u l w q) d1→RT c9 [] (bt n) d2→aV 52 [d1,d2]=none
def S52:List TV→Sp
 | [.agg [.sl (.int .i64) u .no,.sl (.int .i64) l .no,.val (.int .i64 w),.sl (.int .i64) q .no],.val (.int .i64 n)]=>some ([Ok u l w q,0≤n∧n≤3],.res (.ep [JJ (bT n u l) (bU n u l) w (dY n q 4),bt 0]) [] [])
 | _=>none
theorem Xr {u l q:List Int} {w n:Int} (h:Ok u l w q) (hn:0≤n∧n≤3):Ok (bT n u l) (bU n u l) w (dY n q 4):=by
 have h1:=h.n3
 have h2:=h.n8
 have h3:=h.len
 have hlen:(bT n u l).length=u.length∧(bU n u l).length=u.length:=by
  rcases four hn with rfl | rfl | rfl | rfl<;>simp[bT,bU,h3]
 have hm:(∀ x∈bT n u l,x∈u∨x∈l)∧∀ x∈bU n u l,x∈u∨x∈l:=by
  rcases four hn with rfl | rfl | rfl | rfl<;>simp[bT,bU]<;>exact⟨fun x h=>by simp[h],fun x h=>by simp[h]⟩
 refine⟨by omega,by omega,by omega,fun x hx=>(hm.1 x hx).elim (h.hu x) (h.hl x),fun x hx=>(hm.2 x hx).elim (h.hu x) (h.hl x),h.w0,h.w2,?_,fun x hx=>(y6.1 hx).1,BD _ _ _⟩
 obtain⟨y,hy⟩:=List.exists_mem_of_ne_nil _ h.ne
 have:=yy (h.UW y hy) hn
 intro e
 have:uW y n∈dY n q 4:=y6.2 ⟨this.1,by rw[this.2]; exact hy⟩
 rw[e] at this
 cases this
section
variable {aV:bk}
end
end Go.Tv
end
