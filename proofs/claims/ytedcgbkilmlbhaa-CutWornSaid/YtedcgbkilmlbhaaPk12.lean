import Derived.Test.YtedcgbkilmlbhaaPk11
section
namespace Go.Tv
open Go Go.Di Go.Proofs
set_option maxRecDepth 100000
def D42 : List TV → Dn
 | [.sl (.pair (.sl (.int .i64)) (.pair (.sl (.int .i64)) (.pair (.int .i64) (.pair (.sl (.int .i64)) .unit)))) l .no] => some ([l.length ≤ 1000, ∀ p ∈ l, jJ p], .res (bX (if 4 < l.length then 6 else gD l)) [] [], [])
 | _ => none
theorem v42 : VI T6 Try.f43 [some cv] D42 := by
 refine nN fun a => ?_
 unfold D42
 split
 rotate_left
 ·trivial
 rename_i l
 intro hp
 refine G3 (A := aL (decide ((↑l.length : Int) > (4 : Int))) (((6 : Int) = if (4 : Nat) < l.length then (6 : Int) else gD l) ∧ True) (l.length ≤ (1000 : Nat) ∧ (∀ (p : (gI).den), p ∈ l → jJ p) ∧ (gD l = if (4 : Nat) < l.length then (6 : Int) else gD l) ∧ True)) (by kernel_rfl) ?_
 obtain ⟨h1, h2, -⟩ := hp
 simp only [cZ, and_true]
 exact ⟨fun h => by rw [if_pos (by omega)], fun h => ⟨by omega, h2, by rw [if_neg (by omega)]⟩⟩
def F0 : gN := T6.dQ 43 fun a => dS (D42 a)
def D48 : List TV → Dn
 | [.sl (.pair (.sl (.int .i64)) (.pair (.sl (.int .i64)) (.pair (.int .i64) (.pair (.sl (.int .i64)) .unit)))) l .no, .val (.int .i64 a), .val (.int .i64 b)] => some ([l.length ≤ 4, ∀ p ∈ l, jJ p, gD l = 0, 0 ≤ a, a < l.length, 0 ≤ b, b < l.length, a ≠ b], .res (bX 0) [] [], [])
 | _ => none
theorem v48 : VI F0 Try.f30 [some cv] D48 := by
 refine nN fun a => ?_
 unfold D48
 split
 rotate_left
 ·trivial
 rename_i l x y
 intro hp
 refine G3 (A := l.length ≤ (1000 : Nat) ∧ (∀ (p : (gI).den), p ∈ l → jJ p) ∧ aL ((if (4 : Nat) < l.length then (6 : Int) else gD l) != (0 : Int)) ((if (4 : Nat) < l.length then (6 : Int) else gD l) = (0 : Int) ∧ True) (aL (decide (x < (0 : Int))) ((3 : Int) = (0 : Int) ∧ True) (aL (decide (y < (0 : Int))) ((3 : Int) = (0 : Int) ∧ True) (aL (decide (x ≥ (↑l.length : Int))) ((3 : Int) = (0 : Int) ∧ True) (aL (decide (y ≥ (↑l.length : Int))) ((3 : Int) = (0 : Int) ∧ True) (aL (x == y) ((4 : Int) = (0 : Int) ∧ True) ((0 : Int) = (0 : Int) ∧ True))))))) (by kernel_rfl) ?_
 obtain ⟨h1, h2, h3, h4, h5, h6, h7, h8, -⟩ := hp
 rw [if_neg (by omega), h3]
 simp only [cZ, eu, dK, and_true]
 exact ⟨by omega, h2, fun _ => ⟨fun h => by omega, fun _ => ⟨fun h => by omega, fun _ => ⟨fun h => by omega, fun _ => ⟨fun h => by omega, fun _ => ⟨fun h => absurd h h8, fun _ => trivial⟩⟩⟩⟩⟩, fun h => absurd trivial h⟩
def F2 : gN := (((F0.dQ 32 fun a => dS (Yn a)).dQ 30 fun a => dS (D48 a)).dQ 33 S60).dQ 31 fun a => dS (D31 a)
def E11 : List TV → Dn
 | [.sl (.pair (.sl (.int .i64)) (.pair (.sl (.int .i64)) (.pair (.int .i64) (.pair (.sl (.int .i64)) .unit)))) [(ua, la, wa, qa, _), (ub, lb, wb, qb, _)] .no, .val (.int .i64 0), .val (.int .i64 1)] => some ([Ok ua la wa qa, Ok ub lb wb qb], .res (.fB [.sl jw (ai ua la qa ub lb qb (wa + wb)) .no, bX 0]) [] [], [])
 | [.sl (.pair (.sl (.int .i64)) (.pair (.sl (.int .i64)) (.pair (.int .i64) (.pair (.sl (.int .i64)) .unit)))) [(ua, la, wa, qa, _), (ub, lb, wb, qb, _)] .no, .val (.int .i64 1), .val (.int .i64 0)] => some ([Ok ua la wa qa, Ok ub lb wb qb], .res (.fB [.sl jw (ai ub lb qb ua la qa (wb + wa)) .no, bX 0]) [] [], [])
 | _ => none
theorem IY : VI F2 Try.f11 [some (.sl jw), some cv] E11 := by
 refine nN fun a => ?_
 unfold E11
 split
 rotate_left 2
 ·trivial
 ·rename_i ua la wa qa za ub lb wb qb zb
  intro hp
  obtain ⟨h1, h2, -⟩ := hp
  refine G3 (A := (2 : Nat) ≤ (4 : Nat) ∧ (∀ (p : (gI).den), p ∈ [(ua, la, wa, qa, za), (ub, lb, wb, qb, zb)] → jJ p) ∧ gD [(ua, la, wa, qa, za), (ub, lb, wb, qb, zb)] = (0 : Int) ∧ (0 : Int) ≤ (0 : Int) ∧ (0 : Int) < (↑(2 : Nat) : Int) ∧ (0 : Int) ≤ (1 : Int) ∧ (1 : Int) < (↑(2 : Nat) : Int) ∧ (0 : Int) ≠ (1 : Int) ∧ ((0 : Int) ≤ (0 : Int) ∧ (0 : Int) < (↑(2 : Nat) : Int)) ∧ List.length ua ≤ (1000 : Nat) ∧ List.length la ≤ (1000 : Nat) ∧ ((0 : Int) ≤ (1 : Int) ∧ (1 : Int) < (↑(2 : Nat) : Int)) ∧ List.length ub ≤ (1000 : Nat) ∧ List.length lb ≤ (1000 : Nat) ∧ Ok ua la wa qa ∧ Ok ub lb wb qb ∧ ua = ua ∧ la = la ∧ List.reverse la = List.reverse la ∧ List.reverse ua = List.reverse ua ∧ List.reverse ua = List.reverse ua ∧ List.reverse la = List.reverse la ∧ la = la ∧ ua = ua ∧ ub = ub ∧ lb = lb ∧ List.reverse lb = List.reverse lb ∧ List.reverse ub = List.reverse ub ∧ List.reverse ub = List.reverse ub ∧ List.reverse lb = List.reverse lb ∧ lb = lb ∧ ub = ub ∧ ai ua la qa ub lb qb (wa + wb) = ai ua la qa ub lb qb (wa + wb) ∧ (0 : Int) = (0 : Int) ∧ True) (by kernel_rfl) ?_
  have s1 := lq h1
  have s2 := lq h2
  simp only [eq_self, and_true]
  exact ⟨by omega, xJ (wa := wa) (wb := wb) s1 s2, oH h1 h2, by omega, by omega, by omega, by omega, by omega, ⟨by omega, by omega⟩, s1.1, s1.2.1, ⟨by omega, by omega⟩, s2.1, s2.2.1, h1, h2⟩
 ·rename_i ua la wa qa za ub lb wb qb zb
  intro hp
  obtain ⟨h1, h2, -⟩ := hp
  refine G3 (A := (2 : Nat) ≤ (4 : Nat) ∧ (∀ (p : (gI).den), p ∈ [(ua, la, wa, qa, za), (ub, lb, wb, qb, zb)] → jJ p) ∧ gD [(ua, la, wa, qa, za), (ub, lb, wb, qb, zb)] = (0 : Int) ∧ (0 : Int) ≤ (1 : Int) ∧ (1 : Int) < (↑(2 : Nat) : Int) ∧ (0 : Int) ≤ (0 : Int) ∧ (0 : Int) < (↑(2 : Nat) : Int) ∧ (1 : Int) ≠ (0 : Int) ∧ ((0 : Int) ≤ (1 : Int) ∧ (1 : Int) < (↑(2 : Nat) : Int)) ∧ List.length ub ≤ (1000 : Nat) ∧ List.length lb ≤ (1000 : Nat) ∧ ((0 : Int) ≤ (0 : Int) ∧ (0 : Int) < (↑(2 : Nat) : Int)) ∧ List.length ua ≤ (1000 : Nat) ∧ List.length la ≤ (1000 : Nat) ∧ Ok ub lb wb qb ∧ Ok ua la wa qa ∧ ub = ub ∧ lb = lb ∧ List.reverse lb = List.reverse lb ∧ List.reverse ub = List.reverse ub ∧ List.reverse ub = List.reverse ub ∧ List.reverse lb = List.reverse lb ∧ lb = lb ∧ ub = ub ∧ ua = ua ∧ la = la ∧ List.reverse la = List.reverse la ∧ List.reverse ua = List.reverse ua ∧ List.reverse ua = List.reverse ua ∧ List.reverse la = List.reverse la ∧ la = la ∧ ua = ua ∧ ai ub lb qb ua la qa (wb + wa) = ai ub lb qb ua la qa (wb + wa) ∧ (0 : Int) = (0 : Int) ∧ True) (by kernel_rfl) ?_
  have s1 := lq h1
  have s2 := lq h2
  simp only [eq_self, and_true]
  exact ⟨by omega, xJ (wa := wa) (wb := wb) s1 s2, oH h1 h2, by omega, by omega, by omega, by omega, by omega, ⟨by omega, by omega⟩, s2.1, s2.2.1, ⟨by omega, by omega⟩, s1.1, s1.2.1, h2, h1⟩
def E10 : List TV → Dn
 | [.sl (.pair (.sl (.int .i64)) (.pair (.sl (.int .i64)) (.pair (.int .i64) (.pair (.sl (.int .i64)) .unit)))) [(ua, la, wa, qa, _), (ub, lb, wb, qb, _)] .no, .val (.int .i64 0), .val (.int .i64 1)] => some ([Ok ua la wa qa, Ok ub lb wb qb], .res (.fB [bX (dD ua la qa ub lb qb wa wb), bX 0]) [] [], [])
 | [.sl (.pair (.sl (.int .i64)) (.pair (.sl (.int .i64)) (.pair (.int .i64) (.pair (.sl (.int .i64)) .unit)))) [(ua, la, wa, qa, _), (ub, lb, wb, qb, _)] .no, .val (.int .i64 1), .val (.int .i64 0)] => some ([Ok ua la wa qa, Ok ub lb wb qb], .res (.fB [bX (dD ub lb qb ua la qa wb wa), bX 0]) [] [], [])
 | _ => none
theorem WG : VI F2 Try.f10 [some cv, some cv] E10 := by
 refine nN fun a => ?_
 unfold E10
 split
 rotate_left 2
 ·trivial
 ·rename_i ua la wa qa za ub lb wb qb zb
  intro hp
  obtain ⟨h1, h2, -⟩ := hp
  refine G3 (A := (2 : Nat) ≤ (4 : Nat) ∧ (∀ (p : (gI).den), p ∈ [(ua, la, wa, qa, za), (ub, lb, wb, qb, zb)] → jJ p) ∧ gD [(ua, la, wa, qa, za), (ub, lb, wb, qb, zb)] = (0 : Int) ∧ (0 : Int) ≤ (0 : Int) ∧ (0 : Int) < (↑(2 : Nat) : Int) ∧ (0 : Int) ≤ (1 : Int) ∧ (1 : Int) < (↑(2 : Nat) : Int) ∧ (0 : Int) ≠ (1 : Int) ∧ ((0 : Int) ≤ (0 : Int) ∧ (0 : Int) < (↑(2 : Nat) : Int)) ∧ List.length ua ≤ (1000 : Nat) ∧ List.length la ≤ (1000 : Nat) ∧ ((0 : Int) ≤ (1 : Int) ∧ (1 : Int) < (↑(2 : Nat) : Int)) ∧ List.length ub ≤ (1000 : Nat) ∧ List.length lb ≤ (1000 : Nat) ∧ Ok ua la wa qa ∧ Ok ub lb wb qb ∧ ua = ua ∧ la = la ∧ List.reverse la = List.reverse la ∧ List.reverse ua = List.reverse ua ∧ List.reverse ua = List.reverse ua ∧ List.reverse la = List.reverse la ∧ la = la ∧ ua = ua ∧ ub = ub ∧ lb = lb ∧ List.reverse lb = List.reverse lb ∧ List.reverse ub = List.reverse ub ∧ List.reverse ub = List.reverse ub ∧ List.reverse lb = List.reverse lb ∧ lb = lb ∧ ub = ub ∧ dD ua la qa ub lb qb wa wb = dD ua la qa ub lb qb wa wb ∧ (0 : Int) = (0 : Int) ∧ True) (by kernel_rfl) ?_
  have s1 := lq h1
  have s2 := lq h2
  simp only [eq_self, and_true]
  exact ⟨by omega, xJ (wa := wa) (wb := wb) s1 s2, oH h1 h2, by omega, by omega, by omega, by omega, by omega, ⟨by omega, by omega⟩, s1.1, s1.2.1, ⟨by omega, by omega⟩, s2.1, s2.2.1, h1, h2⟩
 ·rename_i ua la wa qa za ub lb wb qb zb
  intro hp
  obtain ⟨h1, h2, -⟩ := hp
  refine G3 (A := (2 : Nat) ≤ (4 : Nat) ∧ (∀ (p : (gI).den), p ∈ [(ua, la, wa, qa, za), (ub, lb, wb, qb, zb)] → jJ p) ∧ gD [(ua, la, wa, qa, za), (ub, lb, wb, qb, zb)] = (0 : Int) ∧ (0 : Int) ≤ (1 : Int) ∧ (1 : Int) < (↑(2 : Nat) : Int) ∧ (0 : Int) ≤ (0 : Int) ∧ (0 : Int) < (↑(2 : Nat) : Int) ∧ (1 : Int) ≠ (0 : Int) ∧ ((0 : Int) ≤ (1 : Int) ∧ (1 : Int) < (↑(2 : Nat) : Int)) ∧ List.length ub ≤ (1000 : Nat) ∧ List.length lb ≤ (1000 : Nat) ∧ ((0 : Int) ≤ (0 : Int) ∧ (0 : Int) < (↑(2 : Nat) : Int)) ∧ List.length ua ≤ (1000 : Nat) ∧ List.length la ≤ (1000 : Nat) ∧ Ok ub lb wb qb ∧ Ok ua la wa qa ∧ ub = ub ∧ lb = lb ∧ List.reverse lb = List.reverse lb ∧ List.reverse ub = List.reverse ub ∧ List.reverse ub = List.reverse ub ∧ List.reverse lb = List.reverse lb ∧ lb = lb ∧ ub = ub ∧ ua = ua ∧ la = la ∧ List.reverse la = List.reverse la ∧ List.reverse ua = List.reverse ua ∧ List.reverse ua = List.reverse ua ∧ List.reverse la = List.reverse la ∧ la = la ∧ ua = ua ∧ dD ub lb qb ua la qa wb wa = dD ub lb qb ua la qa wb wa ∧ (0 : Int) = (0 : Int) ∧ True) (by kernel_rfl) ?_
  have s1 := lq h1
  have s2 := lq h2
  simp only [eq_self, and_true]
  exact ⟨by omega, xJ (wa := wa) (wb := wb) s1 s2, oH h1 h2, by omega, by omega, by omega, by omega, by omega, ⟨by omega, by omega⟩, s2.1, s2.2.1, ⟨by omega, by omega⟩, s1.1, s1.2.1, h2, h1⟩
def F3 : gN := ((T6.dQ 12 fun a => dS (D16 a)).dQ 11 fun a => dS (E11 a)).dQ 10 fun a => dS (E10 a)
def Y1 (te : List TV) (k : Int → List gI.den → LA) : LA :=
 match te.getD 4 .unk with
 | .sl (.pair (.sl (.int .i64)) (.pair (.sl (.int .i64)) (.pair (.int .i64) (.pair (.sl (.int .i64)) .unit)))) [(ua, la, wa, qa, _), (ub, lb, wb, qb, _)] _ => k (dD ua la qa ub lb qb wa wb) [(ua, la, wa, qa, ()), (ub, lb, wb, qb, ())]
 | _ => .un 0
def D3 : List TV → Dn
 | [.sl (.int .i64) _ .no] => some ([], .res (mX true) [] [], [(13, .dep fun te _ => Y1 te fun n P => .ex Nat fun x => .st { sl := [(4, .sl gI P .no), (5, bX n), (13, bX x)], eE := [x ≤ 4], m := 4 - x })])
 | _ => none
def v3.q1 (p0 p1 : List Int) (p2 : Int) (p3 p4 p5 : List Int) (p6 : Int) (p7 : List Int) (p8 p9 : Int) (gB tX : Nat) : Prop := p8 = p9 ∧ gB ≤ (4 : Nat) ∧ ((4 : Nat) - gB) < tX
theorem v3 : VI F3 Try.f3 [some .bool] D3 := by
 refine nN fun a => ?_
 unfold D3
 split
 rotate_left
 ·trivial
 rename_i fe
 intro hp
 refine G3 (A := (3 : Int) ≤ (5 : Int) ∧ (5 : Int) ≤ (8 : Int) ∧ ∀ (a a_1 : List Int) (a_2 : Int) (a_3 a_4 : List Int) (a_5 : Int), Ok a a_1 a_2 a_3 → (↑a.length : Int) ≤ (5 : Int) → ((0 : Int) ≤ (0 : Int) ∧ (0 : Int) < (↑(1 : Nat) : Int)) ∧ Ok a a_1 a_2 a_3 ∧ ∀ (a_6 a_7 : List Int) (a_8 : Int) (a_9 a_10 : List Int) (a_11 : Int), Ok a_6 a_7 a_8 a_9 → a_6 = List.map (fun (x : cv.den) => (9 : cv.den) - x) a_1 → (1 : Nat) + (1 : Nat) ≤ (1000000000 : Nat) ∧ Ok a a_1 a_2 a_3 ∧ Ok a_6 a_7 a_8 a_9 ∧ Ok a a_1 a_2 a_3 ∧ Ok a_6 a_7 a_8 a_9 ∧ Ok a a_1 a_2 a_3 ∧ Ok a_6 a_7 a_8 a_9 ∧ Ok a a_1 a_2 a_3 ∧ Ok a_6 a_7 a_8 a_9 ∧ aL (dD a a_1 a_3 a_6 a_7 a_9 a_2 a_8 != dD a_6 a_7 a_9 a a_1 a_3 a_8 a_2) (false = true ∧ True) (cq ((↑(ai a a_1 a_3 a_6 a_7 a_9 (a_2 + a_8)).length : Int) + (↑(ai a_6 a_7 a_9 a a_1 a_3 (a_8 + a_2)).length : Int)) ∧ aL (decide (dD a a_1 a_3 a_6 a_7 a_9 a_2 a_8 > (↑(ai a a_1 a_3 a_6 a_7 a_9 (a_2 + a_8)).length : Int) + (↑(ai a_6 a_7 a_9 a a_1 a_3 (a_8 + a_2)).length : Int))) (false = true ∧ True) (cq ((4 : Int) * dD a a_1 a_3 a_6 a_7 a_9 a_2 a_8) ∧ cq ((↑(ai a a_1 a_3 a_6 a_7 a_9 (a_2 + a_8)).length : Int) + (↑(ai a_6 a_7 a_9 a a_1 a_3 (a_8 + a_2)).length : Int)) ∧ aL (decide ((4 : Int) * dD a a_1 a_3 a_6 a_7 a_9 a_2 a_8 < (↑(ai a a_1 a_3 a_6 a_7 a_9 (a_2 + a_8)).length : Int) + (↑(ai a_6 a_7 a_9 a a_1 a_3 (a_8 + a_2)).length : Int))) (false = true ∧ True) ((∃ (a_12 : Nat), [(a, a_1, a_2, a_3, ()), (a_6, a_7, a_8, a_9, ())] = [(a, a_1, a_2, a_3, ()), (a_6, a_7, a_8, a_9, ())] ∧ dD a a_1 a_3 a_6 a_7 a_9 a_2 a_8 = dD a a_1 a_3 a_6 a_7 a_9 a_2 a_8 ∧ v3.q1 a a_1 a_2 a_3 a_6 a_7 a_8 a_9 (0 : Int) (↑a_12 : Int) a_12 (1000000 : Nat)) ∧ ∀ (a_12 : Nat), a_12 ≤ (4 : Nat) → aL (decide ((↑a_12 : Int) ≤ (3 : Int))) (((0 : Int) ≤ (0 : Int) ∧ (0 : Int) < (↑(2 : Nat) : Int)) ∧ a.length ≤ (1000 : Nat) ∧ a_1.length ≤ (1000 : Nat) ∧ a_3.length ≤ (1000 : Nat) ∧ (0 : Int) ≤ (↑a_12 : Int) ∧ (↑a_12 : Int) ≤ (3 : Int) ∧ ((0 : Int) ≤ (1 : Int) ∧ (1 : Int) < (↑(2 : Nat) : Int)) ∧ Ok (aR (↑a_12 : Int) a a_1) (aT (↑a_12 : Int) a a_1) a_2 (dW (↑a_12 : Int) a_3 (4 : Nat)) ∧ Ok a_6 a_7 a_8 a_9 ∧ aL (dD (aR (↑a_12 : Int) a a_1) (aT (↑a_12 : Int) a a_1) (dW (↑a_12 : Int) a_3 (4 : Nat)) a_6 a_7 a_9 a_2 a_8 != dD a a_1 a_3 a_6 a_7 a_9 a_2 a_8) (false = true ∧ True) (cq ((↑a_12 : Int) + (1 : Int)) ∧ ∃ (a_13 : Nat), [(a, a_1, a_2, a_3, ()), (a_6, a_7, a_8, a_9, ())] = [(a, a_1, a_2, a_3, ()), (a_6, a_7, a_8, a_9, ())] ∧ dD a a_1 a_3 a_6 a_7 a_9 a_2 a_8 = dD a a_1 a_3 a_6 a_7 a_9 a_2 a_8 ∧ (↑a_12 : Int) + (1 : Int) = (↑a_13 : Int) ∧ a_10 = a_10 ∧ v3.q1 a a_1 a_2 a_3 a_6 a_7 a_8 a_9 a_11 a_11 a_13 ((4 : Nat) - a_12))) (true = true ∧ True))))) (by kernel_rfl) ?_
 unfold v3.q1
 simp only [cZ, dK, eq_self, true_and, and_true, Bool.false_eq_true, cq]
 refine ⟨by omega, by omega, fun u l w q r z h _ => ⟨⟨by omega, by omega⟩, h, fun u2 l2 w2 q2 r2 z2 h2 _ => ?_⟩⟩
 have e1 := Nj h h2
 have e2 := HN h h2
 have e3 := HO h h2
 have s1 := mz (w := w + w2) h h2
 have s2 := mz (w := w2 + w) h2 h
 have sp := lq h
 refine ⟨by omega, h, h2, h, h2, h, h2, h, h2, fun _ => ⟨⟨by omega, by omega⟩, fun e => absurd e (by omega), fun _ => ⟨⟨by omega, by omega⟩, ⟨by omega, by omega⟩, fun e => absurd e (by omega), fun _ => ⟨⟨0, rfl, by omega, by first | omega | (dsimp only; omega)⟩, fun x hx => ⟨fun XE => ?_, fun _ => trivial⟩⟩⟩⟩, fun e => e e1.symm⟩
 have gh : 0 ≤ (x : Int) ∧ (x : Int) ≤ 3 := by omega
 exact ⟨⟨by omega, by omega⟩, sp.1, sp.2.1, sp.2.2, by omega, by omega, ⟨by omega, by omega⟩, MH h gh, h2, fun _ => ⟨⟨by omega, by omega⟩, x + 1, by omega, by omega, by first | omega | (dsimp only; omega)⟩, fun e => e (Nk h h2 gh)⟩
section
variable {aZ : bq} (tk : sC aZ) (tr : LI aZ) (ts : Qk aZ)
theorem TA {T : gN} {k : Nat} (ts : Qk aZ) (hT : lg aZ k T) : lg aZ k (T.dQ 33 S60) := Hp hT fun n a p s hs hp => by
 unfold S60 at hs
 split at hs
 ·cases hs
  obtain ⟨o1, o2, rfl, rfl, rfl, rfl, rfl, rfl, rfl, rfl, rfl, rfl, rfl, rfl, rfl, rfl, rfl, rfl, -⟩ := hp
  intro bY hd
  obtain ⟨d1, _, rfl, h1, h2⟩ := aj hd
  obtain ⟨d2, _, rfl, h2, h3⟩ := aj h2
  rw [aM h3]
  obtain ⟨r, k1, k2, k3⟩ := ts.SH _ _ _ _ _ _ _ _ d1 d2 o1 o2 h1 h2
  exact ⟨r, _, by simp only [vY, iC, k1, k2, if_true], k2, k3, rfl, rfl, trivial⟩
 ·cases hs
include tk
theorem Qa : lg aZ 7 F0 := rV tk (Us tk) (by decide) Try.func43 rfl v42 (iW (Us tk))
include ts
theorem aa0 : lg aZ 1 F1 := TA ts (rV tk (iz tk) (by decide) Try.func56 rfl v56 (iW (iz tk)))
include tr
theorem YW : lg aZ 8 F2 := rV tk (jI (aa0 tk ts) 6) (by decide) Try.func31 rfl v31 (TA ts (rV tk (Qa tk) (by decide) Try.func30 rfl v48 (rV tk (jI (Yr tk tr) 5) (by decide) Try.func32 rfl v50 (iW (Qa tk)))))
end
end Go.Tv
end
section
namespace Go.Tv
open Go Go.Di Go.Proofs
set_option maxRecDepth 100000
def D54:List TV→Dn
  | [.val (.int .i64 a),.val (.int .i64 b)]=>some ([],.res (mX (decide (a<b))) [] [],[])
  | _=>none
theorem v54:VI T0 Try.f54 [some .bool] D54:=by
  refine nN fun a => ?_
  unfold D54
  split
  rotate_left
  · trivial
  rename_i a b
  intro hp
  refine G3 (A:=decide (a<b)=decide (a<b)∧True) (by kernel_rfl) ?_
  exact⟨rfl,trivial⟩
def mn (a b:Int):Int:=if b<a then b else a
def J53:List (Nat×LA):=[(4,.dep fun te _=>Vt te 0 fun l => .ex Nat fun i => .st { sl:=[(14,bX i),(5,bX (((l.drop 1).take i).foldl mn (l.getD 0 0)))],eE:=[i≤(l.drop 1).length],m:=(l.drop 1).length-i })]
def nZ (n:Nat) (la ub:List Int) (k:Nat):List Int:=(List.range k).flatMap fun(j:Nat)=>if 3≤(stA la ub ((j:Int)-n)).2.2 then [(stA la ub ((j:Int)-n)).2.1-(stA la ub ((j:Int)-n)).1] else []
def lY (ua la ub lb:List Int) (x:Int) (q:List Int):List Int:=q.flatMap fun y=>nZ ub.length (aT x ua la) (aR y ub lb) (ub.length+ua.length+1)
def bR (ua la qa ub lb qb:List Int):List Int:=qa.flatMap fun x=>lY ua la ub lb x qb
def Ho (te:List TV) (tS:List TB) (k:List Int→List Int→List Int→List Int→List Int→List Int→LA):LA :=
  match te.getD 3 .unk,te.getD 4 .unk with
  | .ptr a _,.ptr b _=>match tS.getD a .none,tS.getD b .none with
    | .cells (.sl (.int .i64) ua _ :: .sl (.int .i64) la _::_ :: .sl (.int .i64) qa _::_),.cells (.sl (.int .i64) ub _ :: .sl (.int .i64) lb _::_ :: .sl (.int .i64) qb _::_)=>k ua la qa ub lb qb
    | _,_ => .un 0
  | _,_ => .un 0
def LK (te:List TV) (tS:List TB) (k:Nat→List Int→Nat→List (Nat×Nat)→LA):LA :=
  match te.getD 2 .unk with
  | .ptr p _=>match tS.getD p .none with
    | .cells [.gl]=>k p [] tS.length [(3,1)]
    | .cells [.sl (.int .i64) l (.nY g)]=>k p l g []
    | _ => .un 0
  | _ => .un 0
def Ak (te:List TV) (i:Nat) (k:Int→LA):LA :=
  match te.getD i .unk with
  | .val (.int .i64 n)=>k n
  | _ => .un 0
def J52:List (Nat×LA) :=
  [(2,.dep fun te tS=>Ho te tS fun ua la qa ub lb qb=>LK te tS fun p base g own => .ex Nat fun i => .st { sl:=[(17,bX i)],pl:=[(p,[.sl cv (base++bR ua la (qa.take i) ub lb qb) (.nY g)])],own:=own,eE:=[i≤qa.length],m:=qa.length-i }),
   (8,.dep fun te tS=>Ho te tS fun ua la _ ub lb qb=>LK te tS fun p base g own=>Ak te 6 fun x => .ex Nat fun i => .st { sl:=[(25,bX i)],pl:=[(p,[.sl cv (base++lY ua la ub lb x (qb.take i)) (.nY g)])],own:=own,eE:=[i≤qb.length],m:=qb.length-i }),
   (14,.dep fun te tS=>Ho te tS fun ua la _ ub lb _=>LK te tS fun p base g own=>Ak te 6 fun x=>Ak te 8 fun y => .ex Nat fun k => .st { sl:=[(9,bX ((k:Int)-ub.length))],pl:=[(p,[.sl cv (base++nZ ub.length (aT x ua la) (aR y ub lb) k) (.nY g)])],own:=own,eE:=[k≤ub.length+ua.length+1],m:=ub.length+ua.length+1-k }),
   (18,.dep fun te tS=>Ho te tS fun ua la _ ub lb _=>Ak te 6 fun x=>Ak te 8 fun y=>Ak te 9 fun s => .st { sl:=[(10,bX (stA (aT x ua la) (aR y ub lb) s).1),(11,bX (stA (aT x ua la) (aR y ub lb) s).2.1),(12,bX (stA (aT x ua la) (aR y ub lb) s).2.2)] })]
section
variable {n k i:Nat} {a b ua la ub lb q qb:List Int} {x:Int}
theorem HW (h:3≤(stA a b ((k:Int)-n)).2.2):nZ n a b k++[(stA a b ((k:Int)-n)).2.1-(stA a b ((k:Int)-n)).1]=nZ n a b (k+1):=by
  rw[nZ,nZ,List.range_succ,List.flatMap_append,List.flatMap_singleton,if_pos h]
theorem My (h:¬ 3≤(stA a b ((k:Int)-n)).2.2):nZ n a b k=nZ n a b (k+1):=by
  rw[nZ,nZ,List.range_succ,List.flatMap_append,List.flatMap_singleton,if_neg h,List.append_nil]
theorem Ce {l:List Int} (h:i<l.length):l.take (i+1)=l.take i++[l.getD i 0]:=by
  rw[List.take_succ_eq_append_getElem h,List.getD_eq_getElem?_getD,List.getElem?_eq_getElem h,Option.getD_some]
theorem Mw (h:i<q.length):lY ua la ub lb x (q.take i)++nZ ub.length (aT x ua la) (aR (q.getD i 0) ub lb) (ub.length+ua.length+1)=lY ua la ub lb x (q.take (i+1)):=by
  rw[Ce h,lY,lY,List.flatMap_append,List.flatMap_singleton]
theorem Mx (h:i<q.length):bR ua la (q.take i) ub lb qb++lY ua la ub lb (q.getD i 0) qb=bR ua la (q.take (i+1)) ub lb qb:=by
  rw[Ce h,bR,bR,List.flatMap_append,List.flatMap_singleton]
theorem Cg (n:Nat) (a b:List Int) (k:Nat):(nZ n a b k).length≤k:=by
  refine Nat.le_trans (pI (c:=1) fun j _ => ?_) (by simp)
  split<;>simp
theorem Cf {p q:List Int} {w v:Int} (ha:Ok ua la w p) (hb:Ok ub lb v q) {r:List Int} (hr:r.length≤4):(lY ua la ub lb x r).length≤68:=by
  have:=ha.n8
  have:=hb.n8
  refine Nat.le_trans (pI (c:=17) fun j _ => ?_) (by omega)
  exact Nat.le_trans (Cg _ _ _ _) (by omega)
theorem wK {p:List Int} {w v:Int} (ha:Ok ua la w p) (hb:Ok ub lb v q) {r:List Int} (hr:r.length≤4):(bR ua la r ub lb q).length≤272:=by
  refine Nat.le_trans (pI (c:=68) fun j _ => ?_) (by omega)
  exact Cf ha hb (q_len hb)
end
theorem HU:∀ (l:List Int) (st:Int×Int×Int),(l.foldl zA st).2.2=st.2.2+l.length
  | [],st=>by simp
  | a::l,st=>by rw[List.foldl_cons,HU l,List.length_cons,zA]; simp only; omega
theorem HT (l:List Int):(mQ l).2.2=l.length:=by rw[mQ,HU]; simp
theorem Bl {a b:List Int}:∀ i,i≤a.length→(gK a b 0 i).length=i
  | 0,_=>rfl
  | i+1,h=>by rw[gK,if_pos (by omega),List.length_append,Bl i (by omega)]; rfl
theorem wJ {ua la qa ub lb qb:List Int} {w v:Int} (ha:Ok ua la w qa) (hb:Ok ub lb v qb) (hw:ub.length≤ua.length):1≤(bR ua la qa ub lb qb).length:=by
  obtain⟨x,hx⟩:=List.exists_mem_of_ne_nil _ ha.ne
  obtain⟨y,hy⟩:=List.exists_mem_of_ne_nil _ hb.ne
  have l1:=(sV (n:=x) ha.len).2
  have l2:=(sV (n:=y) hb.len).1
  have h3:=hb.n3
  refine List.length_pos_of_mem (a:=(stA (aT x ua la) (aR y ub lb) 0).2.1-(stA (aT x ua la) (aR y ub lb) 0).1) ?_
  rw[bR,List.mem_flatMap]
  refine⟨x,hx,?_⟩
  rw[lY,List.mem_flatMap]
  refine⟨y,hy,?_⟩
  rw[nZ,List.mem_flatMap]
  refine⟨ub.length,List.mem_range.2 (by omega),?_⟩
  have e:(((ub.length:Nat):Int)-(ub.length:Int))=0:=by omega
  rw[e,if_pos]
  · simp
  · rw[HT,Bl _ (by omega)]; omega
theorem Iu {r:List Int} {i:Nat} {z:Int} (h:i<r.length):(r.take (i+1)).foldl mn z=mn ((r.take i).foldl mn z) (r.getD i 0):=by
  rw[Ce h,List.foldl_append]; rfl
def kN (ua la qa ub lb qb:List Int):Int:=((bR ua la qa ub lb qb++bR ub lb qb ua la qa).drop 1).foldl mn ((bR ua la qa ub lb qb++bR ub lb qb ua la qa).getD 0 0)
noncomputable def F4:gN:=(((((F0.dQ 32 fun a=>dS (Yn a)).dQ 30 fun a=>dS (D48 a)).dQ 51 fun a=>dS (D60 a)).dQ 54 fun a=>dS (D54 a)).LH 52 Try.f52 J52).LH 53 Try.f53 J53
def E25:List TV→Dn
  | [.sl (.pair (.sl (.int .i64)) (.pair (.sl (.int .i64)) (.pair (.int .i64) (.pair (.sl (.int .i64)) .unit)))) [(ua,la,wa,qa,_),(ub,lb,wb,qb,_)] .no,.val (.int .i64 0),.val (.int .i64 1)]=>some ([Ok ua la wa qa,Ok ub lb wb qb],.res (.fB [bX (kN ua la qa ub lb qb),bX 0]) [] [],[])
  | _=>none
def bz.q1 (p0:Nat) (p1 p2:aN.den) (p3:Nat) (p4 p5 p6:aN.den) (p7:Nat) (p8 p9 gB:aN.den) (tX:Prop):Prop:=True∧(List.reverse p9).length≤(1000:Nat)∧(List.reverse gB).length≤(1000:Nat)∧kU (List.reverse p9)∧kU (List.reverse gB)∧(stA (List.reverse p9) (List.reverse gB) ((↑p0:Int)-(↑(List.length p1):Int))).fst=(stA (aT (List.getD p2 p3 (0:Int)) p4 p5) (aR (List.getD p6 p7 (0:Int)) p1 p8) ((↑p0:Int)-(↑(List.length p1):Int))).fst∧(stA (List.reverse p9) (List.reverse gB) ((↑p0:Int)-(↑(List.length p1):Int))).snd.fst=(stA (aT (List.getD p2 p3 (0:Int)) p4 p5) (aR (List.getD p6 p7 (0:Int)) p1 p8) ((↑p0:Int)-(↑(List.length p1):Int))).snd.fst∧(stA (List.reverse p9) (List.reverse gB) ((↑p0:Int)-(↑(List.length p1):Int))).snd.snd=(stA (aT (List.getD p2 p3 (0:Int)) p4 p5) (aR (List.getD p6 p7 (0:Int)) p1 p8) ((↑p0:Int)-(↑(List.length p1):Int))).snd.snd∧tX
def bz.q2 (p0:aN.den) (p1:Nat) (p2 p3:aN.den) (p4:Nat) (p5 p6 p7:aN.den) (p8:Nat) (p9 gB:aN.den) (tX:Prop):Prop:=True∧List.length p0≤(1000:Nat)∧(List.reverse gB).length≤(1000:Nat)∧kU p0∧kU (List.reverse gB)∧(stA p0 (List.reverse gB) ((↑p1:Int)-(↑(List.length p2):Int))).fst=(stA (aT (List.getD p3 p4 (0:Int)) p5 p6) (aR (List.getD p7 p8 (0:Int)) p2 p9) ((↑p1:Int)-(↑(List.length p2):Int))).fst∧(stA p0 (List.reverse gB) ((↑p1:Int)-(↑(List.length p2):Int))).snd.fst=(stA (aT (List.getD p3 p4 (0:Int)) p5 p6) (aR (List.getD p7 p8 (0:Int)) p2 p9) ((↑p1:Int)-(↑(List.length p2):Int))).snd.fst∧(stA p0 (List.reverse gB) ((↑p1:Int)-(↑(List.length p2):Int))).snd.snd=(stA (aT (List.getD p3 p4 (0:Int)) p5 p6) (aR (List.getD p7 p8 (0:Int)) p2 p9) ((↑p1:Int)-(↑(List.length p2):Int))).snd.snd∧tX
def bz.q3 (p0:aN.den) (p1:Nat) (p2 p3:aN.den) (p4:Nat) (p5 p6 p7:aN.den) (p8:Nat) (p9 gB:aN.den):Prop:=True∧List.length p0≤(1000:Nat)∧List.length gB≤(1000:Nat)∧kU p0∧kU gB∧(stA p0 gB ((↑p1:Int)-(↑(List.length p2):Int))).fst=(stA (aT (List.getD p3 p4 (0:Int)) p5 p6) (aR (List.getD p7 p8 (0:Int)) p2 p9) ((↑p1:Int)-(↑(List.length p2):Int))).fst∧(stA p0 gB ((↑p1:Int)-(↑(List.length p2):Int))).snd.fst=(stA (aT (List.getD p3 p4 (0:Int)) p5 p6) (aR (List.getD p7 p8 (0:Int)) p2 p9) ((↑p1:Int)-(↑(List.length p2):Int))).snd.fst∧(stA p0 gB ((↑p1:Int)-(↑(List.length p2):Int))).snd.snd=(stA (aT (List.getD p3 p4 (0:Int)) p5 p6) (aR (List.getD p7 p8 (0:Int)) p2 p9) ((↑p1:Int)-(↑(List.length p2):Int))).snd.snd∧True
def bz.q4 (p0:Bool) (p1:aN.den) (p2:Nat) (p3:aN.den) (p4:Nat) (p5 p6 p7:aN.den) (p8:Nat) (p9:aN.den) (gB tX Ff:Bool) (Fe:aN.den):Prop:=True∧aL p0 (bz.q3 Fe p2 p1 p3 p4 p5 p6 p7 p8 p9 p1) (aL gB (bz.q2 Fe p2 p1 p3 p4 p5 p6 p7 p8 p9 p9 True) (aL tX (bz.q2 Fe p2 p1 p3 p4 p5 p6 p7 p8 p9 p1 True) (aL Ff (bz.q3 Fe p2 p1 p3 p4 p5 p6 p7 p8 p9 p9) False)))
def bz.q5 (p0:Nat) (p1 p2:aN.den) (p3:Nat) (p4 p5 p6:aN.den) (p7:Nat) (p8 p9 gB:aN.den):Prop:=True∧(List.reverse p9).length≤(1000:Nat)∧List.length gB≤(1000:Nat)∧kU (List.reverse p9)∧kU gB∧(stA (List.reverse p9) gB ((↑p0:Int)-(↑(List.length p1):Int))).fst=(stA (aT (List.getD p2 p3 (0:Int)) p4 p5) (aR (List.getD p6 p7 (0:Int)) p1 p8) ((↑p0:Int)-(↑(List.length p1):Int))).fst∧(stA (List.reverse p9) gB ((↑p0:Int)-(↑(List.length p1):Int))).snd.fst=(stA (aT (List.getD p2 p3 (0:Int)) p4 p5) (aR (List.getD p6 p7 (0:Int)) p1 p8) ((↑p0:Int)-(↑(List.length p1):Int))).snd.fst∧(stA (List.reverse p9) gB ((↑p0:Int)-(↑(List.length p1):Int))).snd.snd=(stA (aT (List.getD p2 p3 (0:Int)) p4 p5) (aR (List.getD p6 p7 (0:Int)) p1 p8) ((↑p0:Int)-(↑(List.length p1):Int))).snd.snd∧True
def bz.q6 (p0 p1:Bool) (p2 p3:aN.den) (p4:Nat) (p5:aN.den) (p6:Nat) (p7 p8:aN.den) (p9:Nat) (gB:aN.den) (tX Ff Fe R5 WK WJ:Bool) (p17:Prop):Prop:=aL p0 (bz.q4 p1 p3 p4 p5 p6 p7 p2 p8 p9 gB tX Ff Fe p2) (aL R5 (True∧aL p1 (bz.q5 p4 p3 p5 p6 p7 p2 p8 p9 gB p7 p3) (aL tX (bz.q1 p4 p3 p5 p6 p7 p2 p8 p9 gB p7 gB True) (aL Ff (bz.q1 p4 p3 p5 p6 p7 p2 p8 p9 gB p7 p3 True) (aL Fe (bz.q5 p4 p3 p5 p6 p7 p2 p8 p9 gB p7 gB) False)))) (aL WK (True∧aL p1 (bz.q5 p4 p3 p5 p6 p7 p2 p8 p9 gB p2 p3) (aL tX (bz.q1 p4 p3 p5 p6 p7 p2 p8 p9 gB p2 gB True) (aL Ff (bz.q1 p4 p3 p5 p6 p7 p2 p8 p9 gB p2 p3 True) (aL Fe (bz.q5 p4 p3 p5 p6 p7 p2 p8 p9 gB p2 gB) False)))) (aL WJ (bz.q4 p1 p3 p4 p5 p6 p7 p2 p8 p9 gB tX Ff Fe p7) False)))∧p17
def bz.q7 (p0 p1:aN.den) (p2:cv.den) (p3:aN.den) (p4:Prop):Prop:=p0=p0∧p1=p1∧p2=p2∧p3=p3∧p0=p0∧p1=p1∧List.reverse p1=List.reverse p1∧List.reverse p0=List.reverse p0∧List.reverse p0=List.reverse p0∧List.reverse p1=List.reverse p1∧p1=p1∧p0=p0∧p4
def bz.q8 (p0 p1:aN.den) (p2:cv.den) (p3 p4 p5:aN.den) (p6:cv.den) (p7:aN.den) (p8:Prop):Prop:=bz.q7 p0 p1 p2 p3 (bz.q7 p4 p5 p6 p7 p8)
def bz.q9 (p0 p1:aN.den) (p2:cv.den) (p3 p4 p5:aN.den) (p6:cv.den) (p7:aN.den) (p8 p9 gB:Nat) (tX:Int) (Ff:List (Nat×TV)) (Fe:List (Nat×List TV)) (R5:List (Nat×Nat)) (WK:Int) (WJ:List (Nat×TV)) (p17:List (Nat×List TV)) (p18:Nat):Prop:=bz.q8 p0 p1 p2 p3 p4 p5 p6 p7 (p8≤p9∧(p9-p8)<(p9-p18))
def bz.Xz (p0:aN.den) (p1:Nat) (p2:aN.den) (p3 p4:Nat) (p5:aN.den) (p6:Nat) (p7:Prop):Prop:=List.getD p0 p1 (0:Int)=List.getD p0 p1 (0:Int)∧List.getD p2 p3 (0:Int)=List.getD p2 p3 (0:Int)∧(↑p4:Int)-(↑(List.length p5):Int)+(1:Int)=(↑p6:Int)-(↑(List.length p5):Int)∧p0=p0∧(↑(List.length p0):Int)=(↑(List.length p0):Int)∧(↑p1:Int)=(↑p1:Int)∧true=true∧p0=p0∧p1=p1∧(0:Nat)=(0:Nat)∧List.getD p0 p1 (0:Int)=List.getD p0 p1 (0:Int)∧p2=p2∧(↑(List.length p2):Int)=(↑(List.length p2):Int)∧(↑p3:Int)=(↑p3:Int)∧true=true∧p2=p2∧p3=p3∧(0:Nat)=(0:Nat)∧List.getD p2 p3 (0:Int)=List.getD p2 p3 (0:Int)∧p5=p5∧(↑(List.length p5):Int)=(↑(List.length p5):Int) ∧ -(↑(List.length p5):Int) = -(↑(List.length p5):Int)∧p7
def bz.q11 (p0:Nat) (p1 p2:aN.den) (p3:List Int) (p4 p5 p6 p7:aN.den) (p8:Nat) (p9:Prop):Prop:=((0:Int)≤(↑p0:Int)∧(↑p0:Int)<(↑(List.length p1):Int))∧cq (-(↑(List.length p2):Int))∧(∃ (a:Nat),-(↑(List.length p2):Int)=(↑a:Int)-(↑(List.length p2):Int)∧p3++lY p4 p5 p2 p6 (List.getD p7 p8 (0:Int)) (List.take p0 p1)=p3++lY p4 p5 p2 p6 (List.getD p7 p8 (0:Int)) (List.take p0 p1)++nZ (List.length p2) (aT (List.getD p7 p8 (0:Int)) p4 p5) (aR (List.getD p1 p0 (0:Int)) p2 p6) a∧a≤List.length p2+List.length p4+(1:Nat)∧(List.length p2+List.length p4+(1:Nat)-a)<(1000000:Nat))∧p9
def bz.q12 (p0:aN.den) (p1:Nat) (p2:aN.den) (p3 p4:Nat) (p5:List Int) (p6 p7 p8 p9:aN.den) (gB:Nat) (tX:Prop):Prop:=List.getD p0 p1 (0:Int)=List.getD p0 p1 (0:Int)∧p0=p0∧(↑(List.length p0):Int)=(↑(List.length p0):Int)∧(↑p1:Int)=(↑p1:Int)∧true=true∧p0=p0∧p1=p1∧(0:Nat)=(0:Nat)∧List.getD p0 p1 (0:Int)=List.getD p0 p1 (0:Int)∧p2=p2∧(↑(List.length p2):Int)=(↑(List.length p2):Int)∧(↑p3:Int)+(1:Int)=(↑p4:Int)∧p5++lY p6 p7 p8 p9 (List.getD p0 p1 (0:Int)) (List.take p3 p2)++nZ (List.length p8) (aT (List.getD p0 p1 (0:Int)) p6 p7) (aR (List.getD p2 p3 (0:Int)) p8 p9) gB=p5++lY p6 p7 p8 p9 (List.getD p0 p1 (0:Int)) (List.take p4 p2)∧tX
def bz.q13 (p0:Nat) (p1:aN.den) (p2:List Int) (p3 p4 p5 p6 p7:aN.den) (p8:Prop):Prop:=((0:Int)≤(↑p0:Int)∧(↑p0:Int)<(↑(List.length p1):Int))∧(∃ (a:Nat),(0:Int)=(↑a:Int)∧p2=p2++lY p3 p4 p5 p6 (List.getD p1 p0 (0:Int)) (List.take a p7)∧a≤List.length p7∧(List.length p7-a)<(1000000:Nat))∧p8
def bz.q14 (p0 p1:aN.den) (p2:Nat) (p3 p4 p5 p6:aN.den) (p7 p8 p9:Nat) (gB:Prop):Prop:=List.drop (1:Nat) (bR p0 p1 (List.take p2 p3) p4 p5 p6++bR p4 p5 (List.take p7 p6) p0 p1 p3)=List.drop (1:Nat) (bR p0 p1 (List.take p2 p3) p4 p5 p6++bR p4 p5 (List.take p7 p6) p0 p1 p3)∧(↑(List.drop (1:Nat) (bR p0 p1 (List.take p2 p3) p4 p5 p6++bR p4 p5 (List.take p7 p6) p0 p1 p3)).length:Int)=(↑(List.drop (1:Nat) (bR p0 p1 (List.take p2 p3) p4 p5 p6++bR p4 p5 (List.take p7 p6) p0 p1 p3)).length:Int)∧(↑p8:Int)+(1:Int)=(↑p9:Int)∧bR p0 p1 (List.take p2 p3) p4 p5 p6++bR p4 p5 (List.take p7 p6) p0 p1 p3=bR p0 p1 (List.take p2 p3) p4 p5 p6++bR p4 p5 (List.take p7 p6) p0 p1 p3∧gB
def bz.q15 (p0 p1:aN.den) (p2:Nat) (p3 p4 p5 p6:aN.den) (p7 p8:Nat) (p9 gB:cv.den) (tX:Nat):Prop:=bz.q14 p0 p1 p2 p3 p4 p5 p6 p7 p8 tX (bz.q8 p0 p1 p9 p3 p4 p5 gB p6 (bz.q8 p0 p1 p9 p3 p4 p5 gB p6 (bz.q9 p4 p5 gB p6 p0 p1 p9 p3 tX (List.drop (1:Nat) (bR p0 p1 (List.take p2 p3) p4 p5 p6++bR p4 p5 (List.take p7 p6) p0 p1 p3)).length (14:Nat) (↑tX:Int) [((5:Nat),vv (vi (List.foldl mn ((bR p0 p1 (List.take p2 p3) p4 p5 p6++bR p4 p5 (List.take p7 p6) p0 p1 p3).getD (0:Nat) (0:Int)) (List.take tX (List.drop (1:Nat) (bR p0 p1 (List.take p2 p3) p4 p5 p6++bR p4 p5 (List.take p7 p6) p0 p1 p3))))))] [] [] (↑p8:Int) [((5:Nat),vv (vi (List.foldl mn ((bR p0 p1 (List.take p2 p3) p4 p5 p6++bR p4 p5 (List.take p7 p6) p0 p1 p3).getD (0:Nat) (0:Int)) (List.take p8 (List.drop (1:Nat) (bR p0 p1 (List.take p2 p3) p4 p5 p6++bR p4 p5 (List.take p7 p6) p0 p1 p3))))))] [] p8)))
def bz.Xy (p0 p1:aN.den) (p2:cv.den) (p3 p4 p5:aN.den) (p6:cv.den) (p7:aN.den) (p8 p9 gB:Nat) (tX:Int) (Ff Fe:List Int) (R5:Int) (WK:List Int) (WJ:Nat):Prop:=bz.q8 p0 p1 p2 p3 p4 p5 p6 p7 (bz.q8 p0 p1 p2 p3 p4 p5 p6 p7 (bz.q9 p4 p5 p6 p7 p0 p1 p2 p3 p8 p9 gB tX [] [((0:Nat),[TV.sl cv (Ff++Fe) (Ap.nY (15:Nat))])] [] R5 [] [((0:Nat),[TV.sl cv (Ff++WK) (Ap.nY (15:Nat))])] WJ))
def bz.q17 (p0:aN.den) (p1:Nat) (p2 p3 p4:aN.den) (p5:Nat) (p6 p7:aN.den) (p8:Nat) (p9:List Int) (gB:Prop):Prop:=cq ((stA (aT (List.getD p0 p1 (0:Int)) p2 p3) (aR (List.getD p4 p5 (0:Int)) p6 p7) ((↑p8:Int)-(↑(List.length p6):Int))).snd.fst-(stA (aT (List.getD p0 p1 (0:Int)) p2 p3) (aR (List.getD p4 p5 (0:Int)) p6 p7) ((↑p8:Int)-(↑(List.length p6):Int))).fst)∧(p9++lY p2 p3 p6 p7 (List.getD p0 p1 (0:Int)) (List.take p5 p4)++nZ (List.length p6) (aT (List.getD p0 p1 (0:Int)) p2 p3) (aR (List.getD p4 p5 (0:Int)) p6 p7) p8).length+(1:Nat)≤(1000000000:Nat)∧cq ((↑p8:Int)-(↑(List.length p6):Int)+(1:Int))∧gB
def bz.Xx (p0 p1:aN.den) (p2:cv.den) (p3 p4 p5:aN.den) (p6:cv.den) (p7:aN.den) (p8 p9 gB:Nat) (tX:Int) (Ff:List Int) (Fe:List (Nat×Nat)) (R5:Int) (WK:List Int) (WJ:Nat):Prop:=bz.q8 p0 p1 p2 p3 p4 p5 p6 p7 (bz.q9 p0 p1 p2 p3 p4 p5 p6 p7 p8 p9 gB tX [] [((0:Nat),[TV.sl cv Ff (Ap.nY (15:Nat))])] Fe R5 [] [((0:Nat),[TV.sl cv WK (Ap.nY (15:Nat))])] WJ)
theorem bz:VI F4 Try.f25 [some cv,some cv] E25 1:=by
  refine nN fun a => ?_
  unfold E25
  split
  rotate_left
  · trivial
  rename_i ua la wa qa za ub lb wb qb zb
  intro hp
  obtain⟨h1,h2,-⟩:=hp
  refine G3 (A:=(2:Nat)≤(4:Nat)∧(∀ (p:(gI).den),p∈[(ua,la,wa,qa,za),(ub,lb,wb,qb,zb)]→jJ p)∧gD [(ua,la,wa,qa,za),(ub,lb,wb,qb,zb)]=(0:Int)∧(0:Int)≤(0:Int)∧(0:Int)<(↑(2:Nat):Int)∧(0:Int)≤(1:Int)∧(1:Int)<(↑(2:Nat):Int)∧(0:Int)≠(1:Int)∧((0:Int)≤(0:Int)∧(0:Int)<(↑(2:Nat):Int))∧List.length ua≤(1000:Nat)∧List.length la≤(1000:Nat)∧((0:Int)≤(1:Int)∧(1:Int)<(↑(2:Nat):Int))∧List.length ub≤(1000:Nat)∧List.length lb≤(1000:Nat)∧(∃ (a:Nat),(0:Int)=(↑a:Int)∧[]=bR ua la (List.take a qa) ub lb qb∧a≤List.length qa∧(List.length qa-a)<(1000000:Nat))∧∀ (a:Nat),a≤List.length qa→aL (decide ((↑a:Int)<(↑(List.length qa):Int))) (bz.q13 a qa (bR ua la (List.take a qa) ub lb qb) ua la ub lb qb (∀ (a_1:Nat),a_1≤List.length qb→aL (decide ((↑a_1:Int)<(↑(List.length qb):Int))) (bz.q11 a_1 qb ub (bR ua la (List.take a qa) ub lb qb) ua la lb qa a (∀ (a_2:Nat),a_2≤List.length ub+List.length ua+(1:Nat)→aL (decide ((↑a_2:Int)-(↑(List.length ub):Int)≤(↑(List.length ua):Int))) (bz.q6 (decide (List.getD qa a (0:Int)=(0:Int))) (decide (List.getD qb a_1 (0:Int)=(0:Int))) la ub a_2 qa a ua qb a_1 lb (decide (List.getD qb a_1 (0:Int)=(1:Int))) (decide (List.getD qb a_1 (0:Int)=(2:Int))) (decide (List.getD qb a_1 (0:Int)=(3:Int))) (decide (List.getD qa a (0:Int)=(1:Int))) (decide (List.getD qa a (0:Int)=(2:Int))) (decide (List.getD qa a (0:Int)=(3:Int))) (aL (decide ((stA (aT (List.getD qa a (0:Int)) ua la) (aR (List.getD qb a_1 (0:Int)) ub lb) ((↑a_2:Int)-(↑(List.length ub):Int))).snd.snd≥(3:Int))) (bz.q17 qa a ua la qb a_1 ub lb a_2 (bR ua la (List.take a qa) ub lb qb) (∃ (a_3:Nat),bz.Xz qa a qb a_1 a_2 ub a_3 (bR ua la (List.take a qa) ub lb qb++lY ua la ub lb (List.getD qa a (0:Int)) (List.take a_1 qb)++nZ (List.length ub) (aT (List.getD qa a (0:Int)) ua la) (aR (List.getD qb a_1 (0:Int)) ub lb) a_2++[(stA (aT (List.getD qa a (0:Int)) ua la) (aR (List.getD qb a_1 (0:Int)) ub lb) ((↑a_2:Int)-(↑(List.length ub):Int))).snd.fst-(stA (aT (List.getD qa a (0:Int)) ua la) (aR (List.getD qb a_1 (0:Int)) ub lb) ((↑a_2:Int)-(↑(List.length ub):Int))).fst]=bR ua la (List.take a qa) ub lb qb++lY ua la ub lb (List.getD qa a (0:Int)) (List.take a_1 qb)++nZ (List.length ub) (aT (List.getD qa a (0:Int)) ua la) (aR (List.getD qb a_1 (0:Int)) ub lb) a_3∧bz.Xx ua la wa qa ub lb wb qb a_3 (List.length ub+List.length ua+(1:Nat)) (9:Nat) ((↑a_3:Int)-(↑(List.length ub):Int)) (bR ua la (List.take a qa) ub lb qb++lY ua la ub lb (List.getD qa a (0:Int)) (List.take a_1 qb)++nZ (List.length ub) (aT (List.getD qa a (0:Int)) ua la) (aR (List.getD qb a_1 (0:Int)) ub lb) a_3) [] ((↑a_2:Int)-(↑(List.length ub):Int)) (bR ua la (List.take a qa) ub lb qb++lY ua la ub lb (List.getD qa a (0:Int)) (List.take a_1 qb)++nZ (List.length ub) (aT (List.getD qa a (0:Int)) ua la) (aR (List.getD qb a_1 (0:Int)) ub lb) a_2) a_2))) (cq ((↑a_2:Int)-(↑(List.length ub):Int)+(1:Int))∧∃ (a_3:Nat),bz.Xz qa a qb a_1 a_2 ub a_3 (bR ua la (List.take a qa) ub lb qb++lY ua la ub lb (List.getD qa a (0:Int)) (List.take a_1 qb)++nZ (List.length ub) (aT (List.getD qa a (0:Int)) ua la) (aR (List.getD qb a_1 (0:Int)) ub lb) a_2=bR ua la (List.take a qa) ub lb qb++lY ua la ub lb (List.getD qa a (0:Int)) (List.take a_1 qb)++nZ (List.length ub) (aT (List.getD qa a (0:Int)) ua la) (aR (List.getD qb a_1 (0:Int)) ub lb) a_3∧bz.Xx ua la wa qa ub lb wb qb a_3 (List.length ub+List.length ua+(1:Nat)) (9:Nat) ((↑a_3:Int)-(↑(List.length ub):Int)) (bR ua la (List.take a qa) ub lb qb++lY ua la ub lb (List.getD qa a (0:Int)) (List.take a_1 qb)++nZ (List.length ub) (aT (List.getD qa a (0:Int)) ua la) (aR (List.getD qb a_1 (0:Int)) ub lb) a_3) [] ((↑a_2:Int)-(↑(List.length ub):Int)) (bR ua la (List.take a qa) ub lb qb++lY ua la ub lb (List.getD qa a (0:Int)) (List.take a_1 qb)++nZ (List.length ub) (aT (List.getD qa a (0:Int)) ua la) (aR (List.getD qb a_1 (0:Int)) ub lb) a_2) a_2)))) (cq ((↑a_1:Int)+(1:Int))∧∃ (a_3:Nat),bz.q12 qa a qb a_1 a_3 (bR ua la (List.take a qa) ub lb qb) ua la ub lb a_2 (bz.Xx ua la wa qa ub lb wb qb a_3 (List.length qb) (25:Nat) (↑a_3:Int) (bR ua la (List.take a qa) ub lb qb++lY ua la ub lb (List.getD qa a (0:Int)) (List.take a_3 qb)) [] (↑a_1:Int) (bR ua la (List.take a qa) ub lb qb++lY ua la ub lb (List.getD qa a (0:Int)) (List.take a_1 qb)) a_1)))) (cq ((↑a:Int)+(1:Int))∧∃ (a_2:Nat),qa=qa∧(↑(List.length qa):Int)=(↑(List.length qa):Int)∧(↑a:Int)+(1:Int)=(↑a_2:Int)∧bR ua la (List.take a qa) ub lb qb++lY ua la ub lb (List.getD qa a (0:Int)) (List.take a_1 qb)=bR ua la (List.take a_2 qa) ub lb qb∧bz.Xx ua la wa qa ub lb wb qb a_2 (List.length qa) (17:Nat) (↑a_2:Int) (bR ua la (List.take a_2 qa) ub lb qb) [((3:Nat),(1:Nat))] (↑a:Int) (bR ua la (List.take a qa) ub lb qb) a))) ((∃ (a_1:Nat),(0:Int)=(↑a_1:Int)∧bR ua la (List.take a qa) ub lb qb=bR ua la (List.take a qa) ub lb qb++bR ub lb (List.take a_1 qb) ua la qa∧a_1≤List.length qb∧(List.length qb-a_1)<(1000000:Nat))∧∀ (a_1:Nat),a_1≤List.length qb→aL (decide ((↑a_1:Int)<(↑(List.length qb):Int))) (bz.q13 a_1 qb (bR ua la (List.take a qa) ub lb qb++bR ub lb (List.take a_1 qb) ua la qa) ub lb ua la qa (∀ (a_2:Nat),a_2≤List.length qa→aL (decide ((↑a_2:Int)<(↑(List.length qa):Int))) (bz.q11 a_2 qa ua (bR ua la (List.take a qa) ub lb qb++bR ub lb (List.take a_1 qb) ua la qa) ub lb la qb a_1 (∀ (a_3:Nat),a_3≤List.length ua+List.length ub+(1:Nat)→aL (decide ((↑a_3:Int)-(↑(List.length ua):Int)≤(↑(List.length ub):Int))) (bz.q6 (decide (List.getD qb a_1 (0:Int)=(0:Int))) (decide (List.getD qa a_2 (0:Int)=(0:Int))) lb ua a_3 qb a_1 ub qa a_2 la (decide (List.getD qa a_2 (0:Int)=(1:Int))) (decide (List.getD qa a_2 (0:Int)=(2:Int))) (decide (List.getD qa a_2 (0:Int)=(3:Int))) (decide (List.getD qb a_1 (0:Int)=(1:Int))) (decide (List.getD qb a_1 (0:Int)=(2:Int))) (decide (List.getD qb a_1 (0:Int)=(3:Int))) (aL (decide ((stA (aT (List.getD qb a_1 (0:Int)) ub lb) (aR (List.getD qa a_2 (0:Int)) ua la) ((↑a_3:Int)-(↑(List.length ua):Int))).snd.snd≥(3:Int))) (bz.q17 qb a_1 ub lb qa a_2 ua la a_3 (bR ua la (List.take a qa) ub lb qb++bR ub lb (List.take a_1 qb) ua la qa) (∃ (a_4:Nat),bz.Xz qb a_1 qa a_2 a_3 ua a_4 (bR ua la (List.take a qa) ub lb qb++bR ub lb (List.take a_1 qb) ua la qa++lY ub lb ua la (List.getD qb a_1 (0:Int)) (List.take a_2 qa)++nZ (List.length ua) (aT (List.getD qb a_1 (0:Int)) ub lb) (aR (List.getD qa a_2 (0:Int)) ua la) a_3++[(stA (aT (List.getD qb a_1 (0:Int)) ub lb) (aR (List.getD qa a_2 (0:Int)) ua la) ((↑a_3:Int)-(↑(List.length ua):Int))).snd.fst-(stA (aT (List.getD qb a_1 (0:Int)) ub lb) (aR (List.getD qa a_2 (0:Int)) ua la) ((↑a_3:Int)-(↑(List.length ua):Int))).fst]=bR ua la (List.take a qa) ub lb qb++bR ub lb (List.take a_1 qb) ua la qa++lY ub lb ua la (List.getD qb a_1 (0:Int)) (List.take a_2 qa)++nZ (List.length ua) (aT (List.getD qb a_1 (0:Int)) ub lb) (aR (List.getD qa a_2 (0:Int)) ua la) a_4∧bz.Xy ua la wa qa ub lb wb qb a_4 (List.length ua+List.length ub+(1:Nat)) (9:Nat) ((↑a_4:Int)-(↑(List.length ua):Int)) (bR ua la (List.take a qa) ub lb qb++bR ub lb (List.take a_1 qb) ua la qa++lY ub lb ua la (List.getD qb a_1 (0:Int)) (List.take a_2 qa)) (nZ (List.length ua) (aT (List.getD qb a_1 (0:Int)) ub lb) (aR (List.getD qa a_2 (0:Int)) ua la) a_4) ((↑a_3:Int)-(↑(List.length ua):Int)) (nZ (List.length ua) (aT (List.getD qb a_1 (0:Int)) ub lb) (aR (List.getD qa a_2 (0:Int)) ua la) a_3) a_3))) (cq ((↑a_3:Int)-(↑(List.length ua):Int)+(1:Int))∧∃ (a_4:Nat),bz.Xz qb a_1 qa a_2 a_3 ua a_4 (bR ua la (List.take a qa) ub lb qb++bR ub lb (List.take a_1 qb) ua la qa++lY ub lb ua la (List.getD qb a_1 (0:Int)) (List.take a_2 qa)++nZ (List.length ua) (aT (List.getD qb a_1 (0:Int)) ub lb) (aR (List.getD qa a_2 (0:Int)) ua la) a_3=bR ua la (List.take a qa) ub lb qb++bR ub lb (List.take a_1 qb) ua la qa++lY ub lb ua la (List.getD qb a_1 (0:Int)) (List.take a_2 qa)++nZ (List.length ua) (aT (List.getD qb a_1 (0:Int)) ub lb) (aR (List.getD qa a_2 (0:Int)) ua la) a_4∧bz.Xy ua la wa qa ub lb wb qb a_4 (List.length ua+List.length ub+(1:Nat)) (9:Nat) ((↑a_4:Int)-(↑(List.length ua):Int)) (bR ua la (List.take a qa) ub lb qb++bR ub lb (List.take a_1 qb) ua la qa++lY ub lb ua la (List.getD qb a_1 (0:Int)) (List.take a_2 qa)) (nZ (List.length ua) (aT (List.getD qb a_1 (0:Int)) ub lb) (aR (List.getD qa a_2 (0:Int)) ua la) a_4) ((↑a_3:Int)-(↑(List.length ua):Int)) (nZ (List.length ua) (aT (List.getD qb a_1 (0:Int)) ub lb) (aR (List.getD qa a_2 (0:Int)) ua la) a_3) a_3)))) (cq ((↑a_2:Int)+(1:Int))∧∃ (a_4:Nat),bz.q12 qb a_1 qa a_2 a_4 (bR ua la (List.take a qa) ub lb qb++bR ub lb (List.take a_1 qb) ua la qa) ub lb ua la a_3 (bz.Xy ua la wa qa ub lb wb qb a_4 (List.length qa) (25:Nat) (↑a_4:Int) (bR ua la (List.take a qa) ub lb qb++bR ub lb (List.take a_1 qb) ua la qa) (lY ub lb ua la (List.getD qb a_1 (0:Int)) (List.take a_4 qa)) (↑a_2:Int) (lY ub lb ua la (List.getD qb a_1 (0:Int)) (List.take a_2 qa)) a_2)))) (cq ((↑a_1:Int)+(1:Int))∧∃ (a_3:Nat),qb=qb∧(↑(List.length qb):Int)=(↑(List.length qb):Int)∧(↑a_1:Int)+(1:Int)=(↑a_3:Int)∧bR ua la (List.take a qa) ub lb qb++bR ub lb (List.take a_1 qb) ua la qa++lY ub lb ua la (List.getD qb a_1 (0:Int)) (List.take a_2 qa)=bR ua la (List.take a qa) ub lb qb++bR ub lb (List.take a_3 qb) ua la qa∧bz.Xy ua la wa qa ub lb wb qb a_3 (List.length qb) (17:Nat) (↑a_3:Int) (bR ua la (List.take a qa) ub lb qb) (bR ub lb (List.take a_3 qb) ua la qa) (↑a_1:Int) (bR ub lb (List.take a_1 qb) ua la qa) a_1))) (((0:Int)≤(0:Int)∧(0:Int)<(↑(bR ua la (List.take a qa) ub lb qb++bR ub lb (List.take a_1 qb) ua la qa).length:Int))∧((0:Int)≤(1:Int)∧(1:Int)≤(↑(bR ua la (List.take a qa) ub lb qb++bR ub lb (List.take a_1 qb) ua la qa).length:Int))∧(∃ (a_2:Nat),(bR ua la (List.take a qa) ub lb qb++bR ub lb (List.take a_1 qb) ua la qa).getD (0:Nat) (0:Int)=List.foldl mn ((bR ua la (List.take a qa) ub lb qb++bR ub lb (List.take a_1 qb) ua la qa).getD (0:Nat) (0:Int)) (List.take a_2 (List.drop (1:Nat) (bR ua la (List.take a qa) ub lb qb++bR ub lb (List.take a_1 qb) ua la qa)))∧(0:Int)=(↑a_2:Int)∧a_2≤(List.drop (1:Nat) (bR ua la (List.take a qa) ub lb qb++bR ub lb (List.take a_1 qb) ua la qa)).length∧((List.drop (1:Nat) (bR ua la (List.take a qa) ub lb qb++bR ub lb (List.take a_1 qb) ua la qa)).length-a_2)<(1000000:Nat))∧∀ (a_2:Nat),a_2≤(List.drop (1:Nat) (bR ua la (List.take a qa) ub lb qb++bR ub lb (List.take a_1 qb) ua la qa)).length→aL (decide ((↑a_2:Int)<(↑(List.drop (1:Nat) (bR ua la (List.take a qa) ub lb qb++bR ub lb (List.take a_1 qb) ua la qa)).length:Int))) (((0:Int)≤(↑a_2:Int)∧(↑a_2:Int)<(↑(List.drop (1:Nat) (bR ua la (List.take a qa) ub lb qb++bR ub lb (List.take a_1 qb) ua la qa)).length:Int))∧aL (decide ((List.drop (1:Nat) (bR ua la (List.take a qa) ub lb qb++bR ub lb (List.take a_1 qb) ua la qa)).getD a_2 (0:Int)<List.foldl mn ((bR ua la (List.take a qa) ub lb qb++bR ub lb (List.take a_1 qb) ua la qa).getD (0:Nat) (0:Int)) (List.take a_2 (List.drop (1:Nat) (bR ua la (List.take a qa) ub lb qb++bR ub lb (List.take a_1 qb) ua la qa))))) (cq ((↑a_2:Int)+(1:Int))∧∃ (a_3:Nat),(0:Int)=(0:Int)∧(List.drop (1:Nat) (bR ua la (List.take a qa) ub lb qb++bR ub lb (List.take a_1 qb) ua la qa)).getD a_2 (0:Int)=List.foldl mn ((bR ua la (List.take a qa) ub lb qb++bR ub lb (List.take a_1 qb) ua la qa).getD (0:Nat) (0:Int)) (List.take a_3 (List.drop (1:Nat) (bR ua la (List.take a qa) ub lb qb++bR ub lb (List.take a_1 qb) ua la qa)))∧bz.q15 ua la a qa ub lb qb a_1 a_2 wa wb a_3) (cq ((↑a_2:Int)+(1:Int))∧∃ (a_3:Nat),(0:Int)=(0:Int)∧List.foldl mn ((bR ua la (List.take a qa) ub lb qb++bR ub lb (List.take a_1 qb) ua la qa).getD (0:Nat) (0:Int)) (List.take a_2 (List.drop (1:Nat) (bR ua la (List.take a qa) ub lb qb++bR ub lb (List.take a_1 qb) ua la qa)))=List.foldl mn ((bR ua la (List.take a qa) ub lb qb++bR ub lb (List.take a_1 qb) ua la qa).getD (0:Nat) (0:Int)) (List.take a_3 (List.drop (1:Nat) (bR ua la (List.take a qa) ub lb qb++bR ub lb (List.take a_1 qb) ua la qa)))∧bz.q15 ua la a qa ub lb qb a_1 a_2 wa wb a_3)) (List.foldl mn ((bR ua la (List.take a qa) ub lb qb++bR ub lb (List.take a_1 qb) ua la qa).getD (0:Nat) (0:Int)) (List.take a_2 (List.drop (1:Nat) (bR ua la (List.take a qa) ub lb qb++bR ub lb (List.take a_1 qb) ua la qa)))=kN ua la qa ub lb qb∧(0:Int)=(0:Int)∧True)))) (by kernel_rfl) ?_
  unfold bz.Xx bz.q17 bz.Xy bz.q15 bz.q14 bz.q13 bz.q12 bz.q11 bz.Xz bz.q9 bz.q8 bz.q7 bz.q6 bz.q5 bz.q4 bz.q3 bz.q2 bz.q1
  have Xt:=lq h1
  have TG:=lq h2
  have n1:=h1.n8
  have n2:=h2.n8
  have q1:=q_len h1
  have q2:=q_len h2
  have c1:ua.length≤1000:=Xt.1
  have c2:la.length≤1000:=Xt.2.1
  have c3:ub.length≤1000:=TG.1
  have c4:lb.length≤1000:=TG.2.1
  have i1:kU ua:=h1.hu
  have i2:kU la:=h1.hl
  have i3:kU ub:=h2.hu
  have i4:kU lb:=h2.hl
  have i5:kU ua.reverse:=fun x hx=>h1.hu x (by simpa using hx)
  have i6:kU la.reverse:=fun x hx=>h1.hl x (by simpa using hx)
  have i7:kU ub.reverse:=fun x hx=>h2.hu x (by simpa using hx)
  have i8:kU lb.reverse:=fun x hx=>h2.hl x (by simpa using hx)
  simp only[cZ,eq_self,and_true,true_and]
  refine⟨by omega,xJ (wa:=wa) (wb:=wb) Xt TG,oH h1 h2,by omega,by omega,by omega,by omega,by omega,⟨by omega,by omega⟩,c1,c2,⟨by omega,by omega⟩,c3,c4,?_⟩
  refine⟨⟨0,rfl,by simp[bR],by omega,by first | omega | (dsimp only; omega)⟩,fun i hi=>⟨fun E8 => ?_,fun E8 => ?_⟩⟩
  · have Lt:i<qa.length:=by omega
    have hx:=h1.CY _ (fT Lt)
    have lx:=wK (ua:=ua) (la:=la) h1 h2 (r:=qa.take i) (by rw[List.length_take]; omega)
    refine⟨⟨by omega,by omega⟩,⟨0,rfl,by simp[lY],by omega,by first | omega | (dsimp only; omega)⟩,fun j hj=>⟨fun hjl => ?_,fun hjl => ?_⟩⟩
    · have Ls:j<qb.length:=by omega
      have hy:=h2.CY _ (fT Ls)
      have ly:=Cf (ua:=ua) (la:=la) (ub:=ub) (lb:=lb) (x:=qa.getD i 0) h1 h2 (r:=qb.take j) (by rw[List.length_take]; omega)
      refine⟨⟨by omega,by omega⟩,by simp only[cq]; omega,⟨0,by omega,by simp[nZ],by omega,by first | omega | (dsimp only; omega)⟩,fun k hk=>⟨fun hkl => ?_,fun hkl => ?_⟩⟩
      · have ls:=Cg ub.length (aT (qa.getD i 0) ua la) (aR (qb.getD j 0) ub lb) k
        have st:=FK ((k:Int)-(ub.length:Int)) (BU (n:=qa.getD i 0) (h1.hu) (h1.hl)).2 (BU (n:=qb.getD j 0) (h2.hu) (h2.hl)).1
        refine⟨?_,fun h3=>⟨by simp only[cq]; omega,by simp only[List.length_append]; omega,by simp only[cq]; omega,k+1,by omega,by rw[List.append_assoc,HW h3],by omega,by first | omega | (dsimp only; omega)⟩,fun h3=>⟨by simp only[cq]; omega,k+1,by omega,by rw[My h3],by omega,by first | omega | (dsimp only; omega)⟩⟩
        revert hx hy
        generalize qa.getD i 0=x
        generalize qb.getD j 0=y
        intro hx hy
        rcases four hx with rfl | rfl | rfl | rfl<;>rcases four hy with rfl | rfl | rfl | rfl<;>simp[aT,aR,c1,c2,c3,c4,i1,i2,i3,i4,i5,i6,i7,i8]
      · rw[show k=ub.length+ua.length+1 by omega]
        exact⟨by simp only[cq]; omega,j+1,by omega,by rw[List.append_assoc,Mw Ls],by omega,by first | omega | (dsimp only; omega)⟩
    · have e:lY ua la ub lb (qa.getD i 0) (qb.take j)=lY ua la ub lb (qa.getD i 0) qb:=by rw[show j=qb.length by omega,List.take_length]
      rw[e]
      exact⟨by simp only[cq]; omega,i+1,by omega,by rw[Mx Lt],by omega,by first | omega | (dsimp only; omega)⟩
  · have e0:bR ua la (qa.take i) ub lb qb=bR ua la qa ub lb qb:=by rw[show i=qa.length by omega,List.take_length]
    have bs:=wK (ua:=ua) (la:=la) h1 h2 (r:=qa) (q_len h1)
    rw[e0]
    clear e0 E8 hi
    refine⟨⟨0,rfl,by simp[bR],by omega,by first | omega | (dsimp only; omega)⟩,fun i hi=>⟨fun E8 => ?_,fun E8 => ?_⟩⟩
    · have Lt:i<qb.length:=by omega
      have hx:=h2.CY _ (fT Lt)
      have lx:=wK (ua:=ub) (la:=lb) h2 h1 (r:=qb.take i) (by rw[List.length_take]; omega)
      refine⟨⟨by omega,by omega⟩,⟨0,rfl,by simp[lY],by omega,by first | omega | (dsimp only; omega)⟩,fun j hj=>⟨fun hjl => ?_,fun hjl => ?_⟩⟩
      · have Ls:j<qa.length:=by omega
        have hy:=h1.CY _ (fT Ls)
        have ly:=Cf (ua:=ub) (la:=lb) (ub:=ua) (lb:=la) (x:=qb.getD i 0) h2 h1 (r:=qa.take j) (by rw[List.length_take]; omega)
        refine⟨⟨by omega,by omega⟩,by simp only[cq]; omega,⟨0,by omega,by simp[nZ],by omega,by first | omega | (dsimp only; omega)⟩,fun k hk=>⟨fun hkl => ?_,fun hkl => ?_⟩⟩
        · have ls:=Cg ua.length (aT (qb.getD i 0) ub lb) (aR (qa.getD j 0) ua la) k
          have st:=FK ((k:Int)-(ua.length:Int)) (BU (n:=qb.getD i 0) (h2.hu) (h2.hl)).2 (BU (n:=qa.getD j 0) (h1.hu) (h1.hl)).1
          refine⟨?_,fun h3=>⟨by simp only[cq]; omega,by simp only[List.length_append]; omega,by simp only[cq]; omega,k+1,by omega,by rw[List.append_assoc,HW h3],by omega,by first | omega | (dsimp only; omega)⟩,fun h3=>⟨by simp only[cq]; omega,k+1,by omega,by rw[My h3],by omega,by first | omega | (dsimp only; omega)⟩⟩
          revert hx hy
          generalize qb.getD i 0=x
          generalize qa.getD j 0=y
          intro hx hy
          rcases four hx with rfl | rfl | rfl | rfl<;>rcases four hy with rfl | rfl | rfl | rfl<;>simp[aT,aR,c1,c2,c3,c4,i1,i2,i3,i4,i5,i6,i7,i8]
        · rw[show k=ua.length+ub.length+1 by omega]
          exact⟨by simp only[cq]; omega,j+1,by omega,by rw[List.append_assoc,Mw Ls],by omega,by first | omega | (dsimp only; omega)⟩
      · have e:lY ub lb ua la (qb.getD i 0) (qa.take j)=lY ub lb ua la (qb.getD i 0) qa:=by rw[show j=qa.length by omega,List.take_length]
        rw[e]
        exact⟨by simp only[cq]; omega,i+1,by omega,by rw[List.append_assoc,Mx Lt],by omega,by first | omega | (dsimp only; omega)⟩
    · have e1:bR ub lb (qb.take i) ua la qa=bR ub lb qb ua la qa:=by rw[show i=qb.length by omega,List.take_length]
      rw[e1]
      have bs2:=wK (ua:=ub) (la:=lb) h2 h1 (r:=qb) (q_len h2)
      have hne:1≤(bR ua la qa ub lb qb++bR ub lb qb ua la qa).length:=by
        rw[List.length_append]
        by_cases hw:ub.length≤ua.length
        · have:=wJ h1 h2 hw; omega
        · have:=wJ h2 h1 (by omega); omega
      have hle:(bR ua la qa ub lb qb++bR ub lb qb ua la qa).length≤544:=by rw[List.length_append]; omega
      unfold kN
      generalize bR ua la qa ub lb qb++bR ub lb qb ua la qa=L at hne hle
      have hd:(L.drop 1).length≤544:=by rw[List.length_drop]; omega
      generalize L.drop 1=r at hd
      generalize L.getD 0 0=z
      refine⟨⟨by omega,by omega⟩,⟨by omega,by omega⟩,⟨0,rfl,rfl,by omega,by first | omega | (dsimp only; omega)⟩,fun a ha=>⟨fun hl=>⟨⟨by omega,by omega⟩,fun hm=>⟨by simp only[cq]; omega,a+1,by rw[Iu (by omega),mn,if_pos hm],by omega,by omega,by first | omega | (dsimp only; omega)⟩,fun hm=>⟨by simp only[cq]; omega,a+1,by rw[Iu (by omega),mn,if_neg hm],by omega,by omega,by first | omega | (dsimp only; omega)⟩⟩,fun hl=>by rw[show a=r.length by omega,List.take_length]⟩⟩
end Go.Tv
end
