import Derived.Test.YtedcgbkilmlbhaaGreatPk11
section
namespace Go.Tv
open Go Go.Di Go.Proofs
set_option maxRecDepth 100000
theorem CK {α : Type} {l : List α} {i : Nat} (d : α) (h : i < l.length) : l.take (i + 1) = l.take i ++ [l.getD i d] := by
 rw [List.take_succ_eq_append_getElem h, List.getD_eq_getElem?_getD, List.getElem?_eq_getElem h]
 rfl
abbrev dP : aJ.den := ([], [], 0, [], ())
def tn (l : List PD) : Int := if 4 < l.length then 6 else iA l
def Qb (p : aJ.den) : Prop := Ok p.1 p.2.1 p.2.2.1 p.2.2.2.1
theorem Xs {p : aJ.den} (h : Qb p) : dH p := A1 h
def Ws : List TV → Dn
 | [.sl (.pair (.sl (.int .i64)) (.pair (.sl (.int .i64)) (.pair (.int .i64) (.pair (.sl (.int .i64)) .unit)))) l .no] => some ([l.length ≤ 1000, ∀ p ∈ l, dH p], .res (bt (tn l)) [] [], [])
 | _ => none
theorem abv : VI T6 Tryz.f50 [some bW] Ws := by
 refine jN fun a => ?_
 unfold Ws
 split
 rotate_left
 ·trivial
 rename_i l
 intro hp
 refine Am (A := aI (decide ((↑l.length : Int) > (4 : Int))) ((6 : Int) = tn l ∧ True) (l.length ≤ (1000 : Nat) ∧ (∀ (p : (aJ).den), p ∈ l → dH p) ∧ iA l = tn l ∧ True)) (by kernel_rfl) ?_
 obtain ⟨h1, h2, -⟩ := hp
 simp only [bJ, and_true]
 exact ⟨fun h => by rw [tn, if_pos (by omega)], fun h => ⟨by omega, h2, by rw [tn, if_neg (by omega)]⟩⟩
theorem BU {l : List PD} {i : Nat} {d : PD} (h : i < l.length) (h1 : iA (l.take i) = 0) : (DZ (l.getD i d) = 0 → iA (l.take (i + 1)) = 0) ∧ (DZ (l.getD i d) ≠ 0 → iA l = DZ (l.getD i d)) := by
 have e : l.getD i d = l[i] := by simp [List.getD_eq_getElem?_getD, h]
 rw [e]
 constructor
 ·intro k
  rw [← List.take_append_getElem h, mj h1, iA, if_neg (fun h => h k)]
  rfl
 ·intro k
  conv => lhs; rw [← List.take_append_drop i l]
  rw [mj h1, List.drop_eq_getElem_cons h, iA, if_pos k]
def D51 : List TV → Dn
 | [.sl (.pair (.sl (.int .i64)) (.pair (.sl (.int .i64)) (.pair (.int .i64) (.pair (.sl (.int .i64)) .unit)))) l .no] => some ([l.length ≤ 1000, ∀ p ∈ l, dH p], .res (bt (tn l)) [] [],
  [(6, .ex Nat fun i => .st { sl := [(3, bt i)], dn := [i ≤ l.length, iA (l.take i) = 0], m := l.length - i })])
 | _ => none
theorem v51 : VI G3 Tryz.f51 [some bW] D51 := by
 refine jN fun a => ?_
 unfold D51
 split
 rotate_left
 ·trivial
 rename_i l
 intro hp
 refine Am (A := aI (decide ((↑l.length : Int) > (4 : Int))) ((6 : Int) = tn l ∧ True) ((∃ (a : Nat), (0 : Int) = (↑a : Int) ∧ a ≤ l.length ∧ iA (List.take a l) = (0 : Int) ∧ l.length - a < (1000000 : Nat)) ∧ ∀ (a : Nat), a ≤ l.length → iA (List.take a l) = (0 : Int) → aI (decide ((↑a : Int) < (↑l.length : Int))) (((0 : Int) ≤ (↑a : Int) ∧ (↑a : Int) < (↑l.length : Int)) ∧ Sh (l.getD a ([], [], (0 : Int), [], ())).fst (l.getD a ([], [], (0 : Int), [], ())).snd.fst (l.getD a ([], [], (0 : Int), [], ())).snd.snd.snd.fst ∧ aI (gf (l.getD a ([], [], (0 : Int), [], ())).fst (l.getD a ([], [], (0 : Int), [], ())).snd.fst (l.getD a ([], [], (0 : Int), [], ())).snd.snd.fst (l.getD a ([], [], (0 : Int), [], ())).snd.snd.snd.fst != (0 : Int)) (gf (l.getD a ([], [], (0 : Int), [], ())).fst (l.getD a ([], [], (0 : Int), [], ())).snd.fst (l.getD a ([], [], (0 : Int), [], ())).snd.snd.fst (l.getD a ([], [], (0 : Int), [], ())).snd.snd.snd.fst = tn l ∧ True) (dK ((↑a : Int) + (1 : Int)) ∧ ∃ (a_1 : Nat), l = l ∧ (↑a : Int) + (1 : Int) = (↑a_1 : Int) ∧ a_1 ≤ l.length ∧ iA (List.take a_1 l) = (0 : Int) ∧ l.length - a_1 < l.length - a)) ((0 : Int) = tn l ∧ True))) (by kernel_rfl) ?_
 obtain ⟨h1, h2, -⟩ := hp
 change List PD at l
 simp only [bJ, cE, dK, eR, and_true, true_and, eq_self]
 refine ⟨fun h => by rw [tn, if_pos (by omega)], fun h => ⟨⟨0, rfl, by omega, rfl, by omega⟩, fun i k1 k2 => ⟨fun k3 => ⟨by omega, jd (by omega) h2, fun k4 => ⟨by omega, i + 1, by omega, by omega, (BU (by omega) k2).1 k4, by omega⟩, fun k4 => ?_⟩, fun k3 => ?_⟩⟩⟩
 ·rw [tn, if_neg (by omega)]; exact ((BU (by omega) k2).2 k4).symm
 ·rw [show i = l.length by omega, List.take_length] at k2
  rw [tn, if_neg (by omega), k2]
theorem aaE {p q : PD} : (p.1 = q.1 ∧ p.2.1 = q.2.1 ∧ p.2.2.1 = q.2.2.1 ∧ p.2.2.2.1 = q.2.2.2.1) ↔ p = q := by
 obtain ⟨a, b, c, d, _⟩ := p
 obtain ⟨a', b', c', d', _⟩ := q
 simp
def Wt : List TV → Dn
 | [.sl (.pair (.sl (.int .i64)) (.pair (.sl (.int .i64)) (.pair (.int .i64) (.pair (.sl (.int .i64)) .unit)))) l .no, .sl (.pair (.sl (.int .i64)) (.pair (.sl (.int .i64)) (.pair (.int .i64) (.pair (.sl (.int .i64)) .unit)))) m .no] => some ([l.length ≤ 1000, m.length ≤ 1000, ∀ p ∈ l, dH p, ∀ p ∈ m, dH p], .ex Bool fun b => .res (mz b) [] [b = true ↔ l = m],
  [(4, .ex Nat fun i => .ex Bool fun b => .st { sl := [(5, mz b), (6, bt i)], dn := [i ≤ l.length, b = true ↔ (l.length = m.length ∧ l.take i = m.take i)], m := l.length - i })])
 | _ => none
def H1 : gh := T0.dw 48 fun a => dS (D26 a)
theorem abw : VI H1 Tryz.f25 [some .bool] Wt := by
 refine jN fun a => ?_
 unfold Wt
 split
 rotate_left
 ·trivial
 rename_i l m
 intro hp
 refine Am (A := (∃ (a : Nat), ∃ (a_1 : Bool), ((↑l.length : Int) == (↑m.length : Int)) = a_1 ∧ (0 : Int) = (↑a : Int) ∧ a ≤ l.length ∧ (a_1 = true ↔ l.length = m.length ∧ List.take a l = List.take a m) ∧ l.length - a < (1000000 : Nat)) ∧ ∀ (a : Nat) (a_1 : Bool), a ≤ l.length → (a_1 = true ↔ l.length = m.length ∧ List.take a l = List.take a m) → aI a_1 (aI (decide ((↑a : Int) < (↑l.length : Int))) (((0 : Int) ≤ (↑a : Int) ∧ (↑a : Int) < (↑l.length : Int)) ∧ ((0 : Int) ≤ (↑a : Int) ∧ (↑a : Int) < (↑m.length : Int)) ∧ Sh (l.getD a ([], [], (0 : Int), [], ())).fst (l.getD a ([], [], (0 : Int), [], ())).snd.fst (l.getD a ([], [], (0 : Int), [], ())).snd.snd.snd.fst ∧ Sh (m.getD a ([], [], (0 : Int), [], ())).fst (m.getD a ([], [], (0 : Int), [], ())).snd.fst (m.getD a ([], [], (0 : Int), [], ())).snd.snd.snd.fst ∧ dK ((↑a : Int) + (1 : Int)) ∧ ∃ (a_2 : Nat), ∃ (a_3 : Bool), l = l ∧ m = m ∧ false = false ∧ decide ((l.getD a ([], [], (0 : Int), [], ())).fst = (m.getD a ([], [], (0 : Int), [], ())).fst ∧ (l.getD a ([], [], (0 : Int), [], ())).snd.fst = (m.getD a ([], [], (0 : Int), [], ())).snd.fst ∧ (l.getD a ([], [], (0 : Int), [], ())).snd.snd.fst = (m.getD a ([], [], (0 : Int), [], ())).snd.snd.fst ∧ (l.getD a ([], [], (0 : Int), [], ())).snd.snd.snd.fst = (m.getD a ([], [], (0 : Int), [], ())).snd.snd.snd.fst) = a_3 ∧ (↑a : Int) + (1 : Int) = (↑a_2 : Int) ∧ a_2 ≤ l.length ∧ (a_3 = true ↔ l.length = m.length ∧ List.take a_2 l = List.take a_2 m) ∧ l.length - a_2 < l.length - a) (∃ (a : Bool), a_1 = a ∧ (a = true ↔ l = m) ∧ True)) (∃ (a : Bool), a_1 = a ∧ (a = true ↔ l = m) ∧ True)) (by kernel_rfl) ?_
 obtain ⟨h1, h2, s1, s2, -⟩ := hp
 change List PD at l m
 refine ⟨⟨0, _, rfl, rfl, by omega, by simp; omega, by omega⟩, fun i b h3 h4 => iB.2 ⟨fun h5 => bJ.2 ⟨fun h6 => ?_, fun h6 => ⟨_, rfl, ?_, trivial⟩⟩, fun h5 => ⟨_, rfl, ?_, trivial⟩⟩⟩
 ·have h5 := h4.1 h5
  refine ⟨⟨by omega, by omega⟩, ⟨by omega, by omega⟩, jd (by omega) s1, jd (by omega) s2, ⟨by omega, by omega⟩, i + 1, _, rfl, rfl, rfl, rfl, by omega, by omega, ?_, by omega⟩
  rw [decide_eq_true_iff, aaE, CK dP (by omega), CK dP (by omega)]
  refine ⟨fun h => ⟨h5.1, by rw [h5.2, h]⟩, fun h => ?_⟩
  have := List.append_inj_right' h.2 rfl
  simpa using this
 ·have h5 := h4.1 h5
  have e1 := h5.2
  rw [List.take_of_length_le (by omega), List.take_of_length_le (by omega)] at e1
  rw [h4]
  exact ⟨fun _ => e1, fun h => h5⟩
 ·subst h5
  rw [h4]
  refine ⟨fun h => absurd (h4.2 h) (by decide), fun h => ?_⟩
  subst h
  exact absurd (h4.2 ⟨rfl, rfl⟩) (by decide)
def WG (te : List TV) (i : Nat) (k : Nat → LA) : LA :=
 match te.getD i .unk with
 | .so g _ => k g
 | _ => .un 0
def aac (te : List TV) (i : Nat) (k : List aJ.den → LA) : LA :=
 match te.getD i .unk with
 | .sl (.pair (.sl (.int .i64)) (.pair (.sl (.int .i64)) (.pair (.int .i64) (.pair (.sl (.int .i64)) .unit)))) l _ => k l
 | _ => .un 0
def J16 : List (Nat × LA) := [(4, .pe 1 (.dep fun te _ => WG te 3 fun g => aac te 0 fun l => .ex Nat fun i => .st { sl := [(3, .so g aJ), (4, bt i)], mp := [(g, ⟨aJ, l.take i⟩)], dn := [i ≤ l.length], m := l.length - i }))]
def Wu : List TV → Dn
 | [.sl (.pair (.sl (.int .i64)) (.pair (.sl (.int .i64)) (.pair (.int .i64) (.pair (.sl (.int .i64)) .unit)))) l .no] => some ([l.length ≤ 1000, ∀ p ∈ l, dH p], .res (.sl aJ l .no) [] [], J16)
 | _ => none
def H2 : gh := T0d.dw 42 fun a => dS (D20 a)
theorem xQ {l : List PD} {i : Nat} (h : i < l.length) : l.take i ++ [((l.getD i dP).1, (l.getD i dP).2.1, (l.getD i dP).2.2.1, (l.getD i dP).2.2.2.1, ())] = l.take (i + 1) := (CK dP h).symm
def Mm.q1 (p0 : List (aJ).den) (p1 : Int) (p2 p3 : Nat) (p4 : Prop) : Prop := ((0 : Int) ≤ p1 ∧ p1 < (↑p0.length : Int)) ∧ Sh (p0.getD p2 ([], [], (0 : Int), [], ())).fst (p0.getD p2 ([], [], (0 : Int), [], ())).snd.fst (p0.getD p2 ([], [], (0 : Int), [], ())).snd.snd.snd.fst ∧ p3 ≤ (1000000000 : Nat) ∧ p4
theorem Mm : VI H2 Tryz.f16 [some (.sl aJ)] Wu := by
 refine jN fun a => ?_
 unfold Wu
 split
 rotate_left
 ·trivial
 rename_i l
 intro hp
 refine Am (A := aI (decide ((0 : Int) < (↑l.length : Int))) (Mm.q1 l (0 : Int) (0 : Nat) (1 : Nat) (dK (1 : Int) ∧ (∃ (a : Nat), (1 : Int) = (↑a : Int) ∧ [((l.getD (0 : Nat) ([], [], (0 : Int), [], ())).fst, (l.getD (0 : Nat) ([], [], (0 : Int), [], ())).snd.fst, (l.getD (0 : Nat) ([], [], (0 : Int), [], ())).snd.snd.fst, (l.getD (0 : Nat) ([], [], (0 : Int), [], ())).snd.snd.snd.fst, ())] = List.take a l ∧ a ≤ l.length ∧ l.length - a < (1000000 : Nat)) ∧ ∀ (a : Nat), a ≤ l.length → aI (decide ((↑a : Int) < (↑l.length : Int))) (Mm.q1 l (↑a : Int) a ((List.take a l).length + (1 : Nat)) (dK ((↑a : Int) + (1 : Int)) ∧ ∃ (a_1 : Nat), l = l ∧ ox aJ.den ∧ (↑a : Int) + (1 : Int) = (↑a_1 : Int) ∧ List.take a l ++ [((l.getD a ([], [], (0 : Int), [], ())).fst, (l.getD a ([], [], (0 : Int), [], ())).snd.fst, (l.getD a ([], [], (0 : Int), [], ())).snd.snd.fst, (l.getD a ([], [], (0 : Int), [], ())).snd.snd.snd.fst, ())] = List.take a_1 l ∧ a_1 ≤ l.length ∧ l.length - a_1 < l.length - a)) (List.take a l = l ∧ True))) ([] = l ∧ True)) (by kernel_rfl) ?_
 unfold Mm.q1
 obtain ⟨h1, h2, -⟩ := hp
 change List PD at l
 refine bJ.2 ⟨fun h => ⟨⟨by omega, by omega⟩, jd (by omega) h2, by omega, by simp only [dK]; omega, ⟨1, rfl, xQ (i := 0) (by omega), by omega, by omega⟩, fun i hi => bJ.2 ⟨fun hl => ⟨⟨by omega, by omega⟩, jd (by omega) h2, by rw [List.length_take]; omega, by simp only [dK]; omega, i + 1, rfl, eR ▸ trivial, by omega, xQ (by omega), by omega, by omega⟩, fun hl => ⟨by rw [show i = l.length by omega, List.take_length], trivial⟩⟩⟩, fun h => ⟨(List.eq_nil_of_length_eq_zero (by omega)).symm, trivial⟩⟩
def qN (u l : List Int) (w : Int) (q : List Int) (n : Int) : Int := if gf u l w q ≠ 0 then gf u l w q else if 0 ≤ n ∧ n ≤ 3 then 0 else 8
def rN (u l : List Int) (w : Int) (q : List Int) (n : Int) : PD := if gf u l w q = 0 ∧ 0 ≤ n ∧ n ≤ 3 then (bT n u l, bU n u l, w, dY n q 4, ()) else dP
abbrev pcT (x : PD) : TV := JJ x.1 x.2.1 x.2.2.1 x.2.2.2.1
abbrev Ir (u l : List Int) (w : Int) (q : List Int) (n : Int) : qX := .ex PD fun x => .ex Int fun e => .res (.ep [pcT x, bt e]) [] [x = rN u l w q n, e = qN u l w q n]
def Rh : List TV → Dn
 | [.agg [.sl (.int .i64) u .no, .sl (.int .i64) l .no, .val (.int .i64 w), .sl (.int .i64) q .no], .val (.int .i64 n)] => some ([Sh u l q, ¬ (gf u l w q = 0 ∧ 0 ≤ n ∧ n ≤ 3)], Ir u l w q n, [])
 | _ => none
def JW.q1 (p0 p1 : List bW.den) (p2 : Int) (p3 : List bW.den) (p4 p5 : Int) : Prop := ∃ (a : PD), ∃ (a_1 : Int), [] = a.fst ∧ [] = a.snd.fst ∧ (0 : Int) = a.snd.snd.fst ∧ [] = a.snd.snd.snd.fst ∧ p5 = a_1 ∧ a = rN p0 p1 p2 p3 p4 ∧ a_1 = qN p0 p1 p2 p3 p4 ∧ True
theorem JW : VI LT Tryz.f52 [some aJ, some bW] Rh := by
 refine jN fun a => ?_
 unfold Rh
 split
 rotate_left
 ·trivial
 rename_i u l w q n
 intro hp
 refine Am (A := Sh u l q ∧ aI (gf u l w q != (0 : Int)) (JW.q1 u l w q n (gf u l w q)) (aI (decide (n < (0 : Int))) (JW.q1 u l w q n (8 : Int)) (aI (decide (n > (3 : Int))) (JW.q1 u l w q n (8 : Int)) (u.length ≤ (1000 : Nat) ∧ l.length ≤ (1000 : Nat) ∧ (0 : Int) ≤ n ∧ n ≤ (3 : Int) ∧ bT n u l ≠ [] ∧ (bT n u l).length ≤ (1000 : Nat) ∧ bU n u l ≠ [] ∧ (bU n u l).length ≤ (1000 : Nat) ∧ False)))) (by kernel_rfl) ?_
 unfold JW.q1
 obtain ⟨h1, h2, -⟩ := hp
 have hx : rN u l w q n = dP := if_neg h2
 refine ⟨h1, cE.2 ⟨fun e0 => ?_, fun e1 => ⟨dP, _, rfl, rfl, rfl, rfl, rfl, hx.symm, by rw [qN, if_pos e1], trivial⟩⟩⟩
 have he : ¬(0 ≤ n ∧ n ≤ 3) → 8 = qN u l w q n := fun h => by rw [qN, if_neg (fun h => h e0), if_neg h]
 exact bJ.2 ⟨fun hn => ⟨dP, _, rfl, rfl, rfl, rfl, rfl, hx.symm, he (by omega), trivial⟩, fun hn => bJ.2 ⟨fun FZ => ⟨dP, _, rfl, rfl, rfl, rfl, rfl, hx.symm, he (by omega), trivial⟩, fun FZ => (h2 ⟨e0, by omega, by omega⟩).elim⟩⟩
def H3 : gh := G3.dw 81 fun a => dS (D16 a)
def Wq : List TV → Dn
 | [.agg [.sl (.int .i64) u .no, .sl (.int .i64) l .no, .val (.int .i64 w), .sl (.int .i64) q .no], .val (.int .i64 n)] => some ([Sh u l q], Ir u l w q n, [])
 | _ => none
theorem abu : VI H3 Tryz.f53 [some aJ, some bW] Wq := by
 refine jN fun a => ?_
 unfold Wq
 split
 rotate_left
 ·trivial
 rename_i u l w q n
 intro hp
 refine Am (A := Sh u l q ∧ aI (gf u l w q != (0 : Int)) (∃ (a : PD), ∃ (a_1 : Int), [] = a.fst ∧ [] = a.snd.fst ∧ (0 : Int) = a.snd.snd.fst ∧ [] = a.snd.snd.snd.fst ∧ gf u l w q = a_1 ∧ a = rN u l w q n ∧ a_1 = qN u l w q n ∧ True) (aI (!decide ((0 : Int) ≤ n ∧ n ≤ (3 : Int))) (∃ (a : PD), ∃ (a_1 : Int), [] = a.fst ∧ [] = a.snd.fst ∧ (0 : Int) = a.snd.snd.fst ∧ [] = a.snd.snd.snd.fst ∧ (8 : Int) = a_1 ∧ a = rN u l w q n ∧ a_1 = qN u l w q n ∧ True) (u.length ≤ (1000 : Nat) ∧ l.length ≤ (1000 : Nat) ∧ q.length ≤ (1000 : Nat) ∧ (0 : Int) ≤ n ∧ n ≤ (3 : Int) ∧ ∃ (a : PD), ∃ (a_1 : Int), bT n u l = a.fst ∧ bU n u l = a.snd.fst ∧ w = a.snd.snd.fst ∧ dY n q (4 : Nat) = a.snd.snd.snd.fst ∧ (0 : Int) = a_1 ∧ a = rN u l w q n ∧ a_1 = qN u l w q n ∧ True))) (by kernel_rfl) ?_
 obtain ⟨h1, -⟩ := hp
 refine ⟨h1, cE.2 ⟨fun e0 => cS.2 (bJ.2 ⟨fun hn => ⟨h1.1, h1.2.1, h1.2.2, hn.1, hn.2, _, _, rfl, rfl, rfl, rfl, rfl, by rw [rN, if_pos ⟨e0, hn⟩], by rw [qN, if_neg (fun h => h e0), if_pos hn], trivial⟩, fun hn => ⟨dP, _, rfl, rfl, rfl, rfl, rfl, by rw [rN, if_neg fun h => hn h.2], by rw [qN, if_neg (fun h => h e0), if_neg hn], trivial⟩⟩), fun e1 => ⟨dP, _, rfl, rfl, rfl, rfl, rfl, by rw [rN, if_neg fun h => e1 h.1], by rw [qN, if_pos e1], trivial⟩⟩⟩
def Wi : List TV → Sp
 | [.agg [.sl (.int .i64) u .no, .sl (.int .i64) l .no, .val (.int .i64 w), .sl (.int .i64) q .no], .val (.int .i64 n)] => some ([Sh u l q], Ir u l w q n)
 | _ => none
theorem Sv {u l q : List Int} {w n : Int} (h : Sh u l q) : dH (rN u l w q n) := by
 unfold rN
 split
 ·rename_i hv
  exact A1 (Xr (CA.1 hv.1) hv.2)
 ·exact ⟨by decide, by decide, by decide⟩
end Go.Tv
end
section
namespace Go.Tv
open Go Go.Di Go.Proofs
set_option maxRecDepth 100000
def Gu (te:List TV) (i:Nat) (k:Nat→LA):LA :=
 match te.getD i .unk with
 | .ptr p _=>k p
 | _ => .un 0
def aae (te:List TV) (i:Nat) (k:Int→LA):LA :=
 match te.getD i .unk with
 | .val (.int .i64 n)=>k n
 | _ => .un 0
def J26:List (Nat×LA):=[(4,.dep fun te tS=>aae te 6 fun k=>Gu te 0 fun p => .ex Nat fun m => .ex (List aJ.den) fun l => .ex (List Int) fun r => .ex Int fun z => .st { sl:=[(5,.sl aJ l (.oC tS.length)),(6,bt m)],pl:=[(p,tg r z)],own:=[(25,4)],dn:=[(l.length+m:Int)≤k∨(l.length+m:Int)=0,∀ p∈l,Qb p],m:=m })]
def nE (x:List aJ.den):Prop:=x.length≤20∧∀ p∈x,dH p
noncomputable def H4:gh:=(((T6.dw 42 fun a=>dS (D20 a)).Rc 26 Tryz.f26 J26).Rc 16 Tryz.f16 J16)
def D14:List TV→List TV→Dn
 | [.sl (.pair (.sl (.int .i64)) (.pair (.sl (.int .i64)) (.pair (.int .i64) (.pair (.sl (.int .i64)) .unit)))) l .no,.agg [.sl (.int .i64) u .no,.sl (.int .i64) lo .no,.val (.int .i64 w),.sl (.int .i64) q .no],.ptr 0 0],[.sl (.int .i64) _ .no,.val (.int .u64 _)] =>
  some ([nE l,Sh u lo q],.ex (List (List aJ.den)) fun all => .ex (List Int) fun r => .ex Int fun z => .res (.sl (.sl aJ) all .no) (tg r z) [all.length=3,∀ x∈all,nE x],
   [(1,.ex (List aJ.den) fun ps => .ex (List Int) fun r => .ex Int fun z => .st { sl:=[(7,.sl aJ ps .no)],pl:=[(0,tg r z)],dn:=[ps.length≤4,∀ p∈ps,Qb p] })])
 | _,_=>none
theorem CZ {l:List aJ.den} {u lo q:List Int} {w:Int} (h:∀ p∈l,Qb p) (ho:Ok u lo w q):∀ p∈l++[(u,lo,w,q,())],Qb p:=fun p hp=>by
 rcases List.mem_append.1 hp with hp | hp
 ·exact h p hp
 ·rw[List.mem_singleton.1 hp]; exact ho
def v14.q1 (p0:List aJ.den) (p1:Nat) (p2 p3:List bW.den) (p4:Int) (p5:List bW.den) (p6:Int) (p7 p8:List Int) (p9:Int) (YE p11:List Int) (p12:Int):Prop:=p0.length+(1:Nat)≤(1000000000:Nat)∧dK ((↑p1:Int)-(1:Int))∧∃ (a:Nat),∃ (a_1:List aJ.den),∃ (a_2:List Int),∃ (a_3:Int),ox aJ.den∧p0++[(p7,p8,p9,YE,())]=a_1∧(↑p1:Int)-(1:Int)=(↑a:Int)∧p11=a_2∧p12=a_3∧p2=p2∧p3=p3∧p4=p4∧p5=p5∧((↑a_1.length:Int)+(↑a:Int)≤p6∨(↑a_1.length:Int)+(↑a:Int)=(0:Int))∧(∀ (p:aJ.den),p∈a_1→Qb p)∧a<p1
def v14.q2 (p0:List (aJ).den) (p1 p2:List aJ.den) (p3:List Int) (p4:Int):Prop:=∃ (a:List (List aJ.den)),∃ (a_1:List Int),∃ (a_2:Int),[p0,p1,p2]=a∧p3=a_1∧p4=a_2∧a.length=(3:Nat)∧(∀ (x:List aJ.den),x∈a→nE x)∧True
def v14.q3 (p0:List aJ.den) (p1:Int) (p2 p3:Nat) (p4:Prop):Prop:=((0:Int)≤p1∧p1<(↑p0.length:Int))∧Sh (p0.getD p2 ([],[],(0:Int),[],())).fst (p0.getD p2 ([],[],(0:Int),[],())).snd.fst (p0.getD p2 ([],[],(0:Int),[],())).snd.snd.snd.fst∧p3≤(1000000000:Nat)∧p4
theorem v14:VC H4 Tryz.f14 [some (.sl (.sl aJ))] [some bZ,some (.int .u64)] D14 1:=by
 refine aaj fun a cs => ?_
 unfold D14
 split
 rotate_left
 ·trivial
 rename_i l u lo w q r z
 intro hp
 refine Am (A:=((4:Int)≤(1000:Int)∧(-10000:Int)≤(4:Int)∧∀ (a:Int) (a_1:List Int) (a_2:Int),(0:Int)≤a→a≤(4:Int)∨a=(0:Int)→(∃ (a_3:Nat),∃ (a_4:List aJ.den),∃ (a_5:List Int),∃ (a_6:Int),[]=a_4∧a=(↑a_3:Int)∧a_1=a_5∧a_2=a_6∧((↑a_4.length:Int)+(↑a_3:Int)≤a∨(↑a_4.length:Int)+(↑a_3:Int)=(0:Int))∧(∀ (p:aJ.den),p∈a_4→Qb p)∧a_3<(1000000:Nat))∧∀ (a_3:Nat) (a_4:List aJ.den) (a_5:List Int) (a_6:Int),(↑a_4.length:Int)+(↑a_3:Int)≤a∨(↑a_4.length:Int)+(↑a_3:Int)=(0:Int)→(∀ (p:aJ.den),p∈a_4→Qb p)→aI (decide ((↑a_3:Int)>(0:Int))) (aI (decide ((↑a_4.length:Int)>(0:Int))) ((2:Int)≤(1000:Int)∧(0:Int)≤(2:Int)∧∀ (a_7:Bool) (a_8:Int) (a_9:List Int) (a_10:Int),aI a_7 (dK ((↑a_4.length:Int)-(1:Int))∧(↑a_4.length:Int)-(1:Int)≤(1000:Int)∧(-10000:Int)≤(↑a_4.length:Int)-(1:Int)∧∀ (a_11:Int) (a_12:List Int) (a_13:Int),(0:Int)≤a_11→a_11≤(↑a_4.length:Int)-(1:Int)∨a_11=(0:Int)→((0:Int)≤a_11∧a_11<(↑a_4.length:Int))∧Ok (a_4.getD a_11.toNat ([],[],(0:Int),[],())).fst (a_4.getD a_11.toNat ([],[],(0:Int),[],())).snd.fst (a_4.getD a_11.toNat ([],[],(0:Int),[],())).snd.snd.fst (a_4.getD a_11.toNat ([],[],(0:Int),[],())).snd.snd.snd.fst∧∀ (a_14 a_15:List Int) (a_16:Int) (a_17 a_18:List Int) (a_19:Int),Ok a_14 a_15 a_16 a_17→a_14=List.map (fun(x:bW.den)=>(9:bW.den)-x) (a_4.getD a_11.toNat ([],[],(0:Int),[],())).snd.fst→v14.q1 a_4 a_3 u lo w q a a_14 a_15 a_16 a_17 a_18 a_19) ((3:Int)≤(5:Int)∧(5:Int)≤(8:Int)∧∀ (a_11 a_12:List Int) (a_13:Int) (a_14 a_15:List Int) (a_16:Int),Ok a_11 a_12 a_13 a_14→(↑a_11.length:Int)≤(5:Int)→v14.q1 a_4 a_3 u lo w q a a_11 a_12 a_13 a_14 a_15 a_16)) ((3:Int)≤(5:Int)∧(5:Int)≤(8:Int)∧∀ (a_7 a_8:List Int) (a_9:Int) (a_10 a_11:List Int) (a_12:Int),Ok a_7 a_8 a_9 a_10→(↑a_7.length:Int)≤(5:Int)→v14.q1 a_4 a_3 u lo w q a a_7 a_8 a_9 a_10 a_11 a_12)) (∃ (a:List aJ.den),∃ (a_7:List Int),∃ (a_8:Int),l=l∧ox aJ.sl.den∧a_4=a∧a_5=a_7∧a_6=a_8∧u=u∧lo=lo∧w=w∧q=q∧a.length≤(4:Nat)∧(∀ (p:aJ.den),p∈a→Qb p)∧True))∧∀ (a:List aJ.den) (a_1:List Int) (a_2:Int),a.length≤(4:Nat)→(∀ (p:aJ.den),p∈a→Qb p)→aI (decide ((0:Int)<(↑a.length:Int))) (v14.q3 a (0:Int) (0:Nat) (1:Nat) (dK (1:Int)∧(∃ (a_3:Nat),(1:Int)=(↑a_3:Int)∧[((a.getD (0:Nat) ([],[],(0:Int),[],())).fst,(a.getD (0:Nat) ([],[],(0:Int),[],())).snd.fst,(a.getD (0:Nat) ([],[],(0:Int),[],())).snd.snd.fst,(a.getD (0:Nat) ([],[],(0:Int),[],())).snd.snd.snd.fst,())]=List.take a_3 a∧a_3≤a.length∧a.length-a_3<(1000000:Nat))∧∀ (a_3:Nat),a_3≤a.length→aI (decide ((↑a_3:Int)<(↑a.length:Int))) (v14.q3 a (↑a_3:Int) a_3 ((List.take a_3 a).length+(1:Nat)) (dK ((↑a_3:Int)+(1:Int))∧∃ (a_4:Nat),a=a∧ox aJ.den∧(↑a_3:Int)+(1:Int)=(↑a_4:Int)∧a_1=a_1∧a_2=a_2∧u=u∧lo=lo∧w=w∧q=q∧List.take a_3 a++[((a.getD a_3 ([],[],(0:Int),[],())).fst,(a.getD a_3 ([],[],(0:Int),[],())).snd.fst,(a.getD a_3 ([],[],(0:Int),[],())).snd.snd.fst,(a.getD a_3 ([],[],(0:Int),[],())).snd.snd.snd.fst,())]=List.take a_4 a∧a_4≤a.length∧a.length-a_4<a.length-a_3)) (True∧aI (decide ((↑(List.take a_3 a).length:Int)>(0:Int))) (True∧dK ((↑(List.take a_3 a).length:Int)-(1:Int))∧(↑(List.take a_3 a).length:Int)-(1:Int)≤(1000:Int)∧(-10000:Int)≤(↑(List.take a_3 a).length:Int)-(1:Int)∧∀ (a_4:Int) (a_5:List Int) (a_6:Int),(0:Int)≤a_4→a_4≤(↑(List.take a_3 a).length:Int)-(1:Int)∨a_4=(0:Int)→((0:Int)≤a_4∧a_4<(↑(List.take a_3 a).length:Int))∧True∧v14.q2 l a ((List.take a_3 a).set a_4.toNat (u,lo,w,q,())) a_5 a_6) (v14.q2 l a (List.take a_3 a) a_1 a_2)))) (v14.q2 l a [] a_1 a_2)) (by kernel_rfl) ?_
 unfold v14.q3 v14.q2 v14.q1
 obtain⟨hl,hs,-⟩:=hp
 simp only[bJ,aai,eq_self,true_and,and_true,dK,eR]
 refine⟨⟨by omega,by omega,fun k r z oB H7=>⟨⟨k.toNat,[],r,z,rfl,by omega,rfl,rfl,by simp only[List.length_nil]; omega,by simp,by omega⟩,fun m l' r z hm ho=>⟨fun yb=>⟨fun hl=>⟨by omega,by omega,fun b z1 r2 z2=>iB.2 ⟨fun _=>⟨⟨by omega,by omega⟩,by omega,by omega,fun i r3 z3 hi1 hi2=>⟨⟨by omega,by omega⟩,?_,fun u lo w q r4 z4 fT hu=>⟨by omega,⟨by omega,by omega⟩,m-1,_,_,_,rfl,by omega,rfl,rfl,by simp only[List.length_append,List.length_singleton]; omega,CZ ho fT,by omega⟩⟩⟩,fun _=>⟨by omega,by omega,fun u lo w q r4 z4 fT hu=>⟨by omega,⟨by omega,by omega⟩,m-1,_,_,_,rfl,by omega,rfl,rfl,by simp only[List.length_append,List.length_singleton]; omega,CZ ho fT,by omega⟩⟩⟩⟩,fun hl=>⟨by omega,by omega,fun u lo w q r4 z4 fT hu=>⟨by omega,⟨by omega,by omega⟩,m-1,_,_,_,rfl,by omega,rfl,rfl,by simp only[List.length_append,List.length_singleton]; omega,CZ ho fT,by omega⟩⟩⟩,fun ac5=>⟨_,_,_,rfl,rfl,rfl,by omega,ho⟩⟩⟩⟩,fun ps r z Yb fT => ?_⟩
 ·rw[List.getD_eq_getElem?_getD,List.getElem?_eq_getElem (by omega)]; exact ho _ (List.getElem_mem _)
 have Mb:∀ p∈ps,dH p:=fun p hp=>Xs (fT p hp)
 have fin:∀ X:List PD,X.length≤20→(∀ p∈X,dH p)→∀ x∈[l,ps,X],nE x:=fun X h1 h2 x hx=>by
  simp only[List.mem_cons,List.not_mem_nil,or_false] at hx
  rcases hx with rfl | rfl | rfl
  ·exact hl
  ·exact⟨by omega,Mb⟩
  ·exact⟨h1,h2⟩
 have tk:∀ i,i≤ps.length→(ps.take i).length≤20∧∀ p∈ps.take i,dH p:=fun i hi=>⟨by rw[List.length_take]; omega,fun p hp=>Mb p (List.mem_of_mem_take hp)⟩
 refine⟨fun h0=>⟨⟨by omega,by omega⟩,jd (by omega) Mb,by omega,⟨by omega,by omega⟩,⟨1,rfl,xQ (i:=0) (by omega),by omega,by omega⟩,fun i hi=>⟨fun JQ=>⟨⟨by omega,by omega⟩,jd (by omega) Mb,by rw[List.length_take]; omega,⟨by omega,by omega⟩,i+1,by omega,xQ (by omega),by omega,by omega⟩,fun JQ=>⟨fun hne=>⟨⟨by omega,by have:=(tk i hi).1; omega⟩,by rw[List.length_take]; omega,by omega,fun k r2 z2 k1 k2=>⟨⟨by omega,by omega⟩,_,_,_,rfl,rfl,rfl,rfl,fin _ (by rw[List.length_set]; exact(tk i hi).1) fun p hp => ?_⟩⟩,fun hne=>⟨_,_,_,rfl,rfl,rfl,rfl,fin _ (tk i hi).1 (tk i hi).2⟩⟩⟩⟩,fun h0=>⟨_,_,_,rfl,rfl,rfl,rfl,fin [] (by decide) (by simp)⟩⟩
 rcases List.mem_or_eq_of_mem_set hp with h | rfl
 ·exact(tk i hi).2 p h
 ·exact hs
end Go.Tv
end
section
namespace Go.Tv
open Go Go.Di Go.Proofs
set_option maxRecDepth 100000
def acO (d a : Nat) : LA := .dep fun te _ => Gu te d fun p => .ex (List (List aJ.den)) fun all => .ex (List Int) fun r => .ex Int fun z => .st { sl := [(a, .sl (.sl aJ) all .no)], pl := [(p, tg r z)], dn := [all.length = 3, ∀ x ∈ all, nE x] }
noncomputable def H5 : gh := ((((((((H4.dw 11 fun a => dS (D18 a)).dw 16 fun a => dS (Wu a)).dw 50 fun a => dS (Ws a)).dw 51 fun a => dS (D51 a)).dw 25 fun a => dS (Wt a)).dw 48 fun a => dS (D26 a)).dw 52 Wi).dw 53 fun a => dS (Wq a)).qU 14 fun a c => dS (D14 a c)
def D7 : List TV → Dn
  | [.sl (.pair (.sl (.int .i64)) (.pair (.sl (.int .i64)) (.pair (.int .i64) (.pair (.sl (.int .i64)) .unit)))) _ .no, .agg [.sl (.int .i64) _ .no, .sl (.int .i64) _ .no, .val (.int .i64 _), .sl (.int .i64) _ .no], .val (.int .i64 _), .sl (.int .i64) _ .no] => some ([], .res (mz true) [] [], [(8, .ex Nat fun i => .st { sl := [(11, bt i)], dn := [i ≤ 3], m := 3 - i }),
     (15, .dep fun te _ => Gu te 9 fun p => .ex (List aJ.den) fun A => .ex (List Int) fun S => .ex (List Int) fun r => .ex Int fun z => .st { sl := [(13, .sl aJ A .no), (14, .sl bW S .no)], pl := [(p, tg r z)], dn := [A.length = 4, S.length = 4, ∀ p ∈ A, dH p] }),
     (18, .ex Nat fun i => .st { sl := [(15, bt i)], dn := [i ≤ 4], m := 4 - i })])
  | _ => none
theorem EG {l : List PD} (h : (decide (l.length ≤ 20) && l.all F4) = true) : nE l := by
  simp only [Bool.and_eq_true, decide_eq_true_eq, List.all_eq_true] at h
  exact ⟨h.1, fun p hp => W9 (h.2 p hp)⟩
theorem Po {α : Type} {P : α → Prop} {l : List α} {i : Nat} {d : α} (h : i < l.length) (hl : ∀ p ∈ l, P p) : P (l.getD i d) := by
  rw [List.getD_eq_getElem?_getD, List.getElem?_eq_getElem h]; exact hl _ (List.getElem_mem _)
def xA.q1 (p0 : List aJ.den) (p1 : Nat) (p2 : Prop) : Prop := Sh (p0.getD p1 ([], [], (0 : Int), [], ())).fst (p0.getD p1 ([], [], (0 : Int), [], ())).snd.fst (p0.getD p1 ([], [], (0 : Int), [], ())).snd.snd.snd.fst ∧ p2
def xA.q2 (p0 : List (List aJ.den)) (p1 : Nat) (p2 : Prop) : Prop := List.length (p0.getD p1 []) ≤ (1000 : Nat) ∧ (∀ (p : (aJ).den), p ∈ p0.getD p1 [] → dH p) ∧ p2
def xA.q3 (p0 p1 : Nat) (p2 : Prop) : Prop := ((0 : Int) ≤ (↑p0 : Int) ∧ (↑p0 : Int) < (↑p1 : Int)) ∧ p2
theorem xA : VI H5 Tryz.f7 [some .bool] D7 := by
  refine jN fun a => ?_
  unfold D7
  split
  rotate_left
  · trivial
  rename_i l u lo w q n Az
  intro hp
  refine Am (A := ∀ (a : Bool), a = (decide (l.length ≤ (20 : Nat)) && l.all F4) → aI (!a) (true = true ∧ True) (∀ (a : Bool), a = (decide ((1 : Nat) ≤ (20 : Nat)) && [(u, lo, w, q, ())].all F4) → aI (!a) (true = true ∧ True) (nE l ∧ Sh u lo q ∧ ∀ (a : List (List aJ.den)) (a_1 : List Int) (a_2 : Int), a.length = (3 : Nat) → (∀ (x : List aJ.den), x ∈ a → nE x) → (∃ (a : Nat), (0 : Int) = (↑a : Int) ∧ a ≤ (3 : Nat) ∧ (3 : Nat) - a < (1000000 : Nat)) ∧ ∀ (a_3 : Nat), a_3 ≤ (3 : Nat) → aI (decide ((↑a_3 : Int) < (↑a.length : Int))) (xA.q3 a_3 a.length (xA.q2 a a_3 (xA.q2 a a_3 (xA.q3 a_3 a.length (xA.q2 a a_3 (aI (tn (a.getD a_3 []) != tn (a.getD a_3 [])) (false = true ∧ True) (xA.q3 a_3 a.length (List.length (a.getD a_3 []) ≤ (1000 : Nat) ∧ xA.q2 a a_3 ((∀ (p : (aJ).den), p ∈ a.getD a_3 [] → dH p) ∧ ∀ (a_4 : Bool), (a_4 = true ↔ a.getD a_3 [] = a.getD a_3 []) → aI (!a_4) (false = true ∧ True) (dK ((↑a_3 : Int) + (1 : Int)) ∧ ∃ (a_5 : Nat), n = n ∧ a = a ∧ (↑a_3 : Int) + (1 : Int) = (↑a_5 : Int) ∧ u = u ∧ lo = lo ∧ w = w ∧ q = q ∧ a_1 = a_1 ∧ a_2 = a_2 ∧ a_5 ≤ (3 : Nat) ∧ (3 : Nat) - a_5 < (3 : Nat) - a_3)))))))))) (((3 : Int) ≤ (6 : Int) ∧ (6 : Int) ≤ (8 : Int) ∧ ∀ (a a_4 : List Int) (a_5 : Int) (a_6 a_7 : List Int) (a_8 : Int), Ok a a_4 a_5 a_6 → (↑a.length : Int) ≤ (6 : Int) → (3 : Int) ≤ (5 : Int) ∧ (5 : Int) ≤ (8 : Int) ∧ ∀ (a_9 a_10 : List Int) (a_11 : Int) (a_12 a_13 : List Int) (a_14 : Int), Ok a_9 a_10 a_11 a_12 → (↑a_9.length : Int) ≤ (5 : Int) → (3 : Int) ≤ (1000 : Int) ∧ (-10000 : Int) ≤ (3 : Int) ∧ ∀ (a_15 : Int) (a_16 : List Int) (a_17 : Int), (0 : Int) ≤ a_15 → a_15 ≤ (3 : Int) ∨ a_15 = (0 : Int) → (3 : Int) ≤ (1000 : Int) ∧ (-10000 : Int) ≤ (3 : Int) ∧ ∀ (a_18 : Int) (a_19 : List Int) (a_20 : Int), (0 : Int) ≤ a_18 → a_18 ≤ (3 : Int) ∨ a_18 = (0 : Int) → ∃ (a_21 : List aJ.den), ∃ (a_22 : List Int), ∃ (a_23 : List Int), ∃ (a_24 : Int), [(u, lo, w, q, ()), (a, a_4, a_5, a_6, ()), (u, lo, w, q, ()), (a_9, a_10, a_11, a_12, ())] = a_21 ∧ [n, a_15, a_18, n] = a_22 ∧ u = u ∧ lo = lo ∧ w = w ∧ q = q ∧ a_19 = a_23 ∧ a_20 = a_24 ∧ a_21.length = (4 : Nat) ∧ a_22.length = (4 : Nat) ∧ (∀ (p : aJ.den), p ∈ a_21 → dH p) ∧ True) ∧ ∀ (a : List aJ.den) (a_4 a_5 : List Int) (a_6 : Int), a.length = (4 : Nat) → a_4.length = (4 : Nat) → (∀ (p : aJ.den), p ∈ a → dH p) → (∃ (a : Nat), (0 : Int) = (↑a : Int) ∧ a ≤ (4 : Nat) ∧ (4 : Nat) - a < (1000000 : Nat)) ∧ ∀ (a_7 : Nat), a_7 ≤ (4 : Nat) → aI (decide ((↑a_7 : Int) < (↑a.length : Int))) (xA.q3 a_7 a.length (xA.q1 a a_7 (xA.q3 a_7 a_4.length (xA.q1 a a_7 (∀ (a_8 : PD) (a_9 : Int), a_8 = rN (a.getD a_7 ([], [], (0 : Int), [], ())).fst (a.getD a_7 ([], [], (0 : Int), [], ())).snd.fst (a.getD a_7 ([], [], (0 : Int), [], ())).snd.snd.fst (a.getD a_7 ([], [], (0 : Int), [], ())).snd.snd.snd.fst (a_4.getD a_7 (0 : Int)) → a_9 = qN (a.getD a_7 ([], [], (0 : Int), [], ())).fst (a.getD a_7 ([], [], (0 : Int), [], ())).snd.fst (a.getD a_7 ([], [], (0 : Int), [], ())).snd.snd.fst (a.getD a_7 ([], [], (0 : Int), [], ())).snd.snd.snd.fst (a_4.getD a_7 (0 : Int)) → xA.q3 a_7 a.length (xA.q3 a_7 a_4.length (xA.q1 a a_7 (∀ (a_10 : PD) (a_11 : Int), a_10 = rN (a.getD a_7 ([], [], (0 : Int), [], ())).fst (a.getD a_7 ([], [], (0 : Int), [], ())).snd.fst (a.getD a_7 ([], [], (0 : Int), [], ())).snd.snd.fst (a.getD a_7 ([], [], (0 : Int), [], ())).snd.snd.snd.fst (a_4.getD a_7 (0 : Int)) → a_11 = qN (a.getD a_7 ([], [], (0 : Int), [], ())).fst (a.getD a_7 ([], [], (0 : Int), [], ())).snd.fst (a.getD a_7 ([], [], (0 : Int), [], ())).snd.snd.fst (a.getD a_7 ([], [], (0 : Int), [], ())).snd.snd.snd.fst (a_4.getD a_7 (0 : Int)) → aI (a_9 != a_11) (false = true ∧ True) (Sh a_8.fst a_8.snd.fst a_8.snd.snd.snd.fst ∧ Sh a_10.fst a_10.snd.fst a_10.snd.snd.snd.fst ∧ aI (!decide (a_8.fst = a_10.fst ∧ a_8.snd.fst = a_10.snd.fst ∧ a_8.snd.snd.fst = a_10.snd.snd.fst ∧ a_8.snd.snd.snd.fst = a_10.snd.snd.snd.fst)) (false = true ∧ True) (xA.q3 a_7 a.length (xA.q1 a a_7 (xA.q1 a a_7 (aI (!decide ((a.getD a_7 ([], [], (0 : Int), [], ())).fst = (a.getD a_7 ([], [], (0 : Int), [], ())).fst ∧ (a.getD a_7 ([], [], (0 : Int), [], ())).snd.fst = (a.getD a_7 ([], [], (0 : Int), [], ())).snd.fst ∧ (a.getD a_7 ([], [], (0 : Int), [], ())).snd.snd.fst = (a.getD a_7 ([], [], (0 : Int), [], ())).snd.snd.fst ∧ (a.getD a_7 ([], [], (0 : Int), [], ())).snd.snd.snd.fst = (a.getD a_7 ([], [], (0 : Int), [], ())).snd.snd.snd.fst)) (false = true ∧ True) (dK ((↑a_7 : Int) + (1 : Int)) ∧ ∃ (a_12 : Nat), a = a ∧ a_4 = a_4 ∧ (↑a_7 : Int) + (1 : Int) = (↑a_12 : Int) ∧ u = u ∧ lo = lo ∧ w = w ∧ q = q ∧ a_5 = a_5 ∧ a_6 = a_6 ∧ a_12 ≤ (4 : Nat) ∧ (4 : Nat) - a_12 < (4 : Nat) - a_7)))))))))))))) (true = true ∧ True))))) (by kernel_rfl) ?_
  unfold xA.q3 xA.q2 xA.q1
  intro b hb
  refine cS.2 (iB.2 ⟨fun e => ?_, fun _ => ⟨rfl, trivial⟩⟩)
  rw [e] at hb
  clear e
  intro b2 AV
  refine cS.2 (iB.2 ⟨fun e => ?_, fun _ => ⟨rfl, trivial⟩⟩)
  rw [e] at AV
  clear e
  obtain ⟨k1, k2⟩ := EG hb.symm
  have hs : Sh u lo q := (EG (l := [pd u lo w q]) AV.symm).2 _ (List.mem_singleton.2 rfl)
  refine ⟨⟨k1, k2⟩, hs, fun all r z h1 h2 => ⟨⟨0, rfl, by omega, by omega⟩, fun i hi => bJ.2 ⟨fun hlt => ?_, fun _ => ⟨⟨by omega, by omega, fun u1 l1 w1 q1 r1 z1 o1 _ => ⟨by omega, by omega, fun u2 l2 w2 q2 r2 z2 o2 _ => ⟨by omega, by omega, fun x1 r3 z3 _ _ => ⟨by omega, by omega, fun x2 r4 z4 _ _ => ⟨_, _, _, _, rfl, rfl, rfl, rfl, rfl, rfl, rfl, rfl, rfl, rfl, ?_, trivial⟩⟩⟩⟩⟩, fun A S r1 z1 a1 a2 a3 => ⟨⟨0, rfl, by omega, by omega⟩, fun j hj => bJ.2 ⟨fun hlt => ?_, fun _ => ⟨rfl, trivial⟩⟩⟩⟩⟩⟩⟩
  · have hx : nE (all.getD i []) := Po (by omega) h2
    have e1 : (all.getD i []).length ≤ 1000 := by have := hx.1; omega
    have e2 : (0 : Int) ≤ (i : Int) ∧ (i : Int) < (all.length : Int) := ⟨by omega, by omega⟩
    have e3 := hx.2
    refine ⟨e2, e1, e3, e1, e3, e2, e1, e3, cE.2 ⟨fun _ => ⟨e2, e1, e1, e3, e3, fun b hb => cS.2 (iB.2 ⟨fun _ => ⟨⟨by omega, by omega⟩, i + 1, rfl, rfl, rfl, rfl, rfl, rfl, rfl, rfl, rfl, by omega, by omega⟩, fun e => ?_⟩)⟩, fun h => (h rfl).elim⟩⟩
    rw [hb.2 rfl] at e
    cases e
  · have s1 : dH (pd u1 l1 w1 q1) := A1 o1
    have s2 : dH (pd u2 l2 w2 q2) := A1 o2
    have s3 : dH (pd u lo w q) := hs
    intro p hp
    simp only [List.mem_cons, List.not_mem_nil, or_false] at hp
    rcases hp with rfl | rfl | rfl | rfl <;> assumption
  · have sp : dH (A.getD j dP) := jd (by omega) a3
    have e2 : (0 : Int) ≤ (j : Int) ∧ (j : Int) < (A.length : Int) := ⟨by omega, by omega⟩
    have e3 : (0 : Int) ≤ (j : Int) ∧ (j : Int) < (S.length : Int) := ⟨by omega, by omega⟩
    refine ⟨e2, sp, e3, sp, fun x e hx he => ⟨e2, e3, sp, fun y d hy hd => ?_⟩⟩
    obtain rfl : x = y := hx.trans hy.symm
    obtain rfl : e = d := he.trans hd.symm
    have sx : dH x := by subst hx; exact Sv sp
    exact cE.2 ⟨fun _ => ⟨sx, sx, Ny (by simp) ⟨e2, sp, sp, Ny (by simp) ⟨⟨by omega, by omega⟩, j + 1, rfl, rfl, rfl, rfl, rfl, rfl, rfl, rfl, rfl, by omega, by omega⟩⟩⟩, fun h => (h rfl).elim⟩
end Go.Tv
end
section
namespace Go.Tv
open Go Go.Di Go.Proofs
section
variable {aV:bk} (tk:oK aV) (tu:MI aV)
include tk
theorem ab2:jU aV 2 H1:=qI tk (ZZ tk) (by decide) Tryz.func48 rfl v26 (iV (gm tk) 2)
theorem ab0:jU aV 3 H3:=qI tk (iV (QF tk) 1) (by decide) Tryz.func81 rfl v16 (Z0 tk)
include tu
theorem ab1:jU aV 1 H2:=qI tk (Np tu (gm tk)) (by decide) Tryz.func42 rfl v20 (iC (Np tu (gm tk)))
theorem ZJ:jU aV 6 H4:=TU (TU (qI tk (iV (Np tu (gm tk)) 5) (by decide) Tryz.func42 rfl v20 (Zs tk)) Tryz.func26 rfl) Tryz.func16 rfl
end
end Go.Tv
end
section
namespace Go.Tv
open Go Go.Di Go.Proofs
section
variable {aV:bk} (tk:oK aV) (tr:D1 aV) (tl:Wh aV) (tu:MI aV)
theorem XZ (tk:oK aV) (tr:D1 aV) (tl:Wh aV) {T:gh} {m:Nat} (hT:jU aV (m+5+0+1) T):jU aV (m+5+0+1) (T.dw 52 Wi):=Il hT fun n a p s hs hp=>by
 unfold Wi at hs
 split at hs
 ·rename_i u l w q v
  cases hs
  by_cases hv:gf u l w q=0∧0≤v∧v≤3
  ·intro bY hd
   obtain⟨d1,_,rfl,h1,h2⟩:=ai hd
   obtain⟨d2,_,rfl,h2,h3⟩:=ai h2
   rw[aF h3]
   obtain⟨r,k1,k2,k3⟩:=tl.lay u l q w v d1 d2 (CA.1 hv.1) hv.2 h1 h2
   have e1:rN u l w q v=(bT v u l,bU v u l,w,dY v q 4,()):=if_pos hv
   have e2:qN u l w q v=0:=by rw[qN,if_neg (fun h=>h hv.1),if_pos hv.2]
   refine⟨r,.ep [pcT (rN u l w q v),bt (qN u l w q v)],by simp only[xl,iS,k1,k2,if_true],k2,?_,rfl,⟨_,_,rfl,rfl,rfl,trivial⟩⟩
   rw[e1,e2]
   exact k3
  ·have hJ:=mkJ (iV (lok tk tr) m) (D:=Rh) (fun a p s hs hp da oF=>by
    unfold Rh at hs
    split at hs
    ·cases hs
     obtain⟨d1,_,rfl,h1,h2⟩:=ai oF
     obtain⟨d2,_,rfl,h2,h3⟩:=ai h2
     rw[aF h3]
     exact tl.no _ _ _ _ _ d1 d2 hp.2.1 h1 h2
    ·cases hs) Tryz.func52 rfl JW (T':=T) hT
   exact(hJ.2 n).I 52 [JJ u l w q,bt v] [Sh u l q,¬ (gf u l w q=0∧0≤v∧v≤3)] (Ir u l w q v) rfl ⟨hp.1,hv,trivial⟩
 ·cases hs
include tk tu tr tl
theorem abZ:jU aV 8 H5:=JK (ZJ tk tu) Tryz.func14 rfl v14 (qI tk (iV (ab0 tk) 4) (by decide) Tryz.func53 rfl abu (XZ tk tr tl (m:=2) (qI tk (iV (ZZ tk) 6) (by decide) Tryz.func48 rfl v26 (qI tk (iV (ab2 tk) 5) (by decide) Tryz.func25 rfl abw (qI tk (iV (Z0 tk) 4) (by decide) Tryz.func51 rfl v51 (qI tk (iV (Zs tk) 1) (by decide) Tryz.func50 rfl abv (qI tk (iV (ab1 tk tu) 6) (by decide) Tryz.func16 rfl Mm (qI tk (iV (gm tk) 7) (by decide) Tryz.func11 rfl v18 (iV (ZJ tk tu) 2)))))))))
end
end Go.Tv
end
