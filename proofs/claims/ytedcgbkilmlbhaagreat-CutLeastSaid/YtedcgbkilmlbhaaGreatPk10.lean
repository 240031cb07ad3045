import Derived.Test.YtedcgbkilmlbhaaGreatPk09
section
namespace Go.Tv
open Go Go.Di Go.Proofs
set_option maxRecDepth 100000
abbrev pcS (f : List Int → List Int → Int → List Int → List Prop) : s7 := .ex (List Int) fun u => .ex (List Int) fun l => .ex Int fun w => .ex (List Int) fun ls => .ex (List Int) fun r => .ex Int fun z => .res (RF u l w ls) (wE r z) (f u l w ls)
def D12 : List TV → List TV → Dn
 | [.ptr 0 0, .val (.int .i64 c)], [.sl (.int .i64) _ .no, .val (.int .u64 _)] => some ([3 ≤ c, c ≤ 8], pcS fun u l w ls => [Ok u l w ls, (u.length : Int) ≤ c], [])
 | _, _ => none
theorem v12 : VC T4 Tryz.f39 [some aK] [some bG, some (.int .u64)] D12 := by
 intro a cs p s j h hp
 unfold D12 at h
 split at h <;> cases h
 rename_i c r z
 obtain ⟨h1, h2, -⟩ := hp
 refine uJ (A := (-1000 : Int) ≤ 3 ∧ (3 : Int) ≤ 1000 ∧ (-1000 : Int) ≤ c ∧ c ≤ 1003 ∧ c ≤ 5000 ∧ ∀ (a : Int) (z : List Int) (y : Int), 3 ≤ a → a ≤ c ∨ a = 3 → 0 ≤ a ∧ a ≤ 100 ∧ ∀ (w X : List Int) (Y : Int), (↑w.length : Int) = a → lV w → 0 ≤ a ∧ a ≤ 100 ∧ ∀ (u h : List Int) (g : Int), (↑u.length : Int) = a → lV u → (2 : Int) ≤ 1000 ∧ (-10000 : Int) ≤ 2 ∧ ∀ (a : Int) (f : List Int) (e : Int), 0 ≤ a → a ≤ 2 ∨ a = 0 → 0 < 4 ∧ 4 ≤ 1000 ∧ ∀ (r : Int) (d : List Int) (b : Int), r ∈ [(0 : Int), (0 : Int), (1 : Int), a] → ∀ (a n : List Int) (k : Int), a ≠ [] → (∀ (x : Int), x ∈ a → 0 ≤ x ∧ x ≤ 3) → List.Pairwise (fun (x1 x2 : Int) => x1 < x2) a → ∃ (v : List Int), ∃ (s : List Int), ∃ (t : Int), ∃ (m : List Int), ∃ (j : List Int), ∃ (i : Int), w = v ∧ u = s ∧ r = t ∧ a = m ∧ n = j ∧ k = i ∧ Ok v s t m ∧ (↑v.length : Int) ≤ c ∧ True) (by kernel_rfl) ?_
 simp only [bR, cZ, cF, dH, eO, cn, and_true, true_and, eq_self]
 refine ⟨by omega, by omega, by omega, by omega, by omega, fun n r1 z1 h3 h4 => ⟨by omega, by omega, fun u r2 z2 h5 h6 => ⟨by omega, by omega, fun l r3 z3 h7 h8 => ⟨by omega, by omega, fun k r4 z4 h9 wB => ⟨by omega, by omega, fun w r5 z5 Fe ls r6 z6 Vr h13 h14 => ?_⟩⟩⟩⟩⟩
 have WV : 0 ≤ w ∧ w ≤ 2 := by simp at Fe; omega
 exact ⟨u, l, w, ls, r6, z6, rfl, rfl, rfl, rfl, rfl, rfl, ⟨by omega, by omega, by omega, h6, h8, WV.1, WV.2, Vr, h13, h14⟩, by omega⟩
def D77 : List TV → Dn
 | [.agg [.sl (.int .i64) u .no, .sl (.int .i64) l .no, .val (.int .i64 w), .sl (.int .i64) ls .no]] => some ([Sh u l ls], .res (bg (jv u l w ls)) [] [],
  [(3, .un 3), (19, .ex Nat fun i => .st { sl := [(71, bg i)], cB := [i ≤ ls.length, jk ls 0 = jk ls i], m := ls.length - i })])
 | _ => none
set_option maxHeartbeats 1000000 in
theorem v77 : VI T4 Tryz.f89 [some cv] D77 := by
 intro a p s j h hp
 unfold D77 at h
 split at h <;> cases h
 rename_i u l w ls
 change List Int at u l ls
 obtain ⟨h1, h2, h3⟩ := hp.1
 refine uJ (A := ((0 : Int) ≤ 0 ∧ 0 < (↑(2 : Nat) : Int)) ∧ ay (decide ((↑u.length : Int) < 3)) (7 = jv u l w ls ∧ True) (ay (decide ((↑u.length : Int) < (↑u.length : Int))) (7 = jv u l w ls ∧ True) (ay (decide ((↑u.length : Int) > 8)) (6 = jv u l w ls ∧ True) (ay (decide ((↑u.length : Int) > (↑u.length : Int))) (6 = jv u l w ls ∧ True) (cn (1 : Int) ∧ ((0 : Int) ≤ 1 ∧ 1 < (↑(2 : Nat) : Int)) ∧ ay (decide ((↑l.length : Int) < 3)) (7 = jv u l w ls ∧ True) (ay (decide ((↑l.length : Int) < (↑u.length : Int))) (7 = jv u l w ls ∧ True) (ay (decide ((↑l.length : Int) > 8)) (6 = jv u l w ls ∧ True) (ay (decide ((↑l.length : Int) > (↑u.length : Int))) (6 = jv u l w ls ∧ True) (cn (2 : Int) ∧ u.length ≤ 1000 ∧ ay (!u.all (mS (9 : Int))) (1 = jv u l w ls ∧ True) (l.length ≤ 1000 ∧ ay (!l.all (mS (9 : Int))) (1 = jv u l w ls ∧ True) (ay (decide (w < 0)) (1 = jv u l w ls ∧ True) (ay (decide (w > 2)) (1 = jv u l w ls ∧ True) (ay ((↑ls.length : Int) == 0) (7 = jv u l w ls ∧ True) ((∃ (a : Nat), 0 = (↑a : Int) ∧ a ≤ ls.length ∧ jk ls 0 = jk ls a ∧ ls.length - a < 1000000) ∧ ∀ (a : Nat), a ≤ ls.length → jk ls 0 = jk ls a → ay (decide ((↑a : Int) < (↑ls.length : Int))) ((0 ≤ (↑a : Int) ∧ (↑a : Int) < (↑ls.length : Int)) ∧ ay (decide (ls.getD a 0 < 0)) (8 = jv u l w ls ∧ True) (ay (decide (ls.getD a 0 > 3)) (8 = jv u l w ls ∧ True) (ay (decide ((↑a : Int) > 0)) (cn ((↑a : Int) - 1) ∧ (0 ≤ (↑a : Int) - 1 ∧ (↑a : Int) - 1 < (↑ls.length : Int)) ∧ ay (decide (ls.getD a 0 ≤ ls.getD ((↑a : Int) - 1).toNat (0 : Int))) (5 = jv u l w ls ∧ True) (cn ((↑a : Int) + 1) ∧ ∃ (x : Nat), ls = ls ∧ (↑ls.length : Int) = (↑ls.length : Int) ∧ (↑a : Int) + 1 = (↑x : Int) ∧ u = u ∧ l = l ∧ w = w ∧ ls = ls ∧ x ≤ ls.length ∧ jk ls 0 = jk ls x ∧ ls.length - x < ls.length - a)) (cn ((↑a : Int) + 1) ∧ ∃ (x : Nat), ls = ls ∧ (↑ls.length : Int) = (↑ls.length : Int) ∧ (↑a : Int) + 1 = (↑x : Int) ∧ u = u ∧ l = l ∧ w = w ∧ ls = ls ∧ x ≤ ls.length ∧ jk ls 0 = jk ls x ∧ ls.length - x < ls.length - a)))) (0 = jv u l w ls ∧ True))))))))))))))) (by kernel_rfl) ?_
 simp only [bR, cZ, cF, dH, eO, cn, and_true, true_and, eq_self]
 refine ⟨by omega, fun a1 => ?_, fun a1 => ⟨fun a2 => by omega, fun _ => ⟨fun a3 => ?_, fun a3 => ⟨fun _ => by omega, fun _ => ⟨by omega, by omega, fun a4 => ?_, fun a4 => ⟨fun a5 => ?_, fun a5 => ⟨fun a6 => ?_, fun a6 => ⟨fun a7 => ?_, fun a7 => ⟨by omega, by omega, ?_⟩⟩⟩⟩⟩⟩⟩⟩⟩
 ·rw [jv, if_pos (by omega)]
 ·rw [jv, if_neg (by omega), if_pos (by omega)]
 ·rw [jv, if_neg (by omega), if_neg (by omega), if_pos (by omega)]
 ·rw [jv, if_neg (by omega), if_neg (by omega), if_pos (by omega)]
 ·rw [jv, if_neg (by omega), if_neg (by omega), if_neg (by omega), if_pos (by omega)]
 ·rw [jv, if_neg (by omega), if_neg (by omega), if_neg (by omega), if_pos (by omega)]
 have e1 : ∀ (_ : u.all (mS 9) = false ∨ l.all (mS 9) = false ∨ w < 0 ∨ 2 < w), 1 = jv u l w ls := fun h => by rw [jv, if_neg (by omega), if_neg (by omega), if_neg (by omega), if_neg (by omega), if_pos h]
 rw [iG]
 refine ⟨fun b1 => ⟨by omega, ?_⟩, fun b1 => e1 (.inl b1)⟩
 rw [iG]
 refine ⟨fun b2 => ⟨fun b3 => e1 (.inr (.inr (.inl b3))), fun b3 => ⟨fun b4 => e1 (.inr (.inr (.inr b4))), fun b4 => ⟨fun b5 => ?_, fun b5 => ?_⟩⟩⟩, fun b2 => e1 (.inr (.inl b2))⟩
 ·rw [jv, if_neg (by omega), if_neg (by omega), if_neg (by omega), if_neg (by omega), if_neg (by rw [b1, b2]; simp; omega), if_pos (by omega)]
 have e : jv u l w ls = jk ls 0 := KY (by omega) (by omega) (by omega) (by omega) (by rw [b1]; rfl) (by rw [b2]; rfl) (by omega) (by omega) (by omega)
 rw [e]
 refine ⟨⟨0, rfl, by omega, rfl, by omega⟩, fun i k1 k2 => ⟨fun k3 => ⟨by omega, fun k4 => ?_, fun k4 => ⟨fun k5 => ?_, fun k5 => ⟨fun k6 => ⟨by omega, by omega, fun k7 => ?_, fun k7 => ⟨by omega, i + 1, by omega, by omega, k2.trans (rE (by omega) (by omega) ?_), by omega⟩⟩, fun k6 => ⟨by omega, i + 1, by omega, by omega, k2.trans (rE (by omega) (by omega) (by omega)), by omega⟩⟩⟩⟩, fun k3 => ?_⟩⟩
 ·rw [k2, JH (by omega) (.inl k4)]
 ·rw [k2, JH (by omega) (.inr (by omega))]
 ·rw [k2, Ou (by omega) (by omega) ⟨by omega, by rw [show i - 1 = ((i : Int) - 1).toNat by omega]; exact k7⟩]
 ·rw [show i - 1 = ((i : Int) - 1).toNat by omega]; exact fun h => k7 h.2
 ·rw [k2, Ov (by omega)]
def T5 : gd := (T4.sZ 39 fun a c => dS (D12 a c)).cA 89 fun a => dS (D77 a)
def D13 : List TV → List TV → Dn
 | [.ptr 0 0, .agg [.sl (.int .i64) u .no, .sl (.int .i64) l .no, .val (.int .i64 w), .sl (.int .i64) ls .no]], [.sl (.int .i64) _ .no, .val (.int .u64 _)] => some ([Ok u l w ls], pcS fun u1 l1 w1 Zr => [Ok u1 l1 w1 Zr, u1 = l.map (9 - ·)],
  [(5, .ex (List Int) fun u1 => .ex (List Int) fun l1 => .ex Int fun w1 => .ex (List Int) fun Zr => .ex (List Int) fun r => .ex Int fun z => .ex Nat fun i => .st { sl := [(6, bg i)], pl := [(0, wE r z), (3, [.sl cv ((l.take i).map (9 - ·)) (.nQ 4), .sl cv l1 .no, bg w1, .sl cv Zr .no])], own := [(3, 1)], cB := [i ≤ l.length, Ok u1 l1 w1 Zr, l1.length = l.length], m := l.length - i })])
 | _, _ => none
theorem v13 : VC T5 Tryz.f40 [some aK] [some bG, some (.int .u64)] D13 := by
 intro a cs p s j h hp
 unfold D13 at h
 split at h <;> cases h
 rename_i u l w ls r z
 have h1 := hp.1
 refine uJ (A := 3 ≤ (↑u.length : Int) ∧ (↑u.length : Int) ≤ 8 ∧ ∀ (a y : List Int) (z : Int) (d X : List Int) (Y : Int), Ok a y z d → (↑a.length : Int) ≤ (↑u.length : Int) → 0 ≤ (↑u.length : Int) ∧ (↑u.length : Int) ≤ 100 ∧ ∀ (a c : List Int) (b : Int), (↑a.length : Int) = (↑u.length : Int) → lV a → (∃ (s : List Int), ∃ (r : List Int), ∃ (t : Int), ∃ (n : List Int), ∃ (i : List Int), ∃ (v : Int), ∃ (h : Nat), 0 = (↑h : Int) ∧ c = i ∧ b = v ∧ [] = List.map (fun (x : cv.den) => (9 : cv.den) - x) (List.take h l) ∧ a = r ∧ z = t ∧ d = n ∧ h ≤ l.length ∧ Ok s r t n ∧ r.length = l.length ∧ l.length - h < 1000000) ∧ ∀ (a s : List Int) (r : Int) (t n : List Int) (i : Int) (v : Nat), v ≤ l.length → Ok a s r t → s.length = l.length → ay (decide ((↑v : Int) < (↑l.length : Int))) ((0 ≤ (↑v : Int) ∧ (↑v : Int) < (↑l.length : Int)) ∧ cn ((9 : Int) - l.getD v 0) ∧ (List.map (fun (x : cv.den) => (9 : cv.den) - x) (List.take v l)).length + 1 ≤ 1000000000 ∧ cn ((↑v : Int) + 1) ∧ ∃ (a : List Int), ∃ (m : List Int), ∃ (k : Int), ∃ (j : List Int), ∃ (f : List Int), ∃ (e : Int), ∃ (g : Nat), (↑v : Int) + 1 = (↑g : Int) ∧ n = f ∧ i = e ∧ u = u ∧ l = l ∧ w = w ∧ ls = ls ∧ (0 : Int) = 0 ∧ List.map (fun (x : cv.den) => (9 : cv.den) - x) (List.take v l) ++ [(9 : Int) - l.getD v 0] = List.map (fun (x : cv.den) => (9 : cv.den) - x) (List.take g l) ∧ s = m ∧ r = k ∧ t = j ∧ g ≤ l.length ∧ Ok a m k j ∧ m.length = l.length ∧ l.length - g < l.length - v) (∃ (a : List Int), ∃ (m : List Int), ∃ (k : Int), ∃ (j : List Int), ∃ (f : List Int), ∃ (e : Int), List.map (fun (x : cv.den) => (9 : cv.den) - x) (List.take v l) = a ∧ s = m ∧ r = k ∧ t = j ∧ n = f ∧ i = e ∧ Ok a m k j ∧ a = List.map (fun (x : cv.den) => (9 : cv.den) - x) l ∧ True)) (by kernel_rfl) ?_
 simp only [bR, cZ, cF, dH, eO, cn, and_true, true_and, eq_self]
 have := h1.n3
 have := h1.n8
 have := h1.len
 refine ⟨by omega, by omega, fun u1 l1 w1 Zr r1 z1 h2 h3 => ⟨by omega, by omega, fun o r2 z2 h4 h5 => ⟨⟨o, o, w1, Zr, r2, z2, 0, rfl, rfl, rfl, rfl, rfl, rfl, rfl, by omega, ⟨by omega, by omega, rfl, h5, h5, h2.w0, h2.w2, h2.ne, h2.B5, h2.WY⟩, by omega, by omega⟩, fun u3 o w ls r3 z3 i h6 h7 h8 => ⟨fun h9 => ?_, fun h9 => ?_⟩⟩⟩⟩
 ·have := h1.hl _ (fo (l := l) (i := i) (by omega))
  exact ⟨by omega, by omega, by simp; omega, by omega, u3, o, w, ls, r3, z3, i + 1, by omega, rfl, rfl, BZ (f := fun x => 9 - x) (by omega), rfl, rfl, rfl, by omega, h7, h8, by omega⟩
 ·rw [show i = l.length by omega, dc]
  exact ⟨_, o, w, ls, r3, z3, rfl, rfl, rfl, rfl, rfl, rfl, QS h7 h8 h1.hl, rfl⟩
def D59 : List TV → Dn
 | [.sl (.pair (.sl (.int .i64)) (.pair (.sl (.int .i64)) (.pair (.int .i64) (.pair (.sl (.int .i64)) .unit)))) l .no] => some ([l.length ≤ 1000, ∀ p ∈ l, dD p], .res (bg (iw l)) [] [],
  [(3, .ex Nat fun i => .st { sl := [(8, bg i)], cB := [i ≤ l.length, iw (l.take i) = 0], m := l.length - i })])
 | _ => none
theorem v59 : VI T5 Tryz.f94 [some cv] D59 := by
 intro a p s j h hp
 unfold D59 at h
 split at h <;> cases h
 rename_i l
 obtain ⟨h1, h2, -⟩ := hp
 refine uJ (A := (∃ (a : Nat), 0 = (↑a : Int) ∧ a ≤ l.length ∧ iw (List.take a l) = 0 ∧ l.length - a < 1000000) ∧ ∀ (a : Nat), a ≤ l.length → iw (List.take a l) = 0 → ay (decide ((↑a : Int) < (↑l.length : Int))) ((0 ≤ (↑a : Int) ∧ (↑a : Int) < (↑l.length : Int)) ∧ Sh (l.getD a ([], [], 0, [], ())).1 (l.getD a ([], [], 0, [], ())).2.1 (l.getD a ([], [], 0, [], ())).2.2.2.1 ∧ ay (jv (l.getD a ([], [], 0, [], ())).1 (l.getD a ([], [], 0, [], ())).2.1 (l.getD a ([], [], 0, [], ())).2.2.1 (l.getD a ([], [], 0, [], ())).2.2.2.1 != 0) (jv (l.getD a ([], [], 0, [], ())).1 (l.getD a ([], [], 0, [], ())).2.1 (l.getD a ([], [], 0, [], ())).2.2.1 (l.getD a ([], [], 0, [], ())).2.2.2.1 = iw l ∧ True) (cn ((↑a : Int) + 1) ∧ ∃ (x : Nat), l = l ∧ (↑l.length : Int) = (↑l.length : Int) ∧ (↑a : Int) + 1 = (↑x : Int) ∧ x ≤ l.length ∧ iw (List.take x l) = 0 ∧ l.length - x < l.length - a)) (0 = iw l ∧ True)) (by kernel_rfl) ?_
 simp only [bR, cZ, cF, dH, eO, cn, and_true, true_and, eq_self]
 refine ⟨⟨0, rfl, by omega, rfl, by omega⟩, fun i k1 k2 => ⟨fun k3 => ⟨by omega, eA (P := dD) (by omega) h2, fun k4 => ⟨by omega, i + 1, by omega, by omega, Rv (by omega) k2 k4, by omega⟩, fun k4 => (UU (by omega) k2 k4).symm⟩, fun k3 => ?_⟩⟩
 rw [show i = l.length by omega, dc] at k2
 rw [k2]
def T6 : gd := (T5.sZ 40 fun a c => dS (D13 a c)).cA 94 fun a => dS (D59 a)
def T7 : gd := T6
def T8 : gd := T7
section
variable {bF : bP} (tk : uS bF)
include tk
theorem W5 : ji bF 5 T5 := kL tk (W6 tk) (by decide) Tryz.func89 rfl v77 (Le (W6 tk) Tryz.func39 rfl v12 (eM (W6 tk)))
theorem SA : ji bF 6 T6 := kL tk (W5 tk) (by decide) Tryz.func94 rfl v59 (Le (W5 tk) Tryz.func40 rfl v13 (eM (W5 tk)))
end
end Go.Tv
end
section
namespace Go.Tv
open Go Go.Di Go.Proofs
end Go.Tv
end
section
namespace Go.Tv
open Go Go.Di Go.Proofs
set_option maxRecDepth 100000
theorem J8:∀ (l:List Int) (st:Int×Int×Int),(l.foldl Lc st).2.2=st.2.2+l.length
  | [],st=>by simp
  | x::l,st=>by rw[List.foldl_cons,J8 l]; simp only[Lc,List.length_cons]; omega
theorem Ea (l:List Int):(lM l).2.2=l.length:=by rw[lM,J8]; simp
theorem zi (la ub:List Int) (s:Int):∀ i,(dF la ub s i).length≤i
  | 0=>ai 0
  | i+1=>by
    have:=zi la ub s i
    rw[dF]; split
    · rw[bU,List.length_singleton]; omega
    · omega
def X2:List TV→Dn
  | [.val (.int .i64 x),.val (.int .i64 lo),.val (.int .i64 hi)]=>some ([],.res (iy (decide (lo≤x∧x≤hi))) [] [],[])
  | _=>none
theorem v107:VI T0 Tryz.f100 [some .bool] X2:=by
  refine fF fun a => ?_
  unfold X2
  split
  rotate_left
  · trivial
  rename_i x lo hi
  intro hp
  refine tH (A:=ay (decide (lo≤x)) (decide (x≤hi)=decide (lo≤x∧x≤hi)∧True) (false=decide (lo≤x∧x≤hi)∧True)) (by kernel_rfl) ?_
  rw[iG]
  refine⟨fun h=>⟨?_,trivial⟩,fun h=>⟨?_,trivial⟩⟩
  · simp only[bI] at h; rw[od]; omega
  · simp only[decide_eq_false_iff_not] at h; symm; rw[decide_eq_false_iff_not]; omega
def G1:gd:=T0.cA 100 fun a=>dS (X2 a)
def X3:List TV→Dn
  | [.sl (.int .i64) l .no]=>some ([l.length≤1000],.ex Int fun e => .res (bg e) [] [e=if l.all (mS 9)=true then 0 else 1],[(3,.ex Nat fun i => .st { sl:=[(3,bg i)],cB:=[i≤l.length,(l.take i).all (mS 9)=true],m:=l.length-i })])
  | _=>none
theorem acn:VI G1 Tryz.f93 [some cv] X3:=by
  refine fF fun a => ?_
  unfold X3
  split
  rotate_left
  · trivial
  rename_i l
  intro hp
  refine tH (A:=(∃ (a:Nat),0=(↑a:Int)∧a≤l.length∧(List.take a l).all (mS (9:Int))=true∧l.length-a<1000000)∧∀ (a:Nat),a≤l.length→(List.take a l).all (mS (9:Int))=true→ay (decide ((↑a:Int)<(↑l.length:Int))) ((0≤(↑a:Int)∧(↑a:Int)<(↑l.length:Int))∧ay (!decide (0≤l.getD a 0∧l.getD a 0≤9)) (∃ (a:Int),1=a∧(a=if l.all (mS (9:Int))=true then (0:Int) else (1:Int))∧True) (cn ((↑a:Int)+1)∧∃ (x:Nat),l=l∧(↑a:Int)+1=(↑x:Int)∧x≤l.length∧(List.take x l).all (mS (9:Int))=true∧l.length-x<l.length-a)) (∃ (a:Int),0=a∧(a=if l.all (mS (9:Int))=true then (0:Int) else (1:Int))∧True)) (by kernel_rfl) ?_
  have h1:=hp.1
  simp only[bR,dH,eO,cn,and_true,true_and,eq_self]
  refine⟨⟨0,rfl,by omega,rfl,by omega⟩,fun i h2 h3=>⟨fun h4=>⟨by omega,fun h5=>⟨by omega,i+1,by omega,by omega,K8 (by omega) h3 (fM h5),by omega⟩,fun h5=>⟨1,rfl,?_⟩⟩,fun h4=>⟨0,rfl,?_⟩⟩⟩
  · rw[Kv (i:=i) (by omega) (fO h5)]; rfl
  · rw[show i=l.length by omega,dc] at h3
    rw[if_pos h3]
def G2:gd:=G1.cA 93 fun a=>dS (X3 a)
def D91:List TV→Dn
  | [.agg [.sl (.int .i64) au .no,.sl (.int .i64) al .no,.val (.int .i64 aw),.sl (.int .i64) aq .no]]=>some ([Sh au al aq],.res (bg (jv au al aw aq)) [] [],[(29,.ex Nat fun i => .st { sl:=[(5,bg i)],cB:=[i≤aq.length,jk aq 0=jk aq i],m:=aq.length-i })])
  | _=>none
def v91.q1 (p0:Nat) (p1 p2:List Int) (p3:Int) (p4:List Int):Prop:=cn ((↑p0:Int)+1)∧∃ (a:Nat),(↑p0:Int)+1=(↑a:Int)∧p1=p1∧p2=p2∧p3=p3∧p4=p4∧a≤p4.length∧jk p4 0=jk p4 a∧p4.length-a<p4.length-p0
theorem v91:VI G2 Tryz.f92 [some cv] D91:=by
  refine fF fun a => ?_
  unfold D91
  split
  rotate_left
  · trivial
  rename_i u l w ls
  intro hp
  change List Int at u l ls
  refine tH (A:=ay (decide ((↑u.length:Int)<3)) (7=jv u l w ls∧True) (ay (decide ((↑u.length:Int)>8)) (6=jv u l w ls∧True) (ay (decide ((↑l.length:Int)<(↑u.length:Int))) (7=jv u l w ls∧True) (ay (decide ((↑l.length:Int)>(↑u.length:Int))) (6=jv u l w ls∧True) (u.length≤1000∧∀ (a:Int),(a=if u.all (mS (9:Int))=true then (0:Int) else (1:Int))→ay (a !=0) (a=jv u l w ls∧True) (l.length≤1000∧∀ (a:Int),(a=if l.all (mS (9:Int))=true then (0:Int) else (1:Int))→ay (a !=0) (a=jv u l w ls∧True) (ay (!decide (0≤w∧w≤2)) (1=jv u l w ls∧True) (ay ((↑ls.length:Int)==0) (7=jv u l w ls∧True) ((∃ (a:Nat),0=(↑a:Int)∧a≤ls.length∧jk ls 0=jk ls a∧ls.length-a<1000000)∧∀ (a:Nat),a≤ls.length→jk ls 0=jk ls a→ay (decide ((↑a:Int)<(↑ls.length:Int))) ((0≤(↑a:Int)∧(↑a:Int)<(↑ls.length:Int))∧ay (!decide (0≤ls.getD a 0∧ls.getD a 0≤3)) (8=jv u l w ls∧True) (ay (decide ((↑a:Int)>0)) ((0≤(↑a:Int)∧(↑a:Int)<(↑ls.length:Int))∧cn ((↑a:Int)-1)∧(0≤(↑a:Int)-1∧(↑a:Int)-1<(↑ls.length:Int))∧ay (decide (ls.getD a 0≤ls.getD ((↑a:Int)-1).toNat (0:Int))) (5=jv u l w ls∧True) (v91.q1 a u l w ls)) (v91.q1 a u l w ls))) (0=jv u l w ls∧True)))))))))) (by kernel_rfl) ?_
  unfold v91.q1
  obtain⟨h1,h2,h3⟩:=hp.1
  simp only[bR,cZ,cF,dH,eO,cn,and_true,true_and,eq_self]
  refine⟨fun a1 => ?_,fun a1=>⟨fun a2 => ?_,fun a2=>⟨fun a3 => ?_,fun a3=>⟨fun a4 => ?_,fun a4=>⟨by omega,fun e he => ?_⟩⟩⟩⟩⟩
  · rw[jv,if_pos (by omega)]
  · rw[jv,if_neg (by omega),if_pos (by omega)]
  · rw[jv,if_neg (by omega),if_neg (by omega),if_pos (by omega)]
  · rw[jv,if_neg (by omega),if_neg (by omega),if_neg (by omega),if_pos (by omega)]
  have e1:∀ (_:u.all (mS 9)=false∨l.all (mS 9)=false∨w<0∨2<w),jv u l w ls=1:=fun h=>by rw[jv,if_neg (by omega),if_neg (by omega),if_neg (by omega),if_neg (by omega),if_pos h]
  cases b1:u.all (mS 9) with
  | false=>rw[b1] at he; subst he; exact⟨fun h=>absurd h (by decide),fun _=>(e1 (.inl b1)).symm⟩
  | true =>
  rw[b1] at he; subst he
  refine⟨fun _=>⟨by omega,fun e he => ?_⟩,fun h=>absurd rfl h⟩
  cases b2:l.all (mS 9) with
  | false=>rw[b2] at he; subst he; exact⟨fun h=>absurd h (by decide),fun _=>(e1 (.inr (.inl b2))).symm⟩
  | true =>
  rw[b2] at he; subst he
  refine⟨fun _=>⟨fun b5=>⟨fun b6 => ?_,fun b6 => ?_⟩,fun b5=>(e1 (by omega)).symm⟩,fun h=>absurd rfl h⟩
  · rw[jv,if_neg (by omega),if_neg (by omega),if_neg (by omega),if_neg (by omega),if_neg (by rw[b1,b2]; simp; omega),if_pos (by omega)]
  have e:jv u l w ls=jk ls 0:=KY (by omega) (by omega) (by omega) (by omega) (by rw[b1]; rfl) (by rw[b2]; rfl) (by omega) (by omega) (by omega)
  rw[e]
  refine⟨⟨0,rfl,by omega,rfl,by omega⟩,fun i k1 k2=>⟨fun k3=>⟨by omega,fun k4=>⟨fun k5=>⟨by omega,by omega,by omega,fun k6 => ?_,fun k6=>⟨by omega,i+1,by omega,by omega,k2.trans (rE (by omega) (by omega) ?_),by omega⟩⟩,fun k5=>⟨by omega,i+1,by omega,by omega,k2.trans (rE (by omega) (by omega) (by omega)),by omega⟩⟩,fun k4 => ?_⟩,fun k3 => ?_⟩⟩
  · rw[k2,Ou (by omega) (by omega) ⟨by omega,by rw[show i-1=((i:Int)-1).toNat by omega]; exact k6⟩]
  · rw[show i-1=((i:Int)-1).toNat by omega]; exact fun h=>k6 h.2
  · rw[k2,JH (by omega) (by omega)]
  · rw[k2,Ov (by omega)]
def G3:gd:=G2.cA 92 fun a=>dS (D91 a)
theorem MW (p q:PD):iw [p,q]=if zO p≠0 then zO p else zO q:=by
  simp only[iw]
  split
  · rfl
  · split
    · rfl
    · rename_i h; exact(Decidable.not_not.1 h).symm
def D61:List TV→Dn
  | [.agg [.sl (.int .i64) au .no,.sl (.int .i64) al .no,.val (.int .i64 aw),.sl (.int .i64) aq .no],.agg [.sl (.int .i64) bu .no,.sl (.int .i64) bl .no,.val (.int .i64 bw),.sl (.int .i64) bq .no]]=>some ([Sh au al aq,Sh bu bl bq],.ex Int fun e => .res (bg e) [] [e=iw [pd au al aw aq,pd bu bl bw bq]],[])
  | _=>none
theorem v61:VI G3 Tryz.f96 [some cv] D61:=by
  refine fF fun a => ?_
  unfold D61
  split
  rotate_left
  · trivial
  rename_i u l w ls u2 l2 w2 Bu
  intro hp
  refine tH (A:=Sh u l ls∧ay (jv u l w ls !=0) (∃ (a:Int),jv u l w ls=a∧a=iw [pd u l w ls,pd u2 l2 w2 Bu]∧True) (Sh u2 l2 Bu∧∃ (a:Int),jv u2 l2 w2 Bu=a∧a=iw [pd u l w ls,pd u2 l2 w2 Bu]∧True)) (by kernel_rfl) ?_
  obtain⟨h1,h2,-⟩:=hp
  rw[MW]
  simp only[cF]
  refine⟨h1,fun e=>⟨h2,_,rfl,(if_neg (fun h=>h e)).symm,trivial⟩,fun e=>⟨_,rfl,(if_pos e).symm,trivial⟩⟩
def sY (la ub:List Int) (s:Int) (i k:Nat):List Int:=if 0≤(i:Int)+s∧(i:Int)+s<k then dF la ub s i++[ub.getD i 0+la.getD ((i:Int)+s).toNat 0] else dF la ub s i
def jx (te:List TV) (i:Nat) (k:Nat→LA):LA :=
  match te.getD i .unk with
  | .val (.int .i64 n)=>k n.toNat
  | _ => .un 0
def D62:List TV→Dn
  | [.agg [.sl (.int .i64) au .no,.sl (.int .i64) al .no,.val (.int .i64 aw),.sl (.int .i64) aq .no],.agg [.sl (.int .i64) bu .no,.sl (.int .i64) bl .no,.val (.int .i64 bw),.sl (.int .i64) bq .no],.val (.int .i64 s)]=>some ([al.length≤1000,bu.length≤1000,lV al,lV bu],.res (.sl cv (dF al bu s bu.length) .no) [] [],
    [(4,.ex Nat fun i => .st { sl:=[(7,.sl cv (dF al bu s i) (.nQ 2)),(8,bg i)],own:=[(3,1)],cB:=[i≤bu.length],m:=bu.length-i }),
     (9,.dep fun te _=>jx te 8 fun i => .ex Nat fun k => .st { sl:=[(7,.sl cv (sY al bu s i k) (.nQ 2)),(9,bg k)],cB:=[k≤al.length],m:=al.length-k })])
  | _=>none
def v62.q1 (p0 p1:Nat) (p2 p3 p4:List cv.den) (p5:Int) (p6 p7:List cv.den) (p8:Int) (p9:List cv.den) (mQ:Nat):Prop:=(↑p0:Int)=(↑p0:Int)∧(↑p1:Int)+1=(↑mQ:Int)∧(↑p0:Int)=(↑p0:Int)∧p2=p2∧(↑p2.length:Int)=(↑p2.length:Int)∧true=true∧p3=p3∧p4=p4∧p5=p5∧p6=p6∧p2=p2∧p7=p7∧p8=p8∧p9=p9∧mQ≤p4.length∧p4.length-mQ<p4.length-p1
theorem v62:VI T0 Tryz.f117 [some bG] D62:=by
  refine fF fun a => ?_
  unfold D62
  split
  rotate_left
  · trivial
  rename_i u l w ls u2 l2 w2 Bu s
  intro hp
  refine tH (A:=(∃ (a:Nat),[]=dF l u2 s a∧0=(↑a:Int)∧a≤u2.length∧u2.length-a<1000000)∧∀ (a:Nat),a≤u2.length→ay (decide ((↑a:Int)<(↑u2.length:Int))) ((∃ (x:Nat),dF l u2 s a=sY l u2 s a x∧0=(↑x:Int)∧x≤l.length∧l.length-x<1000000)∧∀ (x:Nat),x≤l.length→ay (decide ((↑x:Int)<(↑l.length:Int))) (cn ((↑x:Int)-(↑a:Int))∧ay ((↑x:Int)-(↑a:Int)==s) ((0≤(↑x:Int)∧(↑x:Int)<(↑l.length:Int))∧(0≤(↑a:Int)∧(↑a:Int)<(↑u2.length:Int))∧cn (l.getD x 0+u2.getD a 0)∧(sY l u2 s a x).length+1≤1000000000∧cn ((↑x:Int)+1)∧∃ (y:Nat),s=s∧iu cv.den∧sY l u2 s a x++[l.getD x 0+u2.getD a 0]=sY l u2 s a y∧v62.q1 a x u2 u l w ls l2 w2 Bu y) (cn ((↑x:Int)+1)∧∃ (y:Nat),s=s∧iu cv.den∧sY l u2 s a x=sY l u2 s a y∧v62.q1 a x u2 u l w ls l2 w2 Bu y)) (cn ((↑a:Int)+1)∧∃ (y:Nat),s=s∧iu cv.den∧sY l u2 s a x=dF l u2 s y∧(↑a:Int)+1=(↑y:Int)∧u=u∧l=l∧w=w∧ls=ls∧u2=u2∧l2=l2∧w2=w2∧Bu=Bu∧y≤u2.length∧u2.length-y<u2.length-a)) (dF l u2 s a=dF l u2 s u2.length∧True)) (by kernel_rfl) ?_
  unfold v62.q1
  obtain⟨h1,h2,h3,h4,-⟩:=hp
  change List Int at l u2
  simp only[bR,cZ,cF,dH,eO,cn,and_true,true_and,eq_self]
  refine⟨⟨0,rfl,by omega,by omega,by omega⟩,fun i k1=>⟨fun k2=>⟨⟨0,by rw[sY,if_neg (by omega)],by omega,by omega,by omega⟩,fun k k3=>⟨fun k4=>⟨by omega,fun k5=>⟨by omega,by omega,?_,?_,by omega,k+1,?_,by omega,by omega,by omega⟩,fun k5=>⟨by omega,k+1,?_,by omega,by omega,by omega⟩⟩,fun k4=>⟨by omega,i+1,?_,by omega,by omega,by omega⟩⟩⟩,fun k2 => ?_⟩⟩
  · have:=wO h3 (i:=k) (by omega)
    have:=wO h4 (i:=i) (by omega)
    omega
  · have:=zi l u2 s i
    rw[sY,if_neg (by omega)]; omega
  · rw[sY,if_neg (by omega),sY,if_pos (by omega),show ((i:Int)+s).toNat=k by omega,Int.add_comm]
  · by_cases h:0≤(i:Int)+s∧(i:Int)+s<k
    · rw[sY,if_pos h,sY,if_pos (by omega)]
    · rw[sY,if_neg h,sY,if_neg (by omega)]
  · rw[show k=l.length by omega]; rfl
  · rw[show i=u2.length by omega]
def D64:List TV→Dn
  | [.sl (.int .i64) l .no]=>some ([0<l.length,l.length≤1000],.res (.gI [bg (lM l).1,bg (lM l).2.1]) [] [],
    [(4,.ex Nat fun i => .ex Int fun lo => .ex Int fun hi => .st { sl:=[(4,bg lo),(5,bg hi),(6,bg i)],cB:=[i≤l.length,0<i,lM (l.take i)=(lo,hi,(i:Int))],m:=l.length-i })])
  | _=>none
theorem v64:VI T0 Tryz.f118 [some cv,some cv] D64:=by
  refine fF fun a => ?_
  unfold D64
  split
  rotate_left
  · trivial
  rename_i l
  intro hp
  refine tH (A:=((0:Int)≤0∧0<(↑l.length:Int))∧((0:Int)≤0∧0<(↑l.length:Int))∧(∃ (a:Nat),∃ (x:Int),∃ (y:Int),l.getD 0 0=x∧l.getD 0 0=y∧1=(↑a:Int)∧a≤l.length∧0<a∧lM (List.take a l)=(x,y,(↑a:Int))∧l.length-a<1000000)∧∀ (a:Nat) (x y:Int),a≤l.length→0<a→lM (List.take a l)=(x,y,(↑a:Int))→ay (decide ((↑a:Int)<(↑l.length:Int))) ((0≤(↑a:Int)∧(↑a:Int)<(↑l.length:Int))∧(0≤(↑a:Int)∧(↑a:Int)<(↑l.length:Int))∧cn ((↑a:Int)+1)∧∃ (z:Nat),∃ (u:Int),∃ (v:Int),l=l∧(0:Int)=0∧(0:Int)=0∧(if l.getD a 0<x then l.getD a 0 else x)=u∧(if l.getD a 0>y then l.getD a 0 else y)=v∧(↑a:Int)+1=(↑z:Int)∧z≤l.length∧0<z∧lM (List.take z l)=(u,v,(↑z:Int))∧l.length-z<l.length-a) (x=(lM l).1∧y=(lM l).2.1∧True)) (by kernel_rfl) ?_
  obtain⟨h1,h2,-⟩:=hp
  change List Int at l
  simp only[bR,cZ,cF,dH,eO,cn,and_true,true_and,eq_self]
  refine⟨by omega,by omega,⟨1,_,_,rfl,rfl,rfl,by omega,by omega,?_,by omega⟩,fun i lo hi k1 k2 k3=>⟨fun k4=>⟨by omega,by omega,by omega,i+1,_,_,rfl,rfl,by omega,by omega,by omega,?_,by omega⟩,fun k4 => ?_⟩⟩
  · obtain⟨x,m,rfl⟩:∃ x m,l=x::m:=by cases l with
      | nil=>exact absurd h1 (by decide)
      | cons x m=>exact⟨x,m,rfl⟩
    rw[List.take_one]; simp[lM,Lc]
  · rw[take_one (by omega),CA k3 (by omega)]; simp
  · rw[show i=l.length by omega,dc] at k3
    rw[k3]; exact⟨rfl,rfl⟩
def G4:gd:=(T0.cA 117 fun a=>dS (D62 a)).cA 118 fun a=>dS (D64 a)
def D63:List TV→Dn
  | [.agg [.sl (.int .i64) au .no,.sl (.int .i64) al .no,.val (.int .i64 aw),.sl (.int .i64) aq .no],.agg [.sl (.int .i64) bu .no,.sl (.int .i64) bl .no,.val (.int .i64 bw),.sl (.int .i64) bq .no],.val (.int .i64 s)]=>some ([al.length≤1000,bu.length≤1000,lV al,lV bu,0≤aw,aw≤2,0≤bw,bw≤2],.res (iy (gy al bu (aw+bw) s)) [] [],[])
  | _=>none
theorem v63:VI G4 Tryz.f80 [some .bool] D63:=by
  refine fF fun a => ?_
  unfold D63
  split
  rotate_left
  · trivial
  rename_i u l w ls u2 l2 w2 Bu s
  intro hp
  refine tH (A:=l.length≤1000∧u2.length≤1000∧lV l∧lV u2∧ay (decide ((↑(dF l u2 s u2.length).length:Int)<3)) (false=gy l u2 (w+w2) s∧True) (0<(dF l u2 s u2.length).length∧(dF l u2 s u2.length).length≤1000∧cn ((lM (dF l u2 s u2.length)).2.1-(lM (dF l u2 s u2.length)).1)∧cn (w+w2)∧decide ((lM (dF l u2 s u2.length)).2.1-(lM (dF l u2 s u2.length)).1≤w+w2)=gy l u2 (w+w2) s∧True)) (by kernel_rfl) ?_
  obtain⟨h1,h2,h3,h4,w1,w2',w3,w4,-⟩:=hp
  have e:=Ea (dF l u2 s u2.length)
  have b:=wI s h3 h4
  unfold stA at b
  have:=zi l u2 s u2.length
  simp only[bR,cZ,cF,dH,eO,cn,and_true,true_and,eq_self]
  refine⟨by omega,by omega,h3,h4,fun k => ?_,fun k=>⟨by omega,by omega,by omega,by omega,?_⟩⟩
  · rw[gy,eq_comm,decide_eq_false_iff_not]; omega
  · rw[gy,od]; omega
def G5:gd:=(((G3.cA 96 fun a=>dS (D61 a)).cA 117 fun a=>dS (D62 a)).cA 80 fun a=>dS (D63 a)).cA 118 fun a=>dS (D64 a)
def E3 (la ub:List Int) (w:Int) (k:Nat):List Int:=((List.range k).map fun(j:Nat)=>(j:Int)-8).filter (gy la ub w)
theorem TP {la ub:List Int} {w:Int} {k:Nat} (h:gy la ub w ((k:Int)-8)=true):E3 la ub w k++[(k:Int)-8]=E3 la ub w (k+1):=by
  simp[E3,fN,h]
theorem Yt {la ub:List Int} {w:Int} {k:Nat} (h:gy la ub w ((k:Int)-8)=false):E3 la ub w k=E3 la ub w (k+1):=by
  simp[E3,fN,h]
theorem Yu (la ub:List Int) (w:Int) (k:Nat):(E3 la ub w k).length≤k:=by
  refine aM (pY _ _) ?_
  simp
theorem Gw {la ub:List Int} {w s:Int} (h:s ≤ -(ub.length:Int)∨(la.length:Int)≤s):gy la ub w s=false:=by
  rw[gy,sJ h,decide_eq_false_iff_not]
  exact fun h=>absurd h.1 (by decide)
theorem Ys {la ub:List Int} {w:Int} (h1:la.length≤8) (h2:ub.length≤8):E3 la ub w 17=pI la ub w (ub.length+la.length+1):=by
  have e:(17:Nat)=(8-ub.length)+((ub.length+la.length+1)+(8-la.length)):=by omega
  have e0:∀ (l:List Int),(∀ s∈l,gy la ub w s=false)→l.filter (gy la ub w)=[]:=fun l h=>List.filter_eq_nil_iff.2 fun s hs=>by rw[h s hs]; decide
  have f1:((List.range (8-ub.length)).map fun(j:Nat)=>(j:Int)-8).filter (gy la ub w)=[]:=e0 _ fun s hs=>by
    simp only[eF,List.mem_range] at hs
    obtain⟨j,hj,rfl⟩:=hs
    exact Gw (.inl (by omega))
  have f2:((List.range (8-la.length)).map fun(j:Nat)=>(((8-ub.length)+((ub.length+la.length+1)+j):Nat):Int)-8).filter (gy la ub w)=[]:=e0 _ fun s hs=>by
    simp only[eF,List.mem_range] at hs
    obtain⟨j,hj,rfl⟩:=hs
    exact Gw (.inr (by omega))
  rw[E3,e,List.range_add,List.range_add]
  simp only[gM,og,List.map_map,Function.comp_def]
  rw[f1,f2,List.nil_append,eU,pI]
  congr 1
  refine List.map_congr_left fun j _ => ?_
  omega
def D66:List TV→Dn
  | [.agg [.sl (.int .i64) au .no,.sl (.int .i64) al .no,.val (.int .i64 aw),.sl (.int .i64) aq .no],.agg [.sl (.int .i64) bu .no,.sl (.int .i64) bl .no,.val (.int .i64 bw),.sl (.int .i64) bq .no]]=>some ([Ok au al aw aq,Ok bu bl bw bq],.res (.sl cv (pI al bu (aw+bw) (bu.length+al.length+1)) .no) [] [],
    [(4,.ex Nat fun k => .st { sl:=[(5,.sl cv (E3 al bu (aw+bw) k) (.nQ 2)),(6,bg ((k:Int)-8))],own:=[(3,1)],cB:=[k≤17],m:=17-k })])
  | _=>none
theorem v66:VI G5 Tryz.f109 [some bG] D66:=by
  refine fF fun a => ?_
  unfold D66
  split
  rotate_left
  · trivial
  rename_i u l w ls u2 l2 w2 Bu
  intro hp
  refine tH (A:=(∃ (a:Nat),[]=E3 l u2 (w+w2) a∧(-8:Int)=(↑a:Int)-8∧a≤17∧17-a<1000000)∧∀ (a:Nat),a≤17→ay (decide ((↑a:Int)-8≤8)) (l.length≤1000∧u2.length≤1000∧lV l∧lV u2∧0≤w∧w≤2∧0≤w2∧w2≤2∧ay (gy l u2 (w+w2) ((↑a:Int)-8)) ((E3 l u2 (w+w2) a).length+1≤1000000000∧cn ((↑a:Int)-8+1)∧∃ (x:Nat),iu cv.den∧E3 l u2 (w+w2) a++[(↑a:Int)-8]=E3 l u2 (w+w2) x∧(↑a:Int)-8+1=(↑x:Int)-8∧u=u∧l=l∧w=w∧ls=ls∧u2=u2∧l2=l2∧w2=w2∧Bu=Bu∧x≤17∧17-x<17-a) (cn ((↑a:Int)-8+1)∧∃ (x:Nat),iu cv.den∧E3 l u2 (w+w2) a=E3 l u2 (w+w2) x∧(↑a:Int)-8+1=(↑x:Int)-8∧u=u∧l=l∧w=w∧ls=ls∧u2=u2∧l2=l2∧w2=w2∧Bu=Bu∧x≤17∧17-x<17-a)) (E3 l u2 (w+w2) a=pI l u2 (w+w2) (u2.length+l.length+1)∧True)) (by kernel_rfl) ?_
  obtain⟨h1,h2,-⟩:=hp
  have n1:=h1.num
  have n2:=h2.num
  simp only[bR,cZ,cF,dH,eO,cn,and_true,true_and,eq_self]
  refine⟨⟨0,rfl,by omega,by omega,by omega⟩,fun k k1=>⟨fun k2=>⟨by omega,by omega,h1.hl,h2.hu,by omega,by omega,by omega,by omega,?_⟩,fun k2 => ?_⟩⟩
  · have:=Yu l u2 (w+w2) k
    rw[iG]
    refine⟨fun f=>⟨by omega,by omega,k+1,TP f,by omega,by omega,by omega⟩,fun f=>⟨by omega,k+1,Yt f,by omega,by omega,by omega⟩⟩
  · rw[show k=17 by omega,Ys (by omega) (by omega)]
def G6:gd:=G5.cA 109 fun a=>dS (D66 a)
def HA (p:PD):Bool:=decide (p.1.length≤20∧p.2.1.length≤20∧p.2.2.2.1.length≤20)
theorem TS {l:List PD} {i:Nat} {d:PD} (h:i<l.length) (h1:(l.take i).all HA=true) (h2:HA (l.getD i d)=true):(l.take (i+1)).all HA=true:=by
  have e:l.getD i d=l[i]:=by simp[aL,h]
  rw[e] at h2
  rw[← List.take_append_getElem h,lu,h1,List.all_cons,h2]; rfl
theorem Ia {l:List PD} {i:Nat} {d:PD} (h:i<l.length) (h2:HA (l.getD i d)=false):l.all HA=false:=by
  have e:l.getD i d=l[i]:=by simp[aL,h]
  rw[e] at h2
  refine Bool.eq_false_iff.2 fun h1 => ?_
  rw[bh.1 h1 _ (mJ h)] at h2
  cases h2
def D18:List TV→Dn
  | [.sl (.pair (.sl (.int .i64)) (.pair (.sl (.int .i64)) (.pair (.int .i64) (.pair (.sl (.int .i64)) .unit)))) l .no]=>some ([],.ex Bool fun b => .res (iy b) [] [b=(decide (l.length≤20)&&l.all HA)],[(3,.ex Nat fun i => .st { sl:=[(3,bg i)],cB:=[i≤l.length,i≤20,(l.take i).all HA=true],m:=20-i })])
  | _=>none
def v18.q1 (p0:List (aK).den) (p1:Bool):Prop:=∃ (a:Bool),p1=a∧a=(decide (p0.length≤20)&&p0.all HA)∧True
theorem v18:VI T0 Tryz.f11 [some .bool] D18:=by
  refine fF fun a => ?_
  unfold D18
  split
  rotate_left
  · trivial
  rename_i l
  intro hp
  refine tH (A:=(∃ (a:Nat),0=(↑a:Int)∧a≤l.length∧a≤20∧(List.take a l).all HA=true∧20-a<1000000)∧∀ (a:Nat),a≤l.length→a≤20→(List.take a l).all HA=true→ay (decide ((↑a:Int)<(↑l.length:Int))) (ay (decide ((↑a:Int)<20)) ((0≤(↑a:Int)∧(↑a:Int)<(↑l.length:Int))∧ay (decide ((↑(List.length (l.getD a ([],[],0,[],())).1):Int)>20)) (v18.q1 l false) ((0≤(↑a:Int)∧(↑a:Int)<(↑l.length:Int))∧ay (decide ((↑(List.length (l.getD a ([],[],0,[],())).2.1):Int)>20)) (v18.q1 l false) ((0≤(↑a:Int)∧(↑a:Int)<(↑l.length:Int))∧ay (decide ((↑(List.length (l.getD a ([],[],0,[],())).2.2.2.1):Int)>20)) (v18.q1 l false) (cn ((↑a:Int)+1)∧∃ (x:Nat),l=l∧(↑a:Int)+1=(↑x:Int)∧x≤l.length∧x≤20∧(List.take x l).all HA=true∧20-x<20-a)))) (v18.q1 l (decide ((↑l.length:Int)≤20)))) (v18.q1 l (decide ((↑l.length:Int)≤20)))) (by kernel_rfl) ?_
  unfold v18.q1
  change List PD at l
  simp only[bR,cZ,cF,dH,eO,cn,and_true,true_and,eq_self]
  refine⟨⟨0,rfl,by omega,by omega,rfl,by omega⟩,fun i k1 k2 k3=>⟨fun k4=>⟨fun k5=>⟨by omega,fun k6=>⟨_,rfl,?_⟩,fun k6=>⟨by omega,fun k7=>⟨_,rfl,?_⟩,fun k7=>⟨by omega,fun k8=>⟨_,rfl,?_⟩,fun k8=>⟨by omega,i+1,by omega,by omega,by omega,TS (d:=([],[],0,[],())) (by omega) k3 (fM ⟨by omega,by omega,by omega⟩),by omega⟩⟩⟩⟩,fun k5=>⟨_,rfl,?_⟩⟩,fun k4=>⟨_,rfl,?_⟩⟩⟩
  · rw[Ia (i:=i) (d:=([],[],0,[],())) (by omega) (fO fun h=>by omega),mI]
  · rw[Ia (i:=i) (d:=([],[],0,[],())) (by omega) (fO fun h=>by omega),mI]
  · rw[Ia (i:=i) (d:=([],[],0,[],())) (by omega) (fO fun h=>by omega),mI]
  · rw[fO (by omega),fO (by omega)]; rfl
  · rw[show i=l.length by omega,dc] at k3
    rw[k3,Bool.and_true,od]; omega
def S58:List TV→Sp
  | [.sl (.int .i64) l .no]=>some ([l.length≤1000],.res (.sl cv l .no) [] [])
  | _=>none
def T0d:gd:=T0.cA 43 S58
def D20:List TV→Dn
  | [.agg [.sl (.int .i64) au .no,.sl (.int .i64) al .no,.val (.int .i64 aw),.sl (.int .i64) aq .no]]=>some ([Sh au al aq],.res (RF au al aw aq) [] [],[])
  | _=>none
theorem v20:VI T0d Tryz.f42 [some aK] D20:=by
  refine fF fun a => ?_
  unfold D20
  split
  rotate_left
  · trivial
  rename_i u l w ls
  intro hp
  refine tH (A:=u.length≤1000∧l.length≤1000∧ls.length≤1000∧u=u∧l=l∧w=w∧ls=ls∧True) (by kernel_rfl) ?_
  obtain⟨h1,h2,h3⟩:=hp.1
  exact⟨h1,h2,h3,rfl,rfl,rfl,rfl,trivial⟩
def D25:List TV→Dn
  | [.sl (.int .i64) l .no,.sl (.int .i64) m .no]=>some ([l.length≤1000,m.length≤1000],.res (iy (decide (l=m))) [] [],[(4,.ex Nat fun i => .ex Bool fun b => .st { sl:=[(5,iy b),(6,bg i)],cB:=[i≤l.length,b=decide (l.length=m.length∧l.take i=m.take i)],m:=l.length-i })])
  | _=>none
theorem v25:VI T0 Tryz.f49 [some .bool] D25:=by
  refine fF fun a => ?_
  unfold D25
  split
  rotate_left
  · trivial
  rename_i l m
  intro hp
  refine tH (A:=(∃ (a:Nat),∃ (x:Bool),((↑l.length:Int)==(↑m.length:Int))=x∧0=(↑a:Int)∧a≤l.length∧x=decide (l.length=m.length∧List.take a l=List.take a m)∧l.length-a<1000000)∧∀ (a:Nat) (x:Bool),a≤l.length→x=decide (l.length=m.length∧List.take a l=List.take a m)→ay x (ay (decide ((↑a:Int)<(↑l.length:Int))) ((0≤(↑a:Int)∧(↑a:Int)<(↑l.length:Int))∧(0≤(↑a:Int)∧(↑a:Int)<(↑m.length:Int))∧cn ((↑a:Int)+1)∧∃ (y:Nat),∃ (z:Bool),l=l∧m=m∧false=false∧(l.getD a 0==m.getD a 0)=z∧(↑a:Int)+1=(↑y:Int)∧y≤l.length∧z=decide (l.length=m.length∧List.take y l=List.take y m)∧l.length-y<l.length-a) (x=decide (l=m)∧True)) (x=decide (l=m)∧True)) (by kernel_rfl) ?_
  obtain⟨h1,h2,-⟩:=hp
  simp only[bR,cZ,cn,and_true,true_and,eq_self]
  refine⟨⟨0,_,rfl,rfl,by omega,?_,by omega⟩,fun i b h3 h4 => ?_⟩
  · rw[Bool.eq_iff_iff]; simp; omega
  rw[iG]
  subst h4
  simp only[bI,decide_eq_false_iff_not]
  refine⟨fun h5=>⟨fun h6=>⟨by omega,by omega,by omega,i+1,_,rfl,by omega,by omega,?_,by omega⟩,fun h6 => ?_⟩,fun h5 => ?_⟩
  · rw[Bool.eq_iff_iff,bI,take_one (by omega),take_one (by omega),dX]
    refine⟨fun h=>⟨h5.1,by rw[h5.2,h]⟩,fun h => ?_⟩
    have:=List.append_inj_right' h.2 rfl
    simpa using this
  · rw[od]
    have e1:=h5.2
    rw[lB (by omega),lB (by omega)] at e1
    exact⟨fun _=>e1,fun h=>h5⟩
  · rw[od]
    exact⟨fun h=>absurd h h5,fun h=>by subst h; exact absurd ⟨rfl,rfl⟩ h5⟩
def G7:gd:=T0.cA 49 fun a=>dS (D25 a)
def D26:List TV→Dn
  | [.agg [.sl (.int .i64) au .no,.sl (.int .i64) al .no,.val (.int .i64 aw),.sl (.int .i64) aq .no],.agg [.sl (.int .i64) bu .no,.sl (.int .i64) bl .no,.val (.int .i64 bw),.sl (.int .i64) bq .no]]=>some ([Sh au al aq,Sh bu bl bq],.res (iy (decide (au=bu∧al=bl∧aw=bw∧aq=bq))) [] [],[])
  | _=>none
theorem v26:VI G7 Tryz.f48 [some .bool] D26:=by
  refine fF fun a => ?_
  unfold D26
  split
  rotate_left
  · trivial
  rename_i u l w ls u2 l2 w2 Bu
  intro hp
  refine tH (A:=u.length≤1000∧u2.length≤1000∧ay (decide (u=u2)) (l.length≤1000∧l2.length≤1000∧ay (decide (l=l2)) (ay (w==w2) (ls.length≤1000∧Bu.length≤1000∧decide (ls=Bu)=decide (u=u2∧l=l2∧w=w2∧ls=Bu)∧True) (false=decide (u=u2∧l=l2∧w=w2∧ls=Bu)∧True)) (false=decide (u=u2∧l=l2∧w=w2∧ls=Bu)∧True)) (false=decide (u=u2∧l=l2∧w=w2∧ls=Bu)∧True)) (by kernel_rfl) ?_
  obtain⟨⟨a1,a2,a3⟩,⟨b1,b2,b3⟩,-⟩:=hp
  simp only[bR,cZ,and_true]
  refine⟨a1,b1,fun h1=>⟨a2,b2,fun h2=>⟨fun h3=>⟨a3,b3,?_⟩,fun h3 => ?_⟩,fun h2 => ?_⟩,fun h1 => ?_⟩
  · rw[od]; exact⟨fun h=>⟨h1,h2,h3,h⟩,fun h=>h.2.2.2⟩
  · rw[fO fun h=>h3 h.2.2.1]
  · rw[fO fun h=>h2 h.2.1]
  · rw[fO fun h=>h1 h.1]
theorem Yv {p:PD} (h:HA p=true):dD p:=by
  have:=of_decide_eq_true h
  exact⟨by omega,by omega,by omega⟩
structure Ob (bF:bP):Prop where
  dup:∀ (l:List Int) d,l.length≤1000→RT ej [] (.sl cv l .no) d→∃ r,bF 43 [d]=some r∧r.pure=true∧RT ej [] (.sl cv l .no) r
section
variable {bF:bP} (tk:uS bF) (tu:Ob bF)
theorem DG {k:Nat} {T:gd} (h:ji bF k T):∀ m,ji bF (m+k) T
  | 0=>by rwa [gL]
  | m+1=>by have:=eM (DG h m); rwa [Nat.add_right_comm] at this
theorem OS {T:gd} {k:Nat} (tu:Ob bF) (hT:ji bF k T):ji bF k (T.cA 43 S58):=Fq hT fun n a p s hs hp=>by
  unfold S58 at hs
  split at hs
  · rename_i l
    cases hs
    intro cR hd
    obtain⟨d,_,rfl,h1,h2⟩:=ak hd
    rw[aW h2]
    obtain⟨r,k1,k2,k3⟩:=tu.dup l d hp.1 h1
    exact⟨r,_,by simp only[yB,j6,k1,k2,if_true],k2,k3,rfl,rfl,trivial⟩
  · cases hs
include tk
theorem aaG:ji bF 1 G1:=kL tk (ee tk) (by decide) Tryz.func100 rfl v107 (eM (ee tk))
theorem aaF:ji bF 2 G2:=kL tk (aaG tk) (by decide) Tryz.func93 rfl acn (eM (aaG tk))
theorem SU:ji bF 3 G3:=kL tk (aaF tk) (by decide) Tryz.func92 rfl v91 (eM (aaF tk))
theorem adu:ji bF 1 G4:=kL tk (ee tk) (by decide) Tryz.func118 rfl v64 (kL tk (ee tk) (by decide) Tryz.func117 rfl v62 (eM (ee tk)))
theorem adt:ji bF 4 G5:=kL tk (DG (ee tk) 3) (by decide) Tryz.func118 rfl v64 (kL tk (DG (adu tk) 2) (by decide) Tryz.func80 rfl v63 (kL tk (DG (ee tk) 3) (by decide) Tryz.func117 rfl v62 (kL tk (SU tk) (by decide) Tryz.func96 rfl v61 (eM (SU tk)))))
theorem ads:ji bF 1 G7:=kL tk (ee tk) (by decide) Tryz.func49 rfl v25 (eM (ee tk))
end
end Go.Tv
end
section
namespace Go.Tv
open Go Go.Di Go.Proofs
def Yf (la ub:List Int) (nb k:Nat):List Int:=((List.range k).map fun(j:Nat)=>(j:Int)-(nb:Int)).filterMap fun s=>if 3≤(stA la ub s).2.2 then some ((stA la ub s).2.1-(stA la ub s).1) else none
def Yd (ua la:List Int) (x:Int) (ub lb:List Int) (y:Int):List Int:=Yf (bk x ua la) (aX y ub lb) ub.length (ub.length+ua.length+1)
def Ye (ua la ub lb ys:List Int) (x:Int):List Int:=ys.flatMap (Yd ua la x ub lb)
def adE (ua la lsa ub lb lsb:List Int):List Int:=lsa.flatMap (Ye ua la ub lb lsb)
theorem oa {n:Int} {u l:List Int} (h:l.length=u.length):(aX n u l).length=u.length∧(bk n u l).length=u.length:=by
 unfold aX bk
 constructor<;>(repeat' split)<;>simp[h]
theorem UE {l:List Int} (h:lV l):lV l.reverse:=fun x hx=>h x (List.mem_reverse.1 hx)
theorem qW {n:Int} {u l:List Int} (h1:lV u) (h2:lV l):lV (aX n u l)∧lV (bk n u l):=by
 unfold aX bk
 constructor<;>(repeat' split)<;>first | assumption | exact UE (by assumption)
end Go.Tv
end
section
namespace Go.Tv
open Go Go.Di Go.Proofs
set_option maxRecDepth 100000
structure Oc (bF:bP):Prop where
 rev:∀ (l:List Int) d,l.length≤1000000→RT ej [] (.sl cv l .no) d→∃ r,bF 133 [d]=some r∧r.pure=true∧RT ej [] (.sl cv l.reverse .no) r
def XO:List TV→Sp
 | [.sl (.int .i64) l .no]=>some ([l.length≤1000000],.res (.sl cv l.reverse .no) [] [])
 | _=>none
def D79:List TV→Dn
 | [.sl (.int .i64) l .no]=>some ([l≠[],l.length≤1000],.res (.sl cv l .no) [] [],[])
 | _=>none
theorem v79:VI T0 Tryz.f91 [some bG] D79:=by
 intro a p s j h hp
 unfold D79 at h
 split at h<;>cases h
 rename_i l
 change List Int at l
 obtain⟨h1,h2,-⟩:=hp
 refine uJ (A:=l≠[]∧0+l.length≤1000000000∧l=l∧True) (by kernel_rfl) ?_
 exact⟨h1,by omega,rfl,trivial⟩
def D98:List TV→Dn
 | [.sl (.int .i64) l .no,.val (.int .i64 x)]=>some ([l.length≤1000],.res (bg (qX l x)) [] [],[(3,.ex Nat fun i => .st { sl:=[(8,bg i)],cB:=[i≤l.length,x ∉ l.take i],m:=l.length-i })])
 | _=>none
theorem v98:VI T0 Tryz.f122 [some cv] D98:=by
 intro a p s j h hp
 unfold D98 at h
 split at h<;>cases h
 rename_i l x
 change List Int at l
 have h1:=hp.1
 refine uJ (A:=(∃ (a:Nat),0=(↑a:Int)∧a≤l.length∧¬x∈List.take a l∧l.length-a<1000000)∧∀ (a:Nat),a≤l.length→¬x∈List.take a l→ay (decide ((↑a:Int)<(↑l.length:Int))) ((0≤(↑a:Int)∧(↑a:Int)<(↑l.length:Int))∧ay (x==l.getD a 0) ((↑a:Int)=qX l x∧True) (cn ((↑a:Int)+1)∧∃ (y:Nat),l=l∧x=x∧(↑l.length:Int)=(↑l.length:Int)∧(↑a:Int)+1=(↑y:Int)∧y≤l.length∧¬x∈List.take y l∧l.length-y<l.length-a)) ((-1:Int)=qX l x∧True)) (by kernel_rfl) ?_
 simp only[bR,cZ,cF,dH,eO,cn,and_true,true_and,eq_self]
 refine⟨⟨0,by omega,by omega,by simp,by omega⟩,fun i h2 h3=>⟨fun h4=>⟨by omega,fun h5 => ?_,fun h5=>⟨by omega,i+1,by omega,by omega,?_,by omega⟩⟩,fun h4 => ?_⟩⟩
 ·rw[MN (by omega) h3 h5.symm]
 ·rw[take_one (by omega)]; simp only[gn,bJ,not_or]; exact⟨h3,h5⟩
 ·rw[show i=l.length by omega,dc] at h3; rw[qX,if_neg h3]
def D99:List TV→Dn
 | [.agg [.sl (.int .i64) u .no,.sl (.int .i64) l .no]]=>some ([],.res (edV u l) [] [],[])
 | _=>none
theorem v99:VI T0 Tryz.f123 [some (.pair bG (.pair bG .unit))] D99:=by
 intro a p s j h hp
 unfold D99 at h
 split at h<;>cases h
 rename_i u l
 refine uJ (A:=u=u∧l=l∧True) (by kernel_rfl) ?_
 exact⟨rfl,rfl,trivial⟩
def T0r:gd:=T0.cA 133 XO
def X6:List TV→Dn
 | [.agg [.sl (.int .i64) u .no,.sl (.int .i64) l .no]]=>some ([u.length≤1000,l.length≤1000],.res (edV l.reverse u.reverse) [] [],[])
 | _=>none
theorem acp:VI T0r Tryz.f124 [some (.pair bG (.pair bG .unit))] X6:=by
 intro a p s j h hp
 unfold X6 at h
 split at h<;>cases h
 rename_i u l
 obtain⟨h1,h2,-⟩:=hp
 refine uJ (A:=l.length≤1000000∧u.length≤1000000∧l.reverse=l.reverse∧u.reverse=u.reverse∧True) (by kernel_rfl) ?_
 exact⟨by omega,by omega,rfl,rfl,trivial⟩
def X5:List TV→Dn
 | [.agg [.sl (.int .i64) u .no,.sl (.int .i64) l .no]]=>some ([u.length≤1000,l.length≤1000],.res (edV u.reverse l.reverse) [] [],[])
 | _=>none
theorem aco:VI T0r Tryz.f125 [some (.pair bG (.pair bG .unit))] X5:=by
 intro a p s j h hp
 unfold X5 at h
 split at h<;>cases h
 rename_i u l
 obtain⟨h1,h2,-⟩:=hp
 refine uJ (A:=u.length≤1000000∧l.length≤1000000∧u.reverse=u.reverse∧l.reverse=l.reverse∧True) (by kernel_rfl) ?_
 exact⟨by omega,by omega,rfl,rfl,trivial⟩
def X4:List TV→Dn
 | [.agg [.sl (.int .i64) u .no,.sl (.int .i64) l .no]]=>some ([],.res (edV l u) [] [],[])
 | _=>none
theorem aab:VI T0 Tryz.f126 [some (.pair bG (.pair bG .unit))] X4:=by
 intro a p s j h hp
 unfold X4 at h
 split at h<;>cases h
 rename_i u l
 refine uJ (A:=l=l∧u=u∧True) (by kernel_rfl) ?_
 exact⟨rfl,rfl,trivial⟩
def U1:gd:=(((((T0r.cA 91 fun a=>dS (D79 a)).cA 122 fun a=>dS (D98 a)).cA 123 fun a=>dS (D99 a)).cA 124 fun a=>dS (X6 a)).cA 125 fun a=>dS (X5 a)).cA 126 fun a=>dS (X4 a)
def D80:List TV→Dn
 | [.sl (.int .i64) l .no,.val (.int .i64 x)]=>some ([l.length≤1000],.res (iy (decide (x∈l))) [] [],[])
 | _=>none
theorem v80:VI U1 Tryz.f95 [some .bool] D80:=by
 intro a p s j h hp
 unfold D80 at h
 split at h<;>cases h
 rename_i l x
 change List Int at l
 have h1:=hp.1
 refine uJ (A:=l.length≤1000∧decide (qX l x≥0)=decide (x∈l)∧True) (by kernel_rfl) ?_
 refine⟨h1,?_,trivial⟩
 rw[od,qX]
 split<;>simp_all
def D83:List TV→Dn
 | [.val (.int .i64 n),.agg [.sl (.int .i64) u .no,.sl (.int .i64) l .no]]=>some ([u.length≤1000,l.length≤1000,0≤n,n≤3],.res (edV (aX n u l) (bk n u l)) [] [],[])
 | _=>none
theorem v83:VI U1 Tryz.f98 [some (.pair bG (.pair bG .unit))] D83:=by
 intro a p s j h hp
 unfold D83 at h
 split at h<;>cases h
 rename_i n u l
 obtain⟨h1,h2,h3,h4,-⟩:=hp
 refine uJ (A:=ay (decide (n=0)) (u=aX n u l∧l=bk n u l∧True) (ay (decide (n=1)) (u.length≤1000∧l.length≤1000∧l.reverse=aX n u l∧u.reverse=bk n u l∧True) (ay (decide (n=2)) (u.length≤1000∧l.length≤1000∧u.reverse=aX n u l∧l.reverse=bk n u l∧True) (ay (decide (n=3)) (l=aX n u l∧u=bk n u l∧True) False)))) (by kernel_rfl) ?_
 have e:n=0∨n=1∨n=2∨n=3:=by omega
 rcases e with rfl | rfl | rfl | rfl
 ·exact⟨rfl,rfl,trivial⟩
 ·exact⟨h1,h2,rfl,rfl,trivial⟩
 ·exact⟨h1,h2,rfl,rfl,trivial⟩
 ·exact⟨rfl,rfl,trivial⟩
def U2:gd:=(U1.cA 95 fun a=>dS (D80 a)).cA 98 fun a=>dS (D83 a)
abbrev Zn (u l:List Int) (w:Int) (ls:List Int):TV := .agg [.sl cv u .no,.sl cv l .no,bg w,.sl cv ls .no,.sl cv u .no,.sl cv l .no,.sl cv l.reverse .no,.sl cv u.reverse .no,.sl cv u.reverse .no,.sl cv l.reverse .no,.sl cv l .no,.sl cv u .no]
def ZU:List TV→Dn
 | [.agg [.sl (.int .i64) u .no,.sl (.int .i64) l .no,.val (.int .i64 w),.sl (.int .i64) ls .no]]=>some ([u.length≤1000,l.length≤1000],.res (Zn u l w ls) [] [],[(4,.un 5)])
 | _=>none
theorem v50:VI U2 Tryz.f61 [none] ZU:=by
 refine fF fun a => ?_
 unfold ZU
 split
 rotate_left
 ·trivial
 rename_i u l w ls
 intro hp
 refine tH (A:=u.length≤1000∧l.length≤1000∧(0:Int)≤0∧(0:Int)≤3∧True∧cn (1:Int)∧u.length≤1000∧l.length≤1000∧(0:Int)≤1∧(1:Int)≤3∧True∧cn (2:Int)∧u.length≤1000∧l.length≤1000∧(0:Int)≤2∧(2:Int)≤3∧True∧cn (3:Int)∧u.length≤1000∧l.length≤1000∧(0:Int)≤3∧(3:Int)≤3∧True∧cn (4:Int)∧u=u∧l=l∧w=w∧ls=ls∧aX (0:Int) u l=u∧bk (0:Int) u l=l∧aX (1:Int) u l=l.reverse∧bk (1:Int) u l=u.reverse∧aX (2:Int) u l=u.reverse∧bk (2:Int) u l=l.reverse∧aX (3:Int) u l=l∧bk (3:Int) u l=u∧True) (by kernel_rfl) ?_
 obtain⟨h1,h2,-⟩:=hp
 simp only[cn]
 repeat' (first | exact h1 | exact h2 | omega | rfl | trivial | apply And.intro)
section
variable {bF:bP} (tk:uS bF) (tr:Oc bF)
theorem eT {k:Nat} {T:gd} (h:ji bF k T):∀ m,ji bF (m+k) T
 | 0=>by rwa [gL]
 | m+1=>by have:=eM (eT h m); rwa [Nat.add_right_comm] at this
theorem Ix {T:gd} {k:Nat} (tr:Oc bF) (hT:ji bF k T):ji bF k (T.cA 133 XO):=Fq hT fun n a p s hs hp=>by
 unfold XO at hs
 split at hs
 ·rename_i l
  cases hs
  intro cR hd
  obtain⟨d,_,rfl,h1,h2⟩:=ak hd
  rw[aW h2]
  obtain⟨r,k1,k2,k3⟩:=tr.rev l d hp.1 h1
  exact⟨r,_,by simp only[yB,j6,k1,k2,if_true],k2,k3,rfl,rfl,trivial⟩
 ·cases hs
include tk tr
theorem W3:ji bF 1 U1:=kL tk (ee tk) (by decide) Tryz.func126 rfl aab (kL tk (Ix tr (ee tk)) (by decide) Tryz.func125 rfl aco (kL tk (Ix tr (ee tk)) (by decide) Tryz.func124 rfl acp (kL tk (ee tk) (by decide) Tryz.func123 rfl v99 (kL tk (ee tk) (by decide) Tryz.func122 rfl v98 (kL tk (ee tk) (by decide) Tryz.func91 rfl v79 (eM (Ix tr (ee tk))))))))
theorem aac:ji bF 2 U2:=kL tk (W3 tk tr) (by decide) Tryz.func98 rfl v83 (kL tk (W3 tk tr) (by decide) Tryz.func95 rfl v80 (eM (W3 tk tr)))
def W8:gd:=((T8.cA 91 fun a=>dS (D79 a)).cA 95 fun a=>dS (D80 a)).cA 61 fun a=>dS (ZU a)
end
end Go.Tv
end
section
namespace Go.Tv
open Go Go.Di Go.Proofs
def acf (n:Int) (q:List Int):List Int:=q.map fun x=>jZ x n
def adG (l:List Int):List Int:=l.mergeSort fun x y=>decide (x≤y)
theorem four {x:Int} (h:0≤x∧x≤3):x=0∨x=1∨x=2∨x=3:=by omega
theorem X7 {x n:Int} (hx:0≤x∧x≤3) (hn:0≤n∧n≤3):(0≤jZ x n∧jZ x n≤3)∧jZ (jZ x n) n=x:=by
 rcases four hx with rfl | rfl | rfl | rfl<;>rcases four hn with rfl | rfl | rfl | rfl<;>decide
theorem Gk {n x:Int} {q:List Int}:x∈eY n q 4↔(0≤x∧x≤3)∧jZ x n∈q:=by
 simp only[eY,List.mem_filter,eF,List.mem_range,bI]
 constructor
 ·rintro⟨⟨k,hk,rfl⟩,h⟩
  exact⟨by simp only[Int.ofNat_eq_natCast]; omega,h⟩
 ·rintro⟨h1,h2⟩
  exact⟨⟨x.toNat,by omega,by simp only[Int.ofNat_eq_natCast]; omega⟩,h2⟩
end Go.Tv
end
