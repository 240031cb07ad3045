import Derived.Test.YtedcgbkilmlbhaaPk08
import Derived.Test.YtedcgbkilmlbhaaPk05
section
namespace Go.Tv
open Go Go.Di Go.Proofs
set_option maxRecDepth 100000
abbrev pcS (f : List Int → List Int → Int → List Int → List Prop) : SpT := .ex (List Int) fun u => .ex (List Int) fun l => .ex Int fun w => .ex (List Int) fun ls => .ex (List Int) fun r => .ex Int fun z => .res (pcV u l w ls) (dice r z) (f u l w ls)
def D12 : List TV → List TV → Dn
 | [.ptr 0 0, .val (.int .i64 c)], [.sl (.int .i64) _ .no, .val (.int .u64 _)] => some ([3 ≤ c, c ≤ 8], pcS fun u l w ls => [Ok u l w ls, (u.length : Int) ≤ c], [])
 | _, _ => none
theorem v12 : VC T4 Try.f8 [some PieceT] [some IntsT, some (.int .u64)] D12 := by
 intro a cs p s j h hp
 unfold D12 at h
 split at h <;> cases h
 rename_i c r z
 obtain ⟨h1, h2, -⟩ := hp
 refine vcp (A := (-1000 : Int) ≤ (3 : Int) ∧ (3 : Int) ≤ (1000 : Int) ∧ (-1000 : Int) ≤ c ∧ c ≤ (1003 : Int) ∧ c ≤ (5000 : Int) ∧ ∀ (a : Int) (a_1 : List Int) (a_2 : Int), (3 : Int) ≤ a → a ≤ c ∨ a = (3 : Int) → (0 : Int) ≤ a ∧ a ≤ (100 : Int) ∧ ∀ (a_5 a_6 : List Int) (a_7 : Int), (↑a_5.length : Int) = a → inH a_5 → (0 : Int) ≤ a ∧ a ≤ (100 : Int) ∧ ∀ (a_10 a_11 : List Int) (a_12 : Int), (↑a_10.length : Int) = a → inH a_10 → (2 : Int) ≤ (1000 : Int) ∧ (-10000 : Int) ≤ (2 : Int) ∧ ∀ (a : Int) (a_13 : List Int) (a_14 : Int), (0 : Int) ≤ a → a ≤ (2 : Int) ∨ a = (0 : Int) → (0 : Nat) < (4 : Nat) ∧ (4 : Nat) ≤ (1000 : Nat) ∧ ∀ (a_17 : Int) (a_18 : List Int) (a_19 : Int), a_17 ∈ [(0 : Int), (0 : Int), (1 : Int), a] → ∀ (a a_20 : List Int) (a_21 : Int), a ≠ [] → (∀ (x : Int), x ∈ a → (0 : Int) ≤ x ∧ x ≤ (3 : Int)) → List.Pairwise (fun (x1 x2 : Int) => x1 < x2) a → ∃ (a_25 : List Int), ∃ (a_26 : List Int), ∃ (a_27 : Int), ∃ (a_28 : List Int), ∃ (a_29 : List Int), ∃ (a_30 : Int), a_5 = a_25 ∧ a_10 = a_26 ∧ a_17 = a_27 ∧ a = a_28 ∧ a_20 = a_29 ∧ a_21 = a_30 ∧ Ok a_25 a_26 a_27 a_28 ∧ (↑a_25.length : Int) ≤ c ∧ True) (by kernel_rfl) ?_
 simp only [vc_dec, vc_beq, vc_bne, vc_not, nil_e, rng, and_true, true_and, eq_self]
 refine ⟨by omega, by omega, by omega, by omega, by omega, fun n r1 z1 h3 h4 => ⟨by omega, by omega, fun u r2 z2 h5 h6 => ⟨by omega, by omega, fun l r3 z3 h7 h8 => ⟨by omega, by omega, fun k r4 z4 h9 h10 => ⟨by omega, by omega, fun w r5 z5 h11 ls r6 z6 h12 h13 h14 => ?_⟩⟩⟩⟩⟩
 have h15 : 0 ≤ w ∧ w ≤ 2 := by simp at h11; omega
 exact ⟨u, l, w, ls, r6, z6, rfl, rfl, rfl, rfl, rfl, rfl, ⟨by omega, by omega, by omega, h6, h8, h15.1, h15.2, h12, h13, h14⟩, by omega⟩
def D77 : List TV → Dn
 | [.agg [.sl (.int .i64) u .no, .sl (.int .i64) l .no, .val (.int .i64 w), .sl (.int .i64) ls .no]] => some ([Sh u l ls], .res (ival (chk u l w ls)) [] [],
  [(3, .un 3), (19, .ex Nat fun i => .st { sl := [(71, ival i)], good := [i ≤ ls.length, lieE ls 0 = lieE ls i], m := ls.length - i })])
 | _ => none
set_option maxHeartbeats 1000000 in
theorem v77 : VI T4 Try.f80 [some I64] D77 := by
 intro a p s j h hp
 unfold D77 at h
 split at h <;> cases h
 rename_i u l w ls
 change List Int at u l ls
 obtain ⟨h1, h2, h3⟩ := hp.1
 refine vcp (A := ((0 : Int) ≤ (0 : Int) ∧ (0 : Int) < (↑(2 : Nat) : Int)) ∧ vcIf (decide ((↑u.length : Int) < (3 : Int))) ((7 : Int) = chk u l w ls ∧ True) (vcIf (decide ((↑u.length : Int) < (↑u.length : Int))) ((7 : Int) = chk u l w ls ∧ True) (vcIf (decide ((↑u.length : Int) > (8 : Int))) ((6 : Int) = chk u l w ls ∧ True) (vcIf (decide ((↑u.length : Int) > (↑u.length : Int))) ((6 : Int) = chk u l w ls ∧ True) (rng (1 : Int) ∧ ((0 : Int) ≤ (1 : Int) ∧ (1 : Int) < (↑(2 : Nat) : Int)) ∧ vcIf (decide ((↑l.length : Int) < (3 : Int))) ((7 : Int) = chk u l w ls ∧ True) (vcIf (decide ((↑l.length : Int) < (↑u.length : Int))) ((7 : Int) = chk u l w ls ∧ True) (vcIf (decide ((↑l.length : Int) > (8 : Int))) ((6 : Int) = chk u l w ls ∧ True) (vcIf (decide ((↑l.length : Int) > (↑u.length : Int))) ((6 : Int) = chk u l w ls ∧ True) (rng (2 : Int) ∧ u.length ≤ (1000 : Nat) ∧ vcIf (!u.all (inB (9 : Int))) ((1 : Int) = chk u l w ls ∧ True) (l.length ≤ (1000 : Nat) ∧ vcIf (!l.all (inB (9 : Int))) ((1 : Int) = chk u l w ls ∧ True) (vcIf (decide (w < (0 : Int))) ((1 : Int) = chk u l w ls ∧ True) (vcIf (decide (w > (2 : Int))) ((1 : Int) = chk u l w ls ∧ True) (vcIf ((↑ls.length : Int) == (0 : Int)) ((7 : Int) = chk u l w ls ∧ True) ((∃ (a : Nat), (0 : Int) = (↑a : Int) ∧ a ≤ ls.length ∧ lieE ls (0 : Nat) = lieE ls a ∧ ls.length - a < (1000000 : Nat)) ∧ ∀ (a : Nat), a ≤ ls.length → lieE ls (0 : Nat) = lieE ls a → vcIf (decide ((↑a : Int) < (↑ls.length : Int))) (((0 : Int) ≤ (↑a : Int) ∧ (↑a : Int) < (↑ls.length : Int)) ∧ vcIf (decide (ls.getD a (0 : Int) < (0 : Int))) ((8 : Int) = chk u l w ls ∧ True) (vcIf (decide (ls.getD a (0 : Int) > (3 : Int))) ((8 : Int) = chk u l w ls ∧ True) (vcIf (decide ((↑a : Int) > (0 : Int))) (rng ((↑a : Int) - (1 : Int)) ∧ ((0 : Int) ≤ (↑a : Int) - (1 : Int) ∧ (↑a : Int) - (1 : Int) < (↑ls.length : Int)) ∧ vcIf (decide (ls.getD a (0 : Int) ≤ ls.getD ((↑a : Int) - (1 : Int)).toNat (0 : Int))) ((5 : Int) = chk u l w ls ∧ True) (rng ((↑a : Int) + (1 : Int)) ∧ ∃ (a_3 : Nat), ls = ls ∧ (↑ls.length : Int) = (↑ls.length : Int) ∧ (↑a : Int) + (1 : Int) = (↑a_3 : Int) ∧ u = u ∧ l = l ∧ w = w ∧ ls = ls ∧ a_3 ≤ ls.length ∧ lieE ls (0 : Nat) = lieE ls a_3 ∧ ls.length - a_3 < ls.length - a)) (rng ((↑a : Int) + (1 : Int)) ∧ ∃ (a_3 : Nat), ls = ls ∧ (↑ls.length : Int) = (↑ls.length : Int) ∧ (↑a : Int) + (1 : Int) = (↑a_3 : Int) ∧ u = u ∧ l = l ∧ w = w ∧ ls = ls ∧ a_3 ≤ ls.length ∧ lieE ls (0 : Nat) = lieE ls a_3 ∧ ls.length - a_3 < ls.length - a)))) ((0 : Int) = chk u l w ls ∧ True))))))))))))))) (by kernel_rfl) ?_
 simp only [vc_dec, vc_beq, vc_bne, vc_not, nil_e, rng, and_true, true_and, eq_self]
 refine ⟨by omega, fun a1 => ?_, fun a1 => ⟨fun a2 => by omega, fun _ => ⟨fun a3 => ?_, fun a3 => ⟨fun _ => by omega, fun _ => ⟨by omega, by omega, fun a4 => ?_, fun a4 => ⟨fun a5 => ?_, fun a5 => ⟨fun a6 => ?_, fun a6 => ⟨fun a7 => ?_, fun a7 => ⟨by omega, by omega, ?_⟩⟩⟩⟩⟩⟩⟩⟩⟩
 ·rw [chk, if_pos (by omega)]
 ·rw [chk, if_neg (by omega), if_pos (by omega)]
 ·rw [chk, if_neg (by omega), if_neg (by omega), if_pos (by omega)]
 ·rw [chk, if_neg (by omega), if_neg (by omega), if_pos (by omega)]
 ·rw [chk, if_neg (by omega), if_neg (by omega), if_neg (by omega), if_pos (by omega)]
 ·rw [chk, if_neg (by omega), if_neg (by omega), if_neg (by omega), if_pos (by omega)]
 have e1 : ∀ (_ : u.all (inB 9) = false ∨ l.all (inB 9) = false ∨ w < 0 ∨ 2 < w), 1 = chk u l w ls := fun h => by rw [chk, if_neg (by omega), if_neg (by omega), if_neg (by omega), if_neg (by omega), if_pos h]
 rw [vc_iff]
 refine ⟨fun b1 => ⟨by omega, ?_⟩, fun b1 => e1 (.inl b1)⟩
 rw [vc_iff]
 refine ⟨fun b2 => ⟨fun b3 => e1 (.inr (.inr (.inl b3))), fun b3 => ⟨fun b4 => e1 (.inr (.inr (.inr b4))), fun b4 => ⟨fun b5 => ?_, fun b5 => ?_⟩⟩⟩, fun b2 => e1 (.inr (.inl b2))⟩
 ·rw [chk, if_neg (by omega), if_neg (by omega), if_neg (by omega), if_neg (by omega), if_neg (by rw [b1, b2]; simp; omega), if_pos (by omega)]
 have e : chk u l w ls = lieE ls 0 := chk_lie (by omega) (by omega) (by omega) (by omega) (by rw [b1]; rfl) (by rw [b2]; rfl) (by omega) (by omega) (by omega)
 rw [e]
 refine ⟨⟨0, rfl, by omega, rfl, by omega⟩, fun i k1 k2 => ⟨fun k3 => ⟨by omega, fun k4 => ?_, fun k4 => ⟨fun k5 => ?_, fun k5 => ⟨fun k6 => ⟨by omega, by omega, fun k7 => ?_, fun k7 => ⟨by omega, i + 1, by omega, by omega, k2.trans (lie_next (by omega) (by omega) ?_), by omega⟩⟩, fun k6 => ⟨by omega, i + 1, by omega, by omega, k2.trans (lie_next (by omega) (by omega) (by omega)), by omega⟩⟩⟩⟩, fun k3 => ?_⟩⟩
 ·rw [k2, lie_8 (by omega) (.inl k4)]
 ·rw [k2, lie_8 (by omega) (.inr (by omega))]
 ·rw [k2, lie_5 (by omega) (by omega) ⟨by omega, by rw [show i - 1 = ((i : Int) - 1).toNat by omega]; exact k7⟩]
 ·rw [show i - 1 = ((i : Int) - 1).toNat by omega]; exact fun h => k7 h.2
 ·rw [k2, lie_0 (by omega)]
def T5 : Tbl := (T4.addC 8 fun a c => dS (D12 a c)).addI 80 fun a => dS (D77 a)
def D13 : List TV → List TV → Dn
 | [.ptr 0 0, .agg [.sl (.int .i64) u .no, .sl (.int .i64) l .no, .val (.int .i64 w), .sl (.int .i64) ls .no]], [.sl (.int .i64) _ .no, .val (.int .u64 _)] => some ([Ok u l w ls], pcS fun u1 l1 w1 ls1 => [Ok u1 l1 w1 ls1, u1 = l.map (9 - ·)],
  [(5, .ex (List Int) fun u1 => .ex (List Int) fun l1 => .ex Int fun w1 => .ex (List Int) fun ls1 => .ex (List Int) fun r => .ex Int fun z => .ex Nat fun i => .st { sl := [(6, ival i)], pl := [(0, dice r z), (3, [.sl I64 ((l.take i).map (9 - ·)) (.lab 4), .sl I64 l1 .no, ival w1, .sl I64 ls1 .no])], own := [(3, 1)], good := [i ≤ l.length, Ok u1 l1 w1 ls1, l1.length = l.length], m := l.length - i })])
 | _, _ => none
theorem v13 : VC T5 Try.f9 [some PieceT] [some IntsT, some (.int .u64)] D13 := by
 intro a cs p s j h hp
 unfold D13 at h
 split at h <;> cases h
 rename_i u l w ls r z
 have h1 := hp.1
 refine vcp (A := (3 : Int) ≤ (↑u.length : Int) ∧ (↑u.length : Int) ≤ (8 : Int) ∧ ∀ (a a_1 : List Int) (a_2 : Int) (a_3 a_4 : List Int) (a_5 : Int), Ok a a_1 a_2 a_3 → (↑a.length : Int) ≤ (↑u.length : Int) → (0 : Int) ≤ (↑u.length : Int) ∧ (↑u.length : Int) ≤ (100 : Int) ∧ ∀ (a a_7 : List Int) (a_8 : Int), (↑a.length : Int) = (↑u.length : Int) → inH a → (∃ (a_11 : List Int), ∃ (a_12 : List Int), ∃ (a_13 : Int), ∃ (a_14 : List Int), ∃ (a_15 : List Int), ∃ (a_16 : Int), ∃ (a_17 : Nat), (0 : Int) = (↑a_17 : Int) ∧ a_7 = a_15 ∧ a_8 = a_16 ∧ [] = List.map (fun (x : I64.den) => (9 : I64.den) - x) (List.take a_17 l) ∧ a = a_12 ∧ a_2 = a_13 ∧ a_3 = a_14 ∧ a_17 ≤ l.length ∧ Ok a_11 a_12 a_13 a_14 ∧ a_12.length = l.length ∧ l.length - a_17 < (1000000 : Nat)) ∧ ∀ (a a_11 : List Int) (a_12 : Int) (a_13 a_14 : List Int) (a_15 : Int) (a_16 : Nat), a_16 ≤ l.length → Ok a a_11 a_12 a_13 → a_11.length = l.length → vcIf (decide ((↑a_16 : Int) < (↑l.length : Int))) (((0 : Int) ≤ (↑a_16 : Int) ∧ (↑a_16 : Int) < (↑l.length : Int)) ∧ rng ((9 : Int) - l.getD a_16 (0 : Int)) ∧ (List.map (fun (x : I64.den) => (9 : I64.den) - x) (List.take a_16 l)).length + (1 : Nat) ≤ (1000000000 : Nat) ∧ rng ((↑a_16 : Int) + (1 : Int)) ∧ ∃ (a : List Int), ∃ (a_18 : List Int), ∃ (a_19 : Int), ∃ (a_20 : List Int), ∃ (a_21 : List Int), ∃ (a_22 : Int), ∃ (a_23 : Nat), (↑a_16 : Int) + (1 : Int) = (↑a_23 : Int) ∧ a_14 = a_21 ∧ a_15 = a_22 ∧ u = u ∧ l = l ∧ w = w ∧ ls = ls ∧ (0 : Int) = (0 : Int) ∧ List.map (fun (x : I64.den) => (9 : I64.den) - x) (List.take a_16 l) ++ [(9 : Int) - l.getD a_16 (0 : Int)] = List.map (fun (x : I64.den) => (9 : I64.den) - x) (List.take a_23 l) ∧ a_11 = a_18 ∧ a_12 = a_19 ∧ a_13 = a_20 ∧ a_23 ≤ l.length ∧ Ok a a_18 a_19 a_20 ∧ a_18.length = l.length ∧ l.length - a_23 < l.length - a_16) (∃ (a : List Int), ∃ (a_18 : List Int), ∃ (a_19 : Int), ∃ (a_20 : List Int), ∃ (a_21 : List Int), ∃ (a_22 : Int), List.map (fun (x : I64.den) => (9 : I64.den) - x) (List.take a_16 l) = a ∧ a_11 = a_18 ∧ a_12 = a_19 ∧ a_13 = a_20 ∧ a_14 = a_21 ∧ a_15 = a_22 ∧ Ok a a_18 a_19 a_20 ∧ a = List.map (fun (x : I64.den) => (9 : I64.den) - x) l ∧ True)) (by kernel_rfl) ?_
 simp only [vc_dec, vc_beq, vc_bne, vc_not, nil_e, rng, and_true, true_and, eq_self]
 have := h1.n3
 have := h1.n8
 have := h1.len
 refine ⟨by omega, by omega, fun u1 l1 w1 ls1 r1 z1 h2 h3 => ⟨by omega, by omega, fun o r2 z2 h4 h5 => ⟨⟨o, o, w1, ls1, r2, z2, 0, rfl, rfl, rfl, rfl, rfl, rfl, rfl, by omega, ⟨by omega, by omega, rfl, h5, h5, h2.w0, h2.w2, h2.ne, h2.lie, h2.asc⟩, by omega, by omega⟩, fun u3 o w ls r3 z3 i h6 h7 h8 => ⟨fun h9 => ?_, fun h9 => ?_⟩⟩⟩⟩
 ·have := h1.hl _ (mem_getD (l := l) (i := i) (by omega))
  exact ⟨by omega, by omega, by simp; omega, by omega, u3, o, w, ls, r3, z3, i + 1, by omega, rfl, rfl, map_take_snoc (f := fun x => 9 - x) (by omega), rfl, rfl, rfl, by omega, h7, h8, by omega⟩
 ·rw [show i = l.length by omega, List.take_length]
  exact ⟨_, o, w, ls, r3, z3, rfl, rfl, rfl, rfl, rfl, rfl, ok_below h7 h8 h1.hl, rfl⟩
def D59 : List TV → Dn
 | [.sl (.pair (.sl (.int .i64)) (.pair (.sl (.int .i64)) (.pair (.int .i64) (.pair (.sl (.int .i64)) .unit)))) l .no] => some ([l.length ≤ 1000, ∀ p ∈ l, shortP p], .res (ival (chkL l)) [] [],
  [(3, .ex Nat fun i => .st { sl := [(8, ival i)], good := [i ≤ l.length, chkL (l.take i) = 0], m := l.length - i })])
 | _ => none
theorem v59 : VI T5 Try.f66 [some I64] D59 := by
 intro a p s j h hp
 unfold D59 at h
 split at h <;> cases h
 rename_i l
 obtain ⟨h1, h2, -⟩ := hp
 refine vcp (A := (∃ (a : Nat), (0 : Int) = (↑a : Int) ∧ a ≤ l.length ∧ chkL (List.take a l) = (0 : Int) ∧ l.length - a < (1000000 : Nat)) ∧ ∀ (a : Nat), a ≤ l.length → chkL (List.take a l) = (0 : Int) → vcIf (decide ((↑a : Int) < (↑l.length : Int))) (((0 : Int) ≤ (↑a : Int) ∧ (↑a : Int) < (↑l.length : Int)) ∧ Sh (l.getD a ([], [], (0 : Int), [], ())).fst (l.getD a ([], [], (0 : Int), [], ())).snd.fst (l.getD a ([], [], (0 : Int), [], ())).snd.snd.snd.fst ∧ vcIf (chk (l.getD a ([], [], (0 : Int), [], ())).fst (l.getD a ([], [], (0 : Int), [], ())).snd.fst (l.getD a ([], [], (0 : Int), [], ())).snd.snd.fst (l.getD a ([], [], (0 : Int), [], ())).snd.snd.snd.fst != (0 : Int)) (chk (l.getD a ([], [], (0 : Int), [], ())).fst (l.getD a ([], [], (0 : Int), [], ())).snd.fst (l.getD a ([], [], (0 : Int), [], ())).snd.snd.fst (l.getD a ([], [], (0 : Int), [], ())).snd.snd.snd.fst = chkL l ∧ True) (rng ((↑a : Int) + (1 : Int)) ∧ ∃ (a_3 : Nat), l = l ∧ (↑l.length : Int) = (↑l.length : Int) ∧ (↑a : Int) + (1 : Int) = (↑a_3 : Int) ∧ a_3 ≤ l.length ∧ chkL (List.take a_3 l) = (0 : Int) ∧ l.length - a_3 < l.length - a)) ((0 : Int) = chkL l ∧ True)) (by kernel_rfl) ?_
 simp only [vc_dec, vc_beq, vc_bne, vc_not, nil_e, rng, and_true, true_and, eq_self]
 refine ⟨⟨0, rfl, by omega, rfl, by omega⟩, fun i k1 k2 => ⟨fun k3 => ⟨by omega, getD_all (P := shortP) (by omega) h2, fun k4 => ⟨by omega, i + 1, by omega, by omega, chkL_one (by omega) k2 k4, by omega⟩, fun k4 => (chkL_at (by omega) k2 k4).symm⟩, fun k3 => ?_⟩⟩
 rw [show i = l.length by omega, List.take_length] at k2
 rw [k2]
def T6 : Tbl := (T5.addC 9 fun a c => dS (D13 a c)).addI 66 fun a => dS (D59 a)
def T7 : Tbl := T6
def T8 : Tbl := T7
section
variable {tab : IsoF} (tk : TabK tab)
include tk
theorem tok5 : TOK tab 5 T5 := mkI tk (tok4 tk) (by decide) Try.func80 rfl v77 (mkC (tok4 tk) Try.func8 rfl v12 (tok_up (tok4 tk)))
theorem tok6 : TOK tab 6 T6 := mkI tk (tok5 tk) (by decide) Try.func66 rfl v59 (mkC (tok5 tk) Try.func9 rfl v13 (tok_up (tok5 tk)))
end
end Go.Tv
end
section
namespace Go.Tv
open Go Go.Di Go.Proofs
end Go.Tv
end
section
namespace Go.Tv
open Go Go.Di Go.Proofs
def wearsS (la ub:List Int) (nb k:Nat):List Int:=((List.range k).map fun(j:Nat)=>(j:Int)-(nb:Int)).filterMap fun s=>if 3≤(stA la ub s).2.2 then some ((stA la ub s).2.1-(stA la ub s).1) else none
def wearsY (ua la:List Int) (x:Int) (ub lb:List Int) (y:Int):List Int:=wearsS (layL x ua la) (layU y ub lb) ub.length (ub.length+ua.length+1)
def wearsX (ua la ub lb ys:List Int) (x:Int):List Int:=ys.flatMap (wearsY ua la x ub lb)
def wears (ua la lsa ub lb lsb:List Int):List Int:=lsa.flatMap (wearsX ua la ub lb lsb)
theorem lay_len {n:Int} {u l:List Int} (h:l.length=u.length):(layU n u l).length=u.length∧(layL n u l).length=u.length:=by
 unfold layU layL
 constructor<;>(repeat' split)<;>simp[h]
theorem flat_len {l:List Int} {f:Int→List Int} {c:Nat} (h:∀ x,(f x).length≤c):(l.flatMap f).length≤l.length*c:=by
 induction l with
 | nil=>simp
 | cons x l ih =>
  rw[List.flatMap_cons,List.length_append,List.length_cons,Nat.succ_mul]
  have:=h x
  omega
end Go.Tv
end
section
namespace Go.Tv
open Go Go.Di Go.Proofs
set_option maxRecDepth 100000
structure TabR (tab:IsoF):Prop where
 rev:∀ (l:List Int) d,l.length≤1000000→RT noIds [] (.sl I64 l .no) d→∃ r,tab 83 [d]=some r∧r.pure=true∧RT noIds [] (.sl I64 l.reverse .no) r
def S110:List TV→Sp
 | [.sl (.int .i64) l .no]=>some ([l.length≤1000000],.res (.sl I64 l.reverse .no) [] [])
 | _=>none
def D79:List TV→Dn
 | [.sl (.int .i64) l .no]=>some ([l≠[],l.length≤1000],.res (.sl I64 l .no) [] [],[])
 | _=>none
theorem v79:VI T0 Try.f95 [some IntsT] D79:=by
 intro a p s j h hp
 unfold D79 at h
 split at h<;>cases h
 rename_i l
 change List Int at l
 obtain⟨h1,h2,-⟩:=hp
 refine vcp (A:=l≠[]∧(0:Nat)+l.length≤(1000000000:Nat)∧l=l∧True) (by kernel_rfl) ?_
 exact⟨h1,by omega,rfl,trivial⟩
def D98:List TV→Dn
 | [.sl (.int .i64) l .no,.val (.int .i64 x)]=>some ([l.length≤1000],.res (ival (indexI l x)) [] [],[(3,.ex Nat fun i => .st { sl:=[(8,ival i)],good:=[i≤l.length,x ∉ l.take i],m:=l.length-i })])
 | _=>none
theorem v98:VI T0 Try.f82 [some I64] D98:=by
 intro a p s j h hp
 unfold D98 at h
 split at h<;>cases h
 rename_i l x
 change List Int at l
 have h1:=hp.1
 refine vcp (A:=(∃ (a:Nat),(0:Int)=(↑a:Int)∧a≤l.length∧¬x∈List.take a l∧l.length-a<(1000000:Nat))∧∀ (a:Nat),a≤l.length→¬x∈List.take a l→vcIf (decide ((↑a:Int)<(↑l.length:Int))) (((0:Int)≤(↑a:Int)∧(↑a:Int)<(↑l.length:Int))∧vcIf (x==l.getD a (0:Int)) ((↑a:Int)=indexI l x∧True) (rng ((↑a:Int)+(1:Int))∧∃ (a_3:Nat),l=l∧x=x∧(↑l.length:Int)=(↑l.length:Int)∧(↑a:Int)+(1:Int)=(↑a_3:Int)∧a_3≤l.length∧¬x∈List.take a_3 l∧l.length-a_3<l.length-a)) ((-1:Int)=indexI l x∧True)) (by kernel_rfl) ?_
 simp only[vc_dec,vc_beq,vc_bne,vc_not,nil_e,rng,and_true,true_and,eq_self]
 refine⟨⟨0,by omega,by omega,by simp,by omega⟩,fun i h2 h3=>⟨fun h4=>⟨by omega,fun h5 => ?_,fun h5=>⟨by omega,i+1,by omega,by omega,?_,by omega⟩⟩,fun h4 => ?_⟩⟩
 ·rw[indexI_at (by omega) h3 h5.symm]
 ·rw[take_one (by omega)]; simp only[List.mem_append,List.mem_singleton,not_or]; exact⟨h3,h5⟩
 ·rw[show i=l.length by omega,List.take_length] at h3; rw[indexI,if_neg h3]
def D99:List TV→Dn
 | [.agg [.sl (.int .i64) u .no,.sl (.int .i64) l .no]]=>some ([],.res (edV u l) [] [],[])
 | _=>none
theorem v99:VI T0 Try.f73 [some (.pair IntsT (.pair IntsT .unit))] D99:=by
 intro a p s j h hp
 unfold D99 at h
 split at h<;>cases h
 rename_i u l
 refine vcp (A:=u=u∧l=l∧True) (by kernel_rfl) ?_
 exact⟨rfl,rfl,trivial⟩
def T0r:Tbl:=T0.addI 83 S110
def D100:List TV→Dn
 | [.agg [.sl (.int .i64) u .no,.sl (.int .i64) l .no]]=>some ([u.length≤1000,l.length≤1000],.res (edV l.reverse u.reverse) [] [],[])
 | _=>none
theorem v100:VI T0r Try.f74 [some (.pair IntsT (.pair IntsT .unit))] D100:=by
 intro a p s j h hp
 unfold D100 at h
 split at h<;>cases h
 rename_i u l
 obtain⟨h1,h2,-⟩:=hp
 refine vcp (A:=l.length≤(1000000:Nat)∧u.length≤(1000000:Nat)∧l.reverse=l.reverse∧u.reverse=u.reverse∧True) (by kernel_rfl) ?_
 exact⟨by omega,by omega,rfl,rfl,trivial⟩
def D101:List TV→Dn
 | [.agg [.sl (.int .i64) u .no,.sl (.int .i64) l .no]]=>some ([u.length≤1000,l.length≤1000],.res (edV u.reverse l.reverse) [] [],[])
 | _=>none
theorem v101:VI T0r Try.f75 [some (.pair IntsT (.pair IntsT .unit))] D101:=by
 intro a p s j h hp
 unfold D101 at h
 split at h<;>cases h
 rename_i u l
 obtain⟨h1,h2,-⟩:=hp
 refine vcp (A:=u.length≤(1000000:Nat)∧l.length≤(1000000:Nat)∧u.reverse=u.reverse∧l.reverse=l.reverse∧True) (by kernel_rfl) ?_
 exact⟨by omega,by omega,rfl,rfl,trivial⟩
def D102:List TV→Dn
 | [.agg [.sl (.int .i64) u .no,.sl (.int .i64) l .no]]=>some ([],.res (edV l u) [] [],[])
 | _=>none
theorem v102:VI T0 Try.f76 [some (.pair IntsT (.pair IntsT .unit))] D102:=by
 intro a p s j h hp
 unfold D102 at h
 split at h<;>cases h
 rename_i u l
 refine vcp (A:=l=l∧u=u∧True) (by kernel_rfl) ?_
 exact⟨rfl,rfl,trivial⟩
def U1:Tbl:=(((((T0r.addI 95 fun a=>dS (D79 a)).addI 82 fun a=>dS (D98 a)).addI 73 fun a=>dS (D99 a)).addI 74 fun a=>dS (D100 a)).addI 75 fun a=>dS (D101 a)).addI 76 fun a=>dS (D102 a)
def D80:List TV→Dn
 | [.sl (.int .i64) l .no,.val (.int .i64 x)]=>some ([l.length≤1000],.res (bval (decide (x∈l))) [] [],[])
 | _=>none
theorem v80:VI U1 Try.f72 [some .bool] D80:=by
 intro a p s j h hp
 unfold D80 at h
 split at h<;>cases h
 rename_i l x
 change List Int at l
 have h1:=hp.1
 refine vcp (A:=l.length≤(1000:Nat)∧decide (indexI l x≥(0:Int))=decide (x∈l)∧True) (by kernel_rfl) ?_
 refine⟨h1,?_,trivial⟩
 rw[decide_eq_decide,indexI]
 split<;>simp_all
def D83:List TV→Dn
 | [.val (.int .i64 n),.agg [.sl (.int .i64) u .no,.sl (.int .i64) l .no]]=>some ([u.length≤1000,l.length≤1000,0≤n,n≤3],.res (edV (layU n u l) (layL n u l)) [] [],[])
 | _=>none
theorem v83:VI U1 Try.f57 [some (.pair IntsT (.pair IntsT .unit))] D83:=by
 intro a p s j h hp
 unfold D83 at h
 split at h<;>cases h
 rename_i n u l
 obtain⟨h1,h2,h3,h4,-⟩:=hp
 refine vcp (A:=vcIf (decide (n=(0:Int))) (u=layU n u l∧l=layL n u l∧True) (vcIf (decide (n=(1:Int))) (u.length≤(1000:Nat)∧l.length≤(1000:Nat)∧l.reverse=layU n u l∧u.reverse=layL n u l∧True) (vcIf (decide (n=(2:Int))) (u.length≤(1000:Nat)∧l.length≤(1000:Nat)∧u.reverse=layU n u l∧l.reverse=layL n u l∧True) (vcIf (decide (n=(3:Int))) (l=layU n u l∧u=layL n u l∧True) False)))) (by kernel_rfl) ?_
 have e:n=0∨n=1∨n=2∨n=3:=by omega
 rcases e with rfl | rfl | rfl | rfl
 ·exact⟨rfl,rfl,trivial⟩
 ·exact⟨h1,h2,rfl,rfl,trivial⟩
 ·exact⟨h1,h2,rfl,rfl,trivial⟩
 ·exact⟨rfl,rfl,trivial⟩
def U2:Tbl:=(U1.addI 72 fun a=>dS (D80 a)).addI 57 fun a=>dS (D83 a)
abbrev wkV (u l:List Int) (w:Int) (ls:List Int):TV := .agg [.sl I64 u .no,.sl I64 l .no,ival w,.sl I64 ls .no,.sl I64 u .no,.sl I64 l .no,.sl I64 l.reverse .no,.sl I64 u.reverse .no,.sl I64 u.reverse .no,.sl I64 l.reverse .no,.sl I64 l .no,.sl I64 u .no]
def D50:List TV→Dn
 | [.agg [.sl (.int .i64) u .no,.sl (.int .i64) l .no,.val (.int .i64 w),.sl (.int .i64) ls .no]]=>some ([u.length≤1000,l.length≤1000],.res (wkV u l w ls) [] [],[(4,.un 5)])
 | _=>none
theorem v50:VI U2 Try.f32 [none] D50:=by
 refine vi_of fun a => ?_
 unfold D50
 split
 rotate_left
 ·trivial
 rename_i u l w ls
 intro hp
 refine vcq (A:=u.length≤(1000:Nat)∧l.length≤(1000:Nat)∧(0:Int)≤(0:Int)∧(0:Int)≤(3:Int)∧True∧rng (1:Int)∧u.length≤(1000:Nat)∧l.length≤(1000:Nat)∧(0:Int)≤(1:Int)∧(1:Int)≤(3:Int)∧True∧rng (2:Int)∧u.length≤(1000:Nat)∧l.length≤(1000:Nat)∧(0:Int)≤(2:Int)∧(2:Int)≤(3:Int)∧True∧rng (3:Int)∧u.length≤(1000:Nat)∧l.length≤(1000:Nat)∧(0:Int)≤(3:Int)∧(3:Int)≤(3:Int)∧True∧rng (4:Int)∧u=u∧l=l∧w=w∧ls=ls∧layU (0:Int) u l=u∧layL (0:Int) u l=l∧layU (1:Int) u l=l.reverse∧layL (1:Int) u l=u.reverse∧layU (2:Int) u l=u.reverse∧layL (2:Int) u l=l.reverse∧layU (3:Int) u l=l∧layL (3:Int) u l=u∧True) (by kernel_rfl) ?_
 obtain⟨h1,h2,-⟩:=hp
 simp only[rng]
 repeat' (first | exact h1 | exact h2 | omega | rfl | trivial | apply And.intro)
section
variable {tab:IsoF} (tk:TabK tab) (tr:TabR tab)
theorem tok_le {k:Nat} {T:Tbl} (h:TOK tab k T):∀ m,TOK tab (m+k) T
 | 0=>by rwa [Nat.zero_add]
 | m+1=>by have:=tok_up (tok_le h m); rwa [Nat.add_right_comm] at this
theorem add110 {T:Tbl} {k:Nat} (tr:TabR tab) (hT:TOK tab k T):TOK tab k (T.addI 83 S110):=tok_i hT fun n a p s hs hp=>by
 unfold S110 at hs
 split at hs
 ·rename_i l
  cases hs
  intro dargs hd
  obtain⟨d,_,rfl,h1,h2⟩:=rtl_cases hd
  rw[rtl_nil' h2]
  obtain⟨r,k1,k2,k3⟩:=tr.rev l d hp.1 h1
  exact⟨r,_,by simp only[isoN,isoOf,k1,k2,if_true],k2,k3,rfl,rfl,trivial⟩
 ·cases hs
include tk tr
theorem uok1:TOK tab 1 U1:=mkI tk (tok_0 tk) (by decide) Try.func76 rfl v102 (mkI tk (add110 tr (tok_0 tk)) (by decide) Try.func75 rfl v101 (mkI tk (add110 tr (tok_0 tk)) (by decide) Try.func74 rfl v100 (mkI tk (tok_0 tk) (by decide) Try.func73 rfl v99 (mkI tk (tok_0 tk) (by decide) Try.func82 rfl v98 (mkI tk (tok_0 tk) (by decide) Try.func95 rfl v79 (tok_up (add110 tr (tok_0 tk))))))))
theorem uok2:TOK tab 2 U2:=mkI tk (uok1 tk tr) (by decide) Try.func57 rfl v83 (mkI tk (uok1 tk tr) (by decide) Try.func72 rfl v80 (tok_up (uok1 tk tr)))
def W8:Tbl:=((T8.addI 95 fun a=>dS (D79 a)).addI 72 fun a=>dS (D80 a)).addI 32 fun a=>dS (D50 a)
end
end Go.Tv
end
section
namespace Go.Tv
open Go Go.Di Go.Proofs
variable {P:Program}
def findI (kt:TT) (x:kt.den):List kt.den→Nat→Option (Nat×Value)
 | [],_=>none
 | y::l,i=>bif @decide (x=y) (decD kt x y) then some (i,.bool true) else findI kt x l (i+1)
theorem findI_mem {kt:TT} {x:kt.den}:∀ {l:List kt.den} {i:Nat},(memD kt x l=true∧∃ j,findI kt x l i=some (i+j,.bool true)∧l[j]? = some x)∨(memD kt x l=false∧findI kt x l i=none)
 | [],i => .inr ⟨rfl,rfl⟩
 | y::l,i=>by
  simp only[findI,memD,List.any_cons]
  cases h:@decide (x=y) (decD kt x y)
  ·rcases @findI_mem kt x l (i+1) with ⟨h1,j,h2,h3⟩ | ⟨h1,h2⟩
   ·refine .inl ⟨h1,j+1,?_,by simpa using h3⟩
    rw[cond_false,h2,show i+1+j=i+(j+1) by omega]
   ·exact .inr ⟨h1,h2⟩
  ·have hx:x=y:=@of_decide_eq_true _ (decD kt x y) h
   exact .inl ⟨rfl,0,rfl,by rw[hx]; rfl⟩
theorem asking_ok {key:TypeId} {kt:TT} (he:∀ x y,pureS P (Op.equal key (keyM kt x) (keyM kt y))=some (@decide (x=y) (decD kt x y))) (x:kt.den):∀ (l:List kt.den) (i:Nat),pureS P (Instr.findAsking key (keyM kt x) ((entM kt l).map Di.mkE) i)=some (findI kt x l i)
 | [],i=>rfl
 | y::l,i=>by
  simp only[entM,List.map_cons,Instr.findAsking,pureS_bindE,Di.mkE,he x y,Option.bind_some,findI]
  cases @decide (x=y) (decD kt x y)
  ·simp only[Bool.false_eq_true,if_false,cond_false]
   exact asking_ok he x l (i+1)
  ·rfl
theorem key_ok {key:TypeId} {td:TypeDesc} {kt:TT} (hk:P.underlying key=some td) (hn:∀ x y,Instr.sameNow td (keyM kt x) (keyM kt y)=none) (he:∀ x y,pureS P (Op.equal key (keyM kt x) (keyM kt y))=some (@decide (x=y) (decD kt x y))) (x:kt.den) (l:List kt.den):pureS P (Instr.findKey key (keyM kt x) ((entM kt l).map Di.mkE))=some (findI kt x l 0):=by
 simp only[Instr.findKey,pureS_bindE,pureS_underlying hk,Option.bind_some]
 cases l with
 | nil=>rfl
 | cons y l =>
  simp only[entM,List.map_cons,Instr.findNow,Di.mkE,hn x y]
  exact asking_ok he x (y::l) 0
theorem mapOK_of {t key elem:TypeId} {kt:TT} {td:TypeDesc} (hu:P.underlying t=some (.map key elem)) (hk:P.underlying key=some td) (hn:∀ x y,Instr.sameNow td (keyM kt x) (keyM kt y)=none) (hz:pureS P (zeroValue elem)=some (.bool false)) (hc:∀ b x,pureS P (Instr.checkKey b 10000 key (keyM kt x))=some ()) (he:∀ x y,pureS P (Op.equal key (keyM kt x) (keyM kt y))=some (@decide (x=y) (decD kt x y)))
  (hs:∀ x,Instr.sameBits 10000 (keyM kt x) (keyM kt x)=true):MapOK P t kt where
 look:=fun x l=>by
  simp only[lookM,pureS_bindE,pureS_underlying hu,Option.bind_some,hc,key_ok hk hn he x l]
  rcases @findI_mem kt x l 0 with ⟨h1,j,h2,-⟩ | ⟨h1,h2⟩
  ·rw[h1,h2]; rfl
  ·rw[h1,h2]
   simp only[pureS_bindE,hz,Option.bind_some]
   rfl
 find:=fun x l=>by
  refine⟨findI kt x l 0,?_,?_⟩
  ·simp only[findM,pureS_bindE,pureS_underlying hu,Option.bind_some,hc,key_ok hk hn he x l]
  ·rcases @findI_mem kt x l 0 with ⟨h1,j,h2,h3⟩ | ⟨h1,h2⟩
   ·rw[h2]
    have e:(entM kt l)[0+j]? = some (keyM kt x,.bool true):=by simp[entM,h3]
    simp only[setM,e,hs,if_true,insD,h1,cond_true,Option.some.injEq]
    refine List.ext_getElem? fun i => ?_
    rw[List.getElem?_set]
    split
    ·rename_i e1; subst e1
     rw[e,if_pos (List.getElem?_eq_some_iff.1 e).1]
    ·rfl
   ·rw[h2]
    simp only[setM,insD,h1,cond_false,Option.some.injEq]
    simp[entM]
end Go.Tv
end
