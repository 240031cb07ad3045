import Derived.Test.YtoccmmopffbbfaaPk08
import Derived.Test.YtoccmmopffbbfaaPk07
section
namespace Go.Tv
open Go Go.Di Go.Proofs
set_option maxRecDepth 100000
abbrev pcS (f : List Int → List Int → Int → List Int → List Prop) : SpT := .ex (List Int) fun u => .ex (List Int) fun l => .ex Int fun w => .ex (List Int) fun ls => .ex (List Int) fun r => .ex Int fun z => .res (pcV u l w ls) (dice r z) (f u l w ls)
def D12 : List TV → List TV → Dn
 | [.ptr 0 0, .val (.int .i64 c)], [.sl (.int .i64) _ .no, .val (.int .u64 _)] => some ([3 ≤ c, c ≤ 8], pcS fun u l w ls => [Ok u l w ls, (u.length : Int) ≤ c], [])
 | _, _ => none
theorem v12 : VC T4 Try.f12 [some PieceT] [some IntsT, some (.int .u64)] D12 := by
 intro a cs p s j h hp
 unfold D12 at h
 split at h <;> cases h
 rename_i c r z
 obtain ⟨h1, h2, -⟩ := hp
 refine vcp (A := (-1000 : Int) ≤ (3 : Int) ∧ (3 : Int) ≤ (1000 : Int) ∧ (-1000 : Int) ≤ c ∧ c ≤ (1003 : Int) ∧ c ≤ (5000 : Int) ∧ ∀ (a : Int) (a_1 : List Int) (a_2 : Int), (3 : Int) ≤ a → a ≤ c ∨ a = (3 : Int) → (0 : Int) ≤ a ∧ a ≤ (100 : Int) ∧ ∀ (a_5 a_6 : List Int) (a_7 : Int), (↑a_5.length : Int) = a → inH a_5 → (0 : Int) ≤ a ∧ a ≤ (100 : Int) ∧ ∀ (a_10 a_11 : List Int) (a_12 : Int), (↑a_10.length : Int) = a → inH a_10 → (2 : Int) ≤ (1000 : Int) ∧ (-10000 : Int) ≤ (2 : Int) ∧ ∀ (a : Int) (a_13 : List Int) (a_14 : Int), (0 : Int) ≤ a → a ≤ (2 : Int) ∨ a = (0 : Int) → (0 : Nat) < (4 : Nat) ∧ (4 : Nat) ≤ (1000 : Nat) ∧ ∀ (a_17 : Int) (a_18 : List Int) (a_19 : Int), a_17 ∈ [(0 : Int), (0 : Int), (1 : Int), a] → ∀ (a a_20 : List Int) (a_21 : Int), a ≠ [] → (∀ (x : Int), x ∈ a → (0 : Int) ≤ x ∧ x ≤ (3 : Int)) → List.Pairwise (fun (x1 x2 : Int) => x1 < x2) a → ∃ (a_25 : List Int), ∃ (a_26 : List Int), ∃ (a_27 : Int), ∃ (a_28 : List Int), ∃ (a_29 : List Int), ∃ (a_30 : Int), a_5 = a_25 ∧ a_10 = a_26 ∧ a_17 = a_27 ∧ a = a_28 ∧ a_20 = a_29 ∧ a_21 = a_30 ∧ Ok a_25 a_26 a_27 a_28 ∧ (↑a_25.length : Int) ≤ c ∧ True) (by kernel_rfl) ?_
 simp only [vc_dec, vc_beq, vc_bne, vc_not, nil_e, rng, and_true, true_and, eq_self]
 refine ⟨by omega, by omega, by omega, by omega, by omega, fun n r1 z1 h3 h4 => ⟨by omega, by omega, fun u r2 z2 h5 h6 => ⟨by omega, by omega, fun l r3 z3 h7 h8 => ⟨by omega, by omega, fun k r4 z4 h9 h10 => ⟨by omega, by omega, fun w r5 z5 h11 ls r6 z6 h12 h13 h14 => ?_⟩⟩⟩⟩⟩
 have h15 : 0 ≤ w ∧ w ≤ 2 := by simp at h11; omega
 exact ⟨u, l, w, ls, r6, z6, rfl, rfl, rfl, rfl, rfl, rfl, ⟨by omega, by omega, by omega, h6, h8, h15.1, h15.2, h12, h13, h14⟩, by omega⟩
def D77 : List TV → Dn
 | [.agg [.sl (.int .i64) u .no, .sl (.int .i64) l .no, .val (.int .i64 w), .sl (.int .i64) ls .no]] => some ([Sh u l ls], .res (ival (chk u l w ls)) [] [],
  [(3, .un 3), (19, .ex Nat fun i => .st { sl := [(71, ival i)], good := [i ≤ ls.length, lieE ls 0 = lieE ls i], m := ls.length - i })])
 | _ => none
set_option maxHeartbeats 1000000 in
theorem v77 : VI T4 Try.f77 [some I64] D77 := by
 intro a p s j h hp
 unfold D77 at h
 split at h <;> cases h
 rename_i u l w ls
 change List Int at u l ls
 obtain ⟨h1, h2, h3⟩ := hp.1
 refine vcp (A := ((0 : Int) ≤ (0 : Int) ∧ (0 : Int) < (↑(2 : Nat) : Int)) ∧ vcIf (decide ((↑u.length : Int) < (3 : Int))) ((7 : Int) = chk u l w ls ∧ True) (vcIf (decide ((↑u.length : Int) < (↑u.length : Int))) ((7 : Int) = chk u l w ls ∧ True) (vcIf (decide ((↑u.length : Int) > (8 : Int))) ((6 : Int) = chk u l w ls ∧ True) (vcIf (decide ((↑u.length : Int) > (↑u.length : Int))) ((6 : Int) = chk u l w ls ∧ True) (rng (1 : Int) ∧ ((0 : Int) ≤ (1 : Int) ∧ (1 : Int) < (↑(2 : Nat) : Int)) ∧ vcIf (decide ((↑l.length : Int) < (3 : Int))) ((7 : Int) = chk u l w ls ∧ True) (vcIf (decide ((↑l.length : Int) < (↑u.length : Int))) ((7 : Int) = chk u l w ls ∧ True) (vcIf (decide ((↑l.length : Int) > (8 : Int))) ((6 : Int) = chk u l w ls ∧ True) (vcIf (decide ((↑l.length : Int) > (↑u.length : Int))) ((6 : Int) = chk u l w ls ∧ True) (rng (2 : Int) ∧ u.length ≤ (1000 : Nat) ∧ vcIf (!u.all (inB (9 : Int))) ((1 : Int) = chk u l w ls ∧ True) (l.length ≤ (1000 : Nat) ∧ vcIf (!l.all (inB (9 : Int))) ((1 : Int) = chk u l w ls ∧ True) (vcIf (decide (w < (0 : Int))) ((1 : Int) = chk u l w ls ∧ True) (vcIf (decide (w > (2 : Int))) ((1 : Int) = chk u l w ls ∧ True) (vcIf ((↑ls.length : Int) == (0 : Int)) ((7 : Int) = chk u l w ls ∧ True) ((∃ (a : Nat), (0 : Int) = (↑a : Int) ∧ a ≤ ls.length ∧ lieE ls (0 : Nat) = lieE ls a ∧ ls.length - a < (1000000 : Nat)) ∧ ∀ (a : Nat), a ≤ ls.length → lieE ls (0 : Nat) = lieE ls a → vcIf (decide ((↑a : Int) < (↑ls.length : Int))) (((0 : Int) ≤ (↑a : Int) ∧ (↑a : Int) < (↑ls.length : Int)) ∧ vcIf (decide (ls.getD a (0 : Int) < (0 : Int))) ((8 : Int) = chk u l w ls ∧ True) (vcIf (decide (ls.getD a (0 : Int) > (3 : Int))) ((8 : Int) = chk u l w ls ∧ True) (vcIf (decide ((↑a : Int) > (0 : Int))) (rng ((↑a : Int) - (1 : Int)) ∧ ((0 : Int) ≤ (↑a : Int) - (1 : Int) ∧ (↑a : Int) - (1 : Int) < (↑ls.length : Int)) ∧ vcIf (decide (ls.getD a (0 : Int) ≤ ls.getD ((↑a : Int) - (1 : Int)).toNat (0 : Int))) ((5 : Int) = chk u l w ls ∧ True) (rng ((↑a : Int) + (1 : Int)) ∧ ∃ (a_3 : Nat), ls = ls ∧ (↑ls.length : Int) = (↑ls.length : Int) ∧ (↑a : Int) + (1 : Int) = (↑a_3 : Int) ∧ u = u ∧ l = l ∧ w = w ∧ ls = ls ∧ a_3 ≤ ls.length ∧ lieE ls (0 : Nat) = lieE ls a_3 ∧ ls.length - a_3 < ls.length - a)) (rng ((↑a : Int) + (1 : Int)) ∧ ∃ (a_3 : Nat), ls = ls ∧ (↑ls.length : Int) = (↑ls.length : Int) ∧ (↑a : Int) + (1 : Int) = (↑a_3 : Int) ∧ u = u ∧ l = l ∧ w = w ∧ ls = ls ∧ a_3 ≤ ls.length ∧ lieE ls (0 : Nat) = lieE ls a_3 ∧ ls.length - a_3 < ls.length - a)))) ((0 : Int) = chk u l w ls ∧ True))))))))))))))) (by kernel_rfl) ?_
 simp only [vc_dec, vc_beq, vc_bne, vc_not, nil_e, rng, and_true, true_and, eq_self]
 refine ⟨by omega, fun a1 => ?_, fun a1 => ⟨fun a2 => by omega, fun _ => ⟨fun a3 => ?_, fun a3 => ⟨fun _ => by omega, fun _ => ⟨by omega, by omega, fun a4 => ?_, fun a4 => ⟨fun a5 => ?_, fun a5 => ⟨fun a6 => ?_, fun a6 => ⟨fun a7 => ?_, fun a7 => ⟨by omega, by omega, ?_⟩⟩⟩⟩⟩⟩⟩⟩⟩
 ·rw [chk, if_pos (by omega)]
 ·rw [chk, if_neg (by omega), if_pos (by omega)]
 ·rw [chk, if_neg (by omega), if_neg (by omega), if_pos (by omega)]
 ·rw [chk, if_neg (by omega), if_neg (by omega), if_pos (by omega)]
 ·rw [chk, if_neg (by omega), if_neg (by omega), if_neg (by omega), if_pos (by omega)]
 ·rw [chk, if_neg (by omega), if_neg (by omega), if_neg (by omega), if_pos (by omega)]
 have e1 : ∀ (_ : u.all (inB 9) = false ∨ l.all (inB 9) = false ∨ w < 0 ∨ 2 < w), 1 = chk u l w ls := fun h => by rw [chk, if_neg (by omega), if_neg (by omega), if_neg (by omega), if_neg (by omega), if_pos h]
 rw [vc_iff]
 refine ⟨fun b1 => ⟨by omega, ?_⟩, fun b1 => e1 (.inl b1)⟩
 rw [vc_iff]
 refine ⟨fun b2 => ⟨fun b3 => e1 (.inr (.inr (.inl b3))), fun b3 => ⟨fun b4 => e1 (.inr (.inr (.inr b4))), fun b4 => ⟨fun b5 => ?_, fun b5 => ?_⟩⟩⟩, fun b2 => e1 (.inr (.inl b2))⟩
 ·rw [chk, if_neg (by omega), if_neg (by omega), if_neg (by omega), if_neg (by omega), if_neg (by rw [b1, b2]; simp; omega), if_pos (by omega)]
 have e : chk u l w ls = lieE ls 0 := chk_lie (by omega) (by omega) (by omega) (by omega) (by rw [b1]; rfl) (by rw [b2]; rfl) (by omega) (by omega) (by omega)
 rw [e]
 refine ⟨⟨0, rfl, by omega, rfl, by omega⟩, fun i k1 k2 => ⟨fun k3 => ⟨by omega, fun k4 => ?_, fun k4 => ⟨fun k5 => ?_, fun k5 => ⟨fun k6 => ⟨by omega, by omega, fun k7 => ?_, fun k7 => ⟨by omega, i + 1, by omega, by omega, k2.trans (lie_next (by omega) (by omega) ?_), by omega⟩⟩, fun k6 => ⟨by omega, i + 1, by omega, by omega, k2.trans (lie_next (by omega) (by omega) (by omega)), by omega⟩⟩⟩⟩, fun k3 => ?_⟩⟩
 ·rw [k2, lie_8 (by omega) (.inl k4)]
 ·rw [k2, lie_8 (by omega) (.inr (by omega))]
 ·rw [k2, lie_5 (by omega) (by omega) ⟨by omega, by rw [show i - 1 = ((i : Int) - 1).toNat by omega]; exact k7⟩]
 ·rw [show i - 1 = ((i : Int) - 1).toNat by omega]; exact fun h => k7 h.2
 ·rw [k2, lie_0 (by omega)]
def T5 : Tbl := (T4.addC 12 fun a c => dS (D12 a c)).addI 77 fun a => dS (D77 a)
def D13 : List TV → List TV → Dn
 | [.ptr 0 0, .agg [.sl (.int .i64) u .no, .sl (.int .i64) l .no, .val (.int .i64 w), .sl (.int .i64) ls .no]], [.sl (.int .i64) _ .no, .val (.int .u64 _)] => some ([Ok u l w ls], pcS fun u1 l1 w1 ls1 => [Ok u1 l1 w1 ls1, u1 = l.map (9 - ·)],
  [(5, .ex (List Int) fun u1 => .ex (List Int) fun l1 => .ex Int fun w1 => .ex (List Int) fun ls1 => .ex (List Int) fun r => .ex Int fun z => .ex Nat fun i => .st { sl := [(6, ival i)], pl := [(0, dice r z), (3, [.sl I64 ((l.take i).map (9 - ·)) (.lab 4), .sl I64 l1 .no, ival w1, .sl I64 ls1 .no])], own := [(3, 1)], good := [i ≤ l.length, Ok u1 l1 w1 ls1, l1.length = l.length], m := l.length - i })])
 | _, _ => none
theorem v13 : VC T5 Try.f13 [some PieceT] [some IntsT, some (.int .u64)] D13 := by
 intro a cs p s j h hp
 unfold D13 at h
 split at h <;> cases h
 rename_i u l w ls r z
 have h1 := hp.1
 refine vcp (A := (3 : Int) ≤ (↑u.length : Int) ∧ (↑u.length : Int) ≤ (8 : Int) ∧ ∀ (a a_1 : List Int) (a_2 : Int) (a_3 a_4 : List Int) (a_5 : Int), Ok a a_1 a_2 a_3 → (↑a.length : Int) ≤ (↑u.length : Int) → (0 : Int) ≤ (↑u.length : Int) ∧ (↑u.length : Int) ≤ (100 : Int) ∧ ∀ (a a_7 : List Int) (a_8 : Int), (↑a.length : Int) = (↑u.length : Int) → inH a → (∃ (a_11 : List Int), ∃ (a_12 : List Int), ∃ (a_13 : Int), ∃ (a_14 : List Int), ∃ (a_15 : List Int), ∃ (a_16 : Int), ∃ (a_17 : Nat), (0 : Int) = (↑a_17 : Int) ∧ a_7 = a_15 ∧ a_8 = a_16 ∧ [] = List.map (fun (x : I64.den) => (9 : I64.den) - x) (List.take a_17 l) ∧ a = a_12 ∧ a_2 = a_13 ∧ a_3 = a_14 ∧ a_17 ≤ l.length ∧ Ok a_11 a_12 a_13 a_14 ∧ a_12.length = l.length ∧ l.length - a_17 < (1000000 : Nat)) ∧ ∀ (a a_11 : List Int) (a_12 : Int) (a_13 a_14 : List Int) (a_15 : Int) (a_16 : Nat), a_16 ≤ l.length → Ok a a_11 a_12 a_13 → a_11.length = l.length → vcIf (decide ((↑a_16 : Int) < (↑l.length : Int))) (((0 : Int) ≤ (↑a_16 : Int) ∧ (↑a_16 : Int) < (↑l.length : Int)) ∧ rng ((9 : Int) - l.getD a_16 (0 : Int)) ∧ (List.map (fun (x : I64.den) => (9 : I64.den) - x) (List.take a_16 l)).length + (1 : Nat) ≤ (1000000000 : Nat) ∧ rng ((↑a_16 : Int) + (1 : Int)) ∧ ∃ (a : List Int), ∃ (a_18 : List Int), ∃ (a_19 : Int), ∃ (a_20 : List Int), ∃ (a_21 : List Int), ∃ (a_22 : Int), ∃ (a_23 : Nat), (↑a_16 : Int) + (1 : Int) = (↑a_23 : Int) ∧ a_14 = a_21 ∧ a_15 = a_22 ∧ u = u ∧ l = l ∧ w = w ∧ ls = ls ∧ (0 : Int) = (0 : Int) ∧ List.map (fun (x : I64.den) => (9 : I64.den) - x) (List.take a_16 l) ++ [(9 : Int) - l.getD a_16 (0 : Int)] = List.map (fun (x : I64.den) => (9 : I64.den) - x) (List.take a_23 l) ∧ a_11 = a_18 ∧ a_12 = a_19 ∧ a_13 = a_20 ∧ a_23 ≤ l.length ∧ Ok a a_18 a_19 a_20 ∧ a_18.length = l.length ∧ l.length - a_23 < l.length - a_16) (∃ (a : List Int), ∃ (a_18 : List Int), ∃ (a_19 : Int), ∃ (a_20 : List Int), ∃ (a_21 : List Int), ∃ (a_22 : Int), List.map (fun (x : I64.den) => (9 : I64.den) - x) (List.take a_16 l) = a ∧ a_11 = a_18 ∧ a_12 = a_19 ∧ a_13 = a_20 ∧ a_14 = a_21 ∧ a_15 = a_22 ∧ Ok a a_18 a_19 a_20 ∧ a = List.map (fun (x : I64.den) => (9 : I64.den) - x) l ∧ True)) (by kernel_rfl) ?_
 simp only [vc_dec, vc_beq, vc_bne, vc_not, nil_e, rng, and_true, true_and, eq_self]
 have := h1.n3
 have := h1.n8
 have := h1.len
 refine ⟨by omega, by omega, fun u1 l1 w1 ls1 r1 z1 h2 h3 => ⟨by omega, by omega, fun o r2 z2 h4 h5 => ⟨⟨o, o, w1, ls1, r2, z2, 0, rfl, rfl, rfl, rfl, rfl, rfl, rfl, by omega, ⟨by omega, by omega, rfl, h5, h5, h2.w0, h2.w2, h2.ne, h2.lie, h2.asc⟩, by omega, by omega⟩, fun u3 o w ls r3 z3 i h6 h7 h8 => ⟨fun h9 => ?_, fun h9 => ?_⟩⟩⟩⟩
 ·have := h1.hl _ (mem_getD (l := l) (i := i) (by omega))
  exact ⟨by omega, by omega, by simp; omega, by omega, u3, o, w, ls, r3, z3, i + 1, by omega, rfl, rfl, map_take_snoc (f := fun x => 9 - x) (by omega), rfl, rfl, rfl, by omega, h7, h8, by omega⟩
 ·rw [show i = l.length by omega, List.take_length]
  exact ⟨_, o, w, ls, r3, z3, rfl, rfl, rfl, rfl, rfl, rfl, ok_below h7 h8 h1.hl, rfl⟩
def D59 : List TV → Dn
 | [.sl (.pair (.sl (.int .i64)) (.pair (.sl (.int .i64)) (.pair (.int .i64) (.pair (.sl (.int .i64)) .unit)))) l .no] => some ([l.length ≤ 1000, ∀ p ∈ l, shortP p], .res (ival (chkL l)) [] [],
  [(3, .ex Nat fun i => .st { sl := [(8, ival i)], good := [i ≤ l.length, chkL (l.take i) = 0], m := l.length - i })])
 | _ => none
theorem v59 : VI T5 Try.f59 [some I64] D59 := by
 intro a p s j h hp
 unfold D59 at h
 split at h <;> cases h
 rename_i l
 obtain ⟨h1, h2, -⟩ := hp
 refine vcp (A := (∃ (a : Nat), (0 : Int) = (↑a : Int) ∧ a ≤ l.length ∧ chkL (List.take a l) = (0 : Int) ∧ l.length - a < (1000000 : Nat)) ∧ ∀ (a : Nat), a ≤ l.length → chkL (List.take a l) = (0 : Int) → vcIf (decide ((↑a : Int) < (↑l.length : Int))) (((0 : Int) ≤ (↑a : Int) ∧ (↑a : Int) < (↑l.length : Int)) ∧ Sh (l.getD a ([], [], (0 : Int), [], ())).fst (l.getD a ([], [], (0 : Int), [], ())).snd.fst (l.getD a ([], [], (0 : Int), [], ())).snd.snd.snd.fst ∧ vcIf (chk (l.getD a ([], [], (0 : Int), [], ())).fst (l.getD a ([], [], (0 : Int), [], ())).snd.fst (l.getD a ([], [], (0 : Int), [], ())).snd.snd.fst (l.getD a ([], [], (0 : Int), [], ())).snd.snd.snd.fst != (0 : Int)) (chk (l.getD a ([], [], (0 : Int), [], ())).fst (l.getD a ([], [], (0 : Int), [], ())).snd.fst (l.getD a ([], [], (0 : Int), [], ())).snd.snd.fst (l.getD a ([], [], (0 : Int), [], ())).snd.snd.snd.fst = chkL l ∧ True) (rng ((↑a : Int) + (1 : Int)) ∧ ∃ (a_3 : Nat), l = l ∧ (↑l.length : Int) = (↑l.length : Int) ∧ (↑a : Int) + (1 : Int) = (↑a_3 : Int) ∧ a_3 ≤ l.length ∧ chkL (List.take a_3 l) = (0 : Int) ∧ l.length - a_3 < l.length - a)) ((0 : Int) = chkL l ∧ True)) (by kernel_rfl) ?_
 simp only [vc_dec, vc_beq, vc_bne, vc_not, nil_e, rng, and_true, true_and, eq_self]
 refine ⟨⟨0, rfl, by omega, rfl, by omega⟩, fun i k1 k2 => ⟨fun k3 => ⟨by omega, getD_all (P := shortP) (by omega) h2, fun k4 => ⟨by omega, i + 1, by omega, by omega, chkL_one (by omega) k2 k4, by omega⟩, fun k4 => (chkL_at (by omega) k2 k4).symm⟩, fun k3 => ?_⟩⟩
 rw [show i = l.length by omega, List.take_length] at k2
 rw [k2]
def T6 : Tbl := (T5.addC 13 fun a c => dS (D13 a c)).addI 59 fun a => dS (D59 a)
def D21 : List TV → Dn
 | [.agg [.sl (.int .i64) ua .no, .sl (.int .i64) la .no, .val (.int .i64 wa), .sl (.int .i64) lsa .no], .agg [.sl (.int .i64) ub .no, .sl (.int .i64) lb .no, .val (.int .i64 wb), .sl (.int .i64) lsb .no], .val (.int .i64 s)] => some ([Sh ua la lsa, Sh ub lb lsb],
  .ex (Int × Int × Int) fun x => .res (.tup [.agg [ival x.1, ival x.2.1], ival x.2.2]) [] [x = if chkL [pd ua la wa lsa, pd ub lb wb lsb] = 0 then fitR la ub (wa + wb) s else (0, 0, chkL [pd ua la wa lsa, pd ub lb wb lsb])], [])
 | _ => none
theorem v21 : VI T6 Try.f21 [some RangeT, some I64] D21 := by
 intro a p s j h hp
 unfold D21 at h
 split at h <;> cases h
 rename_i ua la wa lsa ub lb wb lsb s
 obtain ⟨h1, h2, -⟩ := hp
 refine vcp (A := (2 : Nat) ≤ (1000 : Nat) ∧ (∀ (p : (PieceT).den), p ∈ [(ua, la, wa, lsa, ()), (ub, lb, wb, lsb, ())] → shortP p) ∧ vcIf (chkL [(ua, la, wa, lsa, ()), (ub, lb, wb, lsb, ())] != (0 : Int)) (∃ (a : Int × Int × Int), (0 : Int) = a.fst ∧ (0 : Int) = a.snd.fst ∧ chkL [(ua, la, wa, lsa, ()), (ub, lb, wb, lsb, ())] = a.snd.snd ∧ (a = if chkL [pd ua la wa lsa, pd ub lb wb lsb] = (0 : Int) then fitR la ub (wa + wb) s else ((0 : Int), (0 : Int), chkL [pd ua la wa lsa, pd ub lb wb lsb])) ∧ True) (la.length ≤ (1000 : Nat) ∧ ub.length ≤ (1000 : Nat) ∧ inH la ∧ inH ub ∧ vcIf (decide ((stA la ub s).snd.snd < (3 : Int))) (∃ (a : Int × Int × Int), (0 : Int) = a.fst ∧ (0 : Int) = a.snd.fst ∧ (7 : Int) = a.snd.snd ∧ (a = if chkL [pd ua la wa lsa, pd ub lb wb lsb] = (0 : Int) then fitR la ub (wa + wb) s else ((0 : Int), (0 : Int), chkL [pd ua la wa lsa, pd ub lb wb lsb])) ∧ True) (rng ((stA la ub s).snd.fst - (stA la ub s).fst) ∧ rng (wa + wb) ∧ vcIf (decide ((stA la ub s).snd.fst - (stA la ub s).fst > wa + wb)) (∃ (a : Int × Int × Int), (0 : Int) = a.fst ∧ (0 : Int) = a.snd.fst ∧ (11 : Int) = a.snd.snd ∧ (a = if chkL [pd ua la wa lsa, pd ub lb wb lsb] = (0 : Int) then fitR la ub (wa + wb) s else ((0 : Int), (0 : Int), chkL [pd ua la wa lsa, pd ub lb wb lsb])) ∧ True) (rng ((stA la ub s).fst + wa) ∧ rng ((stA la ub s).fst + wa + wb) ∧ ∃ (a : Int × Int × Int), (stA la ub s).snd.fst = a.fst ∧ (stA la ub s).fst + wa + wb = a.snd.fst ∧ (0 : Int) = a.snd.snd ∧ (a = if chkL [pd ua la wa lsa, pd ub lb wb lsb] = (0 : Int) then fitR la ub (wa + wb) s else ((0 : Int), (0 : Int), chkL [pd ua la wa lsa, pd ub lb wb lsb])) ∧ True)))) (by kernel_rfl) ?_
 simp only [vc_dec, vc_beq, vc_bne, vc_not, nil_e, rng, and_true, true_and, eq_self]
 refine ⟨by omega, short2 h1 h2, fun e => ?_, fun e => ⟨(0, 0, chkL [pd ua la wa lsa, pd ub lb wb lsb]), rfl, rfl, rfl, by rw [if_neg e]⟩⟩
 obtain ⟨o1, o2⟩ := chkL_two e
 have b := stA_in s o1.hl o2.hu
 have := o1.num
 have := o2.num
 refine ⟨by omega, by omega, o1.hl, o2.hu, fun k1 => ⟨(0, 0, 7), rfl, rfl, rfl, by rw [if_pos e, fitR, if_pos k1]⟩, fun k1 => ⟨by omega, by omega, fun k2 => ⟨(0, 0, 11), rfl, rfl, rfl, by rw [if_pos e, fitR, if_neg k1, if_pos k2]⟩, fun k2 => ⟨by omega, by omega, (_, _, 0), rfl, rfl, rfl, by rw [if_pos e, fitR, if_neg k1, if_neg k2, Int.add_assoc]⟩⟩⟩
def D23 : List TV → Dn
 | [.agg [.sl (.int .i64) ua .no, .sl (.int .i64) la .no, .val (.int .i64 wa), .sl (.int .i64) lsa .no], .agg [.sl (.int .i64) ub .no, .sl (.int .i64) lb .no, .val (.int .i64 wb), .sl (.int .i64) lsb .no]] => some ([Sh ua la lsa, Sh ub lb lsb],
  .ex (List Int) fun x => .ex Int fun e => .res (.tup [.sl I64 x .no, ival e]) [] [x = if chkL [pd ua la wa lsa, pd ub lb wb lsb] = 0 then shL la ub (wa + wb) (ub.length + la.length + 1) else [], e = chkL [pd ua la wa lsa, pd ub lb wb lsb]], [])
 | _ => none
theorem v23 : VI T6 Try.f23 [some IntsT, some I64] D23 := by
 intro a p s j h hp
 unfold D23 at h
 split at h <;> cases h
 rename_i ua la wa lsa ub lb wb lsb
 obtain ⟨h1, h2, -⟩ := hp
 refine vcp (A := (2 : Nat) ≤ (1000 : Nat) ∧ (∀ (p : (PieceT).den), p ∈ [(ua, la, wa, lsa, ()), (ub, lb, wb, lsb, ())] → shortP p) ∧ vcIf (chkL [(ua, la, wa, lsa, ()), (ub, lb, wb, lsb, ())] != (0 : Int)) (∃ (a : List Int), ∃ (a_1 : Int), [] = a ∧ chkL [(ua, la, wa, lsa, ()), (ub, lb, wb, lsb, ())] = a_1 ∧ (a = if chkL [pd ua la wa lsa, pd ub lb wb lsb] = (0 : Int) then shL la ub (wa + wb) (ub.length + la.length + (1 : Nat)) else []) ∧ a_1 = chkL [pd ua la wa lsa, pd ub lb wb lsb] ∧ True) (rng (wa + wb) ∧ la.length ≤ (100 : Nat) ∧ ub.length ≤ (100 : Nat) ∧ inH la ∧ inH ub ∧ ∃ (a : List Int), ∃ (a_1 : Int), shL la ub (wa + wb) (ub.length + la.length + (1 : Nat)) = a ∧ (0 : Int) = a_1 ∧ (a = if chkL [pd ua la wa lsa, pd ub lb wb lsb] = (0 : Int) then shL la ub (wa + wb) (ub.length + la.length + (1 : Nat)) else []) ∧ a_1 = chkL [pd ua la wa lsa, pd ub lb wb lsb] ∧ True)) (by kernel_rfl) ?_
 simp only [vc_dec, vc_beq, vc_bne, vc_not, nil_e, rng, and_true, true_and, eq_self]
 refine ⟨by omega, short2 h1 h2, fun e => ?_, fun e => ⟨_, _, rfl, rfl, by rw [if_neg e], rfl⟩⟩
 obtain ⟨o1, o2⟩ := chkL_two e
 have := o1.num
 have := o2.num
 exact ⟨by omega, by omega, by omega, o1.hl, o2.hu, _, _, rfl, rfl, by rw [if_pos e], e.symm⟩
def T7 : Tbl := (T6.addI 21 fun a => dS (D21 a)).addI 23 fun a => dS (D23 a)
def D28 : List TV → Dn
 | [.agg [.sl (.int .i64) ua .no, .sl (.int .i64) la .no, .val (.int .i64 wa), .sl (.int .i64) lsa .no], .agg [.sl (.int .i64) ub .no, .sl (.int .i64) lb .no, .val (.int .i64 wb), .sl (.int .i64) lsb .no]] => some ([Ok ua la wa lsa, Ok ub lb wb lsb],
  .ex (List Int) fun x => .res (.tup [.sl I64 x .no, .sl RangeT (x.map (cutD la ub wa wb)) .no, bval true]) [] [x = shL la ub (wa + wb) (ub.length + la.length + 1)],
  [(8, .ex Nat fun i => .ex (List Int) fun x => .st { sl := [(9, .sl RangeT ((x.take i).map (cutD la ub wa wb)) (.lab 2)), (10, ival i)], own := [(43, 2)], good := [i ≤ x.length, x = shL la ub (wa + wb) (ub.length + la.length + 1)], m := x.length - i })])
 | _ => none
theorem v28 : VI T7 Try.f28 [some IntsT, some (.sl RangeT), some .bool] D28 := by
 intro a p s j h hp
 unfold D28 at h
 split at h <;> cases h
 rename_i ua la wa lsa ub lb wb lsb
 obtain ⟨h1, h2, -⟩ := hp
 refine vcp (A := Sh ua la lsa ∧ Sh ub lb lsb ∧ ∀ (a : List Int) (a_1 : Int), (a = if chkL [pd ua la wa lsa, pd ub lb wb lsb] = (0 : Int) then shL la ub (wa + wb) (ub.length + la.length + (1 : Nat)) else []) → a_1 = chkL [pd ua la wa lsa, pd ub lb wb lsb] → vcIf (a_1 != (0 : Int)) (∃ (a : List Int), [] = a ∧ [] = List.map (cutD la ub wa wb) a ∧ false = true ∧ a = shL la ub (wa + wb) (ub.length + la.length + (1 : Nat)) ∧ True) (vcIf (decide ((↑a.length : Int) > (16 : Int))) (∃ (a : List Int), [] = a ∧ [] = List.map (cutD la ub wa wb) a ∧ false = true ∧ a = shL la ub (wa + wb) (ub.length + la.length + (1 : Nat)) ∧ True) ((∃ (a : Nat), ∃ (a_4 : List Int), [] = List.map (cutD la ub wa wb) (List.take a a_4) ∧ (0 : Int) = (↑a : Int) ∧ a ≤ a_4.length ∧ a_4 = shL la ub (wa + wb) (ub.length + la.length + (1 : Nat)) ∧ a_4.length - a < (1000000 : Nat)) ∧ ∀ (a_4 : Nat) (a_5 : List Int), a_4 ≤ a_5.length → a_5 = shL la ub (wa + wb) (ub.length + la.length + (1 : Nat)) → vcIf (decide ((↑a_4 : Int) < (↑a.length : Int))) (((0 : Int) ≤ (↑a_4 : Int) ∧ (↑a_4 : Int) < (↑a.length : Int)) ∧ Sh ua la lsa ∧ Sh ub lb lsb ∧ ∀ (a_8 : Int × Int × Int), (a_8 = if chkL [pd ua la wa lsa, pd ub lb wb lsb] = (0 : Int) then fitR la ub (wa + wb) (a.getD a_4 (0 : Int)) else ((0 : Int), (0 : Int), chkL [pd ua la wa lsa, pd ub lb wb lsb])) → vcIf (a_8.snd.snd != (0 : Int)) (∃ (a : List Int), [] = a ∧ [] = List.map (cutD la ub wa wb) a ∧ false = true ∧ a = shL la ub (wa + wb) (ub.length + la.length + (1 : Nat)) ∧ True) ((List.map (cutD la ub wa wb) (List.take a_4 a_5)).length + (1 : Nat) ≤ (1000000000 : Nat) ∧ rng ((↑a_4 : Int) + (1 : Int)) ∧ ∃ (a_10 : Nat), ∃ (a_11 : List Int), a = a ∧ List.map (cutD la ub wa wb) (List.take a_4 a_5) ++ [(a_8.fst, a_8.snd.fst, ())] = List.map (cutD la ub wa wb) (List.take a_10 a_11) ∧ (↑a_4 : Int) + (1 : Int) = (↑a_10 : Int) ∧ ua = ua ∧ la = la ∧ wa = wa ∧ lsa = lsa ∧ ub = ub ∧ lb = lb ∧ wb = wb ∧ lsb = lsb ∧ a_10 ≤ a_11.length ∧ a_11 = shL la ub (wa + wb) (ub.length + la.length + (1 : Nat)) ∧ a_11.length - a_10 < a_5.length - a_4)) (∃ (a_8 : List Int), a = a_8 ∧ List.map (cutD la ub wa wb) (List.take a_4 a_5) = List.map (cutD la ub wa wb) a_8 ∧ true = true ∧ a_8 = shL la ub (wa + wb) (ub.length + la.length + (1 : Nat)) ∧ True)))) (by kernel_rfl) ?_
 simp only [vc_dec, vc_beq, vc_bne, vc_not, nil_e, rng, and_true, true_and, eq_self]
 have e0 := two_chkL h1 h2
 rw [if_pos e0, e0]
 refine ⟨sh_ok h1, sh_ok h2, fun x k0 hx k2 => ⟨fun _ => ?_, fun k => absurd k2 k⟩⟩
 have hlen : x.length ≤ 16 := by have := h1.num; have := h2.num; rw [hx]; exact Nat.le_trans (shL_le _) (by omega)
 refine ⟨fun k3 => by omega, fun k3 => ⟨⟨0, x, rfl, rfl, by omega, hx, by omega⟩, fun i y k4 k5 => ?_⟩⟩
 obtain rfl : y = x := k5.trans hx.symm
 refine ⟨fun k6 => ⟨by omega, sh_ok h1, sh_ok h2, fun R k7 => ?_⟩, fun k6 => ⟨y, rfl, by rw [show i = y.length by omega, List.take_length], hx⟩⟩
 have hf := (mem_shL (la := la) (ub := ub) (wear := wa + wb) (s := y.getD i 0) (k := ub.length + la.length + 1) (by rw [← hx]; exact mem_getD (by omega))).1
 rw [if_pos rfl, fitR_ok hf] at k7
 subst k7
 refine ⟨fun _ => ⟨by simp; omega, by omega, i + 1, y, ?_, by omega, by omega, hx, by omega⟩, fun k => absurd rfl k⟩
 rw [← cut_snoc (by omega), Int.add_assoc]
def T8 : Tbl := T7.addI 28 fun a => dS (D28 a)
section
variable {tab : IsoF} (tk : TabK tab)
include tk
theorem tok5 : TOK tab 5 T5 := mkI tk (tok4 tk) (by decide) Try.func77 rfl v77 (mkC (tok4 tk) Try.func12 rfl v12 (tok_up (tok4 tk)))
theorem tok6 : TOK tab 6 T6 := mkI tk (tok5 tk) (by decide) Try.func59 rfl v59 (mkC (tok5 tk) Try.func13 rfl v13 (tok_up (tok5 tk)))
theorem tok7 : TOK tab 7 T7 := mkI tk (tok6 tk) (by decide) Try.func23 rfl v23 (mkI tk (tok6 tk) (by decide) Try.func21 rfl v21 (tok_up (tok6 tk)))
theorem tok8 : TOK tab 8 T8 := mkI tk (tok7 tk) (by decide) Try.func28 rfl v28 (tok_up (tok7 tk))
end
end Go.Tv
end
section
namespace Go.Tv
open Go Go.Di Go.Proofs
end Go.Tv
end
