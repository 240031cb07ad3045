import Derived.Test.YtoccmmopffbbfaaPk09
namespace Go.Tv
open Go Go.Di Go.Proofs
set_option maxRecDepth 100000
def D25 : List TV → Dn
 | [.sl (.int .i64) l .no, .sl (.int .i64) m .no] => some ([l.length ≤ 1000, m.length ≤ 1000], .res (bval (decide (l = m))) [] [], [(4, .ex Nat fun i => .ex Bool fun b => .st { sl := [(5, bval b), (6, ival i)], good := [i ≤ l.length, b = decide (l.length = m.length ∧ l.take i = m.take i)], m := l.length - i })])
 | _ => none
theorem v25 : VI T0 Try.f25 [some .bool] D25 := by
 refine vi_of fun a => ?_
 unfold D25
 split
 rotate_left
 ·trivial
 rename_i l m
 intro hp
 refine vcq (A := (∃ (a : Nat), ∃ (a_1 : Bool), ((↑l.length : Int) == (↑m.length : Int)) = a_1 ∧ (0 : Int) = (↑a : Int) ∧ a ≤ l.length ∧ a_1 = decide (l.length = m.length ∧ List.take a l = List.take a m) ∧ l.length - a < (1000000 : Nat)) ∧ ∀ (a : Nat) (a_1 : Bool), a ≤ l.length → a_1 = decide (l.length = m.length ∧ List.take a l = List.take a m) → vcIf a_1 (vcIf (decide ((↑a : Int) < (↑l.length : Int))) (((0 : Int) ≤ (↑a : Int) ∧ (↑a : Int) < (↑l.length : Int)) ∧ ((0 : Int) ≤ (↑a : Int) ∧ (↑a : Int) < (↑m.length : Int)) ∧ rng ((↑a : Int) + (1 : Int)) ∧ ∃ (a_4 : Nat), ∃ (a_5 : Bool), l = l ∧ m = m ∧ false = false ∧ (l.getD a (0 : Int) == m.getD a (0 : Int)) = a_5 ∧ (↑a : Int) + (1 : Int) = (↑a_4 : Int) ∧ a_4 ≤ l.length ∧ a_5 = decide (l.length = m.length ∧ List.take a_4 l = List.take a_4 m) ∧ l.length - a_4 < l.length - a) (a_1 = decide (l = m) ∧ True)) (a_1 = decide (l = m) ∧ True)) (by kernel_rfl) ?_
 obtain ⟨h1, h2, -⟩ := hp
 simp only [vc_dec, vc_beq, rng, and_true, true_and, eq_self]
 refine ⟨⟨0, _, rfl, rfl, by omega, ?_, by omega⟩, fun i b h3 h4 => ?_⟩
 ·rw [Bool.eq_iff_iff]; simp; omega
 rw [vc_iff]
 subst h4
 simp only [decide_eq_true_eq, decide_eq_false_iff_not]
 refine ⟨fun h5 => ⟨fun h6 => ⟨by omega, by omega, by omega, i + 1, _, rfl, by omega, by omega, ?_, by omega⟩, fun h6 => ?_⟩, fun h5 => ?_⟩
 ·rw [Bool.eq_iff_iff, decide_eq_true_eq, take_one (by omega), take_one (by omega), beq_iff_eq]
  refine ⟨fun h => ⟨h5.1, by rw [h5.2, h]⟩, fun h => ?_⟩
  have := List.append_inj_right' h.2 rfl
  simpa using this
 ·rw [decide_eq_decide]
  have e1 := h5.2
  rw [List.take_of_length_le (by omega), List.take_of_length_le (by omega)] at e1
  exact ⟨fun _ => e1, fun h => h5⟩
 ·rw [decide_eq_decide]
  exact ⟨fun h => absurd h h5, fun h => by subst h; exact absurd ⟨rfl, rfl⟩ h5⟩
def D42 : List TV → Dn
 | [.sl (.pair (.sl (.int .i64)) (.pair (.sl (.int .i64)) (.pair (.int .i64) (.pair (.sl (.int .i64)) .unit)))) l .no] => some ([l.length ≤ 1000, ∀ p ∈ l, shortP p], .res (ival (if 4 < l.length then 6 else chkL l)) [] [], [])
 | _ => none
theorem v42 : VI W8 Try.f42 [some I64] D42 := by
 refine vi_of fun a => ?_
 unfold D42
 split
 rotate_left
 ·trivial
 rename_i l
 intro hp
 refine vcq (A := vcIf (decide ((↑l.length : Int) > (4 : Int))) (((6 : Int) = if (4 : Nat) < l.length then (6 : Int) else chkL l) ∧ True) (l.length ≤ (1000 : Nat) ∧ (∀ (p : (PieceT).den), p ∈ l → shortP p) ∧ (chkL l = if (4 : Nat) < l.length then (6 : Int) else chkL l) ∧ True)) (by kernel_rfl) ?_
 obtain ⟨h1, h2, -⟩ := hp
 simp only [vc_dec, and_true]
 exact ⟨fun h => by rw [if_pos (by omega)], fun h => ⟨by omega, h2, by rw [if_neg (by omega)]⟩⟩
def D41 : List TV → List TV → Dn
 | [.ptr 0 0, .agg [.sl (.int .i64) au .no, .sl (.int .i64) al .no, .val (.int .i64 aw), .sl (.int .i64) aq .no]], [.sl (.int .i64) _ .no, .val (.int .u64 _)] => some ([Ok au al aw aq], .ex (List Int) fun o => .ex (List Int) fun r => .ex Int fun z => .res (.sl I64 o .no) (dice r z) [o.length = au.length, inH o], [])
 | _, _ => none
theorem v41 : VC W8 Try.f41 [some IntsT] [some IntsT, some (.int .u64)] D41 := by
 refine vc_of fun a cs => ?_
 unfold D41
 split
 rotate_left
 ·trivial
 rename_i u l w ls r z
 intro hp
 refine vcq (A := (0 : Int) ≤ (↑u.length : Int) ∧ (↑u.length : Int) ≤ (100 : Int) ∧ ∀ (a a_1 : List Int) (a_2 : Int), (↑a.length : Int) = (↑u.length : Int) → inH a → ∃ (a_5 : List Int), ∃ (a_6 : List Int), ∃ (a_7 : Int), a = a_5 ∧ a_1 = a_6 ∧ a_2 = a_7 ∧ a_5.length = u.length ∧ inH a_5 ∧ True) (by kernel_rfl) ?_
 have h1 := hp.1
 have := h1.num
 exact ⟨by omega, by omega, fun o r z h2 h3 => ⟨o, r, z, rfl, rfl, rfl, by omega, h3, trivial⟩⟩
def D40 : List TV → Dn
 | [.agg [.sl (.int .i64) au .no, .sl (.int .i64) al .no, .val (.int .i64 aw), .sl (.int .i64) aq .no], .sl (.int .i64) line .no] => some ([Ok au al aw aq, line.length = au.length, inH line], .res (.tup [pcV au line aw aq, pcV (line.map (9 - ·)) al aw aq, ival 0]) [] [], [(14, .dep fun te tS => match te.getD 5 .unk with
  | .ptr p _ => .ex Nat fun i => .st { sl := [(59, ival i)], pl := [(p, [.sl I64 ((line.take i).map (9 - ·)) (.lab tS.length), .sl I64 al .no, ival aw, .sl I64 aq .no])], own := [(3, 1)], good := [i ≤ line.length], m := line.length - i }
  | _ => .un 0)])
 | _ => none
theorem v40 : VI W8 Try.f40 [some PieceT, some PieceT, some I64] D40 := by
 refine vi_of fun a => ?_
 unfold D40
 split
 rotate_left
 ·trivial
 rename_i u l w ls line
 intro hp
 refine vcq (A := Sh u l ls ∧ vcIf (chk u l w ls != (0 : Int)) (vcIf (chk u l w ls != (0 : Int)) ([] = u ∧ [] = line ∧ (0 : Int) = w ∧ [] = ls ∧ [] = List.map (fun (x : Int) => (9 : Int) - x) line ∧ [] = l ∧ (0 : Int) = w ∧ [] = ls ∧ chk u l w ls = (0 : Int) ∧ True) (u ≠ [] ∧ u.length ≤ (1000 : Nat) ∧ line ≠ [] ∧ line.length ≤ (1000 : Nat) ∧ ls ≠ [] ∧ ls.length ≤ (1000 : Nat) ∧ l ≠ [] ∧ l.length ≤ (1000 : Nat) ∧ ls ≠ [] ∧ ls.length ≤ (1000 : Nat) ∧ (∃ (a : Nat), (0 : Int) = (↑a : Int) ∧ [] = List.map (fun (x : I64.den) => (9 : I64.den) - x) (List.take a line) ∧ l = l ∧ w = w ∧ ls = ls ∧ a ≤ line.length ∧ line.length - a < (1000000 : Nat)) ∧ ∀ (a : Nat), a ≤ line.length → vcIf (decide ((↑a : Int) < (↑line.length : Int))) (((0 : Int) ≤ (↑a : Int) ∧ (↑a : Int) < (↑line.length : Int)) ∧ rng ((9 : Int) - line.getD a (0 : Int)) ∧ (List.map (fun (x : I64.den) => (9 : I64.den) - x) (List.take a line)).length + (1 : Nat) ≤ (1000000000 : Nat) ∧ rng ((↑a : Int) + (1 : Int)) ∧ ∃ (a_2 : Nat), chk u l w ls = chk u l w ls ∧ line = line ∧ (↑line.length : Int) = (↑line.length : Int) ∧ (↑a : Int) + (1 : Int) = (↑a_2 : Int) ∧ u = u ∧ l = l ∧ w = w ∧ ls = ls ∧ u = u ∧ line = line ∧ w = w ∧ ls = ls ∧ List.map (fun (x : I64.den) => (9 : I64.den) - x) (List.take a line) ++ [(9 : Int) - line.getD a (0 : Int)] = List.map (fun (x : I64.den) => (9 : I64.den) - x) (List.take a_2 line) ∧ l = l ∧ w = w ∧ ls = ls ∧ a_2 ≤ line.length ∧ line.length - a_2 < line.length - a) (u = u ∧ line = line ∧ w = w ∧ ls = ls ∧ List.map (fun (x : I64.den) => (9 : I64.den) - x) (List.take a line) = List.map (fun (x : Int) => (9 : Int) - x) line ∧ l = l ∧ w = w ∧ ls = ls ∧ (0 : Int) = (0 : Int) ∧ True))) (vcIf (decide ((↑line.length : Int) < (↑u.length : Int))) ([] = u ∧ [] = line ∧ (0 : Int) = w ∧ [] = ls ∧ [] = List.map (fun (x : Int) => (9 : Int) - x) line ∧ [] = l ∧ (0 : Int) = w ∧ [] = ls ∧ (7 : Int) = (0 : Int) ∧ True) (vcIf (decide ((↑line.length : Int) > (↑u.length : Int))) ([] = u ∧ [] = line ∧ (0 : Int) = w ∧ [] = ls ∧ [] = List.map (fun (x : Int) => (9 : Int) - x) line ∧ [] = l ∧ (0 : Int) = w ∧ [] = ls ∧ (6 : Int) = (0 : Int) ∧ True) (line.length ≤ (1000 : Nat) ∧ vcIf (!line.all (inB (9 : Int))) ([] = u ∧ [] = line ∧ (0 : Int) = w ∧ [] = ls ∧ [] = List.map (fun (x : Int) => (9 : Int) - x) line ∧ [] = l ∧ (0 : Int) = w ∧ [] = ls ∧ (1 : Int) = (0 : Int) ∧ True) (vcIf (chk u l w ls != (0 : Int)) ([] = u ∧ [] = line ∧ (0 : Int) = w ∧ [] = ls ∧ [] = List.map (fun (x : Int) => (9 : Int) - x) line ∧ [] = l ∧ (0 : Int) = w ∧ [] = ls ∧ chk u l w ls = (0 : Int) ∧ True) (u ≠ [] ∧ u.length ≤ (1000 : Nat) ∧ line ≠ [] ∧ line.length ≤ (1000 : Nat) ∧ ls ≠ [] ∧ ls.length ≤ (1000 : Nat) ∧ l ≠ [] ∧ l.length ≤ (1000 : Nat) ∧ ls ≠ [] ∧ ls.length ≤ (1000 : Nat) ∧ (∃ (a : Nat), (0 : Int) = (↑a : Int) ∧ [] = List.map (fun (x : I64.den) => (9 : I64.den) - x) (List.take a line) ∧ l = l ∧ w = w ∧ ls = ls ∧ a ≤ line.length ∧ line.length - a < (1000000 : Nat)) ∧ ∀ (a : Nat), a ≤ line.length → vcIf (decide ((↑a : Int) < (↑line.length : Int))) (((0 : Int) ≤ (↑a : Int) ∧ (↑a : Int) < (↑line.length : Int)) ∧ rng ((9 : Int) - line.getD a (0 : Int)) ∧ (List.map (fun (x : I64.den) => (9 : I64.den) - x) (List.take a line)).length + (1 : Nat) ≤ (1000000000 : Nat) ∧ rng ((↑a : Int) + (1 : Int)) ∧ ∃ (a_2 : Nat), chk u l w ls = chk u l w ls ∧ line = line ∧ (↑line.length : Int) = (↑line.length : Int) ∧ (↑a : Int) + (1 : Int) = (↑a_2 : Int) ∧ u = u ∧ l = l ∧ w = w ∧ ls = ls ∧ u = u ∧ line = line ∧ w = w ∧ ls = ls ∧ List.map (fun (x : I64.den) => (9 : I64.den) - x) (List.take a line) ++ [(9 : Int) - line.getD a (0 : Int)] = List.map (fun (x : I64.den) => (9 : I64.den) - x) (List.take a_2 line) ∧ l = l ∧ w = w ∧ ls = ls ∧ a_2 ≤ line.length ∧ line.length - a_2 < line.length - a) (u = u ∧ line = line ∧ w = w ∧ ls = ls ∧ List.map (fun (x : I64.den) => (9 : I64.den) - x) (List.take a line) = List.map (fun (x : Int) => (9 : Int) - x) line ∧ l = l ∧ w = w ∧ ls = ls ∧ (0 : Int) = (0 : Int) ∧ True))))))) (by kernel_rfl) ?_
 obtain ⟨h1, h2, h3, -⟩ := hp
 have n := h1.num
 have s := sh_ok h1
 have e0 : chk u l w ls = 0 := chk_ok.2 h1
 have e1 : line.all (inB 9) = true := all_inB.2 h3
 have ne : ∀ {k : List Int}, 0 < k.length → k ≠ [] := fun h e => by rw [e] at h; cases h
 have s3 := s.2.2
 simp only [vc_dec, vc_bne, vc_not, e0, e1, vc_tt, rng, and_true, true_and, eq_self]
 refine ⟨s, fun _ => ⟨fun h => by omega, fun _ => ⟨fun h => by omega, fun _ => ⟨by omega, fun _ => ?_, fun h => absurd trivial h⟩⟩⟩, fun h => absurd trivial h⟩
 refine ⟨ne (by omega), by omega, ne (by omega), by omega, h1.ne, by omega, ne (by omega), by omega, h1.ne, by omega, ⟨0, rfl, rfl, by omega, by omega⟩, fun i h4 => ⟨fun h5 => ?_, fun h5 => ?_⟩⟩
 ·have := h3 _ (mem_getD (l := line) (i := i) (by omega))
  exact ⟨by omega, by omega, by simp; omega, by omega, i + 1, by omega, map_take_snoc (f := fun x => 9 - x) (by omega), by omega, by omega⟩
 ·rw [show i = line.length by omega, List.take_length]
def bothL (aq bq : List Int) : List Int := aq.filter fun x => decide (x ∈ bq)
theorem both_yes {a bq : List Int} {x : Int} (h : x ∈ bq) : bothL (a ++ [x]) bq = bothL a bq ++ [x] := by simp [bothL, List.filter_append, h]
theorem both_no {a bq : List Int} {x : Int} (h : ¬ x ∈ bq) : bothL (a ++ [x]) bq = bothL a bq := by simp [bothL, List.filter_append, h]
def D43 : List TV → Dn
 | [.agg [.sl (.int .i64) au .no, .sl (.int .i64) al .no, .val (.int .i64 aw), .sl (.int .i64) aq .no], .agg [.sl (.int .i64) bu .no, .sl (.int .i64) bl .no, .val (.int .i64 bw), .sl (.int .i64) bq .no]] => some ([Ok au al aw aq, Ok bu bl bw bq, au.length = bu.length, (stA al bu 0).2.1 - (stA al bu 0).1 ≤ aw + bw, bothL aq bq ≠ []], .ex Int fun w => .res (.tup [pcV au bl w (bothL aq bq), ival 0]) [] [w = if aw < bw then bw else aw], [(15, .dep fun te tS => match te.getD 10 .unk with
  | .ptr p _ => .ex Nat fun i => .st { sl := [(69, ival i)], pl := [(p, [.sl I64 au .no, .sl I64 bl .no, ival (if aw < bw then bw else aw), .sl I64 (bothL (aq.take i) bq) (.lab tS.length)])], own := [(3, 1)], good := [i ≤ aq.length], m := aq.length - i }
  | _ => .un 0)])
 | _ => none
theorem v43 : VI W8 Try.f43 [some PieceT, some I64] D43 := by
 refine vi_of fun a => ?_
 unfold D43
 split
 rotate_left
 ·trivial
 rename_i u l w ls u2 l2 w2 ls2
 intro hp
 refine vcq (A := (2 : Nat) ≤ (1000 : Nat) ∧ (∀ (p : (PieceT).den), p ∈ [(u, l, w, ls, ()), (u2, l2, w2, ls2, ())] → shortP p) ∧ vcIf (chkL [(u, l, w, ls, ()), (u2, l2, w2, ls2, ())] != (0 : Int)) (∃ (a : Int), [] = u ∧ [] = l2 ∧ (0 : Int) = a ∧ [] = bothL ls ls2 ∧ chkL [(u, l, w, ls, ()), (u2, l2, w2, ls2, ())] = (0 : Int) ∧ (a = if w < w2 then w2 else w) ∧ True) (vcIf ((↑u.length : Int) != (↑u2.length : Int)) (∃ (a : Int), [] = u ∧ [] = l2 ∧ (0 : Int) = a ∧ [] = bothL ls ls2 ∧ (12 : Int) = (0 : Int) ∧ (a = if w < w2 then w2 else w) ∧ True) (l.length ≤ (1000 : Nat) ∧ u2.length ≤ (1000 : Nat) ∧ inH l ∧ inH u2 ∧ rng ((stA l u2 (0 : Int)).snd.fst - (stA l u2 (0 : Int)).fst) ∧ rng (w + w2) ∧ vcIf (decide ((stA l u2 (0 : Int)).snd.fst - (stA l u2 (0 : Int)).fst > w + w2)) (∃ (a : Int), [] = u ∧ [] = l2 ∧ (0 : Int) = a ∧ [] = bothL ls ls2 ∧ (11 : Int) = (0 : Int) ∧ (a = if w < w2 then w2 else w) ∧ True) (u ≠ [] ∧ u.length ≤ (1000 : Nat) ∧ l2 ≠ [] ∧ l2.length ≤ (1000 : Nat) ∧ (∃ (a : Nat), (0 : Int) = (↑a : Int) ∧ u = u ∧ l2 = l2 ∧ ((if w2 > w then w2 else w) = if w < w2 then w2 else w) ∧ [] = bothL (List.take a ls) ls2 ∧ a ≤ ls.length ∧ ls.length - a < (1000000 : Nat)) ∧ ∀ (a : Nat), a ≤ ls.length → vcIf (decide ((↑a : Int) < (↑ls.length : Int))) (((0 : Int) ≤ (↑a : Int) ∧ (↑a : Int) < (↑ls.length : Int)) ∧ ls2.length ≤ (1000 : Nat) ∧ vcIf (decide (ls.getD a (0 : Int) ∈ ls2)) ((bothL (List.take a ls) ls2).length + (1 : Nat) ≤ (1000000000 : Nat) ∧ rng ((↑a : Int) + (1 : Int)) ∧ ∃ (a_2 : Nat), (0 : Int) = (0 : Int) ∧ ls = ls ∧ (↑ls.length : Int) = (↑ls.length : Int) ∧ (↑a : Int) + (1 : Int) = (↑a_2 : Int) ∧ u = u ∧ l = l ∧ w = w ∧ ls = ls ∧ u2 = u2 ∧ l2 = l2 ∧ w2 = w2 ∧ ls2 = ls2 ∧ (0 : Int) = (0 : Int) ∧ u = u ∧ l2 = l2 ∧ ((if w < w2 then w2 else w) = if w < w2 then w2 else w) ∧ bothL (List.take a ls) ls2 ++ [ls.getD a (0 : Int)] = bothL (List.take a_2 ls) ls2 ∧ a_2 ≤ ls.length ∧ ls.length - a_2 < ls.length - a) (rng ((↑a : Int) + (1 : Int)) ∧ ∃ (a_2 : Nat), (0 : Int) = (0 : Int) ∧ ls = ls ∧ (↑ls.length : Int) = (↑ls.length : Int) ∧ (↑a : Int) + (1 : Int) = (↑a_2 : Int) ∧ u = u ∧ l = l ∧ w = w ∧ ls = ls ∧ u2 = u2 ∧ l2 = l2 ∧ w2 = w2 ∧ ls2 = ls2 ∧ (0 : Int) = (0 : Int) ∧ u = u ∧ l2 = l2 ∧ ((if w < w2 then w2 else w) = if w < w2 then w2 else w) ∧ bothL (List.take a ls) ls2 = bothL (List.take a_2 ls) ls2 ∧ a_2 ≤ ls.length ∧ ls.length - a_2 < ls.length - a)) (vcIf ((↑(bothL (List.take a ls) ls2).length : Int) == (0 : Int)) (∃ (a : Int), [] = u ∧ [] = l2 ∧ (0 : Int) = a ∧ [] = bothL ls ls2 ∧ (9 : Int) = (0 : Int) ∧ (a = if w < w2 then w2 else w) ∧ True) (∃ (a_2 : Int), u = u ∧ l2 = l2 ∧ (if w < w2 then w2 else w) = a_2 ∧ bothL (List.take a ls) ls2 = bothL ls ls2 ∧ (0 : Int) = (0 : Int) ∧ (a_2 = if w < w2 then w2 else w) ∧ True)))))) (by kernel_rfl) ?_
 obtain ⟨h1, h2, h3, h4, h5, -⟩ := hp
 have n1 := h1.num
 have n2 := h2.num
 have s1 := sh_ok h1
 have s2 := sh_ok h2
 have e0 : chkL [(u, l, w, ls, ()), (u2, l2, w2, ls2, ())] = 0 := two_chkL h1 h2
 have ne : ∀ {k : List Int}, 0 < k.length → k ≠ [] := fun h e => by rw [e] at h; cases h
 have b := stA_in (la := l) (ub := u2) 0 h1.hl h2.hu
 have s3 := s1.2.2
 simp only [vc_dec, vc_beq, vc_bne, e0, rng, and_true, true_and, eq_self]
 refine ⟨by omega, short2 s1 s2, fun _ => ⟨fun _ => ⟨by omega, by omega, h1.hl, h2.hu, by omega, by omega, fun h => absurd h4 (by omega), fun _ => ⟨ne (by omega), by omega, ne (by omega), by omega, ⟨0, rfl, rfl, by omega, by omega⟩, fun i h6 => ⟨fun h7 => ?_, fun h7 => ?_⟩⟩⟩, fun h => by omega⟩, fun h => absurd trivial h⟩
 ·have hl : (bothL (ls.take i) ls2).length ≤ i := Nat.le_trans (List.length_filter_le _ _) (by simp; omega)
  refine ⟨by omega, s2.2.2, fun h8 => ⟨by omega, by omega, i + 1, by omega, ?_, by omega, by omega⟩, fun h8 => ⟨by omega, i + 1, by omega, ?_, by omega, by omega⟩⟩
  ·rw [take_one (by omega), both_yes h8]
  ·rw [take_one (by omega), both_no h8]
 ·rw [show i = ls.length by omega, List.take_length]
  refine ⟨fun h8 => absurd (List.eq_nil_of_length_eq_zero (by omega)) h5, fun _ => ⟨_, rfl, rfl, rfl⟩⟩
def D76 : List TV → Dn
 | [.val (.int .i64 x), .val (.int .i64 y)] => some ([], .res (bval (decide (x < y))) [] [], [])
 | _ => none
theorem v76 : VI T0 Try.f76 [some .bool] D76 := by
 refine vi_of fun a => ?_
 unfold D76
 split
 rotate_left
 ·trivial
 rename_i x y
 intro hp
 refine vcq (A := decide (x < y) = decide (x < y) ∧ True) (by kernel_rfl) ?_
 exact ⟨rfl, trivial⟩
def Least (l : List Int) (m : Int) : Prop := m ∈ l ∧ ∀ x ∈ l, m ≤ x
def W9 : Tbl := ((((((W8.addI 25 fun a => dS (D25 a)).addI 42 fun a => dS (D42 a)).addC 41 fun a c => dS (D41 a c)).addI 40 fun a => dS (D40 a)).addI 43 fun a => dS (D43 a)).addI 76 fun a => dS (D76 a))
def D26 : List TV → Dn
 | [.agg [.sl (.int .i64) au .no, .sl (.int .i64) al .no, .val (.int .i64 aw), .sl (.int .i64) aq .no], .agg [.sl (.int .i64) bu .no, .sl (.int .i64) bl .no, .val (.int .i64 bw), .sl (.int .i64) bq .no]] => some ([Sh au al aq, Sh bu bl bq], .res (bval (decide (au = bu ∧ al = bl ∧ aw = bw ∧ aq = bq))) [] [], [])
 | _ => none
theorem v26 : VI W9 Try.f26 [some .bool] D26 := by
 refine vi_of fun a => ?_
 unfold D26
 split
 rotate_left
 ·trivial
 rename_i u l w ls u2 l2 w2 ls2
 intro hp
 refine vcq (A := u.length ≤ (1000 : Nat) ∧ u2.length ≤ (1000 : Nat) ∧ vcIf (decide (u = u2)) (l.length ≤ (1000 : Nat) ∧ l2.length ≤ (1000 : Nat) ∧ vcIf (decide (l = l2)) (vcIf (w == w2) (ls.length ≤ (1000 : Nat) ∧ ls2.length ≤ (1000 : Nat) ∧ decide (ls = ls2) = decide (u = u2 ∧ l = l2 ∧ w = w2 ∧ ls = ls2) ∧ True) (false = decide (u = u2 ∧ l = l2 ∧ w = w2 ∧ ls = ls2) ∧ True)) (false = decide (u = u2 ∧ l = l2 ∧ w = w2 ∧ ls = ls2) ∧ True)) (false = decide (u = u2 ∧ l = l2 ∧ w = w2 ∧ ls = ls2) ∧ True)) (by kernel_rfl) ?_
 obtain ⟨⟨a1, a2, a3⟩, ⟨b1, b2, b3⟩, -⟩ := hp
 simp only [vc_dec, vc_beq, and_true]
 refine ⟨a1, b1, fun h1 => ⟨a2, b2, fun h2 => ⟨fun h3 => ⟨a3, b3, ?_⟩, fun h3 => ?_⟩, fun h2 => ?_⟩, fun h1 => ?_⟩
 ·rw [decide_eq_decide]; exact ⟨fun h => ⟨h1, h2, h3, h⟩, fun h => h.2.2.2⟩
 ·rw [decide_eq_false fun h => h3 h.2.2.1]
 ·rw [decide_eq_false fun h => h2 h.2.1]
 ·rw [decide_eq_false fun h => h1 h.1]
def D48 : List TV → Dn
 | [.sl (.pair (.sl (.int .i64)) (.pair (.sl (.int .i64)) (.pair (.int .i64) (.pair (.sl (.int .i64)) .unit)))) l .no, .val (.int .i64 a), .val (.int .i64 b)] => some ([l.length ≤ 4, ∀ p ∈ l, shortP p, chkL l = 0, 0 ≤ a, a < l.length, 0 ≤ b, b < l.length, a ≠ b], .res (ival 0) [] [], [])
 | _ => none
theorem v48 : VI W9 Try.f48 [some I64] D48 := by
 refine vi_of fun a => ?_
 unfold D48
 split
 rotate_left
 ·trivial
 rename_i l x y
 intro hp
 refine vcq (A := l.length ≤ (1000 : Nat) ∧ (∀ (p : (PieceT).den), p ∈ l → shortP p) ∧ vcIf ((if (4 : Nat) < l.length then (6 : Int) else chkL l) != (0 : Int)) ((if (4 : Nat) < l.length then (6 : Int) else chkL l) = (0 : Int) ∧ True) (vcIf (decide (x < (0 : Int))) ((3 : Int) = (0 : Int) ∧ True) (vcIf (decide (y < (0 : Int))) ((3 : Int) = (0 : Int) ∧ True) (vcIf (decide (x ≥ (↑l.length : Int))) ((3 : Int) = (0 : Int) ∧ True) (vcIf (decide (y ≥ (↑l.length : Int))) ((3 : Int) = (0 : Int) ∧ True) (vcIf (x == y) ((4 : Int) = (0 : Int) ∧ True) ((0 : Int) = (0 : Int) ∧ True))))))) (by kernel_rfl) ?_
 obtain ⟨h1, h2, h3, h4, h5, h6, h7, h8, -⟩ := hp
 rw [if_neg (by omega), h3]
 simp only [vc_dec, vc_beq, vc_bne, and_true]
 exact ⟨by omega, h2, fun _ => ⟨fun h => by omega, fun _ => ⟨fun h => by omega, fun _ => ⟨fun h => by omega, fun _ => ⟨fun h => by omega, fun _ => ⟨fun h => absurd h h8, fun _ => trivial⟩⟩⟩⟩⟩, fun h => absurd trivial h⟩
end Go.Tv
