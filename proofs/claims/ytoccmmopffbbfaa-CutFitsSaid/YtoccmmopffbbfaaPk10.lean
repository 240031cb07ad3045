import Derived.Test.YtoccmmopffbbfaaPk09
namespace Go.Tv
open Go Go.Di Go.Proofs
set_option maxRecDepth 100000
theorem stF_cnt : ∀ (l : List Int) (st : Int × Int × Int), (l.foldl stS st).2.2 = st.2.2 + l.length
  | [], st => by simp
  | x :: l, st => by rw [List.foldl_cons, stF_cnt l]; simp only [stS, List.length_cons]; omega
theorem stF_len (l : List Int) : (stF l).2.2 = l.length := by rw [stF, stF_cnt]; simp
theorem colL_le (la ub : List Int) (s : Int) : ∀ i, (colL la ub s i).length ≤ i
  | 0 => Nat.le_refl 0
  | i + 1 => by
    have := colL_le la ub s i
    rw [colL]; split
    · rw [List.length_append, List.length_singleton]; omega
    · omega
def D107 : List TV → Dn
  | [.val (.int .i64 x), .val (.int .i64 lo), .val (.int .i64 hi)] => some ([], .res (bval (decide (lo ≤ x ∧ x ≤ hi))) [] [], [])
  | _ => none
theorem v107 : VI T0 Try.f107 [some .bool] D107 := by
  refine vi_of fun a => ?_
  unfold D107
  split
  rotate_left
  · trivial
  rename_i x lo hi
  intro hp
  refine vcq (A := vcIf (decide (lo ≤ x)) (decide (x ≤ hi) = decide (lo ≤ x ∧ x ≤ hi) ∧ True) (false = decide (lo ≤ x ∧ x ≤ hi) ∧ True)) (by kernel_rfl) ?_
  rw [vc_iff]
  refine ⟨fun h => ⟨?_, trivial⟩, fun h => ⟨?_, trivial⟩⟩
  · simp only [decide_eq_true_eq] at h; rw [decide_eq_decide]; omega
  · simp only [decide_eq_false_iff_not] at h; symm; rw [decide_eq_false_iff_not]; omega
def G1 : Tbl := T0.addI 107 fun a => dS (D107 a)
def D106 : List TV → Dn
  | [.sl (.int .i64) l .no] => some ([l.length ≤ 1000], .ex Int fun e => .res (ival e) [] [e = if l.all (inB 9) = true then 0 else 1], [(3, .ex Nat fun i => .st { sl := [(3, ival i)], good := [i ≤ l.length, (l.take i).all (inB 9) = true], m := l.length - i })])
  | _ => none
theorem v106 : VI G1 Try.f106 [some I64] D106 := by
  refine vi_of fun a => ?_
  unfold D106
  split
  rotate_left
  · trivial
  rename_i l
  intro hp
  refine vcq (A := (∃ (a : Nat), (0 : Int) = (↑a : Int) ∧ a ≤ l.length ∧ (List.take a l).all (inB (9 : Int)) = true ∧ l.length - a < (1000000 : Nat)) ∧ ∀ (a : Nat), a ≤ l.length → (List.take a l).all (inB (9 : Int)) = true → vcIf (decide ((↑a : Int) < (↑l.length : Int))) (((0 : Int) ≤ (↑a : Int) ∧ (↑a : Int) < (↑l.length : Int)) ∧ vcIf (!decide ((0 : Int) ≤ l.getD a (0 : Int) ∧ l.getD a (0 : Int) ≤ (9 : Int))) (∃ (a : Int), (1 : Int) = a ∧ (a = if l.all (inB (9 : Int)) = true then (0 : Int) else (1 : Int)) ∧ True) (rng ((↑a : Int) + (1 : Int)) ∧ ∃ (a_3 : Nat), l = l ∧ (↑a : Int) + (1 : Int) = (↑a_3 : Int) ∧ a_3 ≤ l.length ∧ (List.take a_3 l).all (inB (9 : Int)) = true ∧ l.length - a_3 < l.length - a)) (∃ (a : Int), (0 : Int) = a ∧ (a = if l.all (inB (9 : Int)) = true then (0 : Int) else (1 : Int)) ∧ True)) (by kernel_rfl) ?_
  have h1 := hp.1
  simp only [vc_dec, vc_not, nil_e, rng, and_true, true_and, eq_self]
  refine ⟨⟨0, rfl, by omega, rfl, by omega⟩, fun i h2 h3 => ⟨fun h4 => ⟨by omega, fun h5 => ⟨by omega, i + 1, by omega, by omega, all_one (by omega) h3 (decide_eq_true h5), by omega⟩, fun h5 => ⟨1, rfl, ?_⟩⟩, fun h4 => ⟨0, rfl, ?_⟩⟩⟩
  · rw [not_all (i := i) (by omega) (decide_eq_false h5)]; rfl
  · rw [show i = l.length by omega, List.take_length] at h3
    rw [if_pos h3]
def G2 : Tbl := G1.addI 106 fun a => dS (D106 a)
def D91 : List TV → Dn
  | [.agg [.sl (.int .i64) au .no, .sl (.int .i64) al .no, .val (.int .i64 aw), .sl (.int .i64) aq .no]] => some ([Sh au al aq], .res (ival (chk au al aw aq)) [] [], [(29, .ex Nat fun i => .st { sl := [(5, ival i)], good := [i ≤ aq.length, lieE aq 0 = lieE aq i], m := aq.length - i })])
  | _ => none
theorem v91 : VI G2 Try.f91 [some I64] D91 := by
  refine vi_of fun a => ?_
  unfold D91
  split
  rotate_left
  · trivial
  rename_i u l w ls
  intro hp
  change List Int at u l ls
  refine vcq (A := vcIf (decide ((↑u.length : Int) < (3 : Int))) ((7 : Int) = chk u l w ls ∧ True) (vcIf (decide ((↑u.length : Int) > (8 : Int))) ((6 : Int) = chk u l w ls ∧ True) (vcIf (decide ((↑l.length : Int) < (↑u.length : Int))) ((7 : Int) = chk u l w ls ∧ True) (vcIf (decide ((↑l.length : Int) > (↑u.length : Int))) ((6 : Int) = chk u l w ls ∧ True) (u.length ≤ (1000 : Nat) ∧ ∀ (a : Int), (a = if u.all (inB (9 : Int)) = true then (0 : Int) else (1 : Int)) → vcIf (a != (0 : Int)) (a = chk u l w ls ∧ True) (l.length ≤ (1000 : Nat) ∧ ∀ (a : Int), (a = if l.all (inB (9 : Int)) = true then (0 : Int) else (1 : Int)) → vcIf (a != (0 : Int)) (a = chk u l w ls ∧ True) (vcIf (!decide ((0 : Int) ≤ w ∧ w ≤ (2 : Int))) ((1 : Int) = chk u l w ls ∧ True) (vcIf ((↑ls.length : Int) == (0 : Int)) ((7 : Int) = chk u l w ls ∧ True) ((∃ (a : Nat), (0 : Int) = (↑a : Int) ∧ a ≤ ls.length ∧ lieE ls (0 : Nat) = lieE ls a ∧ ls.length - a < (1000000 : Nat)) ∧ ∀ (a : Nat), a ≤ ls.length → lieE ls (0 : Nat) = lieE ls a → vcIf (decide ((↑a : Int) < (↑ls.length : Int))) (((0 : Int) ≤ (↑a : Int) ∧ (↑a : Int) < (↑ls.length : Int)) ∧ vcIf (!decide ((0 : Int) ≤ ls.getD a (0 : Int) ∧ ls.getD a (0 : Int) ≤ (3 : Int))) ((8 : Int) = chk u l w ls ∧ True) (vcIf (decide ((↑a : Int) > (0 : Int))) (((0 : Int) ≤ (↑a : Int) ∧ (↑a : Int) < (↑ls.length : Int)) ∧ rng ((↑a : Int) - (1 : Int)) ∧ ((0 : Int) ≤ (↑a : Int) - (1 : Int) ∧ (↑a : Int) - (1 : Int) < (↑ls.length : Int)) ∧ vcIf (decide (ls.getD a (0 : Int) ≤ ls.getD ((↑a : Int) - (1 : Int)).toNat (0 : Int))) ((5 : Int) = chk u l w ls ∧ True) (rng ((↑a : Int) + (1 : Int)) ∧ ∃ (a_5 : Nat), (↑a : Int) + (1 : Int) = (↑a_5 : Int) ∧ u = u ∧ l = l ∧ w = w ∧ ls = ls ∧ a_5 ≤ ls.length ∧ lieE ls (0 : Nat) = lieE ls a_5 ∧ ls.length - a_5 < ls.length - a)) (rng ((↑a : Int) + (1 : Int)) ∧ ∃ (a_5 : Nat), (↑a : Int) + (1 : Int) = (↑a_5 : Int) ∧ u = u ∧ l = l ∧ w = w ∧ ls = ls ∧ a_5 ≤ ls.length ∧ lieE ls (0 : Nat) = lieE ls a_5 ∧ ls.length - a_5 < ls.length - a))) ((0 : Int) = chk u l w ls ∧ True)))))))))) (by kernel_rfl) ?_
  obtain ⟨h1, h2, h3⟩ := hp.1
  simp only [vc_dec, vc_beq, vc_bne, vc_not, nil_e, rng, and_true, true_and, eq_self]
  refine ⟨fun a1 => ?_, fun a1 => ⟨fun a2 => ?_, fun a2 => ⟨fun a3 => ?_, fun a3 => ⟨fun a4 => ?_, fun a4 => ⟨by omega, fun e he => ?_⟩⟩⟩⟩⟩
  · rw [chk, if_pos (by omega)]
  · rw [chk, if_neg (by omega), if_pos (by omega)]
  · rw [chk, if_neg (by omega), if_neg (by omega), if_pos (by omega)]
  · rw [chk, if_neg (by omega), if_neg (by omega), if_neg (by omega), if_pos (by omega)]
  have e1 : ∀ (_ : u.all (inB 9) = false ∨ l.all (inB 9) = false ∨ w < 0 ∨ 2 < w), chk u l w ls = 1 := fun h => by rw [chk, if_neg (by omega), if_neg (by omega), if_neg (by omega), if_neg (by omega), if_pos h]
  cases b1 : u.all (inB 9) with
  | false => rw [b1] at he; subst he; exact ⟨fun h => absurd h (by decide), fun _ => (e1 (.inl b1)).symm⟩
  | true =>
  rw [b1] at he; subst he
  refine ⟨fun _ => ⟨by omega, fun e he => ?_⟩, fun h => absurd rfl h⟩
  cases b2 : l.all (inB 9) with
  | false => rw [b2] at he; subst he; exact ⟨fun h => absurd h (by decide), fun _ => (e1 (.inr (.inl b2))).symm⟩
  | true =>
  rw [b2] at he; subst he
  refine ⟨fun _ => ⟨fun b5 => ⟨fun b6 => ?_, fun b6 => ?_⟩, fun b5 => (e1 (by omega)).symm⟩, fun h => absurd rfl h⟩
  · rw [chk, if_neg (by omega), if_neg (by omega), if_neg (by omega), if_neg (by omega), if_neg (by rw [b1, b2]; simp; omega), if_pos (by omega)]
  have e : chk u l w ls = lieE ls 0 := chk_lie (by omega) (by omega) (by omega) (by omega) (by rw [b1]; rfl) (by rw [b2]; rfl) (by omega) (by omega) (by omega)
  rw [e]
  refine ⟨⟨0, rfl, by omega, rfl, by omega⟩, fun i k1 k2 => ⟨fun k3 => ⟨by omega, fun k4 => ⟨fun k5 => ⟨by omega, by omega, by omega, fun k6 => ?_, fun k6 => ⟨by omega, i + 1, by omega, by omega, k2.trans (lie_next (by omega) (by omega) ?_), by omega⟩⟩, fun k5 => ⟨by omega, i + 1, by omega, by omega, k2.trans (lie_next (by omega) (by omega) (by omega)), by omega⟩⟩, fun k4 => ?_⟩, fun k3 => ?_⟩⟩
  · rw [k2, lie_5 (by omega) (by omega) ⟨by omega, by rw [show i - 1 = ((i : Int) - 1).toNat by omega]; exact k6⟩]
  · rw [show i - 1 = ((i : Int) - 1).toNat by omega]; exact fun h => k6 h.2
  · rw [k2, lie_8 (by omega) (by omega)]
  · rw [k2, lie_0 (by omega)]
def G3 : Tbl := G2.addI 91 fun a => dS (D91 a)
theorem chkL_pair (p q : PD) : chkL [p, q] = if chkP p ≠ 0 then chkP p else chkP q := by
  simp only [chkL]
  split
  · rfl
  · split
    · rfl
    · rename_i h; exact (Decidable.not_not.1 h).symm
def D61 : List TV → Dn
  | [.agg [.sl (.int .i64) au .no, .sl (.int .i64) al .no, .val (.int .i64 aw), .sl (.int .i64) aq .no], .agg [.sl (.int .i64) bu .no, .sl (.int .i64) bl .no, .val (.int .i64 bw), .sl (.int .i64) bq .no]] => some ([Sh au al aq, Sh bu bl bq], .ex Int fun e => .res (ival e) [] [e = chkL [pd au al aw aq, pd bu bl bw bq]], [])
  | _ => none
theorem v61 : VI G3 Try.f61 [some I64] D61 := by
  refine vi_of fun a => ?_
  unfold D61
  split
  rotate_left
  · trivial
  rename_i u l w ls u2 l2 w2 ls2
  intro hp
  refine vcq (A := Sh u l ls ∧ vcIf (chk u l w ls != (0 : Int)) (∃ (a : Int), chk u l w ls = a ∧ a = chkL [pd u l w ls, pd u2 l2 w2 ls2] ∧ True) (Sh u2 l2 ls2 ∧ ∃ (a : Int), chk u2 l2 w2 ls2 = a ∧ a = chkL [pd u l w ls, pd u2 l2 w2 ls2] ∧ True)) (by kernel_rfl) ?_
  obtain ⟨h1, h2, -⟩ := hp
  rw [chkL_pair]
  simp only [vc_bne]
  refine ⟨h1, fun e => ⟨h2, _, rfl, (if_neg (fun h => h e)).symm, trivial⟩, fun e => ⟨_, rfl, (if_pos e).symm, trivial⟩⟩
def colK (la ub : List Int) (s : Int) (i k : Nat) : List Int := if 0 ≤ (i : Int) + s ∧ (i : Int) + s < k then colL la ub s i ++ [ub.getD i 0 + la.getD ((i : Int) + s).toNat 0] else colL la ub s i
def withN (te : List TV) (i : Nat) (k : Nat → LA) : LA :=
  match te.getD i .unk with
  | .val (.int .i64 n) => k n.toNat
  | _ => .un 0
def D62 : List TV → Dn
  | [.agg [.sl (.int .i64) au .no, .sl (.int .i64) al .no, .val (.int .i64 aw), .sl (.int .i64) aq .no], .agg [.sl (.int .i64) bu .no, .sl (.int .i64) bl .no, .val (.int .i64 bw), .sl (.int .i64) bq .no], .val (.int .i64 s)] => some ([al.length ≤ 1000, bu.length ≤ 1000, inH al, inH bu], .res (.sl I64 (colL al bu s bu.length) .no) [] [],
    [(4, .ex Nat fun i => .st { sl := [(7, .sl I64 (colL al bu s i) (.lab 2)), (8, ival i)], own := [(3, 1)], good := [i ≤ bu.length], m := bu.length - i }),
     (9, .dep fun te _ => withN te 8 fun i => .ex Nat fun k => .st { sl := [(7, .sl I64 (colK al bu s i k) (.lab 2)), (9, ival k)], good := [k ≤ al.length], m := al.length - k })])
  | _ => none
theorem v62 : VI T0 Try.f62 [some IntsT] D62 := by
  refine vi_of fun a => ?_
  unfold D62
  split
  rotate_left
  · trivial
  rename_i u l w ls u2 l2 w2 ls2 s
  intro hp
  refine vcq (A := (∃ (a : Nat), [] = colL l u2 s a ∧ (0 : Int) = (↑a : Int) ∧ a ≤ u2.length ∧ u2.length - a < (1000000 : Nat)) ∧ ∀ (a : Nat), a ≤ u2.length → vcIf (decide ((↑a : Int) < (↑u2.length : Int))) ((∃ (a_2 : Nat), colL l u2 s a = colK l u2 s a a_2 ∧ (0 : Int) = (↑a_2 : Int) ∧ a_2 ≤ l.length ∧ l.length - a_2 < (1000000 : Nat)) ∧ ∀ (a_2 : Nat), a_2 ≤ l.length → vcIf (decide ((↑a_2 : Int) < (↑l.length : Int))) (rng ((↑a_2 : Int) - (↑a : Int)) ∧ vcIf ((↑a_2 : Int) - (↑a : Int) == s) (((0 : Int) ≤ (↑a_2 : Int) ∧ (↑a_2 : Int) < (↑l.length : Int)) ∧ ((0 : Int) ≤ (↑a : Int) ∧ (↑a : Int) < (↑u2.length : Int)) ∧ rng (l.getD a_2 (0 : Int) + u2.getD a (0 : Int)) ∧ (colK l u2 s a a_2).length + (1 : Nat) ≤ (1000000000 : Nat) ∧ rng ((↑a_2 : Int) + (1 : Int)) ∧ ∃ (a_4 : Nat), s = s ∧ nilE I64.den ∧ colK l u2 s a a_2 ++ [l.getD a_2 (0 : Int) + u2.getD a (0 : Int)] = colK l u2 s a a_4 ∧ (↑a : Int) = (↑a : Int) ∧ (↑a_2 : Int) + (1 : Int) = (↑a_4 : Int) ∧ (↑a : Int) = (↑a : Int) ∧ u2 = u2 ∧ (↑u2.length : Int) = (↑u2.length : Int) ∧ true = true ∧ u = u ∧ l = l ∧ w = w ∧ ls = ls ∧ u2 = u2 ∧ l2 = l2 ∧ w2 = w2 ∧ ls2 = ls2 ∧ a_4 ≤ l.length ∧ l.length - a_4 < l.length - a_2) (rng ((↑a_2 : Int) + (1 : Int)) ∧ ∃ (a_4 : Nat), s = s ∧ nilE I64.den ∧ colK l u2 s a a_2 = colK l u2 s a a_4 ∧ (↑a : Int) = (↑a : Int) ∧ (↑a_2 : Int) + (1 : Int) = (↑a_4 : Int) ∧ (↑a : Int) = (↑a : Int) ∧ u2 = u2 ∧ (↑u2.length : Int) = (↑u2.length : Int) ∧ true = true ∧ u = u ∧ l = l ∧ w = w ∧ ls = ls ∧ u2 = u2 ∧ l2 = l2 ∧ w2 = w2 ∧ ls2 = ls2 ∧ a_4 ≤ l.length ∧ l.length - a_4 < l.length - a_2)) (rng ((↑a : Int) + (1 : Int)) ∧ ∃ (a_4 : Nat), s = s ∧ nilE I64.den ∧ colK l u2 s a a_2 = colL l u2 s a_4 ∧ (↑a : Int) + (1 : Int) = (↑a_4 : Int) ∧ u = u ∧ l = l ∧ w = w ∧ ls = ls ∧ u2 = u2 ∧ l2 = l2 ∧ w2 = w2 ∧ ls2 = ls2 ∧ a_4 ≤ u2.length ∧ u2.length - a_4 < u2.length - a)) (colL l u2 s a = colL l u2 s u2.length ∧ True)) (by kernel_rfl) ?_
  obtain ⟨h1, h2, h3, h4, -⟩ := hp
  change List Int at l u2
  simp only [vc_dec, vc_beq, vc_bne, vc_not, nil_e, rng, and_true, true_and, eq_self]
  refine ⟨⟨0, rfl, by omega, by omega, by omega⟩, fun i k1 => ⟨fun k2 => ⟨⟨0, by rw [colK, if_neg (by omega)], by omega, by omega, by omega⟩, fun k k3 => ⟨fun k4 => ⟨by omega, fun k5 => ⟨by omega, by omega, ?_, ?_, by omega, k + 1, ?_, by omega, by omega, by omega⟩, fun k5 => ⟨by omega, k + 1, ?_, by omega, by omega, by omega⟩⟩, fun k4 => ⟨by omega, i + 1, ?_, by omega, by omega, by omega⟩⟩⟩, fun k2 => ?_⟩⟩
  · have := inH_at h3 (i := k) (by omega)
    have := inH_at h4 (i := i) (by omega)
    omega
  · have := colL_le l u2 s i
    rw [colK, if_neg (by omega)]; omega
  · rw [colK, if_neg (by omega), colK, if_pos (by omega), show ((i : Int) + s).toNat = k by omega, Int.add_comm]
  · by_cases h : 0 ≤ (i : Int) + s ∧ (i : Int) + s < k
    · rw [colK, if_pos h, colK, if_pos (by omega)]
    · rw [colK, if_neg h, colK, if_neg (by omega)]
  · rw [show k = l.length by omega]; rfl
  · rw [show i = u2.length by omega]
def D64 : List TV → Dn
  | [.sl (.int .i64) l .no] => some ([0 < l.length, l.length ≤ 1000], .res (.tup [ival (stF l).1, ival (stF l).2.1]) [] [],
    [(4, .ex Nat fun i => .ex Int fun lo => .ex Int fun hi => .st { sl := [(4, ival lo), (5, ival hi), (6, ival i)], good := [i ≤ l.length, 0 < i, stF (l.take i) = (lo, hi, (i : Int))], m := l.length - i })])
  | _ => none
theorem v64 : VI T0 Try.f64 [some I64, some I64] D64 := by
  refine vi_of fun a => ?_
  unfold D64
  split
  rotate_left
  · trivial
  rename_i l
  intro hp
  refine vcq (A := ((0 : Int) ≤ (0 : Int) ∧ (0 : Int) < (↑l.length : Int)) ∧ ((0 : Int) ≤ (0 : Int) ∧ (0 : Int) < (↑l.length : Int)) ∧ (∃ (a : Nat), ∃ (a_1 : Int), ∃ (a_2 : Int), l.getD (0 : Nat) (0 : Int) = a_1 ∧ l.getD (0 : Nat) (0 : Int) = a_2 ∧ (1 : Int) = (↑a : Int) ∧ a ≤ l.length ∧ (0 : Nat) < a ∧ stF (List.take a l) = (a_1, a_2, (↑a : Int)) ∧ l.length - a < (1000000 : Nat)) ∧ ∀ (a : Nat) (a_1 a_2 : Int), a ≤ l.length → (0 : Nat) < a → stF (List.take a l) = (a_1, a_2, (↑a : Int)) → vcIf (decide ((↑a : Int) < (↑l.length : Int))) (((0 : Int) ≤ (↑a : Int) ∧ (↑a : Int) < (↑l.length : Int)) ∧ ((0 : Int) ≤ (↑a : Int) ∧ (↑a : Int) < (↑l.length : Int)) ∧ rng ((↑a : Int) + (1 : Int)) ∧ ∃ (a_6 : Nat), ∃ (a_7 : Int), ∃ (a_8 : Int), l = l ∧ (0 : Int) = (0 : Int) ∧ (0 : Int) = (0 : Int) ∧ (if l.getD a (0 : Int) < a_1 then l.getD a (0 : Int) else a_1) = a_7 ∧ (if l.getD a (0 : Int) > a_2 then l.getD a (0 : Int) else a_2) = a_8 ∧ (↑a : Int) + (1 : Int) = (↑a_6 : Int) ∧ a_6 ≤ l.length ∧ (0 : Nat) < a_6 ∧ stF (List.take a_6 l) = (a_7, a_8, (↑a_6 : Int)) ∧ l.length - a_6 < l.length - a) (a_1 = (stF l).fst ∧ a_2 = (stF l).snd.fst ∧ True)) (by kernel_rfl) ?_
  obtain ⟨h1, h2, -⟩ := hp
  change List Int at l
  simp only [vc_dec, vc_beq, vc_bne, vc_not, nil_e, rng, and_true, true_and, eq_self]
  refine ⟨by omega, by omega, ⟨1, _, _, rfl, rfl, rfl, by omega, by omega, ?_, by omega⟩, fun i lo hi k1 k2 k3 => ⟨fun k4 => ⟨by omega, by omega, by omega, i + 1, _, _, rfl, rfl, by omega, by omega, by omega, ?_, by omega⟩, fun k4 => ?_⟩⟩
  · obtain ⟨x, m, rfl⟩ : ∃ x m, l = x :: m := by cases l with
      | nil => exact absurd h1 (by decide)
      | cons x m => exact ⟨x, m, rfl⟩
    rw [List.take_one]; simp [stF, stS]
  · rw [take_one (by omega), stF_snoc' k3 (by omega)]; simp
  · rw [show i = l.length by omega, List.take_length] at k3
    rw [k3]; exact ⟨rfl, rfl⟩
def G4 : Tbl := (T0.addI 62 fun a => dS (D62 a)).addI 64 fun a => dS (D64 a)
def D63 : List TV → Dn
  | [.agg [.sl (.int .i64) au .no, .sl (.int .i64) al .no, .val (.int .i64 aw), .sl (.int .i64) aq .no], .agg [.sl (.int .i64) bu .no, .sl (.int .i64) bl .no, .val (.int .i64 bw), .sl (.int .i64) bq .no], .val (.int .i64 s)] => some ([al.length ≤ 1000, bu.length ≤ 1000, inH al, inH bu, 0 ≤ aw, aw ≤ 2, 0 ≤ bw, bw ≤ 2], .res (bval (fitsAt al bu (aw + bw) s)) [] [], [])
  | _ => none
theorem v63 : VI G4 Try.f63 [some .bool] D63 := by
  refine vi_of fun a => ?_
  unfold D63
  split
  rotate_left
  · trivial
  rename_i u l w ls u2 l2 w2 ls2 s
  intro hp
  refine vcq (A := l.length ≤ (1000 : Nat) ∧ u2.length ≤ (1000 : Nat) ∧ inH l ∧ inH u2 ∧ vcIf (decide ((↑(colL l u2 s u2.length).length : Int) < (3 : Int))) (false = fitsAt l u2 (w + w2) s ∧ True) ((0 : Nat) < (colL l u2 s u2.length).length ∧ (colL l u2 s u2.length).length ≤ (1000 : Nat) ∧ rng ((stF (colL l u2 s u2.length)).snd.fst - (stF (colL l u2 s u2.length)).fst) ∧ rng (w + w2) ∧ decide ((stF (colL l u2 s u2.length)).snd.fst - (stF (colL l u2 s u2.length)).fst ≤ w + w2) = fitsAt l u2 (w + w2) s ∧ True)) (by kernel_rfl) ?_
  obtain ⟨h1, h2, h3, h4, w1, w2', w3, w4, -⟩ := hp
  have e := stF_len (colL l u2 s u2.length)
  have b := stA_in s h3 h4
  unfold stA at b
  have := colL_le l u2 s u2.length
  simp only [vc_dec, vc_beq, vc_bne, vc_not, nil_e, rng, and_true, true_and, eq_self]
  refine ⟨by omega, by omega, h3, h4, fun k => ?_, fun k => ⟨by omega, by omega, by omega, by omega, ?_⟩⟩
  · rw [fitsAt, eq_comm, decide_eq_false_iff_not]; omega
  · rw [fitsAt, decide_eq_decide]; omega
def G5 : Tbl := (((G3.addI 61 fun a => dS (D61 a)).addI 62 fun a => dS (D62 a)).addI 63 fun a => dS (D63 a)).addI 64 fun a => dS (D64 a)
def D22 : List TV → Dn
  | [.agg [.sl (.int .i64) au .no, .sl (.int .i64) al .no, .val (.int .i64 aw), .sl (.int .i64) aq .no], .agg [.sl (.int .i64) bu .no, .sl (.int .i64) bl .no, .val (.int .i64 bw), .sl (.int .i64) bq .no], .val (.int .i64 s)] => some ([Sh au al aq, Sh bu bl bq],
    .ex (Int × Int × Int) fun x => .res (.tup [.agg [ival x.1, ival x.2.1], ival x.2.2]) [] [x = if chkL [pd au al aw aq, pd bu bl bw bq] = 0 then fitR al bu (aw + bw) s else (0, 0, chkL [pd au al aw aq, pd bu bl bw bq])], [])
  | _ => none
theorem v22 : VI G5 Try.f22 [some RangeT, some I64] D22 := by
  refine vi_of fun a => ?_
  unfold D22
  split
  rotate_left
  · trivial
  rename_i ua la wa lsa ub lb wb lsb s
  intro hp
  refine vcq (A := Sh ua la lsa ∧ Sh ub lb lsb ∧ ∀ (a : Int), a = chkL [pd ua la wa lsa, pd ub lb wb lsb] → vcIf (a != (0 : Int)) (∃ (a_2 : Int × Int × Int), (0 : Int) = a_2.fst ∧ (0 : Int) = a_2.snd.fst ∧ a = a_2.snd.snd ∧ (a_2 = if chkL [pd ua la wa lsa, pd ub lb wb lsb] = (0 : Int) then fitR la ub (wa + wb) s else ((0 : Int), (0 : Int), chkL [pd ua la wa lsa, pd ub lb wb lsb])) ∧ True) (la.length ≤ (1000 : Nat) ∧ ub.length ≤ (1000 : Nat) ∧ inH la ∧ inH ub ∧ vcIf (decide ((↑(colL la ub s ub.length).length : Int) < (3 : Int))) (∃ (a : Int × Int × Int), (0 : Int) = a.fst ∧ (0 : Int) = a.snd.fst ∧ (7 : Int) = a.snd.snd ∧ (a = if chkL [pd ua la wa lsa, pd ub lb wb lsb] = (0 : Int) then fitR la ub (wa + wb) s else ((0 : Int), (0 : Int), chkL [pd ua la wa lsa, pd ub lb wb lsb])) ∧ True) (la.length ≤ (1000 : Nat) ∧ ub.length ≤ (1000 : Nat) ∧ inH la ∧ inH ub ∧ (0 : Int) ≤ wa ∧ wa ≤ (2 : Int) ∧ (0 : Int) ≤ wb ∧ wb ≤ (2 : Int) ∧ vcIf (!fitsAt la ub (wa + wb) s) (∃ (a : Int × Int × Int), (0 : Int) = a.fst ∧ (0 : Int) = a.snd.fst ∧ (11 : Int) = a.snd.snd ∧ (a = if chkL [pd ua la wa lsa, pd ub lb wb lsb] = (0 : Int) then fitR la ub (wa + wb) s else ((0 : Int), (0 : Int), chkL [pd ua la wa lsa, pd ub lb wb lsb])) ∧ True) ((0 : Nat) < (colL la ub s ub.length).length ∧ (colL la ub s ub.length).length ≤ (1000 : Nat) ∧ rng ((stF (colL la ub s ub.length)).fst + wa) ∧ rng ((stF (colL la ub s ub.length)).fst + wa + wb) ∧ ∃ (a : Int × Int × Int), (stF (colL la ub s ub.length)).snd.fst = a.fst ∧ (stF (colL la ub s ub.length)).fst + wa + wb = a.snd.fst ∧ (0 : Int) = a.snd.snd ∧ (a = if chkL [pd ua la wa lsa, pd ub lb wb lsb] = (0 : Int) then fitR la ub (wa + wb) s else ((0 : Int), (0 : Int), chkL [pd ua la wa lsa, pd ub lb wb lsb])) ∧ True)))) (by kernel_rfl) ?_
  obtain ⟨h1, h2, -⟩ := hp
  simp only [vc_dec, vc_beq, vc_bne, vc_not, nil_e, rng, and_true, true_and, eq_self]
  refine ⟨h1, h2, fun e he => ⟨fun e0 => ?_, fun e0 => ⟨(0, 0, e), rfl, rfl, rfl, by rw [if_neg (by omega), he]⟩⟩⟩
  obtain ⟨o1, o2⟩ := chkL_two (he.symm.trans e0)
  have b := stA_in s o1.hl o2.hu
  unfold stA at b
  have := colL_le la ub s ub.length
  have e := stF_len (colL la ub s ub.length)
  have := o1.num
  have := o2.num
  rw [if_pos (he.symm.trans e0)]
  refine ⟨by omega, by omega, o1.hl, o2.hu, fun k1 => ⟨(0, 0, 7), rfl, rfl, rfl, by rw [fitR, if_pos (by unfold stA; omega)]⟩, fun k1 => ⟨by omega, by omega, o1.hl, o2.hu, by omega, by omega, by omega, by omega, ?_⟩⟩
  rw [vc_iff]
  simp only [fitsAt, decide_eq_true_eq, decide_eq_false_iff_not]
  refine ⟨fun k2 => ⟨by omega, by omega, by omega, by omega, (_, _, 0), rfl, rfl, rfl, by rw [fitR, if_neg (by unfold stA; omega), if_neg (by unfold stA; omega), Int.add_assoc]⟩, fun k2 => ⟨(0, 0, 11), rfl, rfl, rfl, by rw [fitR, if_neg (by unfold stA; omega), if_pos (by unfold stA; omega)]⟩⟩
def shK (la ub : List Int) (w : Int) (k : Nat) : List Int := ((List.range k).map fun (j : Nat) => (j : Int) - 8).filter (fitsAt la ub w)
theorem shK_yes {la ub : List Int} {w : Int} {k : Nat} (h : fitsAt la ub w ((k : Int) - 8) = true) : shK la ub w k ++ [(k : Int) - 8] = shK la ub w (k + 1) := by
  simp [shK, List.range_succ, h]
theorem shK_no {la ub : List Int} {w : Int} {k : Nat} (h : fitsAt la ub w ((k : Int) - 8) = false) : shK la ub w k = shK la ub w (k + 1) := by
  simp [shK, List.range_succ, h]
theorem shK_le (la ub : List Int) (w : Int) (k : Nat) : (shK la ub w k).length ≤ k := by
  refine Nat.le_trans (List.length_filter_le _ _) ?_
  simp
theorem fits_low {la ub : List Int} {w s : Int} (h : s ≤ -(ub.length : Int) ∨ (la.length : Int) ≤ s) : fitsAt la ub w s = false := by
  rw [fitsAt, colL_none h, decide_eq_false_iff_not]
  exact fun h => absurd h.1 (by decide)
theorem shK_sh {la ub : List Int} {w : Int} (h1 : la.length ≤ 8) (h2 : ub.length ≤ 8) : shK la ub w 17 = shL la ub w (ub.length + la.length + 1) := by
  have e : (17 : Nat) = (8 - ub.length) + ((ub.length + la.length + 1) + (8 - la.length)) := by omega
  have e0 : ∀ (l : List Int), (∀ s ∈ l, fitsAt la ub w s = false) → l.filter (fitsAt la ub w) = [] := fun l h => List.filter_eq_nil_iff.2 fun s hs => by rw [h s hs]; decide
  have f1 : ((List.range (8 - ub.length)).map fun (j : Nat) => (j : Int) - 8).filter (fitsAt la ub w) = [] := e0 _ fun s hs => by
    simp only [List.mem_map, List.mem_range] at hs
    obtain ⟨j, hj, rfl⟩ := hs
    exact fits_low (.inl (by omega))
  have f2 : ((List.range (8 - la.length)).map fun (j : Nat) => (((8 - ub.length) + ((ub.length + la.length + 1) + j) : Nat) : Int) - 8).filter (fitsAt la ub w) = [] := e0 _ fun s hs => by
    simp only [List.mem_map, List.mem_range] at hs
    obtain ⟨j, hj, rfl⟩ := hs
    exact fits_low (.inr (by omega))
  rw [shK, e, List.range_add, List.range_add]
  simp only [List.map_append, List.filter_append, List.map_map, Function.comp_def]
  rw [f1, f2, List.nil_append, List.append_nil, shL]
  congr 1
  refine List.map_congr_left fun j _ => ?_
  omega
def D66 : List TV → Dn
  | [.agg [.sl (.int .i64) au .no, .sl (.int .i64) al .no, .val (.int .i64 aw), .sl (.int .i64) aq .no], .agg [.sl (.int .i64) bu .no, .sl (.int .i64) bl .no, .val (.int .i64 bw), .sl (.int .i64) bq .no]] => some ([Ok au al aw aq, Ok bu bl bw bq], .res (.sl I64 (shL al bu (aw + bw) (bu.length + al.length + 1)) .no) [] [],
    [(4, .ex Nat fun k => .st { sl := [(5, .sl I64 (shK al bu (aw + bw) k) (.lab 2)), (6, ival ((k : Int) - 8))], own := [(3, 1)], good := [k ≤ 17], m := 17 - k })])
  | _ => none
theorem v66 : VI G5 Try.f66 [some IntsT] D66 := by
  refine vi_of fun a => ?_
  unfold D66
  split
  rotate_left
  · trivial
  rename_i u l w ls u2 l2 w2 ls2
  intro hp
  refine vcq (A := (∃ (a : Nat), [] = shK l u2 (w + w2) a ∧ (-8 : Int) = (↑a : Int) - (8 : Int) ∧ a ≤ (17 : Nat) ∧ (17 : Nat) - a < (1000000 : Nat)) ∧ ∀ (a : Nat), a ≤ (17 : Nat) → vcIf (decide ((↑a : Int) - (8 : Int) ≤ (8 : Int))) (l.length ≤ (1000 : Nat) ∧ u2.length ≤ (1000 : Nat) ∧ inH l ∧ inH u2 ∧ (0 : Int) ≤ w ∧ w ≤ (2 : Int) ∧ (0 : Int) ≤ w2 ∧ w2 ≤ (2 : Int) ∧ vcIf (fitsAt l u2 (w + w2) ((↑a : Int) - (8 : Int))) ((shK l u2 (w + w2) a).length + (1 : Nat) ≤ (1000000000 : Nat) ∧ rng ((↑a : Int) - (8 : Int) + (1 : Int)) ∧ ∃ (a_2 : Nat), nilE I64.den ∧ shK l u2 (w + w2) a ++ [(↑a : Int) - (8 : Int)] = shK l u2 (w + w2) a_2 ∧ (↑a : Int) - (8 : Int) + (1 : Int) = (↑a_2 : Int) - (8 : Int) ∧ u = u ∧ l = l ∧ w = w ∧ ls = ls ∧ u2 = u2 ∧ l2 = l2 ∧ w2 = w2 ∧ ls2 = ls2 ∧ a_2 ≤ (17 : Nat) ∧ (17 : Nat) - a_2 < (17 : Nat) - a) (rng ((↑a : Int) - (8 : Int) + (1 : Int)) ∧ ∃ (a_2 : Nat), nilE I64.den ∧ shK l u2 (w + w2) a = shK l u2 (w + w2) a_2 ∧ (↑a : Int) - (8 : Int) + (1 : Int) = (↑a_2 : Int) - (8 : Int) ∧ u = u ∧ l = l ∧ w = w ∧ ls = ls ∧ u2 = u2 ∧ l2 = l2 ∧ w2 = w2 ∧ ls2 = ls2 ∧ a_2 ≤ (17 : Nat) ∧ (17 : Nat) - a_2 < (17 : Nat) - a)) (shK l u2 (w + w2) a = shL l u2 (w + w2) (u2.length + l.length + (1 : Nat)) ∧ True)) (by kernel_rfl) ?_
  obtain ⟨h1, h2, -⟩ := hp
  have n1 := h1.num
  have n2 := h2.num
  simp only [vc_dec, vc_beq, vc_bne, vc_not, nil_e, rng, and_true, true_and, eq_self]
  refine ⟨⟨0, rfl, by omega, by omega, by omega⟩, fun k k1 => ⟨fun k2 => ⟨by omega, by omega, h1.hl, h2.hu, by omega, by omega, by omega, by omega, ?_⟩, fun k2 => ?_⟩⟩
  · have := shK_le l u2 (w + w2) k
    rw [vc_iff]
    refine ⟨fun f => ⟨by omega, by omega, k + 1, shK_yes f, by omega, by omega, by omega⟩, fun f => ⟨by omega, k + 1, shK_no f, by omega, by omega, by omega⟩⟩
  · rw [show k = 17 by omega, shK_sh (by omega) (by omega)]
def G6 : Tbl := G5.addI 66 fun a => dS (D66 a)
def D24 : List TV → Dn
  | [.agg [.sl (.int .i64) au .no, .sl (.int .i64) al .no, .val (.int .i64 aw), .sl (.int .i64) aq .no], .agg [.sl (.int .i64) bu .no, .sl (.int .i64) bl .no, .val (.int .i64 bw), .sl (.int .i64) bq .no]] => some ([Sh au al aq, Sh bu bl bq],
    .ex (List Int) fun x => .ex Int fun e => .res (.tup [.sl I64 x .no, ival e]) [] [x = if chkL [pd au al aw aq, pd bu bl bw bq] = 0 then shL al bu (aw + bw) (bu.length + al.length + 1) else [], e = chkL [pd au al aw aq, pd bu bl bw bq]], [])
  | _ => none
theorem v24 : VI G6 Try.f24 [some IntsT, some I64] D24 := by
  refine vi_of fun a => ?_
  unfold D24
  split
  rotate_left
  · trivial
  rename_i ua la wa lsa ub lb wb lsb
  intro hp
  refine vcq (A := Sh ua la lsa ∧ Sh ub lb lsb ∧ ∀ (a : Int), a = chkL [pd ua la wa lsa, pd ub lb wb lsb] → vcIf (a != (0 : Int)) (∃ (a_2 : List Int), ∃ (a_3 : Int), [] = a_2 ∧ a = a_3 ∧ (a_2 = if chkL [pd ua la wa lsa, pd ub lb wb lsb] = (0 : Int) then shL la ub (wa + wb) (ub.length + la.length + (1 : Nat)) else []) ∧ a_3 = chkL [pd ua la wa lsa, pd ub lb wb lsb] ∧ True) (Ok ua la wa lsa ∧ Ok ub lb wb lsb ∧ ∃ (a : List Int), ∃ (a_2 : Int), shL la ub (wa + wb) (ub.length + la.length + (1 : Nat)) = a ∧ (0 : Int) = a_2 ∧ (a = if chkL [pd ua la wa lsa, pd ub lb wb lsb] = (0 : Int) then shL la ub (wa + wb) (ub.length + la.length + (1 : Nat)) else []) ∧ a_2 = chkL [pd ua la wa lsa, pd ub lb wb lsb] ∧ True)) (by kernel_rfl) ?_
  obtain ⟨h1, h2, -⟩ := hp
  simp only [vc_dec, vc_beq, vc_bne, vc_not, nil_e, rng, and_true, true_and, eq_self]
  refine ⟨h1, h2, fun e he => ⟨fun e0 => ?_, fun e0 => ⟨_, _, rfl, rfl, by rw [if_neg (by omega)], he⟩⟩⟩
  obtain ⟨o1, o2⟩ := chkL_two (he.symm.trans e0)
  exact ⟨o1, o2, _, _, rfl, rfl, by rw [if_pos (he.symm.trans e0)], by omega⟩
def s20 (p : PD) : Bool := decide (p.1.length ≤ 20 ∧ p.2.1.length ≤ 20 ∧ p.2.2.2.1.length ≤ 20)
theorem s20_one {l : List PD} {i : Nat} {d : PD} (h : i < l.length) (h1 : (l.take i).all s20 = true) (h2 : s20 (l.getD i d) = true) : (l.take (i + 1)).all s20 = true := by
  have e : l.getD i d = l[i] := by simp [List.getD_eq_getElem?_getD, h]
  rw [e] at h2
  rw [← List.take_append_getElem h, List.all_append, h1, List.all_cons, h2]; rfl
theorem s20_no {l : List PD} {i : Nat} {d : PD} (h : i < l.length) (h2 : s20 (l.getD i d) = false) : l.all s20 = false := by
  have e : l.getD i d = l[i] := by simp [List.getD_eq_getElem?_getD, h]
  rw [e] at h2
  refine Bool.eq_false_iff.2 fun h1 => ?_
  rw [List.all_eq_true.1 h1 _ (List.getElem_mem h)] at h2
  cases h2
def D18 : List TV → Dn
  | [.sl (.pair (.sl (.int .i64)) (.pair (.sl (.int .i64)) (.pair (.int .i64) (.pair (.sl (.int .i64)) .unit)))) l .no] => some ([], .ex Bool fun b => .res (bval b) [] [b = (decide (l.length ≤ 20) && l.all s20)], [(3, .ex Nat fun i => .st { sl := [(3, ival i)], good := [i ≤ l.length, i ≤ 20, (l.take i).all s20 = true], m := 20 - i })])
  | _ => none
theorem v18 : VI T0 Try.f18 [some .bool] D18 := by
  refine vi_of fun a => ?_
  unfold D18
  split
  rotate_left
  · trivial
  rename_i l
  intro hp
  refine vcq (A := (∃ (a : Nat), (0 : Int) = (↑a : Int) ∧ a ≤ l.length ∧ a ≤ (20 : Nat) ∧ (List.take a l).all s20 = true ∧ (20 : Nat) - a < (1000000 : Nat)) ∧ ∀ (a : Nat), a ≤ l.length → a ≤ (20 : Nat) → (List.take a l).all s20 = true → vcIf (decide ((↑a : Int) < (↑l.length : Int))) (vcIf (decide ((↑a : Int) < (20 : Int))) (((0 : Int) ≤ (↑a : Int) ∧ (↑a : Int) < (↑l.length : Int)) ∧ vcIf (decide ((↑(List.length (l.getD a ([], [], (0 : Int), [], ())).fst) : Int) > (20 : Int))) (∃ (a : Bool), false = a ∧ a = (decide (l.length ≤ (20 : Nat)) && l.all s20) ∧ True) (((0 : Int) ≤ (↑a : Int) ∧ (↑a : Int) < (↑l.length : Int)) ∧ vcIf (decide ((↑(List.length (l.getD a ([], [], (0 : Int), [], ())).snd.fst) : Int) > (20 : Int))) (∃ (a : Bool), false = a ∧ a = (decide (l.length ≤ (20 : Nat)) && l.all s20) ∧ True) (((0 : Int) ≤ (↑a : Int) ∧ (↑a : Int) < (↑l.length : Int)) ∧ vcIf (decide ((↑(List.length (l.getD a ([], [], (0 : Int), [], ())).snd.snd.snd.fst) : Int) > (20 : Int))) (∃ (a : Bool), false = a ∧ a = (decide (l.length ≤ (20 : Nat)) && l.all s20) ∧ True) (rng ((↑a : Int) + (1 : Int)) ∧ ∃ (a_4 : Nat), l = l ∧ (↑a : Int) + (1 : Int) = (↑a_4 : Int) ∧ a_4 ≤ l.length ∧ a_4 ≤ (20 : Nat) ∧ (List.take a_4 l).all s20 = true ∧ (20 : Nat) - a_4 < (20 : Nat) - a)))) (∃ (a : Bool), decide ((↑l.length : Int) ≤ (20 : Int)) = a ∧ a = (decide (l.length ≤ (20 : Nat)) && l.all s20) ∧ True)) (∃ (a : Bool), decide ((↑l.length : Int) ≤ (20 : Int)) = a ∧ a = (decide (l.length ≤ (20 : Nat)) && l.all s20) ∧ True)) (by kernel_rfl) ?_
  change List PD at l
  simp only [vc_dec, vc_beq, vc_bne, vc_not, nil_e, rng, and_true, true_and, eq_self]
  refine ⟨⟨0, rfl, by omega, by omega, rfl, by omega⟩, fun i k1 k2 k3 => ⟨fun k4 => ⟨fun k5 => ⟨by omega, fun k6 => ⟨_, rfl, ?_⟩, fun k6 => ⟨by omega, fun k7 => ⟨_, rfl, ?_⟩, fun k7 => ⟨by omega, fun k8 => ⟨_, rfl, ?_⟩, fun k8 => ⟨by omega, i + 1, by omega, by omega, by omega, s20_one (d := ([], [], 0, [], ())) (by omega) k3 (decide_eq_true ⟨by omega, by omega, by omega⟩), by omega⟩⟩⟩⟩, fun k5 => ⟨_, rfl, ?_⟩⟩, fun k4 => ⟨_, rfl, ?_⟩⟩⟩
  · rw [s20_no (i := i) (d := ([], [], 0, [], ())) (by omega) (decide_eq_false fun h => by omega), Bool.and_false]
  · rw [s20_no (i := i) (d := ([], [], 0, [], ())) (by omega) (decide_eq_false fun h => by omega), Bool.and_false]
  · rw [s20_no (i := i) (d := ([], [], 0, [], ())) (by omega) (decide_eq_false fun h => by omega), Bool.and_false]
  · rw [decide_eq_false (by omega), decide_eq_false (by omega)]; rfl
  · rw [show i = l.length by omega, List.take_length] at k3
    rw [k3, Bool.and_true, decide_eq_decide]; omega
def S58 : List TV → Sp
  | [.sl (.int .i64) l .no] => some ([l.length ≤ 1000], .res (.sl I64 l .no) [] [])
  | _ => none
def T0d : Tbl := T0.addI 58 S58
def D20 : List TV → Dn
  | [.agg [.sl (.int .i64) au .no, .sl (.int .i64) al .no, .val (.int .i64 aw), .sl (.int .i64) aq .no]] => some ([Sh au al aq], .res (pcV au al aw aq) [] [], [])
  | _ => none
theorem v20 : VI T0d Try.f20 [some PieceT] D20 := by
  refine vi_of fun a => ?_
  unfold D20
  split
  rotate_left
  · trivial
  rename_i u l w ls
  intro hp
  refine vcq (A := u.length ≤ (1000 : Nat) ∧ l.length ≤ (1000 : Nat) ∧ ls.length ≤ (1000 : Nat) ∧ u = u ∧ l = l ∧ w = w ∧ ls = ls ∧ True) (by kernel_rfl) ?_
  obtain ⟨h1, h2, h3⟩ := hp.1
  exact ⟨h1, h2, h3, rfl, rfl, rfl, rfl, trivial⟩
def D25 : List TV → Dn
  | [.sl (.int .i64) l .no, .sl (.int .i64) m .no] => some ([l.length ≤ 1000, m.length ≤ 1000], .res (bval (decide (l = m))) [] [], [(4, .ex Nat fun i => .ex Bool fun b => .st { sl := [(5, bval b), (6, ival i)], good := [i ≤ l.length, b = decide (l.length = m.length ∧ l.take i = m.take i)], m := l.length - i })])
  | _ => none
theorem v25 : VI T0 Try.f25 [some .bool] D25 := by
  refine vi_of fun a => ?_
  unfold D25
  split
  rotate_left
  · trivial
  rename_i l m
  intro hp
  refine vcq (A := (∃ (a : Nat), ∃ (a_1 : Bool), ((↑l.length : Int) == (↑m.length : Int)) = a_1 ∧ (0 : Int) = (↑a : Int) ∧ a ≤ l.length ∧ a_1 = decide (l.length = m.length ∧ List.take a l = List.take a m) ∧ l.length - a < (1000000 : Nat)) ∧ ∀ (a : Nat) (a_1 : Bool), a ≤ l.length → a_1 = decide (l.length = m.length ∧ List.take a l = List.take a m) → vcIf a_1 (vcIf (decide ((↑a : Int) < (↑l.length : Int))) (((0 : Int) ≤ (↑a : Int) ∧ (↑a : Int) < (↑l.length : Int)) ∧ ((0 : Int) ≤ (↑a : Int) ∧ (↑a : Int) < (↑m.length : Int)) ∧ rng ((↑a : Int) + (1 : Int)) ∧ ∃ (a_4 : Nat), ∃ (a_5 : Bool), l = l ∧ m = m ∧ false = false ∧ (l.getD a (0 : Int) == m.getD a (0 : Int)) = a_5 ∧ (↑a : Int) + (1 : Int) = (↑a_4 : Int) ∧ a_4 ≤ l.length ∧ a_5 = decide (l.length = m.length ∧ List.take a_4 l = List.take a_4 m) ∧ l.length - a_4 < l.length - a) (a_1 = decide (l = m) ∧ True)) (a_1 = decide (l = m) ∧ True)) (by kernel_rfl) ?_
  obtain ⟨h1, h2, -⟩ := hp
  simp only [vc_dec, vc_beq, rng, and_true, true_and, eq_self]
  refine ⟨⟨0, _, rfl, rfl, by omega, ?_, by omega⟩, fun i b h3 h4 => ?_⟩
  · rw [Bool.eq_iff_iff]; simp; omega
  rw [vc_iff]
  subst h4
  simp only [decide_eq_true_eq, decide_eq_false_iff_not]
  refine ⟨fun h5 => ⟨fun h6 => ⟨by omega, by omega, by omega, i + 1, _, rfl, by omega, by omega, ?_, by omega⟩, fun h6 => ?_⟩, fun h5 => ?_⟩
  · rw [Bool.eq_iff_iff, decide_eq_true_eq, take_one (by omega), take_one (by omega), beq_iff_eq]
    refine ⟨fun h => ⟨h5.1, by rw [h5.2, h]⟩, fun h => ?_⟩
    have := List.append_inj_right' h.2 rfl
    simpa using this
  · rw [decide_eq_decide]
    have e1 := h5.2
    rw [List.take_of_length_le (by omega), List.take_of_length_le (by omega)] at e1
    exact ⟨fun _ => e1, fun h => h5⟩
  · rw [decide_eq_decide]
    exact ⟨fun h => absurd h h5, fun h => by subst h; exact absurd ⟨rfl, rfl⟩ h5⟩
def G7 : Tbl := T0.addI 25 fun a => dS (D25 a)
def D26 : List TV → Dn
  | [.agg [.sl (.int .i64) au .no, .sl (.int .i64) al .no, .val (.int .i64 aw), .sl (.int .i64) aq .no], .agg [.sl (.int .i64) bu .no, .sl (.int .i64) bl .no, .val (.int .i64 bw), .sl (.int .i64) bq .no]] => some ([Sh au al aq, Sh bu bl bq], .res (bval (decide (au = bu ∧ al = bl ∧ aw = bw ∧ aq = bq))) [] [], [])
  | _ => none
theorem v26 : VI G7 Try.f26 [some .bool] D26 := by
  refine vi_of fun a => ?_
  unfold D26
  split
  rotate_left
  · trivial
  rename_i u l w ls u2 l2 w2 ls2
  intro hp
  refine vcq (A := u.length ≤ (1000 : Nat) ∧ u2.length ≤ (1000 : Nat) ∧ vcIf (decide (u = u2)) (l.length ≤ (1000 : Nat) ∧ l2.length ≤ (1000 : Nat) ∧ vcIf (decide (l = l2)) (vcIf (w == w2) (ls.length ≤ (1000 : Nat) ∧ ls2.length ≤ (1000 : Nat) ∧ decide (ls = ls2) = decide (u = u2 ∧ l = l2 ∧ w = w2 ∧ ls = ls2) ∧ True) (false = decide (u = u2 ∧ l = l2 ∧ w = w2 ∧ ls = ls2) ∧ True)) (false = decide (u = u2 ∧ l = l2 ∧ w = w2 ∧ ls = ls2) ∧ True)) (false = decide (u = u2 ∧ l = l2 ∧ w = w2 ∧ ls = ls2) ∧ True)) (by kernel_rfl) ?_
  obtain ⟨⟨a1, a2, a3⟩, ⟨b1, b2, b3⟩, -⟩ := hp
  simp only [vc_dec, vc_beq, and_true]
  refine ⟨a1, b1, fun h1 => ⟨a2, b2, fun h2 => ⟨fun h3 => ⟨a3, b3, ?_⟩, fun h3 => ?_⟩, fun h2 => ?_⟩, fun h1 => ?_⟩
  · rw [decide_eq_decide]; exact ⟨fun h => ⟨h1, h2, h3, h⟩, fun h => h.2.2.2⟩
  · rw [decide_eq_false fun h => h3 h.2.2.1]
  · rw [decide_eq_false fun h => h2 h.2.1]
  · rw [decide_eq_false fun h => h1 h.1]
theorem vc_yes {c : Bool} {A B : Prop} (h : c = true) (hB : B) : vcIf (!c) A B := by subst h; exact hB
theorem vc_no {c : Bool} {A B : Prop} (h : c = false) (hB : B) : vcIf c A B := by subst h; exact hB
theorem s20_sh {p : PD} (h : s20 p = true) : shortP p := by
  have := of_decide_eq_true h
  exact ⟨by omega, by omega, by omega⟩
theorem shX_le {p q : PD} {x : List Int} (h : x = if chkL [p, q] = 0 then shL p.2.1 q.1 (p.2.2.1 + q.2.2.1) (q.1.length + p.2.1.length + 1) else []) : x.length ≤ 1000 := by
  subst h
  split
  · rename_i e
    obtain ⟨o1, o2⟩ := chkL_two (ua := p.1) (la := p.2.1) (wa := p.2.2.1) (lsa := p.2.2.2.1) (ub := q.1) (lb := q.2.1) (wb := q.2.2.1) (lsb := q.2.2.2.1) e
    have := o1.num
    have := o2.num
    exact Nat.le_trans (shL_len _ _ _ _) (by omega)
  · exact Nat.zero_le _
def F9 : Tbl := ((((((T8.addI 18 fun a => dS (D18 a)).addI 20 fun a => dS (D20 a)).addI 22 fun a => dS (D22 a)).addI 24 fun a => dS (D24 a)).addI 25 fun a => dS (D25 a)).addI 26 fun a => dS (D26 a))
def D4 : List TV → Dn
  | [.agg [.sl (.int .i64) _ .no, .sl (.int .i64) _ .no, .val (.int .i64 _), .sl (.int .i64) _ .no], .agg [.sl (.int .i64) _ .no, .sl (.int .i64) _ .no, .val (.int .i64 _), .sl (.int .i64) _ .no], .val (.int .i64 _), .sl (.int .i64) _ .no] => some ([], .res (bval true) [] [], [(10, .ex Nat fun i => .ex (List PieceT.den) fun A => .ex (List PieceT.den) fun B => .ex (List Int) fun S => .st { sl := [(12, .sl PieceT A .no), (13, .sl PieceT B .no), (14, .sl I64 S .no), (15, ival i)], good := [i ≤ 5, A.length = 5, B.length = 5, S.length = 5, ∀ p ∈ A, shortP p, ∀ p ∈ B, shortP p], m := 5 - i })])
  | _ => none
theorem v4 : VI F9 Try.f4 [some .bool] D4 := by
  refine vi_of fun a => ?_
  unfold D4
  split
  rotate_left
  · trivial
  rename_i u l w ls u2 l2 w2 ls2 s nums
  intro hp
  refine vcq (A := ∀ (a : Bool), a = (decide ((2 : Nat) ≤ (20 : Nat)) && [(u, l, w, ls, ()), (u2, l2, w2, ls2, ())].all s20) → vcIf (!a) (true = true ∧ True) ((3 : Int) ≤ (6 : Int) ∧ (6 : Int) ≤ (8 : Int) ∧ ∀ (a a_2 : List Int) (a_3 : Int) (a_4 a_5 : List Int) (a_6 : Int), Ok a a_2 a_3 a_4 → (↑a.length : Int) ≤ (6 : Int) → Ok a a_2 a_3 a_4 ∧ ∀ (a_9 a_10 : List Int) (a_11 : Int) (a_12 a_13 : List Int) (a_14 : Int), Ok a_9 a_10 a_11 a_12 → a_9 = List.map (fun (x : I64.den) => (9 : I64.den) - x) a_2 → (3 : Int) ≤ (6 : Int) ∧ (6 : Int) ≤ (8 : Int) ∧ ∀ (a_17 a_18 : List Int) (a_19 : Int) (a_20 a_21 : List Int) (a_22 : Int), Ok a_17 a_18 a_19 a_20 → (↑a_17.length : Int) ≤ (6 : Int) → (-1000 : Int) ≤ (-1 : Int) ∧ (-1 : Int) ≤ (1000 : Int) ∧ (-1000 : Int) ≤ (1 : Int) ∧ (1 : Int) ≤ (999 : Int) ∧ (1 : Int) ≤ (5000 : Int) ∧ ∀ (a_25 : Int) (a_26 : List Int) (a_27 : Int), (-1 : Int) ≤ a_25 → a_25 ≤ (1 : Int) ∨ a_25 = (-1 : Int) → (-1000 : Int) ≤ (-3 : Int) ∧ (-3 : Int) ≤ (1000 : Int) ∧ (-1000 : Int) ≤ (3 : Int) ∧ (3 : Int) ≤ (997 : Int) ∧ (3 : Int) ≤ (5000 : Int) ∧ ∀ (a_30 : Int) (a_31 : List Int) (a_32 : Int), (-3 : Int) ≤ a_30 → a_30 ≤ (3 : Int) ∨ a_30 = (-3 : Int) → (-1000 : Int) ≤ (-2 : Int) ∧ (-2 : Int) ≤ (1000 : Int) ∧ (-1000 : Int) ≤ (2 : Int) ∧ (2 : Int) ≤ (998 : Int) ∧ (2 : Int) ≤ (5000 : Int) ∧ ∀ (a_35 : Int) (a_36 : List Int) (a_37 : Int), (-2 : Int) ≤ a_35 → a_35 ≤ (2 : Int) ∨ a_35 = (-2 : Int) → (∃ (a_40 : Nat), ∃ (a_41 : List PieceT.den), ∃ (a_42 : List PieceT.den), ∃ (a_43 : List Int), [(u, l, w, ls, ()), (a, a_2, a_3, a_4, ()), (a, a_2, a_3, a_4, ()), (u, l, w, ls, ()), (a_9, a_10, a_11, a_12, ())] = a_41 ∧ [(u2, l2, w2, ls2, ()), (a_9, a_10, a_11, a_12, ()), (a_17, a_18, a_19, a_20, ()), (a_9, a_10, a_11, a_12, ()), (a, a_2, a_3, a_4, ())] = a_42 ∧ [s, a_25, a_30, s, a_35] = a_43 ∧ (0 : Int) = (↑a_40 : Int) ∧ a_40 ≤ (5 : Nat) ∧ a_41.length = (5 : Nat) ∧ a_42.length = (5 : Nat) ∧ a_43.length = (5 : Nat) ∧ (∀ (p : PieceT.den), p ∈ a_41 → shortP p) ∧ (∀ (p : PieceT.den), p ∈ a_42 → shortP p) ∧ (5 : Nat) - a_40 < (1000000 : Nat)) ∧ ∀ (a_40 : Nat) (a_41 a_42 : List PieceT.den) (a_43 : List Int), a_40 ≤ (5 : Nat) → a_41.length = (5 : Nat) → a_42.length = (5 : Nat) → a_43.length = (5 : Nat) → (∀ (p : PieceT.den), p ∈ a_41 → shortP p) → (∀ (p : PieceT.den), p ∈ a_42 → shortP p) → vcIf (decide ((↑a_40 : Int) < (↑a_41.length : Int))) (((0 : Int) ≤ (↑a_40 : Int) ∧ (↑a_40 : Int) < (↑a_41.length : Int)) ∧ Sh (a_41.getD a_40 ([], [], (0 : Int), [], ())).fst (a_41.getD a_40 ([], [], (0 : Int), [], ())).snd.fst (a_41.getD a_40 ([], [], (0 : Int), [], ())).snd.snd.snd.fst ∧ ((0 : Int) ≤ (↑a_40 : Int) ∧ (↑a_40 : Int) < (↑a_42.length : Int)) ∧ Sh (a_42.getD a_40 ([], [], (0 : Int), [], ())).fst (a_42.getD a_40 ([], [], (0 : Int), [], ())).snd.fst (a_42.getD a_40 ([], [], (0 : Int), [], ())).snd.snd.snd.fst ∧ ((0 : Int) ≤ (↑a_40 : Int) ∧ (↑a_40 : Int) < (↑a_43.length : Int)) ∧ Sh (a_41.getD a_40 ([], [], (0 : Int), [], ())).fst (a_41.getD a_40 ([], [], (0 : Int), [], ())).snd.fst (a_41.getD a_40 ([], [], (0 : Int), [], ())).snd.snd.snd.fst ∧ Sh (a_42.getD a_40 ([], [], (0 : Int), [], ())).fst (a_42.getD a_40 ([], [], (0 : Int), [], ())).snd.fst (a_42.getD a_40 ([], [], (0 : Int), [], ())).snd.snd.snd.fst ∧ ∀ (a_50 : Int × Int × Int), (a_50 = if chkL [pd (a_41.getD a_40 ([], [], (0 : Int), [], ())).fst (a_41.getD a_40 ([], [], (0 : Int), [], ())).snd.fst (a_41.getD a_40 ([], [], (0 : Int), [], ())).snd.snd.fst (a_41.getD a_40 ([], [], (0 : Int), [], ())).snd.snd.snd.fst, pd (a_42.getD a_40 ([], [], (0 : Int), [], ())).fst (a_42.getD a_40 ([], [], (0 : Int), [], ())).snd.fst (a_42.getD a_40 ([], [], (0 : Int), [], ())).snd.snd.fst (a_42.getD a_40 ([], [], (0 : Int), [], ())).snd.snd.snd.fst] = (0 : Int) then fitR (a_41.getD a_40 ([], [], (0 : Int), [], ())).snd.fst (a_42.getD a_40 ([], [], (0 : Int), [], ())).fst ((a_41.getD a_40 ([], [], (0 : Int), [], ())).snd.snd.fst + (a_42.getD a_40 ([], [], (0 : Int), [], ())).snd.snd.fst) (a_43.getD a_40 (0 : Int)) else ((0 : Int), (0 : Int), chkL [pd (a_41.getD a_40 ([], [], (0 : Int), [], ())).fst (a_41.getD a_40 ([], [], (0 : Int), [], ())).snd.fst (a_41.getD a_40 ([], [], (0 : Int), [], ())).snd.snd.fst (a_41.getD a_40 ([], [], (0 : Int), [], ())).snd.snd.snd.fst, pd (a_42.getD a_40 ([], [], (0 : Int), [], ())).fst (a_42.getD a_40 ([], [], (0 : Int), [], ())).snd.fst (a_42.getD a_40 ([], [], (0 : Int), [], ())).snd.snd.fst (a_42.getD a_40 ([], [], (0 : Int), [], ())).snd.snd.snd.fst])) → ((0 : Int) ≤ (↑a_40 : Int) ∧ (↑a_40 : Int) < (↑a_41.length : Int)) ∧ ((0 : Int) ≤ (↑a_40 : Int) ∧ (↑a_40 : Int) < (↑a_42.length : Int)) ∧ ((0 : Int) ≤ (↑a_40 : Int) ∧ (↑a_40 : Int) < (↑a_43.length : Int)) ∧ Sh (a_41.getD a_40 ([], [], (0 : Int), [], ())).fst (a_41.getD a_40 ([], [], (0 : Int), [], ())).snd.fst (a_41.getD a_40 ([], [], (0 : Int), [], ())).snd.snd.snd.fst ∧ Sh (a_42.getD a_40 ([], [], (0 : Int), [], ())).fst (a_42.getD a_40 ([], [], (0 : Int), [], ())).snd.fst (a_42.getD a_40 ([], [], (0 : Int), [], ())).snd.snd.snd.fst ∧ ∀ (a_52 : Int × Int × Int), (a_52 = if chkL [pd (a_41.getD a_40 ([], [], (0 : Int), [], ())).fst (a_41.getD a_40 ([], [], (0 : Int), [], ())).snd.fst (a_41.getD a_40 ([], [], (0 : Int), [], ())).snd.snd.fst (a_41.getD a_40 ([], [], (0 : Int), [], ())).snd.snd.snd.fst, pd (a_42.getD a_40 ([], [], (0 : Int), [], ())).fst (a_42.getD a_40 ([], [], (0 : Int), [], ())).snd.fst (a_42.getD a_40 ([], [], (0 : Int), [], ())).snd.snd.fst (a_42.getD a_40 ([], [], (0 : Int), [], ())).snd.snd.snd.fst] = (0 : Int) then fitR (a_41.getD a_40 ([], [], (0 : Int), [], ())).snd.fst (a_42.getD a_40 ([], [], (0 : Int), [], ())).fst ((a_41.getD a_40 ([], [], (0 : Int), [], ())).snd.snd.fst + (a_42.getD a_40 ([], [], (0 : Int), [], ())).snd.snd.fst) (a_43.getD a_40 (0 : Int)) else ((0 : Int), (0 : Int), chkL [pd (a_41.getD a_40 ([], [], (0 : Int), [], ())).fst (a_41.getD a_40 ([], [], (0 : Int), [], ())).snd.fst (a_41.getD a_40 ([], [], (0 : Int), [], ())).snd.snd.fst (a_41.getD a_40 ([], [], (0 : Int), [], ())).snd.snd.snd.fst, pd (a_42.getD a_40 ([], [], (0 : Int), [], ())).fst (a_42.getD a_40 ([], [], (0 : Int), [], ())).snd.fst (a_42.getD a_40 ([], [], (0 : Int), [], ())).snd.snd.fst (a_42.getD a_40 ([], [], (0 : Int), [], ())).snd.snd.snd.fst])) → Sh (a_41.getD a_40 ([], [], (0 : Int), [], ())).fst (a_41.getD a_40 ([], [], (0 : Int), [], ())).snd.fst (a_41.getD a_40 ([], [], (0 : Int), [], ())).snd.snd.snd.fst ∧ Sh (a_42.getD a_40 ([], [], (0 : Int), [], ())).fst (a_42.getD a_40 ([], [], (0 : Int), [], ())).snd.fst (a_42.getD a_40 ([], [], (0 : Int), [], ())).snd.snd.snd.fst ∧ ∀ (a_54 : List Int) (a_55 : Int), (a_54 = if chkL [pd (a_41.getD a_40 ([], [], (0 : Int), [], ())).fst (a_41.getD a_40 ([], [], (0 : Int), [], ())).snd.fst (a_41.getD a_40 ([], [], (0 : Int), [], ())).snd.snd.fst (a_41.getD a_40 ([], [], (0 : Int), [], ())).snd.snd.snd.fst, pd (a_42.getD a_40 ([], [], (0 : Int), [], ())).fst (a_42.getD a_40 ([], [], (0 : Int), [], ())).snd.fst (a_42.getD a_40 ([], [], (0 : Int), [], ())).snd.snd.fst (a_42.getD a_40 ([], [], (0 : Int), [], ())).snd.snd.snd.fst] = (0 : Int) then shL (a_41.getD a_40 ([], [], (0 : Int), [], ())).snd.fst (a_42.getD a_40 ([], [], (0 : Int), [], ())).fst ((a_41.getD a_40 ([], [], (0 : Int), [], ())).snd.snd.fst + (a_42.getD a_40 ([], [], (0 : Int), [], ())).snd.snd.fst) (List.length (a_42.getD a_40 ([], [], (0 : Int), [], ())).fst + List.length (a_41.getD a_40 ([], [], (0 : Int), [], ())).snd.fst + (1 : Nat)) else []) → a_55 = chkL [pd (a_41.getD a_40 ([], [], (0 : Int), [], ())).fst (a_41.getD a_40 ([], [], (0 : Int), [], ())).snd.fst (a_41.getD a_40 ([], [], (0 : Int), [], ())).snd.snd.fst (a_41.getD a_40 ([], [], (0 : Int), [], ())).snd.snd.snd.fst, pd (a_42.getD a_40 ([], [], (0 : Int), [], ())).fst (a_42.getD a_40 ([], [], (0 : Int), [], ())).snd.fst (a_42.getD a_40 ([], [], (0 : Int), [], ())).snd.snd.fst (a_42.getD a_40 ([], [], (0 : Int), [], ())).snd.snd.snd.fst] → ((0 : Int) ≤ (↑a_40 : Int) ∧ (↑a_40 : Int) < (↑a_41.length : Int)) ∧ ((0 : Int) ≤ (↑a_40 : Int) ∧ (↑a_40 : Int) < (↑a_42.length : Int)) ∧ Sh (a_41.getD a_40 ([], [], (0 : Int), [], ())).fst (a_41.getD a_40 ([], [], (0 : Int), [], ())).snd.fst (a_41.getD a_40 ([], [], (0 : Int), [], ())).snd.snd.snd.fst ∧ Sh (a_42.getD a_40 ([], [], (0 : Int), [], ())).fst (a_42.getD a_40 ([], [], (0 : Int), [], ())).snd.fst (a_42.getD a_40 ([], [], (0 : Int), [], ())).snd.snd.snd.fst ∧ ∀ (a_58 : List Int) (a_59 : Int), (a_58 = if chkL [pd (a_41.getD a_40 ([], [], (0 : Int), [], ())).fst (a_41.getD a_40 ([], [], (0 : Int), [], ())).snd.fst (a_41.getD a_40 ([], [], (0 : Int), [], ())).snd.snd.fst (a_41.getD a_40 ([], [], (0 : Int), [], ())).snd.snd.snd.fst, pd (a_42.getD a_40 ([], [], (0 : Int), [], ())).fst (a_42.getD a_40 ([], [], (0 : Int), [], ())).snd.fst (a_42.getD a_40 ([], [], (0 : Int), [], ())).snd.snd.fst (a_42.getD a_40 ([], [], (0 : Int), [], ())).snd.snd.snd.fst] = (0 : Int) then shL (a_41.getD a_40 ([], [], (0 : Int), [], ())).snd.fst (a_42.getD a_40 ([], [], (0 : Int), [], ())).fst ((a_41.getD a_40 ([], [], (0 : Int), [], ())).snd.snd.fst + (a_42.getD a_40 ([], [], (0 : Int), [], ())).snd.snd.fst) (List.length (a_42.getD a_40 ([], [], (0 : Int), [], ())).fst + List.length (a_41.getD a_40 ([], [], (0 : Int), [], ())).snd.fst + (1 : Nat)) else []) → a_59 = chkL [pd (a_41.getD a_40 ([], [], (0 : Int), [], ())).fst (a_41.getD a_40 ([], [], (0 : Int), [], ())).snd.fst (a_41.getD a_40 ([], [], (0 : Int), [], ())).snd.snd.fst (a_41.getD a_40 ([], [], (0 : Int), [], ())).snd.snd.snd.fst, pd (a_42.getD a_40 ([], [], (0 : Int), [], ())).fst (a_42.getD a_40 ([], [], (0 : Int), [], ())).snd.fst (a_42.getD a_40 ([], [], (0 : Int), [], ())).snd.snd.fst (a_42.getD a_40 ([], [], (0 : Int), [], ())).snd.snd.snd.fst] → vcIf (!(a_50.fst == a_52.fst && (a_50.snd.fst == a_52.snd.fst && true))) (false = true ∧ True) (vcIf (a_50.snd.snd != a_52.snd.snd) (false = true ∧ True) (vcIf (a_55 != a_59) (false = true ∧ True) (a_54.length ≤ (1000 : Nat) ∧ a_58.length ≤ (1000 : Nat) ∧ vcIf (!decide (a_54 = a_58)) (false = true ∧ True) (((0 : Int) ≤ (↑a_40 : Int) ∧ (↑a_40 : Int) < (↑a_41.length : Int)) ∧ Sh (a_41.getD a_40 ([], [], (0 : Int), [], ())).fst (a_41.getD a_40 ([], [], (0 : Int), [], ())).snd.fst (a_41.getD a_40 ([], [], (0 : Int), [], ())).snd.snd.snd.fst ∧ Sh (a_41.getD a_40 ([], [], (0 : Int), [], ())).fst (a_41.getD a_40 ([], [], (0 : Int), [], ())).snd.fst (a_41.getD a_40 ([], [], (0 : Int), [], ())).snd.snd.snd.fst ∧ vcIf (!decide ((a_41.getD a_40 ([], [], (0 : Int), [], ())).fst = (a_41.getD a_40 ([], [], (0 : Int), [], ())).fst ∧ (a_41.getD a_40 ([], [], (0 : Int), [], ())).snd.fst = (a_41.getD a_40 ([], [], (0 : Int), [], ())).snd.fst ∧ (a_41.getD a_40 ([], [], (0 : Int), [], ())).snd.snd.fst = (a_41.getD a_40 ([], [], (0 : Int), [], ())).snd.snd.fst ∧ (a_41.getD a_40 ([], [], (0 : Int), [], ())).snd.snd.snd.fst = (a_41.getD a_40 ([], [], (0 : Int), [], ())).snd.snd.snd.fst)) (false = true ∧ True) (((0 : Int) ≤ (↑a_40 : Int) ∧ (↑a_40 : Int) < (↑a_42.length : Int)) ∧ Sh (a_42.getD a_40 ([], [], (0 : Int), [], ())).fst (a_42.getD a_40 ([], [], (0 : Int), [], ())).snd.fst (a_42.getD a_40 ([], [], (0 : Int), [], ())).snd.snd.snd.fst ∧ Sh (a_42.getD a_40 ([], [], (0 : Int), [], ())).fst (a_42.getD a_40 ([], [], (0 : Int), [], ())).snd.fst (a_42.getD a_40 ([], [], (0 : Int), [], ())).snd.snd.snd.fst ∧ vcIf (!decide ((a_42.getD a_40 ([], [], (0 : Int), [], ())).fst = (a_42.getD a_40 ([], [], (0 : Int), [], ())).fst ∧ (a_42.getD a_40 ([], [], (0 : Int), [], ())).snd.fst = (a_42.getD a_40 ([], [], (0 : Int), [], ())).snd.fst ∧ (a_42.getD a_40 ([], [], (0 : Int), [], ())).snd.snd.fst = (a_42.getD a_40 ([], [], (0 : Int), [], ())).snd.snd.fst ∧ (a_42.getD a_40 ([], [], (0 : Int), [], ())).snd.snd.snd.fst = (a_42.getD a_40 ([], [], (0 : Int), [], ())).snd.snd.snd.fst)) (false = true ∧ True) (rng ((↑a_40 : Int) + (1 : Int)) ∧ ∃ (a_62 : Nat), ∃ (a_63 : List PieceT.den), ∃ (a_64 : List PieceT.den), ∃ (a_65 : List Int), a_41 = a_63 ∧ a_42 = a_64 ∧ a_43 = a_65 ∧ (↑a_40 : Int) + (1 : Int) = (↑a_62 : Int) ∧ u = u ∧ l = l ∧ w = w ∧ ls = ls ∧ u2 = u2 ∧ l2 = l2 ∧ w2 = w2 ∧ ls2 = ls2 ∧ a_36 = a_36 ∧ a_37 = a_37 ∧ a = a ∧ a_2 = a_2 ∧ a_3 = a_3 ∧ a_4 = a_4 ∧ a_9 = a_9 ∧ a_10 = a_10 ∧ a_11 = a_11 ∧ a_12 = a_12 ∧ a_62 ≤ (5 : Nat) ∧ a_63.length = (5 : Nat) ∧ a_64.length = (5 : Nat) ∧ a_65.length = (5 : Nat) ∧ (∀ (p : PieceT.den), p ∈ a_63 → shortP p) ∧ (∀ (p : PieceT.den), p ∈ a_64 → shortP p) ∧ (5 : Nat) - a_62 < (5 : Nat) - a_40))))))) (true = true ∧ True))) (by kernel_rfl) ?_
  intro b hb
  rw [vc_not, vc_iff]
  refine ⟨fun e => ?_, fun _ => ⟨rfl, trivial⟩⟩
  rw [e] at hb
  clear e
  have hs := (Bool.and_eq_true_iff.1 hb.symm).2
  simp only [List.all_cons, List.all_nil, Bool.and_true, Bool.and_eq_true] at hs
  have sa := s20_sh hs.1
  have sb := s20_sh hs.2
  simp only [nil_e, rng, and_true, true_and, eq_self]
  refine ⟨by omega, by omega, fun u1 l1 w1 q1 r1 z1 h1 _ => ⟨h1, fun u3 l3 w3 q3 r3 z3 h3 _ => ⟨by omega, by omega, fun u4 l4 w4 q4 r4 z4 h4 _ => ⟨by omega, by omega, by omega, by omega, by omega, fun x1 r5 z5 _ _ => ⟨by omega, by omega, by omega, by omega, by omega, fun x2 r6 z6 _ _ => ⟨by omega, by omega, by omega, by omega, by omega, fun x3 r7 z7 _ _ => ⟨⟨0, _, _, _, rfl, rfl, rfl, rfl, by omega, rfl, rfl, rfl, ?_, ?_, by omega⟩, ?_⟩⟩⟩⟩⟩⟩⟩
  · have s1 : shortP (pd u1 l1 w1 q1) := sh_ok h1
    have s3 : shortP (pd u3 l3 w3 q3) := sh_ok h3
    intro p hp
    simp only [List.mem_cons, List.not_mem_nil, or_false] at hp
    rcases hp with rfl | rfl | rfl | rfl | rfl <;> assumption
  · have s1 : shortP (pd u1 l1 w1 q1) := sh_ok h1
    have s3 : shortP (pd u3 l3 w3 q3) := sh_ok h3
    have s4 : shortP (pd u4 l4 w4 q4) := sh_ok h4
    intro p hp
    simp only [List.mem_cons, List.not_mem_nil, or_false] at hp
    rcases hp with rfl | rfl | rfl | rfl | rfl <;> assumption
  intro i A B S k0 k1 k2 k3 k4 k5
  rw [vc_dec]
  refine ⟨fun k6 => ?_, fun _ => trivial⟩
  have sp : shortP (A.getD i ([], [], 0, [], ())) := getD_all (by omega) k4
  have sq : shortP (B.getD i ([], [], 0, [], ())) := getD_all (by omega) k5
  generalize A.getD i ([], [], 0, [], ()) = p at sp ⊢
  generalize B.getD i ([], [], 0, [], ()) = q at sq ⊢
  generalize S.getD i 0 = s
  refine ⟨by omega, sp, by omega, sq, by omega, sp, sq, fun f hf => ⟨by omega, by omega, by omega, sp, sq, fun g hg => ⟨sp, sq, fun x e hx he => ⟨by omega, by omega, sp, sq, fun y d hy hd => ?_⟩⟩⟩⟩
  obtain rfl : f = g := hf.trans hg.symm
  obtain rfl : x = y := hx.trans hy.symm
  obtain rfl : e = d := he.trans hd.symm
  refine vc_yes (by simp) (vc_no (by simp) (vc_no (by simp) ⟨shX_le hx, shX_le hx, vc_yes (by simp) ⟨by omega, sp, sp, vc_yes (by simp) ⟨by omega, sq, sq, vc_yes (by simp) ⟨by omega, i + 1, A, B, S, rfl, rfl, rfl, by omega, by omega, k1, k2, k3, k4, k5, by omega⟩⟩⟩⟩))
structure TabU (tab : IsoF) : Prop where
  dup : ∀ (l : List Int) d, l.length ≤ 1000 → RT noIds [] (.sl I64 l .no) d → ∃ r, tab 58 [d] = some r ∧ r.pure = true ∧ RT noIds [] (.sl I64 l .no) r
section
variable {tab : IsoF} (tk : TabK tab) (tu : TabU tab)
theorem tok_lf {k : Nat} {T : Tbl} (h : TOK tab k T) : ∀ m, TOK tab (m + k) T
  | 0 => by rwa [Nat.zero_add]
  | m + 1 => by have := tok_up (tok_lf h m); rwa [Nat.add_right_comm] at this
theorem add58 {T : Tbl} {k : Nat} (tu : TabU tab) (hT : TOK tab k T) : TOK tab k (T.addI 58 S58) := tok_i hT fun n a p s hs hp => by
  unfold S58 at hs
  split at hs
  · rename_i l
    cases hs
    intro dargs hd
    obtain ⟨d, _, rfl, h1, h2⟩ := rtl_cases hd
    rw [rtl_nil' h2]
    obtain ⟨r, k1, k2, k3⟩ := tu.dup l d hp.1 h1
    exact ⟨r, _, by simp only [isoN, isoOf, k1, k2, if_true], k2, k3, rfl, rfl, trivial⟩
  · cases hs
include tk
theorem gok1 : TOK tab 1 G1 := mkI tk (tok_0 tk) (by decide) Try.func107 rfl v107 (tok_up (tok_0 tk))
theorem gok2 : TOK tab 2 G2 := mkI tk (gok1 tk) (by decide) Try.func106 rfl v106 (tok_up (gok1 tk))
theorem gok3 : TOK tab 3 G3 := mkI tk (gok2 tk) (by decide) Try.func91 rfl v91 (tok_up (gok2 tk))
theorem gok4 : TOK tab 1 G4 := mkI tk (tok_0 tk) (by decide) Try.func64 rfl v64 (mkI tk (tok_0 tk) (by decide) Try.func62 rfl v62 (tok_up (tok_0 tk)))
theorem gok5 : TOK tab 4 G5 := mkI tk (tok_lf (tok_0 tk) 3) (by decide) Try.func64 rfl v64 (mkI tk (tok_lf (gok4 tk) 2) (by decide) Try.func63 rfl v63 (mkI tk (tok_lf (tok_0 tk) 3) (by decide) Try.func62 rfl v62 (mkI tk (gok3 tk) (by decide) Try.func61 rfl v61 (tok_up (gok3 tk)))))
theorem gok6 : TOK tab 5 G6 := mkI tk (gok5 tk) (by decide) Try.func66 rfl v66 (tok_up (gok5 tk))
theorem gok7 : TOK tab 1 G7 := mkI tk (tok_0 tk) (by decide) Try.func25 rfl v25 (tok_up (tok_0 tk))
include tu
theorem fok9 : TOK tab 8 F9 := mkI tk (tok_lf (gok7 tk) 6) (by decide) Try.func26 rfl v26 (mkI tk (tok_lf (tok_0 tk) 7) (by decide) Try.func25 rfl v25 (mkI tk (tok_lf (gok6 tk) 2) (by decide) Try.func24 rfl v24 (mkI tk (tok_lf (gok5 tk) 3) (by decide) Try.func22 rfl v22 (mkI tk (tok_lf (add58 tu (tok_0 tk)) 7) (by decide) Try.func20 rfl v20 (mkI tk (tok_lf (tok_0 tk) 7) (by decide) Try.func18 rfl v18 (tok8 tk))))))
end
end Go.Tv
