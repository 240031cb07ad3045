import Derived.Test.YtoccmmopffbbfaaPk05
import Derived.Test.YtoccmmopffbbfaaPk08
section
namespace Go.Tv
open Go Go.Di Go.Proofs
set_option maxRecDepth 100000
abbrev PD : Type := PieceT.den
abbrev pd (u l : List Int) (w : Int) (ls : List Int) : PD := (u, l, w, ls, ())
def chkP (p : PD) : Int := chk p.1 p.2.1 p.2.2.1 p.2.2.2.1
def chkL : List PD → Int
 | [] => 0
 | p :: l => if chkP p ≠ 0 then chkP p else chkL l
theorem chkL_append {l m : List PD} (h : chkL l = 0) : chkL (l ++ m) = chkL m := by
 induction l with
 | nil => rfl
 | cons p l ih =>
  simp only [chkL] at h ⊢
  split at h
  ·rename_i h1; exact (h1 h).elim
  ·rename_i h1; simp only [List.cons_append, chkL, if_neg h1]; exact ih h
theorem chkL_at {l : List PD} {i : Nat} {d : PD} (h : i < l.length) (h1 : chkL (l.take i) = 0) (h2 : chkP (l.getD i d) ≠ 0) : chkL l = chkP (l.getD i d) := by
 have e : l.getD i d = l[i] := by simp [List.getD_eq_getElem?_getD, h]
 rw [e] at h2 ⊢
 conv => lhs; rw [← List.take_append_drop i l, List.drop_eq_getElem_cons h]
 rw [chkL_append h1, chkL, if_pos h2]
theorem chkL_one {l : List PD} {i : Nat} {d : PD} (h : i < l.length) (h1 : chkL (l.take i) = 0) (h2 : chkP (l.getD i d) = 0) : chkL (l.take (i + 1)) = 0 := by
 have e : l.getD i d = l[i] := by simp [List.getD_eq_getElem?_getD, h]
 rw [e] at h2
 rw [← List.take_append_getElem h, chkL_append h1, chkL, if_neg (by simp [h2])]; rfl
def shortP (p : PD) : Prop := p.1.length ≤ 1000 ∧ p.2.1.length ≤ 1000 ∧ p.2.2.2.1.length ≤ 1000
theorem getD_all {P : PD → Prop} {l : List PD} {i : Nat} {d : PD} (h : i < l.length) (hl : ∀ p ∈ l, P p) : P (l.getD i d) := by
 have e : l.getD i d = l[i] := by simp [List.getD_eq_getElem?_getD, h]
 rw [e]; exact hl _ (List.getElem_mem _)
abbrev edV (u l : List Int) : TV := .agg [.sl I64 u .no, .sl I64 l .no]
def inH (l : List Int) : Prop := ∀ x ∈ l, 0 ≤ x ∧ x ≤ 9
theorem inH_at {l : List Int} {i : Nat} (h : inH l) (hi : i < l.length) : 0 ≤ l.getD i 0 ∧ l.getD i 0 ≤ 9 := h _ (mem_getD hi)
def colL (la ub : List Int) (s : Int) : Nat → List Int
 | 0 => []
 | i + 1 => if 0 ≤ (i : Int) + s ∧ (i : Int) + s < la.length then colL la ub s i ++ [ub.getD i 0 + la.getD ((i : Int) + s).toNat 0] else colL la ub s i
def stS (st : Int × Int × Int) (x : Int) : Int × Int × Int := (if x < (if st.2.2 = 0 then x else st.1) then x else (if st.2.2 = 0 then x else st.1), if x > (if st.2.2 = 0 then x else st.2.1) then x else (if st.2.2 = 0 then x else st.2.1), st.2.2 + 1)
def stF (l : List Int) : Int × Int × Int := l.foldl stS (0, 0, 0)
theorem stF_snoc {l : List Int} {lo hi m x : Int} (h : stF l = (lo, hi, m)) (h0 : m = 0) : stF (l ++ [x]) = (if x < x then x else x, if x > x then x else x, m + 1) := by
 subst h0
 rw [stF, List.foldl_append, ← stF, h]; rfl
theorem stF_snoc' {l : List Int} {lo hi m x : Int} (h : stF l = (lo, hi, m)) (h0 : m ≠ 0) : stF (l ++ [x]) = (if x < lo then x else lo, if x > hi then x else hi, m + 1) := by
 rw [stF, List.foldl_append, ← stF, h]
 simp only [List.foldl_cons, List.foldl_nil, stS, if_neg h0]
theorem colL_none {la ub : List Int} {s : Int} (h : s ≤ -(ub.length : Int) ∨ (la.length : Int) ≤ s) : colL la ub s ub.length = [] := by
 have key : ∀ i, i ≤ ub.length → colL la ub s i = [] := by
  intro i
  induction i with
  | zero => intro _; rfl
  | succ i ih => intro hi; rw [colL, if_neg (by omega)]; exact ih (by omega)
 exact key _ (Nat.le_refl _)
theorem spec_59 {tab : IsoF} (tk : TabK tab) {n : Nat} (l : List PD) (a1 : l.length ≤ 1000) (a2 : ∀ p ∈ l, shortP p) : ISpec (isoT tab (n + 6)) 59 ([.sl PieceT l .no]) (fun v => v = ival (chkL l)) := by
 refine ispec_of (fn := Try.f59) (rts := [some I64]) Try.func59 rfl (fun _ => tk.other _ _ (by decide) (by decide) (by decide)) ?_
 show WT _ _ _ _ _ _ _ _ _ _ (mkE 18 [(0, TV.sl (PieceT) l Ap.no)]) [] _
 refine wt_seq ?_
 refine zr [0, 2] 1 (mkE 18 [(0, .sl (PieceT) l .no), (2, vv (vi 0))]) [] (by kernel_rfl) ?_
 refine wt_seq ?_
 refine wt_seq ?_
 refine zr [0, 2, 6, 7, 8] 3 (mkE 18 [(0, .sl (PieceT) l .no), (2, vv (vi 0)), (6, .sl (PieceT) l .no), (7, vv (vi (↑l.length : Int))), (8, vv (vi 0))]) [] (by kernel_rfl) ?_
 refine wt_block ?_
 refine wt_loop (σ := Nat) (fun (i : Nat) => (mkE 18 [(6, .sl PieceT l .no), (7, ival l.length), (8, ival (i : Nat))], ([] : List TB))) (fun (i : Nat) => i ≤ l.length ∧ chkL (l.take i) = 0) (fun (i : Nat) => l.length - i) (0) (fits_of [6, 7, 8] [] [] 0 [] (by kernel_rfl) (by kernel_rfl) (by kernel_rfl) (by kernel_rfl) (by kernel_rfl)) (by (try dsimp only); exact ⟨by omega, rfl⟩) (by (try dsimp only); unfold LL; omega) ?_
 intro i hg
 have hg : i ≤ l.length ∧ chkL (l.take i) = 0 := hg
 show WT _ _ _ _ _ _ _ _ _ _ (mkE 18 [(6, .sl (PieceT) l .no), (7, vv (vi (↑l.length : Int))), (8, vv (vi (↑i : Int)))]) [] _
 refine wt_seq ?_
 refine zr [6, 7, 8, 9] 1 (mkE 18 [(6, .sl (PieceT) l .no), (7, vv (vi (↑l.length : Int))), (8, vv (vi (↑i : Int))), (9, vv (vb (decide ((↑i : Int) < (↑l.length : Int)))))]) [] (by kernel_rfl) ?_
 refine wt_seq ?_
 refine wt_cond (t := decide ((↑i : Int) < (↑l.length : Int))) (by kernel_rfl) (fun hc => ?_) (fun hc => ?_)
 ·skip
  have hc := of_decide_eq_true hc
  have hf :  shortP (l.getD i PieceT.dft) := getD_all (by omega) a2
  refine wt_skip ?_
  refine wt_seq ?_
  refine wt_block ?_
  refine wt_seq ?_
  refine wt_reg (P := Tp) (ty := Ty) (tt := ttb) [4, 6, 7, 8] (te1 := (mkE 18 [(4, .ptr 0 0), (6, .sl (PieceT) l .no), (7, vv (vi (↑l.length : Int))), (8, vv (vi (↑i : Int)))])) (tS1 := [TB.cells [.sl I64 (l.getD i ([], [], (0 : Int), [], ())).fst .no, .sl I64 (l.getD i ([], [], (0 : Int), [], ())).snd.fst .no, vv (vi (l.getD i ([], [], (0 : Int), [], ())).snd.snd.fst), .sl I64 (l.getD i ([], [], (0 : Int), [], ())).snd.snd.snd.fst .no]]) (cp := ((0 : Int) ≤ (↑i : Int) ∧ (↑i : Int) < (↑l.length : Int)) ∧ True ∧ True ∧ True ∧ True) (by kernel_rfl) (by simp only [true_and, and_true]; first | omega | (simp; omega) | (simp; done)) ?_
  refine wt_seq ?_
  refine wt_regL ?_
  refine zl 1 1 (mkE 18 [(4, .ptr 0 0), (6, .sl (PieceT) l .no), (7, vv (vi (↑l.length : Int))), (8, vv (vi (↑i : Int))), (12, .agg [.sl I64 (l.getD i ([], [], (0 : Int), [], ())).fst .no, .sl I64 (l.getD i ([], [], (0 : Int), [], ())).snd.fst .no, vv (vi (l.getD i ([], [], (0 : Int), [], ())).snd.snd.fst), .sl I64 (l.getD i ([], [], (0 : Int), [], ())).snd.snd.snd.fst .no])]) [TB.cells [.sl I64 (l.getD i ([], [], (0 : Int), [], ())).fst .no, .sl I64 (l.getD i ([], [], (0 : Int), [], ())).snd.fst .no, vv (vi (l.getD i ([], [], (0 : Int), [], ())).snd.snd.fst), .sl I64 (l.getD i ([], [], (0 : Int), [], ())).snd.snd.snd.fst .no]] (by kernel_rfl) ?_
  refine wl_icall (tt := ttb) (g := 77) (targs := [.agg [.sl I64 (l.getD i ([], [], (0 : Int), [], ())).fst .no, .sl I64 ((l.getD i ([], [], (0 : Int), [], ())).snd.fst, (l.getD i ([], [], (0 : Int), [], ())).snd.snd.fst, (l.getD i ([], [], (0 : Int), [], ())).snd.snd.snd.fst, ()).fst .no, vv (vi ((l.getD i ([], [], (0 : Int), [], ())).snd.fst, (l.getD i ([], [], (0 : Int), [], ())).snd.snd.fst, (l.getD i ([], [], (0 : Int), [], ())).snd.snd.snd.fst, ()).snd.fst), .sl I64 ((l.getD i ([], [], (0 : Int), [], ())).snd.fst, (l.getD i ([], [], (0 : Int), [], ())).snd.snd.fst, (l.getD i ([], [], (0 : Int), [], ())).snd.snd.snd.fst, ()).snd.snd.fst .no]]) (dst := some 13) (by kernel_rfl) (spec_77 tk _ _ _ _ (by first | exact hf.1 | exact hf.2.1 | exact hf.2.2) (by first | exact hf.1 | exact hf.2.1 | exact hf.2.2) (by first | exact hf.1 | exact hf.2.1 | exact hf.2.2)) ?_
  rintro _ rfl
  refine ze [4, 5, 6, 7, 8] 1 (mkE 18 [(4, .ptr 0 0), (5, vv (vi (chk (l.getD i ([], [], (0 : Int), [], ())).fst (l.getD i ([], [], (0 : Int), [], ())).snd.fst (l.getD i ([], [], (0 : Int), [], ())).snd.snd.fst (l.getD i ([], [], (0 : Int), [], ())).snd.snd.snd.fst))), (6, .sl (PieceT) l .no), (7, vv (vi (↑l.length : Int))), (8, vv (vi (↑i : Int)))]) [TB.cells [.sl I64 (l.getD i ([], [], (0 : Int), [], ())).fst .no, .sl I64 (l.getD i ([], [], (0 : Int), [], ())).snd.fst .no, vv (vi (l.getD i ([], [], (0 : Int), [], ())).snd.snd.fst), .sl I64 (l.getD i ([], [], (0 : Int), [], ())).snd.snd.snd.fst .no]] (by kernel_rfl) ?_
  refine wt_seq ?_
  refine zr [4, 5, 6, 7, 8, 15] 2 (mkE 18 [(4, .ptr 0 0), (5, vv (vi (chk (l.getD i ([], [], (0 : Int), [], ())).fst (l.getD i ([], [], (0 : Int), [], ())).snd.fst (l.getD i ([], [], (0 : Int), [], ())).snd.snd.fst (l.getD i ([], [], (0 : Int), [], ())).snd.snd.snd.fst))), (6, .sl (PieceT) l .no), (7, vv (vi (↑l.length : Int))), (8, vv (vi (↑i : Int))), (15, vv (vb (chk (l.getD i ([], [], (0 : Int), [], ())).fst (l.getD i ([], [], (0 : Int), [], ())).snd.fst (l.getD i ([], [], (0 : Int), [], ())).snd.snd.fst (l.getD i ([], [], (0 : Int), [], ())).snd.snd.snd.fst != (0 : Int))))]) [TB.cells [.sl I64 (l.getD i ([], [], (0 : Int), [], ())).fst .no, .sl I64 (l.getD i ([], [], (0 : Int), [], ())).snd.fst .no, vv (vi (l.getD i ([], [], (0 : Int), [], ())).snd.snd.fst), .sl I64 (l.getD i ([], [], (0 : Int), [], ())).snd.snd.snd.fst .no]] (by kernel_rfl) ?_
  refine wt_cond (t := chk (l.getD i ([], [], (0 : Int), [], ())).fst (l.getD i ([], [], (0 : Int), [], ())).snd.fst (l.getD i ([], [], (0 : Int), [], ())).snd.snd.fst (l.getD i ([], [], (0 : Int), [], ())).snd.snd.snd.fst != (0 : Int)) (by kernel_rfl) (fun hc1 => ?_) (fun hc1 => ?_)
  ·skip
   have hc1 := bne_of' hc1
   refine wt_seq ?_
   refine zr [2, 4, 5, 6, 7, 8] 2 (mkE 18 [(2, vv (vi (chk (l.getD i ([], [], (0 : Int), [], ())).fst (l.getD i ([], [], (0 : Int), [], ())).snd.fst (l.getD i ([], [], (0 : Int), [], ())).snd.snd.fst (l.getD i ([], [], (0 : Int), [], ())).snd.snd.snd.fst))), (4, .ptr 0 0), (5, vv (vi (chk (l.getD i ([], [], (0 : Int), [], ())).fst (l.getD i ([], [], (0 : Int), [], ())).snd.fst (l.getD i ([], [], (0 : Int), [], ())).snd.snd.fst (l.getD i ([], [], (0 : Int), [], ())).snd.snd.snd.fst))), (6, .sl (PieceT) l .no), (7, vv (vi (↑l.length : Int))), (8, vv (vi (↑i : Int)))]) [TB.cells [.sl I64 (l.getD i ([], [], (0 : Int), [], ())).fst .no, .sl I64 (l.getD i ([], [], (0 : Int), [], ())).snd.fst .no, vv (vi (l.getD i ([], [], (0 : Int), [], ())).snd.snd.fst), .sl I64 (l.getD i ([], [], (0 : Int), [], ())).snd.snd.snd.fst .no]] (by kernel_rfl) ?_
   refine wt_ret ?_
   refine ⟨trivial, [vv (vi (chk (l.getD i ([], [], (0 : Int), [], ())).fst (l.getD i ([], [], (0 : Int), [], ())).snd.fst (l.getD i ([], [], (0 : Int), [], ())).snd.snd.fst (l.getD i ([], [], (0 : Int), [], ())).snd.snd.snd.fst))], by kernel_rfl, by kernel_rfl, by kernel_rfl, ?_⟩
   exact congrArg ival (chkL_at (by omega) hg.2 hc1).symm
  ·skip
   have hc1 := beq_of' hc1
   refine wt_skip ?_
   refine zr [4, 5, 6, 7, 8] 2 (mkE 18 [(4, .ptr 0 0), (5, vv (vi (chk (l.getD i ([], [], (0 : Int), [], ())).fst (l.getD i ([], [], (0 : Int), [], ())).snd.fst (l.getD i ([], [], (0 : Int), [], ())).snd.snd.fst (l.getD i ([], [], (0 : Int), [], ())).snd.snd.snd.fst))), (6, .sl (PieceT) l .no), (7, vv (vi (↑l.length : Int))), (8, vv (vi (IntKind.i64.wrap ((↑i : Int) + (1 : Int)))))]) [TB.cells [.sl I64 (l.getD i ([], [], (0 : Int), [], ())).fst .no, .sl I64 (l.getD i ([], [], (0 : Int), [], ())).snd.fst .no, vv (vi (l.getD i ([], [], (0 : Int), [], ())).snd.snd.fst), .sl I64 (l.getD i ([], [], (0 : Int), [], ())).snd.snd.snd.fst .no]] (by kernel_rfl) ?_
   rw [wr_i64 (n := (↑i : Int) + (1 : Int)) (by omega) (by omega)]
   refine ⟨i + 1, fits_of [6, 7, 8] [] [] 0 [] (by kernel_rfl) (by kernel_rfl) (by kernel_rfl) (by kernel_rfl) (by kernel_rfl), (by (try dsimp only); exact ⟨by omega, chkL_one (by omega) hg.2 hc1⟩), (by (try dsimp only); omega)⟩
 ·skip
  have hc := of_decide_eq_false hc
  refine wt_exit ?_
  refine wt_seq ?_
  refine zr [2, 6, 7, 8] 1 (mkE 18 [(2, vv (vi 0)), (6, .sl (PieceT) l .no), (7, vv (vi (↑l.length : Int))), (8, vv (vi (↑i : Int)))]) [] (by kernel_rfl) ?_
  refine wt_ret ?_
  refine ⟨trivial, [vv (vi 0)], by kernel_rfl, by kernel_rfl, by kernel_rfl, ?_⟩
  have hi : i = l.length := by omega
  have h1 := hg.2; rw [hi, List.take_length] at h1; show ival 0 = ival (chkL l); rw [h1]
theorem spec_60 {tab : IsoF} (tk : TabK tab) {n : Nat} (ua la ub lb : List Int) (s : Int) (a1 : la.length ≤ 1000) (a2 : ub.length ≤ 1000) (a3 : -1000 ≤ s) (a4 : s ≤ 1000) (a5 : inH la) (a6 : inH ub) : ISpec (isoT tab (n + 1)) 60 ([edV ua la, edV ub lb, ival s]) (fun v => v = .tup [ival (stF (colL la ub s ub.length)).1, ival (stF (colL la ub s ub.length)).2.1, ival (stF (colL la ub s ub.length)).2.2]) := by
 refine ispec_of (fn := Try.f60) (rts := [some I64, some I64, some I64]) Try.func60 rfl (fun _ => tk.other _ _ (by decide) (by decide) (by decide)) ?_
 show WT _ _ _ _ _ _ _ _ _ _ (mkE 69 [(0, TV.agg [TV.sl I64 ua Ap.no, TV.sl I64 la Ap.no]), (1, TV.agg [TV.sl I64 ub Ap.no, TV.sl I64 lb Ap.no]), (2, vv (vi s))]) [] _
 refine wt_seq ?_
 refine zr [0, 1, 2, 3, 4, 6, 7, 8] 5 (mkE 69 [(0, .agg [.sl I64 ua .no, .sl I64 la .no]), (1, .agg [.sl I64 ub .no, .sl I64 lb .no]), (2, vv (vi s)), (3, .ptr 0 0), (4, .ptr 1 0), (6, vv (vi 0)), (7, vv (vi 0)), (8, vv (vi 0))]) [TB.cells [.sl I64 ua .no, .sl I64 la .no], TB.cells [.sl I64 ub .no, .sl I64 lb .no]] (by kernel_rfl) ?_
 refine wt_seq ?_
 refine wt_seq ?_
 refine wt_regL ?_
 refine wl_seg 7 (P := Tp) (ty := Ty) (tt := ttb) (k' := 7) (te' := (mkE 69 [(0, .agg [.sl I64 ua .no, .sl I64 la .no]), (1, .agg [.sl I64 ub .no, .sl I64 lb .no]), (2, vv (vi s)), (3, .ptr 0 0), (4, .ptr 1 0), (6, vv (vi 0)), (7, vv (vi 0)), (8, vv (vi 0)), (13, vv (vi s)), (14, .ptr 1 0), (15, .sl I64 ub .no), (16, vv (vi (↑ub.length : Int))), (17, vv (vi (IntKind.i64.wrap ((0 : Int) - (↑ub.length : Int))))), (18, vv (vb (decide (s ≤ IntKind.i64.wrap ((0 : Int) - (↑ub.length : Int)))))), (19, vv (vb (decide (s ≤ IntKind.i64.wrap ((0 : Int) - (↑ub.length : Int))))))])) (tS' := [TB.cells [.sl I64 ua .no, .sl I64 la .no], TB.cells [.sl I64 ub .no, .sl I64 lb .no]]) (cp := True ∧ True ∧ True ∧ True ∧ True ∧ True ∧ True ∧ True) (by kernel_rfl) ⟨trivial, ⟨trivial, ⟨trivial, ⟨trivial, ⟨trivial, ⟨trivial, ⟨trivial, trivial⟩⟩⟩⟩⟩⟩⟩ ?_
 rw [wr_i64 (n := (0 : Int) - (↑ub.length : Int)) (by omega) (by omega)]
 refine (Bool.eq_false_or_eq_true (decide (s ≤ (0 : Int) - (↑ub.length : Int)))).elim (fun hb => ?_) (fun hb => ?_)
 ·skip
  refine wl_told (te1 := (mkE 69 [(0, .agg [.sl I64 ua .no, .sl I64 la .no]), (1, .agg [.sl I64 ub .no, .sl I64 lb .no]), (2, vv (vi s)), (3, .ptr 0 0), (4, .ptr 1 0), (6, vv (vi 0)), (7, vv (vi 0)), (8, vv (vi 0)), (13, vv (vi s)), (14, .ptr 1 0), (15, .sl I64 ub .no), (16, vv (vi (↑ub.length : Int))), (17, vv (vi ((0 : Int) - (↑ub.length : Int)))), (18, vv (vb true)), (19, vv (vb true))])) (by rw [hb]) ?_
  have hb := of_decide_eq_true hb
  refine ze [0, 1, 2, 3, 4, 6, 7, 8, 25] 1 (mkE 69 [(0, .agg [.sl I64 ua .no, .sl I64 la .no]), (1, .agg [.sl I64 ub .no, .sl I64 lb .no]), (2, vv (vi s)), (3, .ptr 0 0), (4, .ptr 1 0), (6, vv (vi 0)), (7, vv (vi 0)), (8, vv (vi 0)), (25, vv (vb true))]) [TB.cells [.sl I64 ua .no, .sl I64 la .no], TB.cells [.sl I64 ub .no, .sl I64 lb .no]] (by kernel_rfl) ?_
  refine wt_cond (t := true) (by kernel_rfl) (fun _ => ?_) (fun hno => (by cases hno))
  refine wt_seq ?_
  refine zr [0, 1, 2, 3, 4, 6, 7, 8] 3 (mkE 69 [(0, .agg [.sl I64 ua .no, .sl I64 la .no]), (1, .agg [.sl I64 ub .no, .sl I64 lb .no]), (2, vv (vi s)), (3, .ptr 0 0), (4, .ptr 1 0), (6, vv (vi 0)), (7, vv (vi 0)), (8, vv (vi 0))]) [TB.cells [.sl I64 ua .no, .sl I64 la .no], TB.cells [.sl I64 ub .no, .sl I64 lb .no]] (by kernel_rfl) ?_
  refine wt_ret ?_
  refine ⟨trivial, [vv (vi 0), vv (vi 0), vv (vi 0)], by kernel_rfl, by kernel_rfl, by kernel_rfl, ?_⟩
  rw [colL_none (.inl (by omega))]; rfl
 ·skip
  refine wl_told (te1 := (mkE 69 [(0, .agg [.sl I64 ua .no, .sl I64 la .no]), (1, .agg [.sl I64 ub .no, .sl I64 lb .no]), (2, vv (vi s)), (3, .ptr 0 0), (4, .ptr 1 0), (6, vv (vi 0)), (7, vv (vi 0)), (8, vv (vi 0)), (13, vv (vi s)), (14, .ptr 1 0), (15, .sl I64 ub .no), (16, vv (vi (↑ub.length : Int))), (17, vv (vi ((0 : Int) - (↑ub.length : Int)))), (18, vv (vb false)), (19, vv (vb false))])) (by rw [hb]) ?_
  have hb := of_decide_eq_false hb
  refine ze [0, 1, 2, 3, 4, 6, 7, 8, 25] 6 (mkE 69 [(0, .agg [.sl I64 ua .no, .sl I64 la .no]), (1, .agg [.sl I64 ub .no, .sl I64 lb .no]), (2, vv (vi s)), (3, .ptr 0 0), (4, .ptr 1 0), (6, vv (vi 0)), (7, vv (vi 0)), (8, vv (vi 0)), (25, vv (vb (decide (s ≥ (↑la.length : Int)))))]) [TB.cells [.sl I64 ua .no, .sl I64 la .no], TB.cells [.sl I64 ub .no, .sl I64 lb .no]] (by kernel_rfl) ?_
  refine wt_cond (t := decide (s ≥ (↑la.length : Int))) (by kernel_rfl) (fun hc => ?_) (fun hc => ?_)
  ·skip
   have hc := of_decide_eq_true hc
   refine wt_seq ?_
   refine zr [0, 1, 2, 3, 4, 6, 7, 8] 3 (mkE 69 [(0, .agg [.sl I64 ua .no, .sl I64 la .no]), (1, .agg [.sl I64 ub .no, .sl I64 lb .no]), (2, vv (vi s)), (3, .ptr 0 0), (4, .ptr 1 0), (6, vv (vi 0)), (7, vv (vi 0)), (8, vv (vi 0))]) [TB.cells [.sl I64 ua .no, .sl I64 la .no], TB.cells [.sl I64 ub .no, .sl I64 lb .no]] (by kernel_rfl) ?_
   refine wt_ret ?_
   refine ⟨trivial, [vv (vi 0), vv (vi 0), vv (vi 0)], by kernel_rfl, by kernel_rfl, by kernel_rfl, ?_⟩
   rw [colL_none (.inr (by omega))]; rfl
  ·skip
   have hc := of_decide_eq_false hc
   refine wt_skip ?_
   refine wt_seq ?_
   refine wt_seq ?_
   refine zr [0, 1, 2, 3, 4, 6, 7, 8, 27, 28, 29] 4 (mkE 69 [(0, .agg [.sl I64 ua .no, .sl I64 la .no]), (1, .agg [.sl I64 ub .no, .sl I64 lb .no]), (2, vv (vi s)), (3, .ptr 0 0), (4, .ptr 1 0), (6, vv (vi 0)), (7, vv (vi 0)), (8, vv (vi 0)), (27, .sl I64 ub .no), (28, vv (vi (↑ub.length : Int))), (29, vv (vi 0))]) [TB.cells [.sl I64 ua .no, .sl I64 la .no], TB.cells [.sl I64 ub .no, .sl I64 lb .no]] (by kernel_rfl) ?_
   refine wt_block ?_
   refine wt_loop (σ := Nat × Int × Int × Int) (fun ((i, lo, hi, m) : Nat × Int × Int × Int) => (mkE 69 [(2, ival s), (3, .ptr 0 0), (6, ival lo), (7, ival hi), (8, ival m), (27, .sl I64 ub .no), (28, ival ub.length), (29, ival (i : Nat))], ([.cells [.sl I64 ua .no, .sl I64 la .no], .cells [.sl I64 ub .no, .sl I64 lb .no]] : List TB))) (fun ((i, lo, hi, m) : Nat × Int × Int × Int) => i ≤ ub.length ∧ 0 ≤ m ∧ m ≤ i ∧ stF (colL la ub s i) = (lo, hi, m)) (fun ((i, lo, hi, m) : Nat × Int × Int × Int) => ub.length - i) ((0, 0, 0, 0)) (fits_of [2, 3, 6, 7, 8, 27, 28, 29] [] [] 100 [] (by kernel_rfl) (by kernel_rfl) (by kernel_rfl) (by kernel_rfl) (by kernel_rfl)) (by (try dsimp only); exact ⟨by omega, by omega, by omega, rfl⟩) (by (try dsimp only); unfold LL; omega) ?_
   rintro ⟨i, lo, hi, m⟩ hg
   have hg : i ≤ ub.length ∧ 0 ≤ m ∧ m ≤ i ∧ stF (colL la ub s i) = (lo, hi, m) := hg
   show WT _ _ _ _ _ _ _ _ _ _ (mkE 69 [(2, vv (vi s)), (3, .ptr 0 0), (6, vv (vi lo)), (7, vv (vi hi)), (8, vv (vi m)), (27, .sl I64 ub .no), (28, vv (vi (↑ub.length : Int))), (29, vv (vi (↑i : Int)))]) [TB.cells [.sl I64 ua .no, .sl I64 la .no], TB.cells [.sl I64 ub .no, .sl I64 lb .no]] _
   refine wt_seq ?_
   refine zr [2, 3, 6, 7, 8, 27, 28, 29, 30] 1 (mkE 69 [(2, vv (vi s)), (3, .ptr 0 0), (6, vv (vi lo)), (7, vv (vi hi)), (8, vv (vi m)), (27, .sl I64 ub .no), (28, vv (vi (↑ub.length : Int))), (29, vv (vi (↑i : Int))), (30, vv (vb (decide ((↑i : Int) < (↑ub.length : Int)))))]) [TB.cells [.sl I64 ua .no, .sl I64 la .no], TB.cells [.sl I64 ub .no, .sl I64 lb .no]] (by kernel_rfl) ?_
   refine wt_seq ?_
   refine wt_cond (t := decide ((↑i : Int) < (↑ub.length : Int))) (by kernel_rfl) (fun hc1 => ?_) (fun hc1 => ?_)
   ·skip
    have hc1 := of_decide_eq_true hc1
    have hf :  0 ≤ ub.getD i 0 ∧ ub.getD i 0 ≤ 9 := inH_at a6 (by omega)
    refine wt_skip ?_
    refine wt_seq ?_
    refine wt_block ?_
    refine wt_seq ?_
    refine wt_reg (P := Tp) (ty := Ty) (tt := ttb) [2, 3, 6, 7, 8, 9, 10, 27, 28, 29] (te1 := (mkE 69 [(2, vv (vi s)), (3, .ptr 0 0), (6, vv (vi lo)), (7, vv (vi hi)), (8, vv (vi m)), (9, vv (vi (↑i : Int))), (10, vv (vi (ub.getD i 0))), (27, .sl I64 ub .no), (28, vv (vi (↑ub.length : Int))), (29, vv (vi (↑i : Int)))])) (tS1 := [TB.cells [.sl I64 ua .no, .sl I64 la .no], TB.cells [.sl I64 ub .no, .sl I64 lb .no]]) (cp := True ∧ ((0 : Int) ≤ (↑i : Int) ∧ (↑i : Int) < (↑ub.length : Int)) ∧ True ∧ True ∧ True ∧ True) (by kernel_rfl) (by simp only [true_and, and_true]; first | omega | (simp; omega) | (simp; done)) ?_
    refine wt_seq ?_
    refine zr [2, 3, 6, 7, 8, 9, 10, 11, 27, 28, 29] 4 (mkE 69 [(2, vv (vi s)), (3, .ptr 0 0), (6, vv (vi lo)), (7, vv (vi hi)), (8, vv (vi m)), (9, vv (vi (↑i : Int))), (10, vv (vi (ub.getD i 0))), (11, vv (vi (IntKind.i64.wrap ((↑i : Int) + s)))), (27, .sl I64 ub .no), (28, vv (vi (↑ub.length : Int))), (29, vv (vi (↑i : Int)))]) [TB.cells [.sl I64 ua .no, .sl I64 la .no], TB.cells [.sl I64 ub .no, .sl I64 lb .no]] (by kernel_rfl) ?_
    rw [wr_i64 (n := (↑i : Int) + s) (by omega) (by omega)]
    refine wt_seq ?_
    refine wt_seq ?_
    refine wt_regL ?_
    refine wl_seg 3 (P := Tp) (ty := Ty) (tt := ttb) (k' := 3) (te' := (mkE 69 [(2, vv (vi s)), (3, .ptr 0 0), (6, vv (vi lo)), (7, vv (vi hi)), (8, vv (vi m)), (9, vv (vi (↑i : Int))), (10, vv (vi (ub.getD i 0))), (11, vv (vi ((↑i : Int) + s))), (27, .sl I64 ub .no), (28, vv (vi (↑ub.length : Int))), (29, vv (vi (↑i : Int))), (37, vv (vi ((↑i : Int) + s))), (38, vv (vb (decide ((↑i : Int) + s < (0 : Int))))), (39, vv (vb (decide ((↑i : Int) + s < (0 : Int)))))])) (tS' := [TB.cells [.sl I64 ua .no, .sl I64 la .no], TB.cells [.sl I64 ub .no, .sl I64 lb .no]]) (cp := True ∧ True ∧ True ∧ True) (by kernel_rfl) ⟨trivial, ⟨trivial, ⟨trivial, trivial⟩⟩⟩ ?_
    refine (Bool.eq_false_or_eq_true (decide ((↑i : Int) + s < (0 : Int)))).elim (fun hb1 => ?_) (fun hb1 => ?_)
    ·skip
     refine wl_told (te1 := (mkE 69 [(2, vv (vi s)), (3, .ptr 0 0), (6, vv (vi lo)), (7, vv (vi hi)), (8, vv (vi m)), (9, vv (vi (↑i : Int))), (10, vv (vi (ub.getD i 0))), (11, vv (vi ((↑i : Int) + s))), (27, .sl I64 ub .no), (28, vv (vi (↑ub.length : Int))), (29, vv (vi (↑i : Int))), (37, vv (vi ((↑i : Int) + s))), (38, vv (vb true)), (39, vv (vb true))])) (by rw [hb1]) ?_
     have hb1 := of_decide_eq_true hb1
     refine ze [2, 3, 6, 7, 8, 9, 10, 11, 27, 28, 29, 45] 1 (mkE 69 [(2, vv (vi s)), (3, .ptr 0 0), (6, vv (vi lo)), (7, vv (vi hi)), (8, vv (vi m)), (9, vv (vi (↑i : Int))), (10, vv (vi (ub.getD i 0))), (11, vv (vi ((↑i : Int) + s))), (27, .sl I64 ub .no), (28, vv (vi (↑ub.length : Int))), (29, vv (vi (↑i : Int))), (45, vv (vb true))]) [TB.cells [.sl I64 ua .no, .sl I64 la .no], TB.cells [.sl I64 ub .no, .sl I64 lb .no]] (by kernel_rfl) ?_
     refine wt_cond (t := true) (by kernel_rfl) (fun _ => ?_) (fun hno => (by cases hno))
     refine wt_exit ?_
     refine zr [2, 3, 6, 7, 8, 9, 10, 11, 27, 28, 29] 2 (mkE 69 [(2, vv (vi s)), (3, .ptr 0 0), (6, vv (vi lo)), (7, vv (vi hi)), (8, vv (vi m)), (9, vv (vi (↑i : Int))), (10, vv (vi (ub.getD i 0))), (11, vv (vi ((↑i : Int) + s))), (27, .sl I64 ub .no), (28, vv (vi (↑ub.length : Int))), (29, vv (vi (IntKind.i64.wrap ((↑i : Int) + (1 : Int)))))]) [TB.cells [.sl I64 ua .no, .sl I64 la .no], TB.cells [.sl I64 ub .no, .sl I64 lb .no]] (by kernel_rfl) ?_
     rw [wr_i64 (n := (↑i : Int) + (1 : Int)) (by omega) (by omega)]
     refine ⟨(i + 1, lo, hi, m), fits_of [2, 3, 6, 7, 8, 27, 28, 29] [] [] 100 [] (by kernel_rfl) (by kernel_rfl) (by kernel_rfl) (by kernel_rfl) (by kernel_rfl), (by (try dsimp only); exact ⟨by omega, hg.2.1, by omega, by rw [colL, if_neg (by omega)]; exact hg.2.2.2⟩), (by (try dsimp only); omega)⟩
    ·skip
     refine wl_told (te1 := (mkE 69 [(2, vv (vi s)), (3, .ptr 0 0), (6, vv (vi lo)), (7, vv (vi hi)), (8, vv (vi m)), (9, vv (vi (↑i : Int))), (10, vv (vi (ub.getD i 0))), (11, vv (vi ((↑i : Int) + s))), (27, .sl I64 ub .no), (28, vv (vi (↑ub.length : Int))), (29, vv (vi (↑i : Int))), (37, vv (vi ((↑i : Int) + s))), (38, vv (vb false)), (39, vv (vb false))])) (by rw [hb1]) ?_
     have hb1 := of_decide_eq_false hb1
     refine ze [2, 3, 6, 7, 8, 9, 10, 11, 27, 28, 29, 45] 6 (mkE 69 [(2, vv (vi s)), (3, .ptr 0 0), (6, vv (vi lo)), (7, vv (vi hi)), (8, vv (vi m)), (9, vv (vi (↑i : Int))), (10, vv (vi (ub.getD i 0))), (11, vv (vi ((↑i : Int) + s))), (27, .sl I64 ub .no), (28, vv (vi (↑ub.length : Int))), (29, vv (vi (↑i : Int))), (45, vv (vb (decide ((↑i : Int) + s ≥ (↑la.length : Int)))))]) [TB.cells [.sl I64 ua .no, .sl I64 la .no], TB.cells [.sl I64 ub .no, .sl I64 lb .no]] (by kernel_rfl) ?_
     refine wt_cond (t := decide ((↑i : Int) + s ≥ (↑la.length : Int))) (by kernel_rfl) (fun hc2 => ?_) (fun hc2 => ?_)
     ·skip
      have hc2 := of_decide_eq_true hc2
      refine wt_exit ?_
      refine zr [2, 3, 6, 7, 8, 9, 10, 11, 27, 28, 29] 2 (mkE 69 [(2, vv (vi s)), (3, .ptr 0 0), (6, vv (vi lo)), (7, vv (vi hi)), (8, vv (vi m)), (9, vv (vi (↑i : Int))), (10, vv (vi (ub.getD i 0))), (11, vv (vi ((↑i : Int) + s))), (27, .sl I64 ub .no), (28, vv (vi (↑ub.length : Int))), (29, vv (vi (IntKind.i64.wrap ((↑i : Int) + (1 : Int)))))]) [TB.cells [.sl I64 ua .no, .sl I64 la .no], TB.cells [.sl I64 ub .no, .sl I64 lb .no]] (by kernel_rfl) ?_
      rw [wr_i64 (n := (↑i : Int) + (1 : Int)) (by omega) (by omega)]
      refine ⟨(i + 1, lo, hi, m), fits_of [2, 3, 6, 7, 8, 27, 28, 29] [] [] 100 [] (by kernel_rfl) (by kernel_rfl) (by kernel_rfl) (by kernel_rfl) (by kernel_rfl), (by (try dsimp only); exact ⟨by omega, hg.2.1, by omega, by rw [colL, if_neg (by omega)]; exact hg.2.2.2⟩), (by (try dsimp only); omega)⟩
     ·skip
      have hc2 := of_decide_eq_false hc2
      have hf1 :  0 ≤ la.getD ((i : Int) + s).toNat 0 ∧ la.getD ((i : Int) + s).toNat 0 ≤ 9 := inH_at a5 (by omega)
      refine wt_skip ?_
      refine wt_seq ?_
      refine wt_reg (P := Tp) (ty := Ty) (tt := ttb) [2, 3, 6, 7, 8, 9, 10, 11, 12, 27, 28, 29] (te1 := (mkE 69 [(2, vv (vi s)), (3, .ptr 0 0), (6, vv (vi lo)), (7, vv (vi hi)), (8, vv (vi m)), (9, vv (vi (↑i : Int))), (10, vv (vi (ub.getD i 0))), (11, vv (vi ((↑i : Int) + s))), (12, vv (vi (IntKind.i64.wrap (ub.getD i 0 + la.getD ((↑i : Int) + s).toNat (0 : Int))))), (27, .sl I64 ub .no), (28, vv (vi (↑ub.length : Int))), (29, vv (vi (↑i : Int)))])) (tS1 := [TB.cells [.sl I64 ua .no, .sl I64 la .no], TB.cells [.sl I64 ub .no, .sl I64 lb .no]]) (cp := True ∧ True ∧ True ∧ True ∧ ((0 : Int) ≤ (↑i : Int) + s ∧ (↑i : Int) + s < (↑la.length : Int)) ∧ True ∧ True ∧ True ∧ True) (by kernel_rfl) (by simp only [true_and, and_true]; first | omega | (simp; omega) | (simp; done)) ?_
      rw [wr_i64 (n := ub.getD i 0 + la.getD ((↑i : Int) + s).toNat (0 : Int)) (by omega) (by omega)]
      refine wt_seq ?_
      refine wt_seq ?_
      refine zr [2, 3, 6, 7, 8, 9, 10, 11, 12, 27, 28, 29, 54] 2 (mkE 69 [(2, vv (vi s)), (3, .ptr 0 0), (6, vv (vi lo)), (7, vv (vi hi)), (8, vv (vi m)), (9, vv (vi (↑i : Int))), (10, vv (vi (ub.getD i 0))), (11, vv (vi ((↑i : Int) + s))), (12, vv (vi (ub.getD i 0 + la.getD ((↑i : Int) + s).toNat (0 : Int)))), (27, .sl I64 ub .no), (28, vv (vi (↑ub.length : Int))), (29, vv (vi (↑i : Int))), (54, vv (vb (m == (0 : Int))))]) [TB.cells [.sl I64 ua .no, .sl I64 la .no], TB.cells [.sl I64 ub .no, .sl I64 lb .no]] (by kernel_rfl) ?_
      refine wt_cond (t := m == (0 : Int)) (by kernel_rfl) (fun hc3 => ?_) (fun hc3 => ?_)
      ·skip
       have hc3 := beq_of hc3
       refine zr [2, 3, 6, 7, 8, 9, 10, 11, 12, 27, 28, 29] 4 (mkE 69 [(2, vv (vi s)), (3, .ptr 0 0), (6, vv (vi (ub.getD i 0 + la.getD ((↑i : Int) + s).toNat (0 : Int)))), (7, vv (vi (ub.getD i 0 + la.getD ((↑i : Int) + s).toNat (0 : Int)))), (8, vv (vi m)), (9, vv (vi (↑i : Int))), (10, vv (vi (ub.getD i 0))), (11, vv (vi ((↑i : Int) + s))), (12, vv (vi (ub.getD i 0 + la.getD ((↑i : Int) + s).toNat (0 : Int)))), (27, .sl I64 ub .no), (28, vv (vi (↑ub.length : Int))), (29, vv (vi (↑i : Int)))]) [TB.cells [.sl I64 ua .no, .sl I64 la .no], TB.cells [.sl I64 ub .no, .sl I64 lb .no]] (by kernel_rfl) ?_
       refine zr [2, 3, 6, 7, 8, 9, 10, 11, 12, 27, 28, 29] 11 (mkE 69 [(2, vv (vi s)), (3, .ptr 0 0), (6, vv (vi (if ub.getD i 0 + la.getD ((↑i : Int) + s).toNat (0 : Int) < ub.getD i 0 + la.getD ((↑i : Int) + s).toNat (0 : Int) then ub.getD i 0 + la.getD ((↑i : Int) + s).toNat (0 : Int) else ub.getD i 0 + la.getD ((↑i : Int) + s).toNat (0 : Int)))), (7, vv (vi (if ub.getD i 0 + la.getD ((↑i : Int) + s).toNat (0 : Int) > ub.getD i 0 + la.getD ((↑i : Int) + s).toNat (0 : Int) then ub.getD i 0 + la.getD ((↑i : Int) + s).toNat (0 : Int) else ub.getD i 0 + la.getD ((↑i : Int) + s).toNat (0 : Int)))), (8, vv (vi (IntKind.i64.wrap (m + (1 : Int))))), (9, vv (vi (↑i : Int))), (10, vv (vi (ub.getD i 0))), (11, vv (vi ((↑i : Int) + s))), (12, vv (vi (ub.getD i 0 + la.getD ((↑i : Int) + s).toNat (0 : Int)))), (27, .sl I64 ub .no), (28, vv (vi (↑ub.length : Int))), (29, vv (vi (↑i : Int)))]) [TB.cells [.sl I64 ua .no, .sl I64 la .no], TB.cells [.sl I64 ub .no, .sl I64 lb .no]] (by kernel_rfl) ?_
       rw [wr_i64 (n := m + (1 : Int)) (by omega) (by omega)]
       refine zr [2, 3, 6, 7, 8, 9, 10, 11, 12, 27, 28, 29] 2 (mkE 69 [(2, vv (vi s)), (3, .ptr 0 0), (6, vv (vi (if ub.getD i 0 + la.getD ((↑i : Int) + s).toNat (0 : Int) < ub.getD i 0 + la.getD ((↑i : Int) + s).toNat (0 : Int) then ub.getD i 0 + la.getD ((↑i : Int) + s).toNat (0 : Int) else ub.getD i 0 + la.getD ((↑i : Int) + s).toNat (0 : Int)))), (7, vv (vi (if ub.getD i 0 + la.getD ((↑i : Int) + s).toNat (0 : Int) > ub.getD i 0 + la.getD ((↑i : Int) + s).toNat (0 : Int) then ub.getD i 0 + la.getD ((↑i : Int) + s).toNat (0 : Int) else ub.getD i 0 + la.getD ((↑i : Int) + s).toNat (0 : Int)))), (8, vv (vi (m + (1 : Int)))), (9, vv (vi (↑i : Int))), (10, vv (vi (ub.getD i 0))), (11, vv (vi ((↑i : Int) + s))), (12, vv (vi (ub.getD i 0 + la.getD ((↑i : Int) + s).toNat (0 : Int)))), (27, .sl I64 ub .no), (28, vv (vi (↑ub.length : Int))), (29, vv (vi (IntKind.i64.wrap ((↑i : Int) + (1 : Int)))))]) [TB.cells [.sl I64 ua .no, .sl I64 la .no], TB.cells [.sl I64 ub .no, .sl I64 lb .no]] (by kernel_rfl) ?_
       rw [wr_i64 (n := (↑i : Int) + (1 : Int)) (by omega) (by omega)]
       refine ⟨(i + 1, if (ub.getD i 0 + la.getD ((i : Int) + s).toNat 0) < (ub.getD i 0 + la.getD ((i : Int) + s).toNat 0) then (ub.getD i 0 + la.getD ((i : Int) + s).toNat 0) else (ub.getD i 0 + la.getD ((i : Int) + s).toNat 0), if (ub.getD i 0 + la.getD ((i : Int) + s).toNat 0) > (ub.getD i 0 + la.getD ((i : Int) + s).toNat 0) then (ub.getD i 0 + la.getD ((i : Int) + s).toNat 0) else (ub.getD i 0 + la.getD ((i : Int) + s).toNat 0), m + 1), fits_of [2, 3, 6, 7, 8, 27, 28, 29] [] [] 100 [] (by kernel_rfl) (by kernel_rfl) (by kernel_rfl) (by kernel_rfl) (by kernel_rfl), (by (try dsimp only); exact ⟨by omega, by omega, by omega, by rw [colL, if_pos (by omega)]; exact stF_snoc hg.2.2.2 hc3⟩), (by (try dsimp only); omega)⟩
      ·skip
       have hc3 := bne_of hc3
       refine wt_skip ?_
       refine zr [2, 3, 6, 7, 8, 9, 10, 11, 12, 27, 28, 29] 11 (mkE 69 [(2, vv (vi s)), (3, .ptr 0 0), (6, vv (vi (if ub.getD i 0 + la.getD ((↑i : Int) + s).toNat (0 : Int) < lo then ub.getD i 0 + la.getD ((↑i : Int) + s).toNat (0 : Int) else lo))), (7, vv (vi (if ub.getD i 0 + la.getD ((↑i : Int) + s).toNat (0 : Int) > hi then ub.getD i 0 + la.getD ((↑i : Int) + s).toNat (0 : Int) else hi))), (8, vv (vi (IntKind.i64.wrap (m + (1 : Int))))), (9, vv (vi (↑i : Int))), (10, vv (vi (ub.getD i 0))), (11, vv (vi ((↑i : Int) + s))), (12, vv (vi (ub.getD i 0 + la.getD ((↑i : Int) + s).toNat (0 : Int)))), (27, .sl I64 ub .no), (28, vv (vi (↑ub.length : Int))), (29, vv (vi (↑i : Int)))]) [TB.cells [.sl I64 ua .no, .sl I64 la .no], TB.cells [.sl I64 ub .no, .sl I64 lb .no]] (by kernel_rfl) ?_
       rw [wr_i64 (n := m + (1 : Int)) (by omega) (by omega)]
       refine zr [2, 3, 6, 7, 8, 9, 10, 11, 12, 27, 28, 29] 2 (mkE 69 [(2, vv (vi s)), (3, .ptr 0 0), (6, vv (vi (if ub.getD i 0 + la.getD ((↑i : Int) + s).toNat (0 : Int) < lo then ub.getD i 0 + la.getD ((↑i : Int) + s).toNat (0 : Int) else lo))), (7, vv (vi (if ub.getD i 0 + la.getD ((↑i : Int) + s).toNat (0 : Int) > hi then ub.getD i 0 + la.getD ((↑i : Int) + s).toNat (0 : Int) else hi))), (8, vv (vi (m + (1 : Int)))), (9, vv (vi (↑i : Int))), (10, vv (vi (ub.getD i 0))), (11, vv (vi ((↑i : Int) + s))), (12, vv (vi (ub.getD i 0 + la.getD ((↑i : Int) + s).toNat (0 : Int)))), (27, .sl I64 ub .no), (28, vv (vi (↑ub.length : Int))), (29, vv (vi (IntKind.i64.wrap ((↑i : Int) + (1 : Int)))))]) [TB.cells [.sl I64 ua .no, .sl I64 la .no], TB.cells [.sl I64 ub .no, .sl I64 lb .no]] (by kernel_rfl) ?_
       rw [wr_i64 (n := (↑i : Int) + (1 : Int)) (by omega) (by omega)]
       refine ⟨(i + 1, if (ub.getD i 0 + la.getD ((i : Int) + s).toNat 0) < lo then (ub.getD i 0 + la.getD ((i : Int) + s).toNat 0) else lo, if (ub.getD i 0 + la.getD ((i : Int) + s).toNat 0) > hi then (ub.getD i 0 + la.getD ((i : Int) + s).toNat 0) else hi, m + 1), fits_of [2, 3, 6, 7, 8, 27, 28, 29] [] [] 100 [] (by kernel_rfl) (by kernel_rfl) (by kernel_rfl) (by kernel_rfl) (by kernel_rfl), (by (try dsimp only); exact ⟨by omega, by omega, by omega, by rw [colL, if_pos (by omega)]; exact stF_snoc' hg.2.2.2 hc3⟩), (by (try dsimp only); omega)⟩
   ·skip
    have hc1 := of_decide_eq_false hc1
    refine wt_exit ?_
    refine wt_seq ?_
    refine zr [2, 3, 6, 7, 8, 27, 28, 29] 6 (mkE 69 [(2, vv (vi s)), (3, .ptr 0 0), (6, vv (vi lo)), (7, vv (vi hi)), (8, vv (vi m)), (27, .sl I64 ub .no), (28, vv (vi (↑ub.length : Int))), (29, vv (vi (↑i : Int)))]) [TB.cells [.sl I64 ua .no, .sl I64 la .no], TB.cells [.sl I64 ub .no, .sl I64 lb .no]] (by kernel_rfl) ?_
    refine wt_ret ?_
    refine ⟨trivial, [vv (vi lo), vv (vi hi), vv (vi m)], by kernel_rfl, by kernel_rfl, by kernel_rfl, ?_⟩
    have hi' : i = ub.length := by omega
    subst hi'; rw [hg.2.2.2]; rfl
end Go.Tv
end
section
namespace Go.Tv
open Go Go.Di Go.Proofs
set_option maxRecDepth 100000
abbrev stA (la ub:List Int) (s:Int):Int×Int×Int:=stF (colL la ub s ub.length)
def fitsAt (la ub:List Int) (wear s:Int):Bool:=decide (3≤(stF (colL la ub s ub.length)).2.2∧(stF (colL la ub s ub.length)).2.1-(stF (colL la ub s ub.length)).1≤wear)
def shL (la ub:List Int) (wear:Int) (k:Nat):List Int:=((List.range k).map fun(j:Nat)=>(j:Int)-(ub.length:Int)).filter (fitsAt la ub wear)
theorem shL_yes {la ub:List Int} {wear:Int} {k:Nat} (h:fitsAt la ub wear ((k:Int)-(ub.length:Int))=true):shL la ub wear k++[(k:Int)-(ub.length:Int)]=shL la ub wear (k+1):=by
 simp[shL,List.range_succ,List.filter_append,h]
theorem shL_no {la ub:List Int} {wear:Int} {k:Nat} (h:fitsAt la ub wear ((k:Int)-(ub.length:Int))=false):shL la ub wear k=shL la ub wear (k+1):=by
 simp[shL,List.range_succ,List.filter_append,h]
theorem shL_len (la ub:List Int) (wear:Int) (k:Nat):(shL la ub wear k).length≤k:=by
 unfold shL
 refine Nat.le_trans (List.length_filter_le _ _) ?_
 simp
theorem stF_in {l:List Int} (h:∀ x∈l,0≤x∧x≤18):0≤(stF l).1∧(stF l).1≤18∧0≤(stF l).2.1∧(stF l).2.1≤18∧0≤(stF l).2.2:=by
 have key:∀ (l:List Int) (st:Int×Int×Int),(∀ x∈l,0≤x∧x≤18)→(0≤st.1∧st.1≤18∧0≤st.2.1∧st.2.1≤18∧0≤st.2.2)→0≤(l.foldl stS st).1∧(l.foldl stS st).1≤18∧0≤(l.foldl stS st).2.1∧(l.foldl stS st).2.1≤18∧0≤(l.foldl stS st).2.2:=by
  intro l
  induction l with
  | nil=>intro st _ h; exact h
  | cons x l ih =>
   intro st hx h
   have h1:=hx x (by simp)
   refine ih _ (fun y hy=>hx y (by simp[hy])) ?_
   obtain⟨a,b,c⟩:=st
   simp only[stS] at h ⊢
   refine⟨?_,?_,?_,?_,?_⟩<;>(repeat' split)<;>omega
 exact key l _ h (by simp)
theorem colL_in {la ub:List Int} {s:Int} (h1:inH la) (h2:inH ub):∀ i,i≤ub.length→∀ x∈colL la ub s i,0≤x∧x≤18
 | 0,_,x,hx=>by cases hx
 | i+1,hi,x,hx=>by
  rw[colL] at hx
  split at hx
  ·rename_i hc
   rcases List.mem_append.1 hx with hx | hx
   ·exact colL_in h1 h2 i (by omega) x hx
   ·rw[List.mem_singleton] at hx
    have k1:=inH_at h2 (i:=i) (by omega)
    have k2:=inH_at h1 (i:=((i:Int)+s).toNat) (by omega)
    omega
  ·exact colL_in h1 h2 i (by omega) x hx
theorem stA_in {la ub:List Int} (s:Int) (h1:inH la) (h2:inH ub):0≤(stA la ub s).1∧(stA la ub s).1≤18∧0≤(stA la ub s).2.1∧(stA la ub s).2.1≤18∧0≤(stA la ub s).2.2:=stF_in (colL_in h1 h2 _ (Nat.le_refl _))
theorem spec_65 {tab:IsoF} (tk:TabK tab) {n:Nat} (ua la ub lb:List Int) (wear:Int) (a1:la.length≤100) (a2:ub.length≤100) (a5:inH la) (a6:inH ub):ISpec (isoT tab (n+2)) 65 ([edV ua la,edV ub lb,ival wear]) (fun v=>v = .sl I64 (shL la ub wear (ub.length+la.length+1)) .no):=by
 refine ispec_of (fn:=Try.f65) (rts:=[some IntsT]) Try.func65 rfl (fun _=>tk.other _ _ (by decide) (by decide) (by decide)) ?_
 show WT _ _ _ _ _ _ _ _ _ _ (mkE 45 [(0,TV.agg [TV.sl I64 ua Ap.no,TV.sl I64 la Ap.no]),(1,TV.agg [TV.sl I64 ub Ap.no,TV.sl I64 lb Ap.no]),(2,vv (vi wear))]) [] _
 refine wt_seq ?_
 refine zr [0,1,2,3,4,6] 3 (mkE 45 [(0,.agg [.sl I64 ua .no,.sl I64 la .no]),(1,.agg [.sl I64 ub .no,.sl I64 lb .no]),(2,vv (vi wear)),(3,.ptr 0 0),(4,.ptr 1 0),(6,.sl I64 [] Ap.full)]) [TB.cells [.sl I64 ua .no,.sl I64 la .no],TB.cells [.sl I64 ub .no,.sl I64 lb .no]] (by kernel_rfl) ?_
 refine wt_seq ?_
 refine zr [0,1,2,3,4,6,7] 1 (mkE 45 [(0,.agg [.sl I64 ua .no,.sl I64 la .no]),(1,.agg [.sl I64 ub .no,.sl I64 lb .no]),(2,vv (vi wear)),(3,.ptr 0 0),(4,.ptr 1 0),(6,.sl I64 [] Ap.full),(7,.sl I64 [] Ap.full)]) [TB.cells [.sl I64 ua .no,.sl I64 la .no],TB.cells [.sl I64 ub .no,.sl I64 lb .no]] (by kernel_rfl) ?_
 refine wt_seq ?_
 refine wt_seq ?_
 refine zr [0,1,2,3,4,6,7,8] 5 (mkE 45 [(0,.agg [.sl I64 ua .no,.sl I64 la .no]),(1,.agg [.sl I64 ub .no,.sl I64 lb .no]),(2,vv (vi wear)),(3,.ptr 0 0),(4,.ptr 1 0),(6,.sl I64 [] Ap.full),(7,.sl I64 [] Ap.full),(8,vv (vi (IntKind.i64.wrap ((0:Int)-(↑ub.length:Int)))))]) [TB.cells [.sl I64 ua .no,.sl I64 la .no],TB.cells [.sl I64 ub .no,.sl I64 lb .no]] (by kernel_rfl) ?_
 rw[wr_i64 (n:=(0:Int)-(↑ub.length:Int)) (by omega) (by omega)]
 refine wt_block ?_
 refine wt_loop (σ:=Nat) (fun(k:Nat)=>(mkE 45 [(2,ival wear),(3,.ptr 0 0),(4,.ptr 1 0),(7,.sl I64 (shL la ub wear k) (.lab 2)),(8,ival ((k:Int)-(ub.length:Int)))],([.cells [.sl I64 ua .no,.sl I64 la .no],.cells [.sl I64 ub .no,.sl I64 lb .no],.own 3 1]:List TB))) (fun(k:Nat)=>k≤ub.length+la.length+1) (fun(k:Nat)=>ub.length+la.length+1-k) (0) (fits_of [2,3,4,7,8] [(7,I64,2)] [] 2 [(3,1)] (by kernel_rfl) (by kernel_rfl) (by kernel_rfl) (by kernel_rfl) (by kernel_rfl)) (by (try dsimp only); omega) (by (try dsimp only); unfold LL; omega) ?_
 intro k hg
 have hg:k≤ub.length+la.length+1:=hg
 show WT _ _ _ _ _ _ _ _ _ _ (mkE 45 [(2,vv (vi wear)),(3,.ptr 0 0),(4,.ptr 1 0),(7,.sl I64 (shL la ub wear k) (Ap.lab 2)),(8,vv (vi ((↑k:Int)-(↑ub.length:Int))))]) [TB.cells [.sl I64 ua .no,.sl I64 la .no],TB.cells [.sl I64 ub .no,.sl I64 lb .no],TB.own 3 1] _
 refine wt_seq ?_
 refine wt_seq ?_
 refine zr [2,3,4,7,8,20] 5 (mkE 45 [(2,vv (vi wear)),(3,.ptr 0 0),(4,.ptr 1 0),(7,.sl I64 (shL la ub wear k) (Ap.lab 2)),(8,vv (vi ((↑k:Int)-(↑ub.length:Int)))),(20,vv (vb (decide ((↑k:Int)-(↑ub.length:Int)≤(↑la.length:Int)))))]) [TB.cells [.sl I64 ua .no,.sl I64 la .no],TB.cells [.sl I64 ub .no,.sl I64 lb .no],TB.own 3 1] (by kernel_rfl) ?_
 refine wt_cond (t:=decide ((↑k:Int)-(↑ub.length:Int)≤(↑la.length:Int))) (by kernel_rfl) (fun hc => ?_) (fun hc => ?_)
 ·skip
  have hc:=of_decide_eq_true hc
  refine wt_skip ?_
  refine wt_seq ?_
  refine wt_block ?_
  refine wt_seq ?_
  refine wt_regL ?_
  refine zl 3 3 (mkE 45 [(2,vv (vi wear)),(3,.ptr 0 0),(4,.ptr 1 0),(7,.sl I64 (shL la ub wear k) (Ap.lab 2)),(8,vv (vi ((↑k:Int)-(↑ub.length:Int)))),(20,vv (vb (decide ((↑k:Int)-(↑ub.length:Int)≤(↑la.length:Int))))),(24,.agg [.sl I64 ua .no,.sl I64 la .no]),(25,.agg [.sl I64 ub .no,.sl I64 lb .no]),(26,vv (vi ((↑k:Int)-(↑ub.length:Int))))]) [TB.cells [.sl I64 ua .no,.sl I64 la .no],TB.cells [.sl I64 ub .no,.sl I64 lb .no],TB.own 3 1] (by kernel_rfl) ?_
  refine wl_icall (tt:=ttb) (g:=60) (targs:=[.agg [.sl I64 ua .no,.sl I64 la .no],.agg [.sl I64 ub .no,.sl I64 lb .no],vv (vi ((↑k:Int)-(↑ub.length:Int)))]) (dst:=some 27) (by kernel_rfl) (spec_60 tk _ _ _ _ _ (by first | assumption | omega | (simp; done) | (simp; omega)) (by first | assumption | omega | (simp; done) | (simp; omega)) (by first | assumption | omega | (simp; done) | (simp; omega)) (by first | assumption | omega | (simp; done) | (simp; omega)) (by first | assumption | omega | (simp; done) | (simp; omega)) (by first | assumption | omega | (simp; done) | (simp; omega))) ?_
  rintro _ rfl
  have hf: 0≤(stF (colL la ub ((k:Int)-(ub.length:Int)) ub.length)).1∧(stF (colL la ub ((k:Int)-(ub.length:Int)) ub.length)).1≤18∧0≤(stF (colL la ub ((k:Int)-(ub.length:Int)) ub.length)).2.1∧(stF (colL la ub ((k:Int)-(ub.length:Int)) ub.length)).2.1≤18∧0≤(stF (colL la ub ((k:Int)-(ub.length:Int)) ub.length)).2.2:=stA_in _ a5 a6
  refine ze [2,3,4,7,8,9,10,11] 7 (mkE 45 [(2,vv (vi wear)),(3,.ptr 0 0),(4,.ptr 1 0),(7,.sl I64 (shL la ub wear k) (Ap.lab 2)),(8,vv (vi ((↑k:Int)-(↑ub.length:Int)))),(9,vv (vi (stF (colL la ub ((↑k:Int)-(↑ub.length:Int)) ub.length)).fst)),(10,vv (vi (stF (colL la ub ((↑k:Int)-(↑ub.length:Int)) ub.length)).snd.fst)),(11,vv (vi (stF (colL la ub ((↑k:Int)-(↑ub.length:Int)) ub.length)).snd.snd))]) [TB.cells [.sl I64 ua .no,.sl I64 la .no],TB.cells [.sl I64 ub .no,.sl I64 lb .no],TB.own 3 1] (by kernel_rfl) ?_
  refine wt_seq ?_
  refine wt_regL ?_
  refine wl_seg 3 (P:=Tp) (ty:=Ty) (tt:=ttb) (k':=3) (te':=(mkE 45 [(2,vv (vi wear)),(3,.ptr 0 0),(4,.ptr 1 0),(7,.sl I64 (shL la ub wear k) (Ap.lab 2)),(8,vv (vi ((↑k:Int)-(↑ub.length:Int)))),(9,vv (vi (stF (colL la ub ((↑k:Int)-(↑ub.length:Int)) ub.length)).fst)),(10,vv (vi (stF (colL la ub ((↑k:Int)-(↑ub.length:Int)) ub.length)).snd.fst)),(11,vv (vi (stF (colL la ub ((↑k:Int)-(↑ub.length:Int)) ub.length)).snd.snd)),(31,vv (vi (stF (colL la ub ((↑k:Int)-(↑ub.length:Int)) ub.length)).snd.snd)),(32,vv (vb (decide ((stF (colL la ub ((↑k:Int)-(↑ub.length:Int)) ub.length)).snd.snd≥(3:Int))))),(33,vv (vb (decide ((stF (colL la ub ((↑k:Int)-(↑ub.length:Int)) ub.length)).snd.snd≥(3:Int)))))])) (tS':=[TB.cells [.sl I64 ua .no,.sl I64 la .no],TB.cells [.sl I64 ub .no,.sl I64 lb .no],TB.own 3 1]) (cp:=True∧True∧True∧True) (by kernel_rfl) ⟨trivial,⟨trivial,⟨trivial,trivial⟩⟩⟩ ?_
  refine(Bool.eq_false_or_eq_true (decide ((stF (colL la ub ((↑k:Int)-(↑ub.length:Int)) ub.length)).snd.snd≥(3:Int)))).elim (fun hb => ?_) (fun hb => ?_)
  ·skip
   refine wl_told (te1:=(mkE 45 [(2,vv (vi wear)),(3,.ptr 0 0),(4,.ptr 1 0),(7,.sl I64 (shL la ub wear k) (Ap.lab 2)),(8,vv (vi ((↑k:Int)-(↑ub.length:Int)))),(9,vv (vi (stF (colL la ub ((↑k:Int)-(↑ub.length:Int)) ub.length)).fst)),(10,vv (vi (stF (colL la ub ((↑k:Int)-(↑ub.length:Int)) ub.length)).snd.fst)),(11,vv (vi (stF (colL la ub ((↑k:Int)-(↑ub.length:Int)) ub.length)).snd.snd)),(31,vv (vi (stF (colL la ub ((↑k:Int)-(↑ub.length:Int)) ub.length)).snd.snd)),(32,vv (vb true)),(33,vv (vb true))])) (by rw[hb]) ?_
   have hb:=of_decide_eq_true hb
   refine ze [2,3,4,7,8,9,10,11,39] 6 (mkE 45 [(2,vv (vi wear)),(3,.ptr 0 0),(4,.ptr 1 0),(7,.sl I64 (shL la ub wear k) (Ap.lab 2)),(8,vv (vi ((↑k:Int)-(↑ub.length:Int)))),(9,vv (vi (stF (colL la ub ((↑k:Int)-(↑ub.length:Int)) ub.length)).fst)),(10,vv (vi (stF (colL la ub ((↑k:Int)-(↑ub.length:Int)) ub.length)).snd.fst)),(11,vv (vi (stF (colL la ub ((↑k:Int)-(↑ub.length:Int)) ub.length)).snd.snd)),(39,vv (vb (decide (IntKind.i64.wrap ((stF (colL la ub ((↑k:Int)-(↑ub.length:Int)) ub.length)).snd.fst-(stF (colL la ub ((↑k:Int)-(↑ub.length:Int)) ub.length)).fst)≤wear))))]) [TB.cells [.sl I64 ua .no,.sl I64 la .no],TB.cells [.sl I64 ub .no,.sl I64 lb .no],TB.own 3 1] (by kernel_rfl) ?_
   rw[wr_i64 (n:=(stF (colL la ub ((↑k:Int)-(↑ub.length:Int)) ub.length)).snd.fst-(stF (colL la ub ((↑k:Int)-(↑ub.length:Int)) ub.length)).fst) (by omega) (by omega)]
   refine wt_cond (t:=decide ((stF (colL la ub ((↑k:Int)-(↑ub.length:Int)) ub.length)).snd.fst-(stF (colL la ub ((↑k:Int)-(↑ub.length:Int)) ub.length)).fst≤wear)) (by kernel_rfl) (fun hc1 => ?_) (fun hc1 => ?_)
   ·skip
    have hc1:=of_decide_eq_true hc1
    refine wt_reg (P:=Tp) (ty:=Ty) (tt:=ttb) [2,3,4,7,8,9,10,11] (te1:=(mkE 45 [(2,vv (vi wear)),(3,.ptr 0 0),(4,.ptr 1 0),(7,.sl I64 (shL la ub wear k++[(↑k:Int)-(↑ub.length:Int)]) (Ap.lab 2)),(8,vv (vi ((↑k:Int)-(↑ub.length:Int)))),(9,vv (vi (stF (colL la ub ((↑k:Int)-(↑ub.length:Int)) ub.length)).fst)),(10,vv (vi (stF (colL la ub ((↑k:Int)-(↑ub.length:Int)) ub.length)).snd.fst)),(11,vv (vi (stF (colL la ub ((↑k:Int)-(↑ub.length:Int)) ub.length)).snd.snd))])) (tS1:=[TB.cells [.sl I64 ua .no,.sl I64 la .no],TB.cells [.sl I64 ub .no,.sl I64 lb .no],TB.own 3 1]) (cp:=True∧True∧True∧(shL la ub wear k).length+1≤1000000000∧True∧True) (by kernel_rfl) (by simp only[true_and,and_true]; have:=shL_len la ub wear k; simp; omega) ?_
    refine zr [2,3,4,7,8,9,10,11] 3 (mkE 45 [(2,vv (vi wear)),(3,.ptr 0 0),(4,.ptr 1 0),(7,.sl I64 (shL la ub wear k++[(↑k:Int)-(↑ub.length:Int)]) (Ap.lab 2)),(8,vv (vi (IntKind.i64.wrap ((↑k:Int)-(↑ub.length:Int)+(1:Int))))),(9,vv (vi (stF (colL la ub ((↑k:Int)-(↑ub.length:Int)) ub.length)).fst)),(10,vv (vi (stF (colL la ub ((↑k:Int)-(↑ub.length:Int)) ub.length)).snd.fst)),(11,vv (vi (stF (colL la ub ((↑k:Int)-(↑ub.length:Int)) ub.length)).snd.snd))]) [TB.cells [.sl I64 ua .no,.sl I64 la .no],TB.cells [.sl I64 ub .no,.sl I64 lb .no],TB.own 3 1] (by kernel_rfl) ?_
    rw[wr_i64 (n:=(↑k:Int)-(↑ub.length:Int)+(1:Int)) (by omega) (by omega)]
    refine⟨k+1,fits_of [2,3,4,7,8] [] [] 3 [] (by rw[shL_yes (decide_eq_true (by omega)),show (k:Int)-(ub.length:Int)+1=((k+1:Nat):Int)-(ub.length:Int) by omega]; kernel_rfl) (by kernel_rfl) (by kernel_rfl) (by kernel_rfl) (by kernel_rfl),(by (try dsimp only); omega),(by (try dsimp only); omega)⟩
   ·skip
    have hc1:=of_decide_eq_false hc1
    refine wt_skip ?_
    refine zr [2,3,4,7,8,9,10,11] 3 (mkE 45 [(2,vv (vi wear)),(3,.ptr 0 0),(4,.ptr 1 0),(7,.sl I64 (shL la ub wear k) (Ap.lab 2)),(8,vv (vi (IntKind.i64.wrap ((↑k:Int)-(↑ub.length:Int)+(1:Int))))),(9,vv (vi (stF (colL la ub ((↑k:Int)-(↑ub.length:Int)) ub.length)).fst)),(10,vv (vi (stF (colL la ub ((↑k:Int)-(↑ub.length:Int)) ub.length)).snd.fst)),(11,vv (vi (stF (colL la ub ((↑k:Int)-(↑ub.length:Int)) ub.length)).snd.snd))]) [TB.cells [.sl I64 ua .no,.sl I64 la .no],TB.cells [.sl I64 ub .no,.sl I64 lb .no],TB.own 3 1] (by kernel_rfl) ?_
    rw[wr_i64 (n:=(↑k:Int)-(↑ub.length:Int)+(1:Int)) (by omega) (by omega)]
    refine⟨k+1,fits_of [2,3,4,7,8] [] [] 3 [] (by rw[shL_no (decide_eq_false (by omega)),show (k:Int)-(ub.length:Int)+1=((k+1:Nat):Int)-(ub.length:Int) by omega]; kernel_rfl) (by kernel_rfl) (by kernel_rfl) (by kernel_rfl) (by kernel_rfl),(by (try dsimp only); omega),(by (try dsimp only); omega)⟩
  ·skip
   refine wl_told (te1:=(mkE 45 [(2,vv (vi wear)),(3,.ptr 0 0),(4,.ptr 1 0),(7,.sl I64 (shL la ub wear k) (Ap.lab 2)),(8,vv (vi ((↑k:Int)-(↑ub.length:Int)))),(9,vv (vi (stF (colL la ub ((↑k:Int)-(↑ub.length:Int)) ub.length)).fst)),(10,vv (vi (stF (colL la ub ((↑k:Int)-(↑ub.length:Int)) ub.length)).snd.fst)),(11,vv (vi (stF (colL la ub ((↑k:Int)-(↑ub.length:Int)) ub.length)).snd.snd)),(31,vv (vi (stF (colL la ub ((↑k:Int)-(↑ub.length:Int)) ub.length)).snd.snd)),(32,vv (vb false)),(33,vv (vb false))])) (by rw[hb]) ?_
   have hb:=of_decide_eq_false hb
   refine ze [2,3,4,7,8,9,10,11,39] 1 (mkE 45 [(2,vv (vi wear)),(3,.ptr 0 0),(4,.ptr 1 0),(7,.sl I64 (shL la ub wear k) (Ap.lab 2)),(8,vv (vi ((↑k:Int)-(↑ub.length:Int)))),(9,vv (vi (stF (colL la ub ((↑k:Int)-(↑ub.length:Int)) ub.length)).fst)),(10,vv (vi (stF (colL la ub ((↑k:Int)-(↑ub.length:Int)) ub.length)).snd.fst)),(11,vv (vi (stF (colL la ub ((↑k:Int)-(↑ub.length:Int)) ub.length)).snd.snd)),(39,vv (vb false))]) [TB.cells [.sl I64 ua .no,.sl I64 la .no],TB.cells [.sl I64 ub .no,.sl I64 lb .no],TB.own 3 1] (by kernel_rfl) ?_
   refine wt_cond (t:=false) (by kernel_rfl) (fun hno=>(by cases hno)) (fun _ => ?_)
   refine wt_skip ?_
   refine zr [2,3,4,7,8,9,10,11] 3 (mkE 45 [(2,vv (vi wear)),(3,.ptr 0 0),(4,.ptr 1 0),(7,.sl I64 (shL la ub wear k) (Ap.lab 2)),(8,vv (vi (IntKind.i64.wrap ((↑k:Int)-(↑ub.length:Int)+(1:Int))))),(9,vv (vi (stF (colL la ub ((↑k:Int)-(↑ub.length:Int)) ub.length)).fst)),(10,vv (vi (stF (colL la ub ((↑k:Int)-(↑ub.length:Int)) ub.length)).snd.fst)),(11,vv (vi (stF (colL la ub ((↑k:Int)-(↑ub.length:Int)) ub.length)).snd.snd))]) [TB.cells [.sl I64 ua .no,.sl I64 la .no],TB.cells [.sl I64 ub .no,.sl I64 lb .no],TB.own 3 1] (by kernel_rfl) ?_
   rw[wr_i64 (n:=(↑k:Int)-(↑ub.length:Int)+(1:Int)) (by omega) (by omega)]
   refine⟨k+1,fits_of [2,3,4,7,8] [] [] 3 [] (by rw[shL_no (decide_eq_false (by omega)),show (k:Int)-(ub.length:Int)+1=((k+1:Nat):Int)-(ub.length:Int) by omega]; kernel_rfl) (by kernel_rfl) (by kernel_rfl) (by kernel_rfl) (by kernel_rfl),(by (try dsimp only); omega),(by (try dsimp only); omega)⟩
 ·skip
  have hc:=of_decide_eq_false hc
  refine wt_exit ?_
  refine wt_seq ?_
  refine zr [2,3,4,6,7,8] 2 (mkE 45 [(2,vv (vi wear)),(3,.ptr 0 0),(4,.ptr 1 0),(6,.sl I64 (shL la ub wear k) (Ap.lab 2)),(7,.sl I64 (shL la ub wear k) (Ap.lab 2)),(8,vv (vi ((↑k:Int)-(↑ub.length:Int))))]) [TB.cells [.sl I64 ua .no,.sl I64 la .no],TB.cells [.sl I64 ub .no,.sl I64 lb .no],TB.own 3 1] (by kernel_rfl) ?_
  refine wt_ret ?_
  refine⟨trivial,[.sl I64 (shL la ub wear k) (Ap.lab 2)],by kernel_rfl,by kernel_rfl,by kernel_rfl,?_⟩
  have hk:k=ub.length+la.length+1:=by omega
  subst hk; rfl
end Go.Tv
end
