import Derived.Test.YtedcgbkilmlbhaaGreatPk30
import Derived.Conc.SmallLaws
section
namespace Go.Co
open Go Go.Conc Go.Proofs
open Classical
variable {P : Program} {af : Machine → Trace → Prop} {γ : So} {w : World}
theorem E8 {b : Nat} : γ.give.all b ↔ γ.all b := ⟨fun h => h.elim id fun h => h.elim, .inl⟩
theorem aF.give {ad : Addr} {v : Value} (h : aF γ w ad v) : aF γ.give w ad v := ⟨E8.2 h.1, h.2⟩
theorem uF.give {v : Value} {l : List Int} (h : uF γ w v l) : uF γ.give w v l := by
 obtain ⟨A, cap, rfl, h⟩ := h
 exact ⟨A, cap, rfl, fun i x hx => by obtain ⟨ad, h1, h2⟩ := h i x hx; exact ⟨ad, h1, h2.give⟩⟩
theorem dY.give {b : Nat} {d : Wk} (h : dY γ w b d) : dY γ.give w b d :=
 ⟨h.bH.give, h.aR.imp fun _ ⟨h1, h2⟩ => ⟨h1.give, h2.give⟩, fun i hi => (h.up i hi).imp fun _ ⟨h1, h2⟩ => ⟨h1.give, h2.give⟩, fun i hi => (h.lo i hi).imp fun _ ⟨h1, h2⟩ => ⟨h1.give, h2.give⟩⟩
theorem Kept.put {γ0 : So} {w0 : World} {ad : Addr} {v : Value} (k : Kept γ0 w0 γ w) (h : w0.heap.size ≤ ad.block) : Kept γ0 w0 γ (w.setCell ad v) :=
 ⟨k.shr, k.own, fun b hb hlt => (heap_setCell_other _ _ _ _ (by omega)).trans (k.blk b hb hlt), by rw [World.size_setCell]; exact k.size, k.env⟩
structure Dv (A : Nat → Prop) (B0 : Nat) (w0 : World) (γ : So) (w : World) : Prop where
 lt : ∀ b, A b → b < B0
 all : ∀ b, A b → γ.all b
 blk : ∀ b, A b → w.heap[b]? = w0.heap[b]?
 size : B0 ≤ w.heap.size
 env : w.os = w0.os ∧ w.output = w0.output
theorem Dv.kept {A : Nat → Prop} {B0 : Nat} {w0 w' : World} {γ' : So} (h : Dv A B0 w0 γ w) (k : Kept γ w γ' w') : Dv A B0 w0 γ' w' :=
 ⟨h.lt, fun b hb => k.all (h.all b hb), fun b hb => (k.blk b (h.all b hb) (Nat.lt_of_lt_of_le (h.lt b hb) h.size)).trans (h.blk b hb), Nat.le_trans h.size k.size, k.env.1.trans h.env.1, k.env.2.trans h.env.2⟩
theorem Dv.give {A : Nat → Prop} {B0 : Nat} {w0 : World} (h : Dv A B0 w0 γ w) : Dv A B0 w0 γ.give w := ⟨h.lt, fun b hb => E8.2 (h.all b hb), h.blk, h.size, h.env⟩
structure Fx (da db : Wk) (b2 b3 b5 b6 cf cl : Nat) (γ : So) (w : World) : Prop where
 wa : dY γ w b2 da
 wb : dY γ w b3 db
 f : aF γ w ⟨b5, 0, none⟩ (.chan (some cf))
 l : aF γ w ⟨b6, 0, none⟩ (.chan (some cl))
theorem Fx.kept {da db : Wk} {b2 b3 b5 b6 cf cl : Nat} {γ' : So} {w' : World} (h : Fx da db b2 b3 b5 b6 cf cl γ w) (k : Kept γ w γ' w') : Fx da db b2 b3 b5 b6 cf cl γ' w' := ⟨h.wa.kept k, h.wb.kept k, k.sees h.f, k.sees h.l⟩
theorem Fx.give {da db : Wk} {b2 b3 b5 b6 cf cl : Nat} (h : Fx da db b2 b3 b5 b6 cf cl γ w) : Fx da db b2 b3 b5 b6 cf cl γ.give w := ⟨h.wa.give, h.wb.give, h.f.give, h.l.give⟩
def H6 (b2 b3 b5 b6 : Nat) (u : Nat → Value) : Act :=
 ⟨#[u 0, u 1, .pointer (some ⟨b2, 0, none⟩), .pointer (some ⟨b3, 0, none⟩), u 4, .pointer (some ⟨b5, 0, none⟩), .pointer (some ⟨b6, 0, none⟩), u 7, u 8, u 9, u 10, u 11, u 12, u 13, u 14, u 15, u 16, u 17, u 18, u 19, u 20, u 21, u 22, u 23, u 24, u 25, u 26, u 27, u 28, u 29, u 30, u 31, u 32, u 33, u 34], []⟩
def D4 (b2 b3 b5 b6 : Nat) (vl : Value) (nl k : Nat) (u : Nat → Value) : Act :=
 ⟨#[u 0, u 1, .pointer (some ⟨b2, 0, none⟩), .pointer (some ⟨b3, 0, none⟩), u 4, .pointer (some ⟨b5, 0, none⟩), .pointer (some ⟨b6, 0, none⟩), u 7, u 8, u 9, u 10, u 11, u 12, u 13, u 14, vl, .int .i64 nl, .int .i64 k, u 18, u 19, u 20, u 21, u 22, u 23, u 24, u 25, u 26, u 27, u 28, u 29, u 30, u 31, u 32, u 33, u 34], []⟩
def acr (b2 b3 b5 b6 cf : Nat) (out : Value) (u : Nat → Value) : Act :=
 ⟨#[u 0, u 1, .pointer (some ⟨b2, 0, none⟩), .pointer (some ⟨b3, 0, none⟩), u 4, .pointer (some ⟨b5, 0, none⟩), .pointer (some ⟨b6, 0, none⟩), u 7, u 8, out, u 10, u 11, u 12, u 13, u 14, u 15, u 16, u 17, u 18, u 19, u 20, u 21, u 22, u 23, .chan (some cf), u 25, u 26, u 27, u 28, u 29, u 30, u 31, u 32, u 33, u 34], []⟩
noncomputable def Xz : Code := Tryz.f60.body.getD .skip
noncomputable def nD : Code := match Xz with | .seq _ (.seq _ (.seq _ x)) => x | _ => .skip
noncomputable def ZV : Code := match nD with | .seq x _ => x | _ => .skip
theorem EX {cf cl : Nat} {tv z2 : Value} {mu : Bool} {K : Nat} {p : Pc} (todo : List (List Value)) : chain cf cl tv z2 mu K p todo ≠ .ret ∧ chain cf cl tv z2 mu K p todo ≠ .stop := by cases todo <;> simp [chain]
def ach (da db : Wk) (b2 b3 b5 b6 cf cl : Nat) (K : Nat) (p : Pc) (A : Nat → Prop) (B0 : Nat) (w0 : World) (γ' : Gm) (e : Exit) (a' : Act) (w' : World) : Prop :=
 e = .normal ∧ γ'.1 = chain cf cl (.bool true) (.bool false) false K p [] ∧ Dv A B0 w0 γ'.2 w' ∧ Fx da db b2 b3 b5 b6 cf cl γ'.2 w' ∧ (∀ b, A b → γ'.2.1 b ∨ γ'.2.2 b) ∧ ∃ vl nl k u, a' = D4 b2 b3 b5 b6 vl nl k u
set_option maxRecDepth 100000 in
set_option maxHeartbeats 2000000 in
theorem WC (hP : Plain Tryz.prog) {b2 b3 b5 b6 cf cl : Nat} {da db : Wk} (qB : da.ok) (vI : db.ok) {K : Nat} {p : Pc} {A : Nat → Prop} {B0 : Nat} {w0 : World} (hS : Dv A B0 w0 γ w) (hF : Fx da db b2 b3 b5 b6 cf cl γ w) (u : Nat → Value) :
  KJ (KG Tryz.prog af true) 60 (chain cf cl (.bool true) (.bool false) false K p (da.aR.map fun x => msgs da db x db.aR), γ) ZV (ach da db b2 b3 b5 b6 cf cl K p A B0 w0) (H6 b2 b3 b5 b6 u) w := by
 have C := vR (af := af) (main := true) hP
 have hp : ∀ todo, chain cf cl (.bool true) (.bool false) false K p todo ≠ .ret := fun todo => (EX todo).1
 obtain ⟨v0, FN, AA, cap, rfl, hA⟩ := hF.wa.aR
 have hI : uF γ w (.slice AA da.aR.length cap) da.aR := ⟨AA, cap, rfl, hA⟩
 have ZD := qB.Y3
 unfold H6
 refine aN C (av C ?_)
 simp only [List.size_toArray, List.length_cons, List.length_nil, Nat.reduceAdd, Nat.zero_add, List.range, List.range.loop]
 refine ah C (v := ?v1) rfl (by rfl) (fun w => run_eq_of fun K hK => ?r1) (fun w => ?e1) ?h1
 case r1 => go_simp; exact hK
 case e1 => first | (simp [go_sem]; done) | (simp [go_sem, *]; done)
 try walk_nrm
 refine ah C (v := ?v2) rfl (by rfl) (fun w => run_eq_of fun K hK => ?r2) (fun w => ?e2) ?h2
 case r2 => go_simp; exact hK
 case e2 => first | (simp [go_sem]; done) | (simp [go_sem, *]; done)
 try walk_nrm
 refine cq C (hp _) (v := ?v3) rfl (by rfl) (fun w₁ h₁ => ⟨run_eq_of fun K hK => ?r3, ?e3⟩) ?h3
 case r3 => have hc := (aF.rely FN h₁).2; go_simp; exact hK
 case e3 => have hc := (aF.rely FN h₁).2; intro e he; simp [go_sem, hc] at he; subst he; exact (aF.rely FN h₁).ni
 try walk_nrm
 refine ah C (v := ?v4) rfl (by rfl) (fun w => run_eq_of fun K hK => ?r4) (fun w => ?e4) ?h4
 case r4 => go_simp; exact hK
 case e4 => first | (simp [go_sem]; done) | (simp [go_sem, *]; done)
 try walk_nrm
 refine ah C (v := ?v5) rfl (by rfl) (fun w => run_eq_of fun K hK => ?r5) (fun w => ?e5) ?h5
 case r5 => go_simp; exact hK
 case e5 => first | (simp [go_sem]; done) | (simp [go_sem, *]; done)
 try walk_nrm
 refine aH C ?_
 co_then
 refine er C ?_
 clear FN hA
 refine lz C (fun n γ' a w' => ∃ γ3 k, γ' = (chain cf cl (.bool true) (.bool false) false K p ((da.aR.drop k).map fun x => msgs da db x db.aR), γ3) ∧ Dv A B0 w0 γ3 w' ∧ Fx da db b2 b3 b5 b6 cf cl γ3 w' ∧ uF γ3 w' (.slice AA da.aR.length cap) da.aR ∧ k ≤ da.aR.length ∧ n = da.aR.length - k ∧ ∃ u, a = D4 b2 b3 b5 b6 (.slice AA da.aR.length cap) da.aR.length k u) (n := da.aR.length) ⟨γ, 0, rfl, hS, hF, hI, by omega, by omega, lG rfl⟩ ?_
 clear hS hF hI
 rintro n γ' a w' ⟨γ3, k, hγ, hS, hF, hI, hk, hn, u, Af⟩
 subst hγ
 unfold D4 at Af
 subst Af
 refine aN C (av C ?_)
 simp only [List.size_toArray, List.length_cons, List.length_nil, Nat.zero_add, List.range, List.range.loop]
 by_cases hlt : k < da.aR.length
 ·have UY : decide ((k : Int) < (da.aR.length : Int)) = true := by simpa using hlt
  obtain ⟨x, hx⟩ : ∃ x, da.aR[k]? = some x := ⟨_, List.getElem?_eq_getElem hlt⟩
  have hxb := qB.aR k x hx
  obtain ⟨ad, rfl, Pv⟩ : ∃ ad, AA = some ad ∧ aF γ3 w' (ad.add k) (.int .i64 x) := by
   obtain ⟨A2, ov, he, h2⟩ := hI
   cases he
   exact h2 k x hx
  have MA : da.aR.drop k = x :: da.aR.drop (k + 1) := by
   rw [List.drop_eq_getElem_cons hlt]
   congr 1
   exact Option.some.inj ((List.getElem?_eq_getElem hlt).symm.trans hx)
  have hw5 : IntKind.i64.wrap ((k : Int) + 1) = (k : Int) + 1 := by rw [rz] <;> omega
  refine ah C (v := ?v6) rfl (by rfl) (fun w => run_eq_of fun K hK => ?r6) (fun w => ?e6) ?h6
  case r6 => go_simp; exact hK
  case e6 => first | (simp [go_sem]; done) | (simp [go_sem, *]; done)
  try walk_nrm
  refine aH C ?_
  co_then
  refine aN C (cr C (t := true) rfl ?_)
  simp only [if_true]
  refine ij C ?_
  co_then
  refine aN C (er C (aN C (av C ?_)))
  simp only [List.size_toArray, List.length_cons, List.length_nil, Nat.reduceAdd, Nat.zero_add, List.range, List.range.loop]
  refine ah C (v := ?v7) rfl (by rfl) (fun w => run_eq_of fun K hK => ?r7) (fun w => ?e7) ?h7
  case r7 => go_simp; exact hK
  case e7 => first | (simp [go_sem]; done) | (simp [go_sem, *]; done)
  try walk_nrm
  refine cq C (hp _) (v := ?v8) rfl (by rfl) (fun w₁ h₁ => ⟨run_eq_of fun K hK => ?r8, ?e8⟩) ?h8
  case r8 => have hc := (aF.rely Pv h₁).2; go_simp; exact hK
  case e8 => have hc := (aF.rely Pv h₁).2; intro e he; simp [go_sem, hc] at he; subst he; exact (aF.rely Pv h₁).ni
  try walk_nrm
  refine mg C (hp _) (ob := ?ob9) rfl (by rfl) (fun w => run_eq_of fun K hK => ?r9) (fun w => ?e9) ?h9
  case r9 => go_simp; exact hK
  case e9 => simp [go_sem]
  intro w5 PS
  try walk_nrm
  have HF := (Kept.rely PS).trans (Kept.alloc γ3 w5 w5.heap.size (.cells #[.int .i64 0] 3))
  have UB : (w5.alloc (.cells #[.int .i64 0] 3)).frozen? ⟨w5.heap.size, 0, none⟩ = false := World.frozen?_alloc_new _ _ _ _
  have PY : aF _ _ ⟨w5.heap.size, 0, none⟩ (.int .i64 0) := aF.fresh (γ := γ3) (w := w5) (cs := #[.int .i64 0]) (t := 3) rfl rfl
  have Lf : (γ3.more w5.heap.size).2 w5.heap.size := .inr rfl
  have F5 : w'.heap.size ≤ w5.heap.size := PS.1
  generalize w5.alloc (.cells #[.int .i64 0] 3) = w6 at *
  generalize γ3.more w5.heap.size = γ6 at *
  generalize w5.heap.size = b8 at *
  clear Pv PS
  refine Gr C (hp _) (ad := ⟨b8, 0, none⟩) (v := .int .i64 x) rfl (by rfl) Lf (fun w₁ h₁ => ⟨?_, ?_⟩) ?_
  ·have hc := (PY.rely h₁).2
   have hz : w₁.frozen? ⟨b8, 0, none⟩ = false := (World.frozen?_of_block (h₁.2.1 b8 (.inr Lf))).trans UB
   refine (?_ : ∀ K : Result Next → Prop, K (.ok .skip (w₁.setCell ⟨b8, 0, none⟩ (.int .i64 x))) → K _) (· = _) rfl
   intro K hK
   go_simp
   try (unfold stored; go_simp)
   exact hK
  ·have hc := (PY.rely h₁).2
   have hz : w₁.frozen? ⟨b8, 0, none⟩ = false := (World.frozen?_of_block (h₁.2.1 b8 (.inr Lf))).trans UB
   intro e he
   simp [go_sem, hc, hz] at he
   exact he
  intro w7 r7
  try walk_nrm
  have Pz := (HF.trans (Kept.rely r7)).put (ad := ⟨b8, 0, none⟩) (v := .int .i64 x) F5
  have hx7 : aF γ6 (w7.setCell ⟨b8, 0, none⟩ (.int .i64 x)) ⟨b8, 0, none⟩ (.int .i64 x) := ⟨.inr Lf, World.cell?_setCell_same _ _ _ (PY.rely r7).2⟩
  generalize w7.setCell ⟨b8, 0, none⟩ (.int .i64 x) = w8 at *
  clear PY UB r7 HF F5
  have hF8 := hF.kept Pz
  have hS8 := hS.kept Pz
  have hI8 := Pz.BN hI
  clear hF hS hI Pz
  refine aH C ?_
  co_then
  refine av C ?_
  simp only [List.size_toArray, List.length_cons, List.length_nil, Nat.reduceAdd, Nat.zero_add, List.range, List.range.loop]
  refine ah C (v := ?v10) rfl (by rfl) (fun w => run_eq_of fun K hK => ?r10) (fun w => ?e10) ?qZ
  case r10 => go_simp; exact hK
  case e10 => simp [go_sem, Instr.makeFunc]
  try walk_nrm
  rw [MA, List.map_cons]
  show KO _ _ (Pc.go (wk cf cl (.bool true) (msgs da db x db.aR)) (chain cf cl (.bool true) (.bool false) false K p ((da.aR.drop (k + 1)).map fun x => msgs da db x db.aR)), γ6) _ _ _ _ _
  refine TU (d := call84 b3 b2 b8 b5 b6) (f := .func 102) (cap := #[.pointer (some ⟨b3, 0, none⟩), .pointer (some ⟨b2, 0, none⟩), .pointer (some ⟨b8, 0, none⟩), .pointer (some ⟨b5, 0, none⟩), .pointer (some ⟨b6, 0, none⟩)]) rfl (by rfl) (fun w => ?_) (fun w => ?_) rfl (EX _).2 (fun _ => hp _) (fun w9 r9 w10 r10 => ?_) (fun w9 r9 w10 r10 => ?_)
  ·simp [execOp, resolve, Act.eval, call84, Deferred.ofValue]
  ·simp [execOp, resolve, Act.eval, Deferred.ofValue]
  ·have hk := (Kept.rely r9)
   have pR := (Kept.rely r10)
   have Ji := ((hF8.kept hk).give).kept pR
   exact JA hP qB vI hxb.1 (by omega) Ji.wa Ji.wb (pR.sees (hk.sees hx7).give) Ji.f Ji.l
  have Ji := ((hF8.kept (Kept.rely r9)).give).kept (Kept.rely r10)
  have hS9 := ((hS8.kept (Kept.rely r9)).give).kept (Kept.rely r10)
  have hI9 := (Kept.rely r10).BN ((Kept.rely r9).BN hI8).give
  clear hF8 hS8 hI8 hx7
  try walk_nrm
  refine aH C ?_
  co_then
  refine av C ?_
  simp only [List.size_toArray, List.length_cons, List.length_nil, Nat.reduceAdd, Nat.zero_add, List.range, List.range.loop]
  refine ah C (v := ?v11) rfl (by rfl) (fun w => run_eq_of fun K hK => ?r11) (fun w => ?e11) ?z7
  case r11 => go_simp; exact hK
  case e11 => first | (simp [go_sem]; done) | (simp [go_sem, *]; done)
  try walk_nrm
  refine ah C (v := ?v12) rfl (by rfl) (fun w => run_eq_of fun K hK => ?r12) (fun w => ?e12) ?Lg
  case r12 => go_simp; exact hK
  case e12 => first | (simp [go_sem]; done) | (simp [go_sem, *]; done)
  try walk_nrm
  refine aH C (cO ?_)
  exact ⟨da.aR.length - (k + 1), by omega, _, k + 1, rfl, hS9, Ji, hI9, by omega, rfl, lG rfl⟩
 ·have HE : k = da.aR.length := by omega
  subst HE
  have UY : decide ((da.aR.length : Int) < (da.aR.length : Int)) = false := by simp
  simp only [List.drop_length, List.map_nil]
  refine ah C (v := ?v13) rfl (by rfl) (fun w => run_eq_of fun K hK => ?r13) (fun w => ?e13) ?Tf
  case r13 => go_simp; exact hK
  case e13 => first | (simp [go_sem]; done) | (simp [go_sem, *]; done)
  try walk_nrm
  refine aH C ?_
  co_then
  refine aN C (cr C (t := false) rfl ?_)
  simp only [Bool.false_eq_true, if_false]
  refine kA C ?_
  co_then
  exact ⟨rfl, rfl, hS, hF, hS.all, _, _, _, lG (F := fun u => D4 b2 b3 b5 b6 (.slice AA da.aR.length cap) da.aR.length da.aR.length u) rfl⟩
end Go.Co
end
section
namespace Go.Co
open Go Go.Conc Go.Proofs
open Classical
variable {P : Program} {af : Machine → Trace → Prop} {main : Bool} {K : Gm → Goroutine → World → Prop} {fn : FuncId} {p : Pc} {γ : So} {Q : Gm → Exit → Act → World → Prop} {a : Act} {w : World} {ops : Array Oper} {i : Nat} {rest : List Nat} {o : Oper}
theorem RZ (C : KC P main K z8 Du) (hp : p ≠ .ret) {b : Nat} {x y z : Value} (ho : ops[i]? = some o) (hw : Region.wanted o (yielded ops a.tmps) = true) (hO : γ.2 b)
  (hrun : ∀ w₁, gb γ w w₁ → (execOp a.eval o).run P w₁ = .ok .skip (((w₁.setCell ⟨b, 0, none⟩ x).setCell ⟨b, 1, none⟩ y).setCell ⟨b, 2, none⟩ z) ∧ ∀ e ∈ (execOp a.eval o).events P w₁ #[], ∃ j, e = ⟨.cell ⟨b, j, none⟩, true, false⟩)
  (h : ∀ w₁, gb γ w w₁ → KO K fn (p, γ) ops rest Q (a.put o.dst undef) (((w₁.setCell ⟨b, 0, none⟩ x).setCell ⟨b, 1, none⟩ y).setCell ⟨b, 2, none⟩ z)) : KO K fn (p, γ) ops (i :: rest) Q a w :=
 tK C ho hw fun w₁ r => by
  obtain ⟨h1, h2⟩ := hrun w₁ (PT hp r)
  rw [h1]
  have hsz : (((w₁.setCell ⟨b, 0, none⟩ x).setCell ⟨b, 1, none⟩ y).setCell ⟨b, 2, none⟩ z).heap.size = w₁.heap.size := by rw [World.size_setCell, World.size_setCell, World.size_setCell]
  refine ⟨(p, γ), Yh hp ⟨rfl, fun c => ⟨.inl, fun h => h.elim id fun h => absurd h.2 (by omega)⟩, by omega, fun c _ hn => ?_, rfl, rfl, rfl, fun e he => ?_⟩, h w₁ (PT hp r)⟩
  ·have hne : c ≠ b := fun e => hn (e ▸ hO)
   rw [heap_setCell_other _ _ _ _ hne, heap_setCell_other _ _ _ _ hne, heap_setCell_other _ _ _ _ hne]
  ·obtain ⟨j, rfl⟩ := h2 e (mem_listed he)
   exact .inl ⟨_, true, false, rfl, fun _ => hO, .inr hO⟩
theorem Dv.append {A : Nat → Prop} {B0 : Nat} {w0 w' : World} {γ' : So} {v : Value} (h : Dv A B0 w0 γ w) (h1 : γ'.1 = γ.1) (h2 : ∀ b, γ.2 b → γ'.2 b) (h3 : w.heap.size ≤ w'.heap.size)
  (h4 : ∀ b, γ.all b → b < w.heap.size → some b ≠ v.ownBlock → w'.heap[b]? = w.heap[b]?) (h5 : w'.os = w.os ∧ w'.output = w.output) (hb : ∀ b, v.ownBlock = some b → B0 ≤ b) : Dv A B0 w0 γ' w' :=
 ⟨h.lt, fun b hlt => (h.all b hlt).imp (by rw [h1]; exact id) (h2 b), fun b hlt => (h4 b (h.all b hlt) (Nat.lt_of_lt_of_le (h.lt b hlt) h.size) fun e => by have := hb b e.symm; have := h.lt b hlt; omega).trans (h.blk b hlt), Nat.le_trans h.size h3, h5.1.trans h.env.1, h5.2.trans h.env.2⟩
abbrev Sm := Int × Int × Int
def qz (m : Sm) : Value := vL m.1 m.2.1 m.2.2
def nj (m : Sm) : List Value := [.int .i64 m.1, .int .i64 m.2.1, .int .i64 m.2.2]
theorem Dc {id : Nat} {R : Exit → Act → World → Prop} (h : R .normal a w) : Exit.inBlock id R .normal a w := h
theorem CA (l : List Sm) : (l.flatMap nj).length = l.length * 3 := by
 induction l with
 | nil => rfl
 | cons m l ih => simp only [List.flatMap_cons, List.length_append, ih, nj, List.length_cons, List.length_nil]; omega
theorem Rg {m m' : Sm} (h : qz m = qz m') : m = m' := by
 obtain ⟨a, b, c⟩ := m
 obtain ⟨a', b', c'⟩ := m'
 simp [qz, vL] at h
 obtain ⟨rfl, rfl, rfl⟩ := h
 rfl
theorem BC (m : Sm) : ∀ l : List Sm, (l.map qz).erase (qz m) = (l.erase m).map qz
 | [] => rfl
 | a :: l => by
  rw [List.map_cons, List.erase_cons, List.erase_cons]
  by_cases h : a = m
  ·subst h; simp
  ·have h2 : ¬ qz a = qz m := fun e => h (Rg e)
   simp [h, h2, BC m l]
theorem Sk (cf : Nat) (z : Value) : xg cf z [] = .recv cf true z fun x => match x with | some _ => .bad | none => .ret := rfl
theorem O6 (cf : Nat) (z v0 : Value) (vs : List Value) : xg cf z (v0 :: vs) = .recv cf true z fun x => match x with | some v => if v ∈ v0 :: vs then xg cf z ((v0 :: vs).erase v) else .bad | none => .bad := by
 unfold xg
 show Pc.recv cf true z (fun x => match x with | some v => if v ∈ v0 :: vs then QE cf z vs.length ((v0 :: vs).erase v) else .bad | none => .bad) = _
 congr 1
 funext x
 cases x with
 | none => rfl
 | some v =>
  simp only
  split
  ·rename_i h
   rw [List.length_erase_of_mem h]
   rfl
  ·rfl
def MH (out : Value) (u : Nat → Value) : Act :=
 ⟨#[u 0, u 1, u 2, u 3, u 4, u 5, u 6, u 7, u 8, out, u 10, u 11, u 12, u 13, u 14, u 15, u 16, u 17, u 18, u 19, u 20, u 21, u 22, u 23, u 24, u 25, u 26, u 27, u 28, u 29, u 30, u 31, u 32, u 33, u 34], []⟩
def H7 (cf : Nat) (out : Value) (u : Nat → Value) : Act :=
 ⟨#[u 0, u 1, u 2, u 3, u 4, u 5, u 6, u 7, u 8, out, u 10, u 11, u 12, u 13, u 14, u 15, u 16, u 17, u 18, u 19, u 20, u 21, u 22, u 23, .chan (some cf), u 25, u 26, u 27, u 28, u 29, u 30, u 31, u 32, u 33, u 34], []⟩
def V5 (A : Nat → Prop) (B0 : Nat) (w0 : World) (R : List Sm) (γ' : Gm) (e : Exit) (a' : Act) (w' : World) : Prop :=
 e = .normal ∧ γ'.1 = .ret ∧ Dv A B0 w0 γ'.2 w' ∧ ∃ (got : List Sm) (out : Value), got.Perm R ∧ w'.ownsRow B0 79 3 out got.length (got.flatMap nj) ∧ ∃ u, a' = MH out u
noncomputable def MO : Code := match nD with | .seq _ (.seq _ (.seq _ (.seq (.seq _ x) _))) => x | _ => .skip
set_option maxRecDepth 100000 in
set_option maxHeartbeats 2000000 in
theorem O5 (hP : Plain Tryz.prog) {cf : Nat} {A : Nat → Prop} {B0 : Nat} {w0 : World} {R : List Sm} (hR : R.length ≤ 4294967296) (hS : Dv A B0 w0 γ w) (u : Nat → Value) :
  KJ (KG Tryz.prog af true) 60 (xg cf (.agg #[.int .i64 0, .int .i64 0, .int .i64 0]) (R.map qz), γ) MO (V5 A B0 w0 R) (H7 cf (.slice none 0 0) u) w := by
 have C := vR (af := af) (main := true) hP
 obtain ⟨i0, xH, Dp, KZ, XL⟩ := info_parts Gu
 have hzv : ∀ w, (zeroValue 79).run Tryz.prog w = .ok (.agg #[.int .i64 0, .int .i64 0, .int .i64 0]) w := fun w => by simp [zeroValue, typeInfo, xH, Dp]
 have hze : ∀ w es, (zeroValue 79).events Tryz.prog w es = es := fun w es => by simp [zeroValue, typeInfo, xH, Dp]
 have hrun : ∀ (T : Act) (o : Oper) (w : World), o.op = .recv 136 (.tmp 24) true → T.eval (.tmp 24) = .chan (some cf) → (execOp T.eval o).run Tryz.prog w = .ok (.comm #[rcase cf (.agg #[.int .i64 0, .int .i64 0, .int .i64 0])] true (.recv true)) w := by
  intro T o w ho hT
  simp [execOp, ho, run_underlying Tryz.underlying136, hzv, rcase, hT]
 have sM : ∀ (T : Act) (o : Oper) (w : World), o.op = .recv 136 (.tmp 24) true → (execOp T.eval o).events Tryz.prog w #[] = #[] := by
  intro T o w ho
  simp [execOp, ho, run_underlying Tryz.underlying136, hze]
 refine er C ?_
 refine lz C (fun n γ' a w' => ∃ (γ3 : So) (rem got : List Sm) (out : Value), γ' = (xg cf (.agg #[.int .i64 0, .int .i64 0, .int .i64 0]) (rem.map qz), γ3) ∧ Dv A B0 w0 γ3 w' ∧ iL γ3 w' B0 79 3 out got.length (got.flatMap nj) ∧ (got ++ rem).Perm R ∧ n = rem.length ∧ ∃ u, a = H7 cf out u) (n := R.length) ⟨γ, R, [], .slice none 0 0, rfl, hS, iL.nil _ _ _, by simp, rfl, u, rfl⟩ ?_
 clear hS
 rintro n γ' a w' ⟨γ3, rem, got, out, hγ, hS, dD, Mv, hn, u, Af⟩
 subst hγ
 unfold H7 at Af
 subst Af
 have hlen : got.length + rem.length ≤ 4294967296 := by
  have h1 := Mv.length_eq
  rw [List.length_append] at h1
  omega
 refine aN C (av C ?_)
 simp only [List.size_toArray, List.length_cons, List.length_nil, Nat.reduceAdd, Nat.zero_add, List.range, List.range.loop]
 cases rem with
 | nil =>
  simp only [List.map_nil]
  rw [Sk]
  refine CM rfl (by rfl) (fun w => hrun _ _ w rfl rfl) (fun w => sM _ _ w rfl) (fun x => by cases x <;> simp) (fun h => by cases h) (fun x w7 r7 => ?_)
  cases x with
  | some v => exact Cf
  | none =>
   have hS7 := hS.kept (Kept.rely r7)
   have AW := dD.rely r7
   simp only [Option.getD_none, Option.isSome_none, recvd]
   try walk_nrm
   refine ah C (v := ?v1) rfl (by rfl) (fun w => run_eq_of fun K hK => ?r1) (fun w => ?e1) ?h1
   case r1 => go_simp; exact hK
   case e1 => first | (simp [go_sem]; done) | (simp [go_sem, *]; done)
   try walk_nrm
   refine aH C ?_
   co_then
   refine aN C (cr C (t := false) rfl ?_)
   simp only [Bool.false_eq_true, if_false]
   refine kA C ?_
   co_then
   exact ⟨rfl, rfl, hS7, got, out, by simpa using Mv, AW.1, lG (F := fun u => MH out u) rfl⟩
 | cons m0 ms =>
  simp only [List.map_cons]
  rw [O6]
  refine CM rfl (by rfl) (fun w => hrun _ _ w rfl rfl) (fun w => sM _ _ w rfl) (fun x => ?_) (fun h => by cases h) (fun x w7 r7 => ?_)
  ·cases x with
   | none => simp
   | some v =>
    simp only
    split
    ·obtain ⟨q, hq⟩ := qv (cf := cf) (z := .agg #[.int .i64 0, .int .i64 0, .int .i64 0]) ((qz m0 :: ms.map qz).erase v)
     rw [hq]; simp
    ·simp
  cases x with
  | none => exact Cf
  | some v =>
   simp only
   by_cases hv : v ∈ qz m0 :: ms.map qz
   ·rw [if_pos hv]
    obtain ⟨m, hm, rfl⟩ : ∃ m, m ∈ m0 :: ms ∧ qz m = v := by
     have : v ∈ (m0 :: ms).map qz := hv
     exact List.mem_map.1 this
    have abC : (qz m0 :: ms.map qz).erase (qz m) = ((m0 :: ms).erase m).map qz := BC m (m0 :: ms)
    rw [abC]
    have XT := List.perm_cons_erase hm
    have x5 := List.length_erase_of_mem hm
    generalize (m0 :: ms).erase m = Qn at *
    obtain ⟨x, y, s⟩ := m
    have hp : xg cf (.agg #[.int .i64 0, .int .i64 0, .int .i64 0]) (Qn.map qz) ≠ .ret := by
     obtain ⟨q, hq⟩ := qv (cf := cf) (z := .agg #[.int .i64 0, .int .i64 0, .int .i64 0]) (Qn.map qz)
     rw [hq]; simp
    have hS7 := hS.kept (Kept.rely r7)
    have AW := dD.rely r7
    clear hS dD
    simp only [Option.getD_some, Option.isSome_some, recvd, qz, vL]
    try walk_nrm
    refine ah C (v := ?v2) rfl (by rfl) (fun w => run_eq_of fun K hK => ?r2) (fun w => ?e2) ?h2
    case r2 => go_simp; exact hK
    case e2 => first | (simp [go_sem]; done) | (simp [go_sem, *]; done)
    try walk_nrm
    refine aH C ?_
    co_then
    refine aN C (cr C (t := true) rfl ?_)
    simp only [if_true]
    refine ij C ?_
    co_then
    refine er C (aN C (av C ?_))
    simp only [List.size_toArray, List.length_cons, List.length_nil, Nat.reduceAdd, Nat.zero_add, List.range, List.range.loop]
    refine ah C (v := ?v3) rfl (by rfl) (fun w => run_eq_of fun K hK => ?r3) (fun w => ?e3) ?h3
    case r3 => go_simp; exact hK
    case e3 => first | (simp [go_sem]; done) | (simp [go_sem, *]; done)
    try walk_nrm
    refine mg C hp (ob := ?ob4) rfl (by rfl) (fun w => run_eq_of fun K hK => ?r4) (fun w => ?e4) ?h4
    case r4 => go_simp; exact hK
    case e4 => simp [go_sem]
    intro w5 PS
    try walk_nrm
    have HF := (Kept.rely PS).trans (Kept.alloc γ3 w5 w5.heap.size (.cells #[.int .i64 0, .int .i64 0, .int .i64 0] 79))
    have UB : ∀ j, (w5.alloc (.cells #[.int .i64 0, .int .i64 0, .int .i64 0] 79)).frozen? ⟨w5.heap.size, j, none⟩ = false := fun j => World.frozen?_alloc_new _ _ _ _
    have X7 : aF _ _ ⟨w5.heap.size, 0, none⟩ (.int .i64 0) := aF.fresh (γ := γ3) (w := w5) (cs := #[.int .i64 0, .int .i64 0, .int .i64 0]) (t := 79) rfl rfl
    have X6 : aF _ _ ⟨w5.heap.size, 1, none⟩ (.int .i64 0) := aF.fresh (γ := γ3) (w := w5) (cs := #[.int .i64 0, .int .i64 0, .int .i64 0]) (t := 79) rfl rfl
    have X5 : aF _ _ ⟨w5.heap.size, 2, none⟩ (.int .i64 0) := aF.fresh (γ := γ3) (w := w5) (cs := #[.int .i64 0, .int .i64 0, .int .i64 0]) (t := 79) rfl rfl
    have Lf : (γ3.more w5.heap.size).2 w5.heap.size := .inr rfl
    have F5 : w7.heap.size ≤ w5.heap.size := PS.1
    generalize w5.alloc (.cells #[.int .i64 0, .int .i64 0, .int .i64 0] 79) = w6 at *
    generalize γ3.more w5.heap.size = γ6 at *
    generalize w5.heap.size = b8 at *
    clear PS
    refine RZ C hp (b := b8) (x := .int .i64 x) (y := .int .i64 y) (z := .int .i64 s) rfl (by rfl) Lf (fun w₁ h₁ => ⟨?_, ?_⟩) ?_
    ·have YO := (X7.rely h₁).2
     have Dg := (X6.rely h₁).2
     have sW := (X5.rely h₁).2
     have hz : ∀ j, w₁.frozen? ⟨b8, j, none⟩ = false := fun j => (World.frozen?_of_block (h₁.2.1 b8 (.inr Lf))).trans (UB j)
     refine (?_ : ∀ K : Result Next → Prop, K (.ok .skip (((w₁.setCell ⟨b8, 0, none⟩ (.int .i64 x)).setCell ⟨b8, 1, none⟩ (.int .i64 y)).setCell ⟨b8, 2, none⟩ (.int .i64 s))) → K _) (· = _) rfl
     intro K hK
     go_simp
     try (unfold stored; go_simp)
     exact hK
    ·have YO := (X7.rely h₁).2
     have Dg := (X6.rely h₁).2
     have sW := (X5.rely h₁).2
     have hz : ∀ j, w₁.frozen? ⟨b8, j, none⟩ = false := fun j => (World.frozen?_of_block (h₁.2.1 b8 (.inr Lf))).trans (UB j)
     intro e he
     simp [go_sem, YO, Dg, sW, hz] at he
     rcases he with rfl | rfl | rfl
     ·exact ⟨0, rfl⟩
     ·exact ⟨1, rfl⟩
     ·exact ⟨2, rfl⟩
    intro w9 r9
    try walk_nrm
    have hk9 := (((HF.trans (Kept.rely r9)).put (ad := ⟨b8, 0, none⟩) (v := .int .i64 x) F5).put (ad := ⟨b8, 1, none⟩) (v := .int .i64 y) F5).put (ad := ⟨b8, 2, none⟩) (v := .int .i64 s) F5
    have s0 : aF γ6 (((w9.setCell ⟨b8, 0, none⟩ (.int .i64 x)).setCell ⟨b8, 1, none⟩ (.int .i64 y)).setCell ⟨b8, 2, none⟩ (.int .i64 s)) ⟨b8, 0, none⟩ (.int .i64 x) :=
     aF.put (aF.put ⟨.inr Lf, World.cell?_setCell_same _ _ _ (X7.rely r9).2⟩ (by simp)) (by simp)
    have s1 : aF γ6 (((w9.setCell ⟨b8, 0, none⟩ (.int .i64 x)).setCell ⟨b8, 1, none⟩ (.int .i64 y)).setCell ⟨b8, 2, none⟩ (.int .i64 s)) ⟨b8, 1, none⟩ (.int .i64 y) :=
     aF.put ⟨.inr Lf, World.cell?_setCell_same _ _ _ ((X6.rely r9).put (by simp)).2⟩ (by simp)
    have s2 : aF γ6 (((w9.setCell ⟨b8, 0, none⟩ (.int .i64 x)).setCell ⟨b8, 1, none⟩ (.int .i64 y)).setCell ⟨b8, 2, none⟩ (.int .i64 s)) ⟨b8, 2, none⟩ (.int .i64 s) :=
     ⟨.inr Lf, World.cell?_setCell_same _ _ _ (((X5.rely r9).put (by simp)).put (by simp)).2⟩
    generalize ((w9.setCell ⟨b8, 0, none⟩ (.int .i64 x)).setCell ⟨b8, 1, none⟩ (.int .i64 y)).setCell ⟨b8, 2, none⟩ (.int .i64 s) = w10 at *
    have ZJ := hS7.kept hk9
    have Ng := AW.kept hk9
    clear hk9 HF X7 X6 X5 UB r9 F5 hS7 AW Lf
    refine aH C ?_
    co_then
    refine av C ?_
    simp only [List.size_toArray, List.length_cons, List.length_nil, Nat.reduceAdd, Nat.zero_add, List.range, List.range.loop]
    refine ah C (v := ?v5) rfl (by rfl) (fun w => run_eq_of fun K hK => ?r5) (fun w => ?e5) ?h5
    case r5 => go_simp; exact hK
    case e5 => first | (simp [go_sem]; done) | (simp [go_sem, *]; done)
    try walk_nrm
    refine cq C hp (v := ?v6) rfl (by rfl) (fun w₁ h₁ => ⟨run_eq_of fun K hK => ?r6, ?e6⟩) ?h6
    case r6 => have YO := (aF.rely s0 h₁).2; have Dg := (aF.rely s1 h₁).2; have sW := (aF.rely s2 h₁).2; go_simp; exact hK
    case e6 =>
     have YO := (aF.rely s0 h₁).2
     have Dg := (aF.rely s1 h₁).2
     have sW := (aF.rely s2 h₁).2
     intro e he
     simp [go_sem, YO, Dg, sW] at he
     rcases he with rfl | rfl | rfl
     ·exact (aF.rely s0 h₁).ni
     ·exact (aF.rely s1 h₁).ni
     ·exact (aF.rely s2 h₁).ni
    try walk_nrm
    refine Na C hp (ob := ?ob7) (n := 1) rfl (by rfl) (fun w => run_eq_of fun K hK => ?r7) (fun w => ?e7) ?h7
    case r7 => go_simp; exact hK
    case e7 => simp [go_sem]
    intro Ll abj
    try walk_nrm
    have VG := (Kept.rely abj).trans (Kept.alloc γ6 Ll Ll.heap.size (.cells #[.int .i64 x, .int .i64 y, .int .i64 s] 79))
    have abE : ∀ (j : Nat) (u : Value), (nj (x, y, s))[j]? = some u → aF (γ6.more Ll.heap.size) (Ll.alloc (.cells #[.int .i64 x, .int .i64 y, .int .i64 s] 79)) ((⟨Ll.heap.size, 0, none⟩ : Addr).add j) u := by
     intro j u hu
     rw [Addr.add_lit]
     simp only [Nat.zero_add]
     refine aF.fresh (γ := γ6) (w := Ll) rfl ?_
     simpa [nj] using hu
    have ZI := ZJ.kept VG
    have Nf := Ng.kept VG
    have Xp : (γ6.more Ll.heap.size).all Ll.heap.size := .inr (.inr rfl)
    generalize Ll.alloc (.cells #[.int .i64 x, .int .i64 y, .int .i64 s] 79) = w12 at *
    generalize γ6.more Ll.heap.size = γ12 at *
    generalize Ll.heap.size = b12 at *
    clear ZJ Ng s0 s1 s2 VG
    have vG := CA got
    refine Bs C hp (B := B0) (news := nj (x, y, s)) (m := 1) (c := 1) (ad := ⟨b12, 0, none⟩) (n := got.length) (xs := got.flatMap nj) (v := out) rfl (by rfl) rfl Tryz.underlying34 xH Dp KZ XL rfl (by decide) rfl rfl ZI.size Nf rfl abE Xp (by simp [nj, Value.oneCell']) (by simp only [maxLen]; omega) (by omega) ?_
    intro v13 w13 γ13 YI P4 hg3 hg4 hg5 Xk
    have ab1 := ZI.append YI P4 hg3 hg4 hg5 (v := out) (fun b hb => (Nf.1.lt b hb).1)
    try walk_nrm
    refine ah C (v := ?v8) rfl (by rfl) (fun w => run_eq_of fun K hK => ?r8) (fun w => ?e8) ?h8
    case r8 => go_simp; exact hK
    case e8 => first | (simp [go_sem]; done) | (simp [go_sem, *]; done)
    try walk_nrm
    refine aH C (Dc (cO ?_))
    refine ⟨Qn.length, by simp only [List.length_cons] at x5 hn; omega, γ13, Qn, got ++ [(x, y, s)], v13, rfl, ab1, ?_, ?_, rfl, lG rfl⟩
    ·rw [List.length_append, List.flatMap_append]
     simpa using Xk
    ·rw [List.append_assoc]
     exact (List.Perm.append_left got XT.symm).trans Mv
   ·rw [if_neg hv]
    exact Cf
end Go.Co
end
section
namespace Go.Co
open Go Go.Conc Go.Proofs
open Classical
variable {P : Program} {af : Machine → Trace → Prop} {γ : So} {w : World}
noncomputable def Cp : Code := match nD with | .seq _ (.seq _ (.seq _ (.seq _ x))) => x | _ => .skip
noncomputable def aa5 : Code := match nD with | .seq _ (.seq x _) => x | _ => .skip
noncomputable def aa4 : Code := match nD with | .seq _ (.seq _ (.seq x _)) => x | _ => .skip
noncomputable def XG : Code := match nD with | .seq _ (.seq _ (.seq _ (.seq (.seq x _) _))) => x | _ => .skip
def cW (da db : Wk) : List Sm := da.aR.flatMap fun x => db.aR.flatMap fun y => (eG da db x y).map fun s => (x, y, s)
theorem IL (da db : Wk) (x : Int) : ∀ ys : List Int, msgs da db x ys = (ys.flatMap fun y => (eG da db x y).map fun s => (x, y, s)).map qz
 | [] => rfl
 | y :: ys => by
  rw [Bj, IL da db x ys, List.flatMap_cons, List.map_append, List.map_map]
  rfl
theorem Sb (da db : Wk) : (da.aR.map fun x => msgs da db x db.aR).flatten = (cW da db).map qz := by
 unfold cW
 induction da.aR with
 | nil => rfl
 | cons x l ih => rw [List.map_cons, List.flatten_cons, ih, List.flatMap_cons, List.map_append, IL]
theorem pJ {α β : Type} (f : α → List β) (c : Nat) : ∀ l : List α, (∀ x ∈ l, (f x).length ≤ c) → (l.flatMap f).length ≤ l.length * c
 | [], _ => by simp
 | a :: l, h => by
  have h1 := h a (by simp)
  have h2 := pJ f c l fun x hx => h x (by simp [hx])
  rw [List.flatMap_cons, List.length_append, List.length_cons, Nat.add_mul]
  omega
theorem ze {da db : Wk} (qB : da.ok) (vI : db.ok) : (cW da db).length ≤ 4294967296 := by
 have h1 : ∀ x ∈ da.aR, (db.aR.flatMap fun y => (eG da db x y).map fun s => (x, y, s)).length ≤ 1000 * 2001 := by
  intro x _
  refine Nat.le_trans (pJ _ 2001 _ fun y _ => ?_) (Nat.mul_le_mul_right _ vI.Y3)
  rw [List.length_map]
  have h2 := (vI.up y.toNat).1
  have h3 := (qB.lo x.toNat).1
  exact Nat.le_trans (CC _ _ _ _) (by omega)
 have h4 := pJ _ _ _ h1
 have h5 := Nat.mul_le_mul_right (1000 * 2001) qB.Y3
 unfold cW
 omega
set_option maxRecDepth 100000 in
set_option maxHeartbeats 1000000 in
theorem RE (hP : Plain Tryz.prog) {b2 b3 b5 b6 cf cl : Nat} {da db : Wk} (qB : da.ok) (vI : db.ok) {A : Nat → Prop} {B0 : Nat} {w0 : World} (hS : Dv A B0 w0 γ w) (hF : Fx da db b2 b3 b5 b6 cf cl γ w) (u : Nat → Value) {Qf : Exit → Act → World → Prop}
  (hT : ∀ γ' a' w', V5 A B0 w0 (cW da db) (.ret, γ') .normal a' w' → KJ (eY Tryz.prog af) 60 () Cp (fun _ => Qf) a' w') :
  KJ (KG Tryz.prog af true) 60 (chain cf cl (.bool true) (.bool false) false da.aR.length (xg cf (.agg #[.int .i64 0, .int .i64 0, .int .i64 0]) ((cW da db).map qz)) (da.aR.map fun x => msgs da db x db.aR), γ) nD (fun γ' e a' w' => γ'.1 = .ret ∧ Qf e a' w') (H6 b2 b3 b5 b6 u) w := by
 have C := vR (af := af) (main := true) hP
 have VL : xg cf (.agg #[.int .i64 0, .int .i64 0, .int .i64 0]) ((cW da db).map qz) ≠ .ret ∧ xg cf (.agg #[.int .i64 0, .int .i64 0, .int .i64 0]) ((cW da db).map qz) ≠ .stop := by
  obtain ⟨q, hq⟩ := qv (cf := cf) (z := .agg #[.int .i64 0, .int .i64 0, .int .i64 0]) ((cW da db).map qz)
  rw [hq]; simp
 generalize Jf : xg cf (.agg #[.int .i64 0, .int .i64 0, .int .i64 0]) ((cW da db).map qz) = pc at *
 show KJ _ _ _ (.seq ZV (.seq aa5 (.seq aa4 (.seq (.seq XG MO) Cp)))) _ _ _
 refine aN C (tM (WC hP qB vI hS hF u) ?_)
 rintro ⟨p', γ'⟩ e a' w' ⟨rfl, nX, xe, hF', -, vl, nl, k, u', rfl⟩
 simp only at nX xe hF'
 subst nX
 unfold D4
 refine aN C (av C ?_)
 simp only [List.size_toArray, List.length_cons, List.length_nil, Nat.reduceAdd, Nat.zero_add, List.range, List.range.loop]
 refine ah C (v := ?v1) rfl (by rfl) (fun w => run_eq_of fun K hK => ?r1) (fun w => ?e1) ?h1
 case r1 => go_simp; exact hK
 case e1 => simp [go_sem, Instr.makeFunc]
 try walk_nrm
 show KO _ _ (Pc.go (Dj cf cl (.bool false) false da.aR.length) pc, γ') _ _ _ _ _
 refine TU (d := call85 b2 b6 b5) (f := .func 104) (cap := #[.pointer (some ⟨b2, 0, none⟩), .pointer (some ⟨b6, 0, none⟩), .pointer (some ⟨b5, 0, none⟩)]) rfl (by rfl) (fun w => ?_) (fun w => ?_) rfl VL.2 (fun _ => VL.1) (fun w9 r9 w10 r10 => ?_) (fun w9 r9 w10 r10 => ?_)
 ·simp [execOp, resolve, Act.eval, call85, Deferred.ofValue]
 ·simp [execOp, resolve, Act.eval, Deferred.ofValue]
 ·have Ji := ((hF'.kept (Kept.rely r9)).give).kept (Kept.rely r10)
  exact KQ hP qB Ji.wa Ji.f Ji.l
 have Ji := ((hF'.kept (Kept.rely r9)).give).kept (Kept.rely r10)
 have hS9 := ((xe.kept (Kept.rely r9)).give).kept (Kept.rely r10)
 have hf9 := Ji.f
 clear hF' xe Ji
 try walk_nrm
 refine aH C ?_
 co_then
 refine aN C (av C ?_)
 simp only [List.size_toArray, List.length_cons, List.length_nil, Nat.zero_add, List.range, List.range.loop]
 refine ah C (v := ?v11) rfl (by rfl) (fun w => run_eq_of fun K hK => ?r11) (fun w => ?e11) ?z7
 case r11 => go_simp; exact hK
 case e11 => first | (simp [go_sem]; done) | (simp [go_sem, *]; done)
 try walk_nrm
 refine aH C ?_
 co_then
 refine aN C (aN C (av C ?_))
 simp only [List.size_toArray, List.length_cons, List.length_nil, Nat.zero_add, List.range, List.range.loop]
 refine cq C VL.1 (v := ?v21) rfl (by rfl) (fun w₁ h₁ => ⟨run_eq_of fun K hK => ?r21, ?e21⟩) ?h21
 case r21 => have hc := (aF.rely hf9 h₁).2; go_simp; exact hK
 case e21 => have hc := (aF.rely hf9 h₁).2; intro e he; simp [go_sem, hc] at he; subst he; exact (aF.rely hf9 h₁).ni
 try walk_nrm
 refine aH C ?_
 co_then
 subst Jf
 refine (?_ : ∀ a', (∃ u, a' = H7 cf (.slice none 0 0) u) → KJ _ _ _ MO _ a' _) _ (lG rfl)
 rintro a' ⟨u2, rfl⟩
 refine tM (O5 hP (ze qB vI) hS9 u2) ?_
 rintro ⟨p3, γ3⟩ e a3 w3 hE
 have he := hE.1
 have hp3 := hE.2.1
 simp only at hp3
 subst he
 subst hp3
 refine (?_ : KJ (KG Tryz.prog af true) 60 (.ret, γ3) Cp (fun γ' e a' w' => γ'.1 = .ret ∧ Qf e a' w') a3 w3)
 exact OS (tM (hT γ3 a3 w3 hE) fun _ e a w q => ⟨rfl, q⟩)
end Go.Co
end
section
namespace Go.Co
open Go Go.Conc Go.Proofs
open Classical
variable {P : Program} {af : Machine → Trace → Prop} {γ : So} {w : World}
theorem aap {fn : FuncId} {c : Code} {a : Act} {Q : Gm → Exit → Act → World → Prop} (h : ∀ w1, gb γ w w1 → KJ (eY P af) fn () c (fun _ e a w' => ∃ γ', Q (.bad, γ') e a w') a w1) : KJ (Jx P af) fn (.bad, γ) c Q a w := by
 intro b k cs hb hk hc _ w1 r
 refine h w1 r b k cs hb hk fun _ e a' w' q => ?_
 obtain ⟨γ', q⟩ := q
 have h := hc _ _ _ _ q
 cases e with
 | normal => exact h rfl w' (fG _ _)
 | exit id =>
  obtain ⟨k', h1, h2⟩ := h
  exact ⟨k', h1, h2 rfl w' (fG _ _)⟩
 | ret => exact fun todo => h todo rfl w' (fG _ _)
 | goto l => exact h
 | panic ch => exact h
 | outgrown => exact h
structure qR (γ : So) (w : World) (cs : Array Value) (d : Wk) : Prop where
 bH : cs[2]? = some (.int .i64 d.bH)
 aR : ∃ v, cs[3]? = some v ∧ uF γ w v d.aR
 up : ∀ i, i < 4 → ∃ v, cs[4 + i * 2]? = some v ∧ uF γ w v (d.up i)
 lo : ∀ i, i < 4 → ∃ v, cs[4 + i * 2 + 1]? = some v ∧ uF γ w v (d.lo i)
theorem qR.kept {cs : Array Value} {d : Wk} {γ' : So} {w' : World} (h : qR γ w cs d) (k : Kept γ w γ' w') : qR γ' w' cs d :=
 ⟨h.bH, h.aR.imp fun _ ⟨h1, h2⟩ => ⟨h1, k.BN h2⟩, fun i hi => (h.up i hi).imp fun _ ⟨h1, h2⟩ => ⟨h1, k.BN h2⟩, fun i hi => (h.lo i hi).imp fun _ ⟨h1, h2⟩ => ⟨h1, k.BN h2⟩⟩
theorem qR.boxed {cs : Array Value} {d : Wk} {t : TypeId} (h : qR γ w cs d) : dY (γ.more w.heap.size) (w.alloc (.cells cs t)) w.heap.size d := by
 have k := Kept.alloc γ w w.heap.size (.cells cs t)
 exact ⟨aF.fresh rfl h.bH, h.aR.imp fun _ ⟨h1, h2⟩ => ⟨aF.fresh rfl h1, k.BN h2⟩, fun i hi => (h.up i hi).imp fun _ ⟨h1, h2⟩ => ⟨aF.fresh rfl h1, k.BN h2⟩, fun i hi => (h.lo i hi).imp fun _ ⟨h1, h2⟩ => ⟨aF.fresh rfl h1, k.BN h2⟩⟩
def Ch (γ : So) (w : World) (c : Nat) : Prop := γ.all c ∧ w.heap[c]? = some (.chan 0 #[] false 0 0 false)
theorem Ch.lt {c : Nat} (h : Ch γ w c) : c < w.heap.size := (Array.getElem?_eq_some_iff.1 h.2).1
theorem Ch.kept {c : Nat} {γ' : So} {w' : World} (h : Ch γ w c) (k : Kept γ w γ' w') : Ch γ' w' c := ⟨k.all h.1, (k.blk c h.1 h.lt).trans h.2⟩
def Yb (w : World) (cf cl : Nat) : So := (fun b => b < w.heap.size ∧ b ≠ cf ∧ b ≠ cl, fun _ => False)
theorem aF.shr {cf cl : Nat} {ad : Addr} {v : Value} (hf : Ch γ w cf) (hl : Ch γ w cl) (h : aF γ w ad v) : aF (Yb w cf cl) w ad v := by
 refine ⟨.inl ⟨h.lt, fun e => ?_, fun e => ?_⟩, h.2⟩
 ·have := h.2; simp [World.cell?, e, hf.2] at this
 ·have := h.2; simp [World.cell?, e, hl.2] at this
theorem uF.shr {cf cl : Nat} {v : Value} {l : List Int} (hf : Ch γ w cf) (hl : Ch γ w cl) (h : uF γ w v l) : uF (Yb w cf cl) w v l := by
 obtain ⟨A, cap, rfl, h⟩ := h
 exact ⟨A, cap, rfl, fun i x hx => by obtain ⟨ad, h1, h2⟩ := h i x hx; exact ⟨ad, h1, h2.shr hf hl⟩⟩
theorem dY.shr {cf cl b : Nat} {d : Wk} (hf : Ch γ w cf) (hl : Ch γ w cl) (h : dY γ w b d) : dY (Yb w cf cl) w b d :=
 ⟨h.bH.shr hf hl, h.aR.imp fun _ ⟨h1, h2⟩ => ⟨h1.shr hf hl, h2.shr hf hl⟩, fun i hi => (h.up i hi).imp fun _ ⟨h1, h2⟩ => ⟨h1.shr hf hl, h2.shr hf hl⟩, fun i hi => (h.lo i hi).imp fun _ ⟨h1, h2⟩ => ⟨h1.shr hf hl, h2.shr hf hl⟩⟩
def Old (A : Nat → Prop) (B0 : Nat) (w0 w : World) : Prop := (∀ b, A b → w.heap[b]? = w0.heap[b]?) ∧ B0 ≤ w.heap.size ∧ w.os = w0.os ∧ w.output = w0.output
def Nv (af : Machine → Trace → Prop) (R : List Sm) : Prop := ∀ A B0 w0 γ' a' w', V5 A B0 w0 R (.ret, γ') .normal a' w' →
 KJ (eY Tryz.prog af) 60 () Cp (fun _ e a w => e = .ret ∧ a.defers = [] ∧ Old A B0 w0 w ∧ w.ownsRow B0 79 3 (a.tmps.getD 4 undef) R.length (R.flatMap nj)) a' w'
theorem R8 : (Tryz.prog.info? 136).map (fun i => (i.zero, i.size, i.bytes)) = some (some (.chan none), 1, 8) := by kernel_rfl
theorem R7 : (Tryz.prog.info? 137).map (fun i => (i.zero, i.size, i.bytes)) = some (some (.chan none), 1, 8) := by kernel_rfl
set_option maxRecDepth 100000 in
set_option maxHeartbeats 2000000 in
theorem Fh (hP : Plain Tryz.prog) {ca cb : Array Value} {da db : Wk} (qB : da.ok) (vI : db.ok) (Yt : qR γ w ca da) (Ys : qR γ w cb db) (hT : Nv af (cW da db)) :
  tC (Jx Tryz.prog af) Tryz.prog (.bad, γ) 60 #[.agg ca, .agg cb] w fun γ' v w' => γ'.1 = .bad ∧ Kept γ w γ'.2 w' ∧ iL γ'.2 w' w.heap.size 79 3 v (cW da db).length ((cW da db).flatMap nj) := by
 have C := R5 (af := af) hP
 have hp : Pc.bad ≠ Pc.ret := by simp
 obtain ⟨i71, h71, -, -, b71⟩ := info_parts Gu
 obtain ⟨i4, h4, -, -, b4⟩ := info_parts TW
 obtain ⟨i138, ab5, z138, -, -⟩ := info_parts R8
 obtain ⟨i139, ab4, z139, -, -⟩ := info_parts R7
 refine yQ Tryz.func60 (by rfl) rfl ?_
 simp only [Tryz.ntmps60, List.size_toArray, List.length_cons, List.length_nil, Nat.reduceAdd, Nat.reduceSub, Array.replicate_succ, Array.replicate_zero, List.push_toArray, List.append_toArray, List.nil_append, List.cons_append]
 show KJ _ _ _ (.seq (.region _ _ false) (.seq (.region _ _ false) (.seq (.region _ _ false) nD))) _ _ _
 refine aN C (av C ?_)
 simp only [List.size_toArray, List.length_cons, List.length_nil, Nat.reduceAdd, Nat.zero_add, List.range, List.range.loop]
 refine mg C hp (ob := ?ob1) rfl (by rfl) (fun w => run_eq_of fun K hK => ?r1) (fun w => ?e1) ?h1
 case r1 => go_simp; exact hK
 case e1 => simp [go_sem]
 intro w1 Lr
 try walk_nrm
 have ow := (Kept.rely Lr).trans (Kept.alloc γ w1 w1.heap.size (.cells ca 94))
 have PC : dY (γ.more w1.heap.size) (w1.alloc (.cells ca 94)) w1.heap.size da := (Yt.kept (Kept.rely Lr)).boxed
 have Zo := Ys.kept ow
 generalize w1.alloc (.cells ca 94) = W1 at *
 generalize γ.more w1.heap.size = γ1 at *
 generalize w1.heap.size = b2 at *
 clear Lr
 refine mg C hp (ob := ?ob2) rfl (by rfl) (fun w => run_eq_of fun K hK => ?r2) (fun w => ?e2) ?h2
 case r2 => go_simp; exact hK
 case e2 => simp [go_sem]
 intro w2 KV
 try walk_nrm
 have DC := (Kept.rely KV).trans (Kept.alloc γ1 w2 w2.heap.size (.cells cb 94))
 have wP : dY (γ1.more w2.heap.size) (w2.alloc (.cells cb 94)) w2.heap.size db := (Zo.kept (Kept.rely KV)).boxed
 have xd := PC.kept DC
 have HH := ow.trans DC
 generalize w2.alloc (.cells cb 94) = W2 at *
 generalize γ1.more w2.heap.size = γ2 at *
 generalize w2.heap.size = b3 at *
 clear KV DC ow PC Zo
 refine ah C (v := ?v3) rfl (by rfl) (fun w => run_eq_of fun K hK => ?r3) (fun w => ?e3) ?h3
 case r3 => go_simp; exact hK
 case e3 => first | (simp [go_sem]; done) | (simp [go_sem, *]; done)
 try walk_nrm
 refine aH C ?_
 co_then
 have hk := HH
 have ha := xd
 have hb := wP
 clear HH xd wP
 refine aN C (av C ?_)
 simp only [List.size_toArray, List.length_cons, List.length_nil, Nat.reduceAdd, Nat.zero_add, List.range, List.range.loop]
 refine Ce C hp (f := fun n => .chan (some n)) (ob := .chan 0 #[] false 0 0 false) rfl (by rfl) (fun w => ?_) (fun w => ?_) ?_
 ·have h : (Instr.makeChan 136 (.int .i64 0)).run Tryz.prog w = _ := run_makeChan (P := Tryz.prog) (w := w) Tryz.underlying136 h71 .i64 0 (by omega) (by rw [b71]; omega)
  simp [execOp, Act.eval, h]
 ·have h : (Instr.makeChan 136 (.int .i64 0)).events Tryz.prog w #[] = _ := events_makeChan (P := Tryz.prog) (w := w) Tryz.underlying136 h71 .i64 0 (by omega) (by rw [b71]; omega) #[]
  simp [execOp, Act.eval, h]
 intro PM Vj
 try walk_nrm
 have sS := (Kept.rely Vj).trans (Kept.alloc _ PM PM.heap.size (.chan 0 #[] false 0 0 false))
 have S8 : Ch (So.more γ2 PM.heap.size) (PM.alloc (.chan 0 #[] false 0 0 false)) PM.heap.size := ⟨.inr (.inr rfl), heap_alloc_new PM _⟩
 have acp : w.heap.size ≤ PM.heap.size := Nat.le_trans hk.size Vj.1
 replace hk := hk.trans sS
 replace ha := ha.kept sS
 replace hb := hb.kept sS
 generalize PM.alloc (.chan 0 #[] false 0 0 false) = Wpa at *
 generalize PM.heap.size = cf at *
 generalize So.more γ2 cf = γpa at *
 clear sS Vj
 refine mg C hp (ob := .cells #[.chan none] 136) rfl (by rfl) (fun w => run_eq_of fun K hK => ?r4) (fun w => ?e4) ?h4
 case r4 => go_simp; exact hK
 case e4 => simp [execOp, Instr.alloc, zeroValue, typeInfo, ab5, z138, newVar, newRow]
 intro Lk Vi
 try walk_nrm
 have sS := (Kept.rely Vi).trans (Kept.alloc _ Lk Lk.heap.size (.cells #[.chan none] 136))
 have hz : (Lk.alloc (.cells #[.chan none] 136)).frozen? ⟨Lk.heap.size, 0, none⟩ = false := World.frozen?_alloc_new _ _ _ _
 have hs : aF _ _ ⟨Lk.heap.size, 0, none⟩ (.chan none) := aF.fresh (γ := γpa) (w := Lk) (cs := #[.chan none]) (t := 136) rfl rfl
 have hO : (So.more γpa Lk.heap.size).2 Lk.heap.size := .inr rfl
 have Df : Wpa.heap.size ≤ Lk.heap.size := Vi.1
 generalize Lk.alloc (.cells #[.chan none] 136) = Wpb at *
 generalize Lk.heap.size = b5 at *
 generalize So.more γpa b5 = γpb at *
 clear Vi
 refine Gr C hp (ad := ⟨b5, 0, none⟩) (v := .chan (some cf)) rfl (by rfl) hO (fun w₁ h₁ => ⟨?_, ?_⟩) ?_
 ·have hc := (hs.rely h₁).2
  have KZ : w₁.frozen? ⟨b5, 0, none⟩ = false := (World.frozen?_of_block (h₁.2.1 b5 (.inr hO))).trans hz
  refine (?_ : ∀ K : Result Next → Prop, K (.ok .skip (w₁.setCell ⟨b5, 0, none⟩ (.chan (some cf)))) → K _) (· = _) rfl
  intro K hK
  go_simp
  try (unfold stored; go_simp)
  exact hK
 ·have hc := (hs.rely h₁).2
  have KZ : w₁.frozen? ⟨b5, 0, none⟩ = false := (World.frozen?_of_block (h₁.2.1 b5 (.inr hO))).trans hz
  intro e he
  simp [go_sem, hc, KZ] at he
  exact he
 intro wpc Vh
 try walk_nrm
 replace sS := (sS.trans (Kept.rely Vh)).put (ad := ⟨b5, 0, none⟩) (v := .chan (some cf)) Df
 have YP : aF γpb (wpc.setCell ⟨b5, 0, none⟩ (.chan (some cf))) ⟨b5, 0, none⟩ (.chan (some cf)) := ⟨.inr hO, World.cell?_setCell_same _ _ _ (hs.rely Vh).2⟩
 generalize wpc.setCell ⟨b5, 0, none⟩ (.chan (some cf)) = Wpc at *
 replace hk := hk.trans sS
 replace S8 := S8.kept sS
 replace ha := ha.kept sS
 replace hb := hb.kept sS
 clear sS hs hz Df hO Vh
 refine aH C ?_
 co_then
 refine aN C (av C ?_)
 simp only [List.size_toArray, List.length_cons, List.length_nil, Nat.reduceAdd, Nat.zero_add, List.range, List.range.loop]
 refine Ce C hp (f := fun n => .chan (some n)) (ob := .chan 0 #[] false 0 0 false) rfl (by rfl) (fun w => ?_) (fun w => ?_) ?_
 ·have h : (Instr.makeChan 137 (.int .i64 0)).run Tryz.prog w = _ := run_makeChan (P := Tryz.prog) (w := w) Tryz.underlying137 h4 .i64 0 (by omega) (by rw [b4]; omega)
  simp [execOp, Act.eval, h]
 ·have h : (Instr.makeChan 137 (.int .i64 0)).events Tryz.prog w #[] = _ := events_makeChan (P := Tryz.prog) (w := w) Tryz.underlying137 h4 .i64 0 (by omega) (by rw [b4]; omega) #[]
  simp [execOp, Act.eval, h]
 intro Pj Ql
 try walk_nrm
 have hne : cf ≠ Pj.heap.size := Nat.ne_of_lt (S8.kept (Kept.rely Ql)).lt
 have sS := (Kept.rely Ql).trans (Kept.alloc _ Pj Pj.heap.size (.chan 0 #[] false 0 0 false))
 have uD : Ch (So.more γpb Pj.heap.size) (Pj.alloc (.chan 0 #[] false 0 0 false)) Pj.heap.size := ⟨.inr (.inr rfl), heap_alloc_new Pj _⟩
 have aco : w.heap.size ≤ Pj.heap.size := Nat.le_trans hk.size Ql.1
 replace hk := hk.trans sS
 replace ha := ha.kept sS
 replace hb := hb.kept sS
 replace S8 := S8.kept sS
 replace YP := (sS.sees YP)
 generalize Pj.alloc (.chan 0 #[] false 0 0 false) = Wqa at *
 generalize Pj.heap.size = cl at *
 generalize So.more γpb cl = γqa at *
 clear sS Ql
 refine mg C hp (ob := .cells #[.chan none] 137) rfl (by rfl) (fun w => run_eq_of fun K hK => ?r5) (fun w => ?e5) ?h5
 case r5 => go_simp; exact hK
 case e5 => simp [execOp, Instr.alloc, zeroValue, typeInfo, ab4, z139, newVar, newRow]
 intro Lj Vg
 try walk_nrm
 have sS := (Kept.rely Vg).trans (Kept.alloc _ Lj Lj.heap.size (.cells #[.chan none] 137))
 have hz : (Lj.alloc (.cells #[.chan none] 137)).frozen? ⟨Lj.heap.size, 0, none⟩ = false := World.frozen?_alloc_new _ _ _ _
 have hs : aF _ _ ⟨Lj.heap.size, 0, none⟩ (.chan none) := aF.fresh (γ := γqa) (w := Lj) (cs := #[.chan none]) (t := 137) rfl rfl
 have hO : (So.more γqa Lj.heap.size).2 Lj.heap.size := .inr rfl
 have Df : Wqa.heap.size ≤ Lj.heap.size := Vg.1
 generalize Lj.alloc (.cells #[.chan none] 137) = Wqb at *
 generalize Lj.heap.size = b6 at *
 generalize So.more γqa b6 = γqb at *
 clear Vg
 refine Gr C hp (ad := ⟨b6, 0, none⟩) (v := .chan (some cl)) rfl (by rfl) hO (fun w₁ h₁ => ⟨?_, ?_⟩) ?_
 ·have hc := (hs.rely h₁).2
  have KZ : w₁.frozen? ⟨b6, 0, none⟩ = false := (World.frozen?_of_block (h₁.2.1 b6 (.inr hO))).trans hz
  refine (?_ : ∀ K : Result Next → Prop, K (.ok .skip (w₁.setCell ⟨b6, 0, none⟩ (.chan (some cl)))) → K _) (· = _) rfl
  intro K hK
  go_simp
  try (unfold stored; go_simp)
  exact hK
 ·have hc := (hs.rely h₁).2
  have KZ : w₁.frozen? ⟨b6, 0, none⟩ = false := (World.frozen?_of_block (h₁.2.1 b6 (.inr hO))).trans hz
  intro e he
  simp [go_sem, hc, KZ] at he
  exact he
 intro wqc Vf
 try walk_nrm
 replace sS := (sS.trans (Kept.rely Vf)).put (ad := ⟨b6, 0, none⟩) (v := .chan (some cl)) Df
 have hb6 : aF γqb (wqc.setCell ⟨b6, 0, none⟩ (.chan (some cl))) ⟨b6, 0, none⟩ (.chan (some cl)) := ⟨.inr hO, World.cell?_setCell_same _ _ _ (hs.rely Vf).2⟩
 generalize wqc.setCell ⟨b6, 0, none⟩ (.chan (some cl)) = Wqc at *
 replace hk := hk.trans sS
 replace uD := uD.kept sS
 replace ha := ha.kept sS
 replace hb := hb.kept sS
 replace S8 := S8.kept sS
 replace YP := (sS.sees YP)
 clear sS hs hz Df hO Vf
 refine aH C ?_
 co_then
 refine aap fun w1 r1 => ?_
 have UT := Kept.rely r1
 have L4 := S8.kept UT
 have L0 := uD.kept UT
 have ow := hk.trans UT
 have hS : Dv (fun b => γ.all b ∧ b < w.heap.size) w.heap.size w (Yb w1 cf cl) w1 :=
  ⟨fun b h => h.2, fun b h => .inl ⟨Nat.lt_of_lt_of_le h.2 ow.size, by have := h.2; omega, by have := h.2; omega⟩, fun b h => ow.blk b h.1 h.2, ow.size, ow.env⟩
 refine (?_ : ∀ a', (∃ u, a' = H6 b2 b3 b5 b6 u) → KJ _ _ _ nD _ a' _) _ (lG rfl)
 rintro a' ⟨u, rfl⟩
 have hW : ∀ n, 0 < n → xJ (fun c => c = cf ∨ c = cl) (entry n (chain cf cl (.bool true) (.bool false) false da.aR.length (xg cf (.agg #[.int .i64 0, .int .i64 0, .int .i64 0]) ((cW da db).map qz)) (da.aR.map fun x => msgs da db x db.aR))) := by
  intro n hn
  have h := Fa (tv := .bool true) (z := .agg #[.int .i64 0, .int .i64 0, .int .i64 0]) (z2 := .bool false) (mu := false) hne (da.aR.map fun x => msgs da db x db.aR) hn
  rwa [List.length_map, Sb] at h
 have fV : (chain cf cl (.bool true) (.bool false) false da.aR.length (xg cf (.agg #[.int .i64 0, .int .i64 0, .int .i64 0]) ((cW da db).map qz)) (da.aR.map fun x => msgs da db x db.aR)).live := by
  obtain ⟨x, y, h⟩ := FC (cf := cf) (cl := cl) (tv := .bool true) (z2 := .bool false) (mu := false) da.aR.length (xg cf (.agg #[.int .i64 0, .int .i64 0, .int .i64 0]) ((cW da db).map qz)) (da.aR.map fun x => msgs da db x db.aR)
  rw [h]
  exact ⟨by simp, by simp, by simp⟩
 refine OR hP (Cs := fun c => c = cf ∨ c = cl) (S := (Yb w1 cf cl).1) (O := (Yb w1 cf cl).2) fV (fun b h => h.elim) (fun b h => h.elim (·.1) (·.elim)) (fun c hc => ?_) hW
  (RE hP qB vI hS ⟨(ha.kept UT).shr L4 L0, (hb.kept UT).shr L4 L0, (UT.sees YP).shr L4 L0, (UT.sees hb6).shr L4 L0⟩ u (fun γ' a' w' hE => tM (hT _ _ _ γ' a' w' hE) ?_))
 ·rcases hc with rfl | rfl
  ·exact ⟨⟨0, false, L4.2⟩, fun h => h.2.1 rfl, fun h => h⟩
  ·exact ⟨⟨0, false, L0.2⟩, fun h => h.2.2 rfl, fun h => h⟩
 ·rintro _ e a3 w3 ⟨rfl, hd, hold, dD⟩
  exact ⟨(γ.1, fun b => γ.2 b ∨ (w.heap.size ≤ b ∧ b < w3.heap.size)), hd, a3.tmps.getD 4 undef, resultsC_tmp Tryz.results60 _, rfl,
   ⟨rfl, fun _ h => .inl h, fun b hb hlt => hold.1 b ⟨hb, hlt⟩, hold.2.1, hold.2.2⟩, ⟨dD, fun b hb => .inr (dD.lt b hb)⟩⟩
end Go.Co
end
