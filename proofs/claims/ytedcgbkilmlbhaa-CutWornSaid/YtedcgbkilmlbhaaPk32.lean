import Derived.Test.YtedcgbkilmlbhaaPk31
import Derived.Conc.SmallLaws
section
namespace Go.Co
open Go Go.Conc Go.Proofs
open Classical
variable {P : Program} {af : Machine → Trace → Prop} {γ : So} {w : World}
theorem EC {b : Nat} : γ.give.all b ↔ γ.all b := ⟨fun h => h.elim id fun h => h.elim, .inl⟩
theorem aC.give {ad : Addr} {v : Value} (h : aC γ w ad v) : aC γ.give w ad v := ⟨EC.2 h.1, h.2⟩
theorem tW.give {v : Value} {l : List Int} (h : tW γ w v l) : tW γ.give w v l := by
 obtain ⟨A, cap, rfl, h⟩ := h
 exact ⟨A, cap, rfl, fun i x hx => by obtain ⟨ad, h1, h2⟩ := h i x hx; exact ⟨ad, h1, h2.give⟩⟩
theorem dR.give {b : Nat} {d : Wk} (h : dR γ w b d) : dR γ.give w b d :=
 ⟨h.bH.give, h.aO.imp fun _ ⟨h1, h2⟩ => ⟨h1.give, h2.give⟩, fun i hi => (h.up i hi).imp fun _ ⟨h1, h2⟩ => ⟨h1.give, h2.give⟩, fun i hi => (h.lo i hi).imp fun _ ⟨h1, h2⟩ => ⟨h1.give, h2.give⟩⟩
theorem Kept.put {γ0 : So} {w0 : World} {ad : Addr} {v : Value} (k : Kept γ0 w0 γ w) (h : w0.heap.size ≤ ad.block) : Kept γ0 w0 γ (w.setCell ad v) :=
 ⟨k.shr, k.own, fun b hb hlt => (heap_setCell_other _ _ _ _ (by omega)).trans (k.blk b hb hlt), by rw [World.size_setCell]; exact k.size, k.env⟩
structure Db (A : Nat → Prop) (B0 : Nat) (w0 : World) (γ : So) (w : World) : Prop where
 lt : ∀ b, A b → b < B0
 all : ∀ b, A b → γ.all b
 blk : ∀ b, A b → w.heap[b]? = w0.heap[b]?
 size : B0 ≤ w.heap.size
 env : w.os = w0.os ∧ w.output = w0.output
theorem Db.kept {A : Nat → Prop} {B0 : Nat} {w0 w' : World} {γ' : So} (h : Db A B0 w0 γ w) (k : Kept γ w γ' w') : Db A B0 w0 γ' w' :=
 ⟨h.lt, fun b hb => k.all (h.all b hb), fun b hb => (k.blk b (h.all b hb) (Nat.lt_of_lt_of_le (h.lt b hb) h.size)).trans (h.blk b hb), Nat.le_trans h.size k.size, k.env.1.trans h.env.1, k.env.2.trans h.env.2⟩
theorem Db.give {A : Nat → Prop} {B0 : Nat} {w0 : World} (h : Db A B0 w0 γ w) : Db A B0 w0 γ.give w := ⟨h.lt, fun b hb => EC.2 (h.all b hb), h.blk, h.size, h.env⟩
structure Fx (da db : Wk) (b2 b3 b5 b6 cf cl : Nat) (γ : So) (w : World) : Prop where
 wa : dR γ w b2 da
 wb : dR γ w b3 db
 f : aC γ w ⟨b5, 0, none⟩ (.chan (some cf))
 l : aC γ w ⟨b6, 0, none⟩ (.chan (some cl))
theorem Fx.kept {da db : Wk} {b2 b3 b5 b6 cf cl : Nat} {γ' : So} {w' : World} (h : Fx da db b2 b3 b5 b6 cf cl γ w) (k : Kept γ w γ' w') : Fx da db b2 b3 b5 b6 cf cl γ' w' := ⟨h.wa.kept k, h.wb.kept k, k.sees h.f, k.sees h.l⟩
theorem Fx.give {da db : Wk} {b2 b3 b5 b6 cf cl : Nat} (h : Fx da db b2 b3 b5 b6 cf cl γ w) : Fx da db b2 b3 b5 b6 cf cl γ.give w := ⟨h.wa.give, h.wb.give, h.f.give, h.l.give⟩
def Hx (b2 b3 b5 b6 : Nat) (u : Nat → Value) : Act :=
 ⟨#[u 0, u 1, .pointer (some ⟨b2, 0, none⟩), .pointer (some ⟨b3, 0, none⟩), u 4, .pointer (some ⟨b5, 0, none⟩), .pointer (some ⟨b6, 0, none⟩), u 7, u 8, u 9, u 10, u 11, u 12, u 13, u 14, u 15, u 16, u 17, u 18, u 19, u 20, u 21, u 22, u 23, u 24, u 25, u 26, u 27, u 28, u 29, u 30, u 31, u 32, u 33, u 34], []⟩
def Dt (b2 b3 b5 b6 : Nat) (vl : Value) (nl k : Nat) (u : Nat → Value) : Act :=
 ⟨#[u 0, u 1, .pointer (some ⟨b2, 0, none⟩), .pointer (some ⟨b3, 0, none⟩), u 4, .pointer (some ⟨b5, 0, none⟩), .pointer (some ⟨b6, 0, none⟩), u 7, u 8, u 9, u 10, u 11, u 12, u 13, u 14, vl, .int .i64 nl, .int .i64 k, u 18, u 19, u 20, u 21, u 22, u 23, u 24, u 25, u 26, u 27, u 28, u 29, u 30, u 31, u 32, u 33, u 34], []⟩
def abd (b2 b3 b5 b6 cf : Nat) (out : Value) (u : Nat → Value) : Act :=
 ⟨#[u 0, u 1, .pointer (some ⟨b2, 0, none⟩), .pointer (some ⟨b3, 0, none⟩), u 4, .pointer (some ⟨b5, 0, none⟩), .pointer (some ⟨b6, 0, none⟩), u 7, u 8, out, u 10, u 11, u 12, u 13, u 14, u 15, u 16, u 17, u 18, u 19, u 20, u 21, u 22, u 23, .chan (some cf), u 25, u 26, u 27, u 28, u 29, u 30, u 31, u 32, u 33, u 34], []⟩
noncomputable def Wv : Code := Try.f33.body.getD .skip
noncomputable def ni : Code := match Wv with | .seq _ (.seq _ (.seq _ x)) => x | _ => .skip
noncomputable def YZ : Code := match ni with | .seq x _ => x | _ => .skip
theorem Ev {cf cl : Nat} {tv z2 : Value} {lZ : Bool} {K : Nat} {p : Pc} (todo : List (List Value)) : chain cf cl tv z2 lZ K p todo ≠ .ret ∧ chain cf cl tv z2 lZ K p todo ≠ .stop := by cases todo <;> simp [chain]
def aa7 (da db : Wk) (b2 b3 b5 b6 cf cl : Nat) (K : Nat) (p : Pc) (A : Nat → Prop) (B0 : Nat) (w0 : World) (γ' : Gm) (e : Exit) (a' : Act) (w' : World) : Prop :=
 e = .normal ∧ γ'.1 = chain cf cl (.bool true) (.bool false) false K p [] ∧ Db A B0 w0 γ'.2 w' ∧ Fx da db b2 b3 b5 b6 cf cl γ'.2 w' ∧ (∀ b, A b → γ'.2.1 b ∨ γ'.2.2 b) ∧ ∃ vl nl k u, a' = Dt b2 b3 b5 b6 vl nl k u
set_option maxRecDepth 100000 in
set_option maxHeartbeats 2000000 in
theorem VH (hP : Plain Try.prog) {b2 b3 b5 b6 cf cl : Nat} {da db : Wk} (qg : da.ok) (uY : db.ok) {K : Nat} {p : Pc} {A : Nat → Prop} {B0 : Nat} {w0 : World} (hS : Db A B0 w0 γ w) (hF : Fx da db b2 b3 b5 b6 cf cl γ w) (u : Nat → Value) :
  KJ (KG Try.prog af true) 33 (chain cf cl (.bool true) (.bool false) false K p (da.aO.map fun x => msgs da db x db.aO), γ) YZ (aa7 da db b2 b3 b5 b6 cf cl K p A B0 w0) (Hx b2 b3 b5 b6 u) w := by
 have C := vg (af := af) (main := true) hP
 have hp : ∀ todo, chain cf cl (.bool true) (.bool false) false K p todo ≠ .ret := fun todo => (Ev todo).1
 obtain ⟨v0, K3, AA, cap, rfl, hA⟩ := hF.wa.aO
 have hI : tW γ w (.slice AA da.aO.length cap) da.aO := ⟨AA, cap, rfl, hA⟩
 have YI := qg.Yg
 unfold Hx
 refine aJ C (av C ?_)
 simp only [List.size_toArray, List.length_cons, List.length_nil, Nat.reduceAdd, Nat.zero_add, List.range, List.range.loop]
 refine aa C (v := ?v1) rfl (by rfl) (fun w => run_eq_of fun K hK => ?r1) (fun w => ?e1) ?h1
 case r1 => go_simp; exact hK
 case e1 => first | (simp [go_sem]; done) | (simp [go_sem, *]; done)
 try walk_nrm
 refine aa C (v := ?v2) rfl (by rfl) (fun w => run_eq_of fun K hK => ?r2) (fun w => ?e2) ?h2
 case r2 => go_simp; exact hK
 case e2 => first | (simp [go_sem]; done) | (simp [go_sem, *]; done)
 try walk_nrm
 refine cr C (hp _) (v := ?v3) rfl (by rfl) (fun w₁ h₁ => ⟨run_eq_of fun K hK => ?r3, ?e3⟩) ?h3
 case r3 => have hc := (aC.rely K3 h₁).2; go_simp; exact hK
 case e3 => have hc := (aC.rely K3 h₁).2; intro e he; simp [go_sem, hc] at he; subst he; exact (aC.rely K3 h₁).mR
 try walk_nrm
 refine aa C (v := ?v4) rfl (by rfl) (fun w => run_eq_of fun K hK => ?r4) (fun w => ?e4) ?h4
 case r4 => go_simp; exact hK
 case e4 => first | (simp [go_sem]; done) | (simp [go_sem, *]; done)
 try walk_nrm
 refine aa C (v := ?v5) rfl (by rfl) (fun w => run_eq_of fun K hK => ?r5) (fun w => ?e5) ?h5
 case r5 => go_simp; exact hK
 case e5 => first | (simp [go_sem]; done) | (simp [go_sem, *]; done)
 try walk_nrm
 refine aF C ?_
 co_then
 refine ej C ?_
 clear K3 hA
 refine kS C (fun n γ' a w' => ∃ γ3 k, γ' = (chain cf cl (.bool true) (.bool false) false K p ((da.aO.drop k).map fun x => msgs da db x db.aO), γ3) ∧ Db A B0 w0 γ3 w' ∧ Fx da db b2 b3 b5 b6 cf cl γ3 w' ∧ tW γ3 w' (.slice AA da.aO.length cap) da.aO ∧ k ≤ da.aO.length ∧ n = da.aO.length - k ∧ ∃ u, a = Dt b2 b3 b5 b6 (.slice AA da.aO.length cap) da.aO.length k u) (n := da.aO.length) ⟨γ, 0, rfl, hS, hF, hI, by omega, by omega, kW rfl⟩ ?_
 clear hS hF hI
 rintro n γ' a w' ⟨γ3, k, hγ, hS, hF, hI, hk, hn, u, zF⟩
 subst hγ
 unfold Dt at zF
 subst zF
 refine aJ C (av C ?_)
 simp only [List.size_toArray, List.length_cons, List.length_nil, Nat.zero_add, List.range, List.range.loop]
 by_cases hlt : k < da.aO.length
 ·have Uh : decide ((k : Int) < (da.aO.length : Int)) = true := by simpa using hlt
  obtain ⟨x, hx⟩ : ∃ x, da.aO[k]? = some x := ⟨_, List.getElem?_eq_getElem hlt⟩
  have hxb := qg.aO k x hx
  obtain ⟨ad, rfl, O6⟩ : ∃ ad, AA = some ad ∧ aC γ3 w' (ad.add k) (.int .i64 x) := by
   obtain ⟨A2, nX, he, h2⟩ := hI
   cases he
   exact h2 k x hx
  have Mc : da.aO.drop k = x :: da.aO.drop (k + 1) := by
   rw [List.drop_eq_getElem_cons hlt]
   congr 1
   exact Option.some.inj ((List.getElem?_eq_getElem hlt).symm.trans hx)
  have hw5 : IntKind.i64.wrap ((k : Int) + 1) = (k : Int) + 1 := by rw [qQ] <;> omega
  refine aa C (v := ?v6) rfl (by rfl) (fun w => run_eq_of fun K hK => ?r6) (fun w => ?e6) ?h6
  case r6 => go_simp; exact hK
  case e6 => first | (simp [go_sem]; done) | (simp [go_sem, *]; done)
  try walk_nrm
  refine aF C ?_
  co_then
  refine aJ C (ct C (t := true) rfl ?_)
  simp only [if_true]
  refine gO C ?_
  co_then
  refine aJ C (ej C (aJ C (av C ?_)))
  simp only [List.size_toArray, List.length_cons, List.length_nil, Nat.reduceAdd, Nat.zero_add, List.range, List.range.loop]
  refine aa C (v := ?v7) rfl (by rfl) (fun w => run_eq_of fun K hK => ?r7) (fun w => ?e7) ?h7
  case r7 => go_simp; exact hK
  case e7 => first | (simp [go_sem]; done) | (simp [go_sem, *]; done)
  try walk_nrm
  refine cr C (hp _) (v := ?v8) rfl (by rfl) (fun w₁ h₁ => ⟨run_eq_of fun K hK => ?r8, ?e8⟩) ?h8
  case r8 => have hc := (aC.rely O6 h₁).2; go_simp; exact hK
  case e8 => have hc := (aC.rely O6 h₁).2; intro e he; simp [go_sem, hc] at he; subst he; exact (aC.rely O6 h₁).mR
  try walk_nrm
  refine lS C (hp _) (ob := ?ob9) rfl (by rfl) (fun w => run_eq_of fun K hK => ?r9) (fun w => ?e9) ?h9
  case r9 => go_simp; exact hK
  case e9 => simp [go_sem]
  intro w5 Pv
  try walk_nrm
  have G9 := (Kept.rely Pv).trans (Kept.alloc γ3 w5 w5.heap.size (.cells #[.int .i64 0] 3))
  have TJ : (w5.alloc (.cells #[.int .i64 0] 3)).frozen? ⟨w5.heap.size, 0, none⟩ = false := World.frozen?_alloc_new _ _ _ _
  have Pz : aC _ _ ⟨w5.heap.size, 0, none⟩ (.int .i64 0) := aC.fresh (γ := γ3) (w := w5) (cs := #[.int .i64 0]) (t := 3) rfl rfl
  have KT : (γ3.more w5.heap.size).2 w5.heap.size := .inr rfl
  have FE : w'.heap.size ≤ w5.heap.size := Pv.1
  generalize w5.alloc (.cells #[.int .i64 0] 3) = w6 at *
  generalize γ3.more w5.heap.size = γ6 at *
  generalize w5.heap.size = b8 at *
  clear O6 Pv
  refine FX C (hp _) (ad := ⟨b8, 0, none⟩) (v := .int .i64 x) rfl (by rfl) KT (fun w₁ h₁ => ⟨?_, ?_⟩) ?_
  ·have hc := (Pz.rely h₁).2
   have hz : w₁.frozen? ⟨b8, 0, none⟩ = false := (World.frozen?_of_block (h₁.2.1 b8 (.inr KT))).trans TJ
   refine (?_ : ∀ K : Result Next → Prop, K (.ok .skip (w₁.setCell ⟨b8, 0, none⟩ (.int .i64 x))) → K _) (· = _) rfl
   intro K hK
   go_simp
   try (unfold stored; go_simp)
   exact hK
  ·have hc := (Pz.rely h₁).2
   have hz : w₁.frozen? ⟨b8, 0, none⟩ = false := (World.frozen?_of_block (h₁.2.1 b8 (.inr KT))).trans TJ
   intro e he
   simp [go_sem, hc, hz] at he
   exact he
  intro w7 r7
  try walk_nrm
  have Pa := (G9.trans (Kept.rely r7)).put (ad := ⟨b8, 0, none⟩) (v := .int .i64 x) FE
  have hx7 : aC γ6 (w7.setCell ⟨b8, 0, none⟩ (.int .i64 x)) ⟨b8, 0, none⟩ (.int .i64 x) := ⟨.inr KT, World.cell?_setCell_same _ _ _ (Pz.rely r7).2⟩
  generalize w7.setCell ⟨b8, 0, none⟩ (.int .i64 x) = w8 at *
  clear Pz TJ r7 G9 FE
  have hF8 := hF.kept Pa
  have hS8 := hS.kept Pa
  have hI8 := Pa.Bs hI
  clear hF hS hI Pa
  refine aF C ?_
  co_then
  refine av C ?_
  simp only [List.size_toArray, List.length_cons, List.length_nil, Nat.reduceAdd, Nat.zero_add, List.range, List.range.loop]
  refine aa C (v := ?v10) rfl (by rfl) (fun w => run_eq_of fun K hK => ?r10) (fun w => ?e10) ?rX
  case r10 => go_simp; exact hK
  case e10 => simp [go_sem, Instr.makeFunc]
  try walk_nrm
  rw [Mc, List.map_cons]
  show KO _ _ (Pc.go (wk cf cl (.bool true) (msgs da db x db.aO)) (chain cf cl (.bool true) (.bool false) false K p ((da.aO.drop (k + 1)).map fun x => msgs da db x db.aO)), γ6) _ _ _ _ _
  refine S5 (d := call84 b3 b2 b8 b5 b6) (f := .func 58) (cap := #[.pointer (some ⟨b3, 0, none⟩), .pointer (some ⟨b2, 0, none⟩), .pointer (some ⟨b8, 0, none⟩), .pointer (some ⟨b5, 0, none⟩), .pointer (some ⟨b6, 0, none⟩)]) rfl (by rfl) (fun w => ?_) (fun w => ?_) rfl (Ev _).2 (fun _ => hp _) (fun w9 r9 WG r10 => ?_) (fun w9 r9 WG r10 => ?_)
  ·simp [execOp, resolve, Act.eval, call84, Deferred.ofValue]
  ·simp [execOp, resolve, Act.eval, Deferred.ofValue]
  ·have hk := (Kept.rely r9)
   have qx := (Kept.rely r10)
   have I9 := ((hF8.kept hk).give).kept qx
   exact Jo hP qg uY hxb.1 (by omega) I9.wa I9.wb (qx.sees (hk.sees hx7).give) I9.f I9.l
  have I9 := ((hF8.kept (Kept.rely r9)).give).kept (Kept.rely r10)
  have hS9 := ((hS8.kept (Kept.rely r9)).give).kept (Kept.rely r10)
  have hI9 := (Kept.rely r10).Bs ((Kept.rely r9).Bs hI8).give
  clear hF8 hS8 hI8 hx7
  try walk_nrm
  refine aF C ?_
  co_then
  refine av C ?_
  simp only [List.size_toArray, List.length_cons, List.length_nil, Nat.reduceAdd, Nat.zero_add, List.range, List.range.loop]
  refine aa C (v := ?v11) rfl (by rfl) (fun w => run_eq_of fun K hK => ?r11) (fun w => ?e11) ?zu
  case r11 => go_simp; exact hK
  case e11 => first | (simp [go_sem]; done) | (simp [go_sem, *]; done)
  try walk_nrm
  refine aa C (v := ?v12) rfl (by rfl) (fun w => run_eq_of fun K hK => ?r12) (fun w => ?e12) ?KU
  case r12 => go_simp; exact hK
  case e12 => first | (simp [go_sem]; done) | (simp [go_sem, *]; done)
  try walk_nrm
  refine aF C (cQ ?_)
  exact ⟨da.aO.length - (k + 1), by omega, _, k + 1, rfl, hS9, I9, hI9, by omega, rfl, kW rfl⟩
 ·have G8 : k = da.aO.length := by omega
  subst G8
  have Uh : decide ((da.aO.length : Int) < (da.aO.length : Int)) = false := by simp
  simp only [List.drop_length, List.map_nil]
  refine aa C (v := ?v13) rfl (by rfl) (fun w => run_eq_of fun K hK => ?r13) (fun w => ?e13) ?Sy
  case r13 => go_simp; exact hK
  case e13 => first | (simp [go_sem]; done) | (simp [go_sem, *]; done)
  try walk_nrm
  refine aF C ?_
  co_then
  refine aJ C (ct C (t := false) rfl ?_)
  simp only [Bool.false_eq_true, if_false]
  refine jZ C ?_
  co_then
  exact ⟨rfl, rfl, hS, hF, hS.all, _, _, _, kW (F := fun u => Dt b2 b3 b5 b6 (.slice AA da.aO.length cap) da.aO.length da.aO.length u) rfl⟩
end Go.Co
end
section
namespace Go.Co
open Go Go.Conc Go.Proofs
open Classical
variable {P : Program} {af : Machine → Trace → Prop} {main : Bool} {K : Gm → Goroutine → World → Prop} {fn : FuncId} {p : Pc} {γ : So} {Q : Gm → Exit → Act → World → Prop} {a : Act} {w : World} {ops : Array Oper} {i : Nat} {rest : List Nat} {o : Oper}
theorem Rq (C : KC P main K zw Da) (hp : p ≠ .ret) {b : Nat} {x y z : Value} (ho : ops[i]? = some o) (hw : Region.wanted o (yielded ops a.tmps) = true) (hO : γ.2 b)
  (hrun : ∀ w₁, fL γ w w₁ → (execOp a.eval o).run P w₁ = .ok .skip (((w₁.setCell ⟨b, 0, none⟩ x).setCell ⟨b, 1, none⟩ y).setCell ⟨b, 2, none⟩ z) ∧ ∀ e ∈ (execOp a.eval o).events P w₁ #[], ∃ j, e = ⟨.cell ⟨b, j, none⟩, true, false⟩)
  (h : ∀ w₁, fL γ w w₁ → KO K fn (p, γ) ops rest Q (a.put o.dst undef) (((w₁.setCell ⟨b, 0, none⟩ x).setCell ⟨b, 1, none⟩ y).setCell ⟨b, 2, none⟩ z)) : KO K fn (p, γ) ops (i :: rest) Q a w :=
 sX C ho hw fun w₁ r => by
  obtain ⟨h1, h2⟩ := hrun w₁ (Pw hp r)
  rw [h1]
  have hsz : (((w₁.setCell ⟨b, 0, none⟩ x).setCell ⟨b, 1, none⟩ y).setCell ⟨b, 2, none⟩ z).heap.size = w₁.heap.size := by rw [World.size_setCell, World.size_setCell, World.size_setCell]
  refine ⟨(p, γ), Xs hp ⟨rfl, fun c => ⟨.inl, fun h => h.elim id fun h => absurd h.2 (by omega)⟩, by omega, fun c _ hn => ?_, rfl, rfl, rfl, fun e he => ?_⟩, h w₁ (Pw hp r)⟩
  ·have hne : c ≠ b := fun e => hn (e ▸ hO)
   rw [heap_setCell_other _ _ _ _ hne, heap_setCell_other _ _ _ _ hne, heap_setCell_other _ _ _ _ hne]
  ·obtain ⟨j, rfl⟩ := h2 e (mem_listed he)
   exact .inl ⟨_, true, false, rfl, fun _ => hO, .inr hO⟩
theorem Db.append {A : Nat → Prop} {B0 : Nat} {w0 w' : World} {γ' : So} {v : Value} (h : Db A B0 w0 γ w) (h1 : γ'.1 = γ.1) (h2 : ∀ b, γ.2 b → γ'.2 b) (h3 : w.heap.size ≤ w'.heap.size)
  (h4 : ∀ b, γ.all b → b < w.heap.size → some b ≠ v.ownBlock → w'.heap[b]? = w.heap[b]?) (h5 : w'.os = w.os ∧ w'.output = w.output) (hb : ∀ b, v.ownBlock = some b → B0 ≤ b) : Db A B0 w0 γ' w' :=
 ⟨h.lt, fun b hlt => (h.all b hlt).imp (by rw [h1]; exact id) (h2 b), fun b hlt => (h4 b (h.all b hlt) (Nat.lt_of_lt_of_le (h.lt b hlt) h.size) fun e => by have := hb b e.symm; have := h.lt b hlt; omega).trans (h.blk b hlt), Nat.le_trans h.size h3, h5.1.trans h.env.1, h5.2.trans h.env.2⟩
abbrev Sm := Int × Int × Int
def qf (m : Sm) : Value := u5 m.1 m.2.1 m.2.2
def mS (m : Sm) : List Value := [.int .i64 m.1, .int .i64 m.2.1, .int .i64 m.2.2]
theorem CW {id : Nat} {R : Exit → Act → World → Prop} (h : R .normal a w) : Exit.inBlock id R .normal a w := h
theorem Ci (l : List Sm) : (l.flatMap mS).length = l.length * 3 := by
 induction l with
 | nil => rfl
 | cons m l ih => simp only [List.flatMap_cons, List.length_append, ih, mS, List.length_cons, List.length_nil]; omega
theorem QJ {m m' : Sm} (h : qf m = qf m') : m = m' := by
 obtain ⟨a, b, c⟩ := m
 obtain ⟨a', b', c'⟩ := m'
 simp [qf, u5] at h
 obtain ⟨rfl, rfl, rfl⟩ := h
 rfl
theorem Bg (m : Sm) : ∀ l : List Sm, (l.map qf).erase (qf m) = (l.erase m).map qf
 | [] => rfl
 | a :: l => by
  rw [List.map_cons, List.erase_cons, List.erase_cons]
  by_cases h : a = m
  ·subst h; simp
  ·have h2 : ¬ qf a = qf m := fun e => h (QJ e)
   simp [h, h2, Bg m l]
theorem RM (cf : Nat) (z : Value) : wF cf z [] = .recv cf true z fun x => match x with | some _ => .bad | none => .ret := rfl
theorem OQ (cf : Nat) (z v0 : Value) (vs : List Value) : wF cf z (v0 :: vs) = .recv cf true z fun x => match x with | some v => if v ∈ v0 :: vs then wF cf z ((v0 :: vs).erase v) else .bad | none => .bad := by
 unfold wF
 show Pc.recv cf true z (fun x => match x with | some v => if v ∈ v0 :: vs then Qd cf z vs.length ((v0 :: vs).erase v) else .bad | none => .bad) = _
 congr 1
 funext x
 cases x with
 | none => rfl
 | some v =>
  simp only
  split
  ·rename_i h
   rw [List.length_erase_of_mem h]
   rfl
  ·rfl
def Mh (out : Value) (u : Nat → Value) : Act :=
 ⟨#[u 0, u 1, u 2, u 3, u 4, u 5, u 6, u 7, u 8, out, u 10, u 11, u 12, u 13, u 14, u 15, u 16, u 17, u 18, u 19, u 20, u 21, u 22, u 23, u 24, u 25, u 26, u 27, u 28, u 29, u 30, u 31, u 32, u 33, u 34], []⟩
def Hy (cf : Nat) (out : Value) (u : Nat → Value) : Act :=
 ⟨#[u 0, u 1, u 2, u 3, u 4, u 5, u 6, u 7, u 8, out, u 10, u 11, u 12, u 13, u 14, u 15, u 16, u 17, u 18, u 19, u 20, u 21, u 22, u 23, .chan (some cf), u 25, u 26, u 27, u 28, u 29, u 30, u 31, u 32, u 33, u 34], []⟩
def Vi (A : Nat → Prop) (B0 : Nat) (w0 : World) (R : List Sm) (γ' : Gm) (e : Exit) (a' : Act) (w' : World) : Prop :=
 e = .normal ∧ γ'.1 = .ret ∧ Db A B0 w0 γ'.2 w' ∧ ∃ (got : List Sm) (out : Value), got.Perm R ∧ w'.ownsRow B0 56 3 out got.length (got.flatMap mS) ∧ ∃ u, a' = Mh out u
noncomputable def Mq : Code := match ni with | .seq _ (.seq _ (.seq _ (.seq (.seq _ x) _))) => x | _ => .skip
set_option maxRecDepth 100000 in
set_option maxHeartbeats 2000000 in
theorem OP (hP : Plain Try.prog) {cf : Nat} {A : Nat → Prop} {B0 : Nat} {w0 : World} {R : List Sm} (hR : R.length ≤ 4294967296) (hS : Db A B0 w0 γ w) (u : Nat → Value) :
  KJ (KG Try.prog af true) 33 (wF cf (.agg #[.int .i64 0, .int .i64 0, .int .i64 0]) (R.map qf), γ) Mq (Vi A B0 w0 R) (Hy cf (.slice none 0 0) u) w := by
 have C := vg (af := af) (main := true) hP
 obtain ⟨i0, xd, C4, KH, WO⟩ := info_parts F5
 have hzv : ∀ w, (zeroValue 56).run Try.prog w = .ok (.agg #[.int .i64 0, .int .i64 0, .int .i64 0]) w := fun w => by simp [zeroValue, typeInfo, xd, C4]
 have hze : ∀ w es, (zeroValue 56).events Try.prog w es = es := fun w es => by simp [zeroValue, typeInfo, xd, C4]
 have hrun : ∀ (T : Act) (o : Oper) (w : World), o.op = .recv 115 (.tmp 24) true → T.eval (.tmp 24) = .chan (some cf) → (execOp T.eval o).run Try.prog w = .ok (.comm #[rcase cf (.agg #[.int .i64 0, .int .i64 0, .int .i64 0])] true (.recv true)) w := by
  intro T o w ho hT
  simp [execOp, ho, run_underlying Try.underlying115, hzv, rcase, hT]
 have tT : ∀ (T : Act) (o : Oper) (w : World), o.op = .recv 115 (.tmp 24) true → (execOp T.eval o).events Try.prog w #[] = #[] := by
  intro T o w ho
  simp [execOp, ho, run_underlying Try.underlying115, hze]
 refine ej C ?_
 refine kS C (fun n γ' a w' => ∃ (γ3 : So) (rem got : List Sm) (out : Value), γ' = (wF cf (.agg #[.int .i64 0, .int .i64 0, .int .i64 0]) (rem.map qf), γ3) ∧ Db A B0 w0 γ3 w' ∧ iy γ3 w' B0 56 3 out got.length (got.flatMap mS) ∧ (got ++ rem).Perm R ∧ n = rem.length ∧ ∃ u, a = Hy cf out u) (n := R.length) ⟨γ, R, [], .slice none 0 0, rfl, hS, iy.nil _ _ _, by simp, rfl, u, rfl⟩ ?_
 clear hS
 rintro n γ' a w' ⟨γ3, rem, got, out, hγ, hS, dm, L6, hn, u, zF⟩
 subst hγ
 unfold Hy at zF
 subst zF
 have hlen : got.length + rem.length ≤ 4294967296 := by
  have h1 := L6.length_eq
  rw [List.length_append] at h1
  omega
 refine aJ C (av C ?_)
 simp only [List.size_toArray, List.length_cons, List.length_nil, Nat.reduceAdd, Nat.zero_add, List.range, List.range.loop]
 cases rem with
 | nil =>
  simp only [List.map_nil]
  rw [RM]
  refine Cz rfl (by rfl) (fun w => hrun _ _ w rfl rfl) (fun w => tT _ _ w rfl) (fun x => by cases x <;> simp) (fun h => by cases h) (fun x w7 r7 => ?_)
  cases x with
  | some v => exact BW
  | none =>
   have hS7 := hS.kept (Kept.rely r7)
   have Aw := dm.rely r7
   simp only [Option.getD_none, Option.isSome_none, recvd]
   try walk_nrm
   refine aa C (v := ?v1) rfl (by rfl) (fun w => run_eq_of fun K hK => ?r1) (fun w => ?e1) ?h1
   case r1 => go_simp; exact hK
   case e1 => first | (simp [go_sem]; done) | (simp [go_sem, *]; done)
   try walk_nrm
   refine aF C ?_
   co_then
   refine aJ C (ct C (t := false) rfl ?_)
   simp only [Bool.false_eq_true, if_false]
   refine jZ C ?_
   co_then
   exact ⟨rfl, rfl, hS7, got, out, by simpa using L6, Aw.1, kW (F := fun u => Mh out u) rfl⟩
 | cons m0 ms =>
  simp only [List.map_cons]
  rw [OQ]
  refine Cz rfl (by rfl) (fun w => hrun _ _ w rfl rfl) (fun w => tT _ _ w rfl) (fun x => ?_) (fun h => by cases h) (fun x w7 r7 => ?_)
  ·cases x with
   | none => simp
   | some v =>
    simp only
    split
    ·obtain ⟨q, hq⟩ := pZ (cf := cf) (z := .agg #[.int .i64 0, .int .i64 0, .int .i64 0]) ((qf m0 :: ms.map qf).erase v)
     rw [hq]; simp
    ·simp
  cases x with
  | none => exact BW
  | some v =>
   simp only
   by_cases hv : v ∈ qf m0 :: ms.map qf
   ·rw [if_pos hv]
    obtain ⟨m, hm, rfl⟩ : ∃ m, m ∈ m0 :: ms ∧ qf m = v := by
     have : v ∈ (m0 :: ms).map qf := hv
     exact List.mem_map.1 this
    have aaw : (qf m0 :: ms.map qf).erase (qf m) = ((m0 :: ms).erase m).map qf := Bg m (m0 :: ms)
    rw [aaw]
    have W0 := List.perm_cons_erase hm
    have L9 := List.length_erase_of_mem hm
    generalize (m0 :: ms).erase m = PV at *
    obtain ⟨x, y, s⟩ := m
    have hp : wF cf (.agg #[.int .i64 0, .int .i64 0, .int .i64 0]) (PV.map qf) ≠ .ret := by
     obtain ⟨q, hq⟩ := pZ (cf := cf) (z := .agg #[.int .i64 0, .int .i64 0, .int .i64 0]) (PV.map qf)
     rw [hq]; simp
    have hS7 := hS.kept (Kept.rely r7)
    have Aw := dm.rely r7
    clear hS dm
    simp only [Option.getD_some, Option.isSome_some, recvd, qf, u5]
    try walk_nrm
    refine aa C (v := ?v2) rfl (by rfl) (fun w => run_eq_of fun K hK => ?r2) (fun w => ?e2) ?h2
    case r2 => go_simp; exact hK
    case e2 => first | (simp [go_sem]; done) | (simp [go_sem, *]; done)
    try walk_nrm
    refine aF C ?_
    co_then
    refine aJ C (ct C (t := true) rfl ?_)
    simp only [if_true]
    refine gO C ?_
    co_then
    refine ej C (aJ C (av C ?_))
    simp only [List.size_toArray, List.length_cons, List.length_nil, Nat.reduceAdd, Nat.zero_add, List.range, List.range.loop]
    refine aa C (v := ?v3) rfl (by rfl) (fun w => run_eq_of fun K hK => ?r3) (fun w => ?e3) ?h3
    case r3 => go_simp; exact hK
    case e3 => first | (simp [go_sem]; done) | (simp [go_sem, *]; done)
    try walk_nrm
    refine lS C hp (ob := ?ob4) rfl (by rfl) (fun w => run_eq_of fun K hK => ?r4) (fun w => ?e4) ?h4
    case r4 => go_simp; exact hK
    case e4 => simp [go_sem]
    intro w5 Pv
    try walk_nrm
    have G9 := (Kept.rely Pv).trans (Kept.alloc γ3 w5 w5.heap.size (.cells #[.int .i64 0, .int .i64 0, .int .i64 0] 56))
    have TJ : ∀ j, (w5.alloc (.cells #[.int .i64 0, .int .i64 0, .int .i64 0] 56)).frozen? ⟨w5.heap.size, j, none⟩ = false := fun j => World.frozen?_alloc_new _ _ _ _
    have Xh : aC _ _ ⟨w5.heap.size, 0, none⟩ (.int .i64 0) := aC.fresh (γ := γ3) (w := w5) (cs := #[.int .i64 0, .int .i64 0, .int .i64 0]) (t := 56) rfl rfl
    have Xg : aC _ _ ⟨w5.heap.size, 1, none⟩ (.int .i64 0) := aC.fresh (γ := γ3) (w := w5) (cs := #[.int .i64 0, .int .i64 0, .int .i64 0]) (t := 56) rfl rfl
    have Xf : aC _ _ ⟨w5.heap.size, 2, none⟩ (.int .i64 0) := aC.fresh (γ := γ3) (w := w5) (cs := #[.int .i64 0, .int .i64 0, .int .i64 0]) (t := 56) rfl rfl
    have KT : (γ3.more w5.heap.size).2 w5.heap.size := .inr rfl
    have FE : w7.heap.size ≤ w5.heap.size := Pv.1
    generalize w5.alloc (.cells #[.int .i64 0, .int .i64 0, .int .i64 0] 56) = w6 at *
    generalize γ3.more w5.heap.size = γ6 at *
    generalize w5.heap.size = b8 at *
    clear Pv
    refine Rq C hp (b := b8) (x := .int .i64 x) (y := .int .i64 y) (z := .int .i64 s) rfl (by rfl) KT (fun w₁ h₁ => ⟨?_, ?_⟩) ?_
    ·have X1 := (Xh.rely h₁).2
     have CZ := (Xg.rely h₁).2
     have sr := (Xf.rely h₁).2
     have hz : ∀ j, w₁.frozen? ⟨b8, j, none⟩ = false := fun j => (World.frozen?_of_block (h₁.2.1 b8 (.inr KT))).trans (TJ j)
     refine (?_ : ∀ K : Result Next → Prop, K (.ok .skip (((w₁.setCell ⟨b8, 0, none⟩ (.int .i64 x)).setCell ⟨b8, 1, none⟩ (.int .i64 y)).setCell ⟨b8, 2, none⟩ (.int .i64 s))) → K _) (· = _) rfl
     intro K hK
     go_simp
     try (unfold stored; go_simp)
     exact hK
    ·have X1 := (Xh.rely h₁).2
     have CZ := (Xg.rely h₁).2
     have sr := (Xf.rely h₁).2
     have hz : ∀ j, w₁.frozen? ⟨b8, j, none⟩ = false := fun j => (World.frozen?_of_block (h₁.2.1 b8 (.inr KT))).trans (TJ j)
     intro e he
     simp [go_sem, X1, CZ, sr, hz] at he
     rcases he with rfl | rfl | rfl
     ·exact ⟨0, rfl⟩
     ·exact ⟨1, rfl⟩
     ·exact ⟨2, rfl⟩
    intro w9 r9
    try walk_nrm
    have hk9 := (((G9.trans (Kept.rely r9)).put (ad := ⟨b8, 0, none⟩) (v := .int .i64 x) FE).put (ad := ⟨b8, 1, none⟩) (v := .int .i64 y) FE).put (ad := ⟨b8, 2, none⟩) (v := .int .i64 s) FE
    have s0 : aC γ6 (((w9.setCell ⟨b8, 0, none⟩ (.int .i64 x)).setCell ⟨b8, 1, none⟩ (.int .i64 y)).setCell ⟨b8, 2, none⟩ (.int .i64 s)) ⟨b8, 0, none⟩ (.int .i64 x) :=
     aC.put (aC.put ⟨.inr KT, World.cell?_setCell_same _ _ _ (Xh.rely r9).2⟩ (by simp)) (by simp)
    have s1 : aC γ6 (((w9.setCell ⟨b8, 0, none⟩ (.int .i64 x)).setCell ⟨b8, 1, none⟩ (.int .i64 y)).setCell ⟨b8, 2, none⟩ (.int .i64 s)) ⟨b8, 1, none⟩ (.int .i64 y) :=
     aC.put ⟨.inr KT, World.cell?_setCell_same _ _ _ ((Xg.rely r9).put (by simp)).2⟩ (by simp)
    have s2 : aC γ6 (((w9.setCell ⟨b8, 0, none⟩ (.int .i64 x)).setCell ⟨b8, 1, none⟩ (.int .i64 y)).setCell ⟨b8, 2, none⟩ (.int .i64 s)) ⟨b8, 2, none⟩ (.int .i64 s) :=
     ⟨.inr KT, World.cell?_setCell_same _ _ _ (((Xf.rely r9).put (by simp)).put (by simp)).2⟩
    generalize ((w9.setCell ⟨b8, 0, none⟩ (.int .i64 x)).setCell ⟨b8, 1, none⟩ (.int .i64 y)).setCell ⟨b8, 2, none⟩ (.int .i64 s) = WG at *
    have YP := hS7.kept hk9
    have MP := Aw.kept hk9
    clear hk9 G9 Xh Xg Xf TJ r9 FE hS7 Aw KT
    refine aF C ?_
    co_then
    refine av C ?_
    simp only [List.size_toArray, List.length_cons, List.length_nil, Nat.reduceAdd, Nat.zero_add, List.range, List.range.loop]
    refine aa C (v := ?v5) rfl (by rfl) (fun w => run_eq_of fun K hK => ?r5) (fun w => ?e5) ?h5
    case r5 => go_simp; exact hK
    case e5 => first | (simp [go_sem]; done) | (simp [go_sem, *]; done)
    try walk_nrm
    refine cr C hp (v := ?v6) rfl (by rfl) (fun w₁ h₁ => ⟨run_eq_of fun K hK => ?r6, ?e6⟩) ?h6
    case r6 => have X1 := (aC.rely s0 h₁).2; have CZ := (aC.rely s1 h₁).2; have sr := (aC.rely s2 h₁).2; go_simp; exact hK
    case e6 =>
     have X1 := (aC.rely s0 h₁).2
     have CZ := (aC.rely s1 h₁).2
     have sr := (aC.rely s2 h₁).2
     intro e he
     simp [go_sem, X1, CZ, sr] at he
     rcases he with rfl | rfl | rfl
     ·exact (aC.rely s0 h₁).mR
     ·exact (aC.rely s1 h₁).mR
     ·exact (aC.rely s2 h₁).mR
    try walk_nrm
    refine MJ C hp (ob := ?ob7) (n := 1) rfl (by rfl) (fun w => run_eq_of fun K hK => ?r7) (fun w => ?e7) ?h7
    case r7 => go_simp; exact hK
    case e7 => simp [go_sem]
    intro IY aaj
    try walk_nrm
    have UY := (Kept.rely aaj).trans (Kept.alloc γ6 IY IY.heap.size (.cells #[.int .i64 x, .int .i64 y, .int .i64 s] 56))
    have aax : ∀ (j : Nat) (u : Value), (mS (x, y, s))[j]? = some u → aC (γ6.more IY.heap.size) (IY.alloc (.cells #[.int .i64 x, .int .i64 y, .int .i64 s] 56)) ((⟨IY.heap.size, 0, none⟩ : Addr).add j) u := by
     intro j u hu
     rw [Addr.add_lit]
     simp only [Nat.zero_add]
     refine aC.fresh (γ := γ6) (w := IY) rfl ?_
     simpa [mS] using hu
    have YO := YP.kept UY
    have MO := MP.kept UY
    have Wl : (γ6.more IY.heap.size).all IY.heap.size := .inr (.inr rfl)
    generalize IY.alloc (.cells #[.int .i64 x, .int .i64 y, .int .i64 s] 56) = w12 at *
    generalize γ6.more IY.heap.size = γ12 at *
    generalize IY.heap.size = b12 at *
    clear YP MP s0 s1 s2 UY
    have Bu := Ci got
    refine A5 C hp (B := B0) (news := mS (x, y, s)) (m := 1) (c := 1) (ad := ⟨b12, 0, none⟩) (n := got.length) (xs := got.flatMap mS) (v := out) rfl (by rfl) rfl Try.underlying33 xd C4 KH WO rfl (by decide) rfl rfl YO.size MO rfl aax Wl (by simp [mS, Value.oneCell']) (by simp only [maxLen]; omega) (by omega) ?_
    intro v13 w13 γ13 XV W7 hg3 hg4 hg5 Wd
    have aaT := YO.append XV W7 hg3 hg4 hg5 (v := out) (fun b hb => (MO.1.lt b hb).1)
    try walk_nrm
    refine aa C (v := ?v8) rfl (by rfl) (fun w => run_eq_of fun K hK => ?r8) (fun w => ?e8) ?h8
    case r8 => go_simp; exact hK
    case e8 => first | (simp [go_sem]; done) | (simp [go_sem, *]; done)
    try walk_nrm
    refine aF C (CW (cQ ?_))
    refine ⟨PV.length, by simp only [List.length_cons] at L9 hn; omega, γ13, PV, got ++ [(x, y, s)], v13, rfl, aaT, ?_, ?_, rfl, kW rfl⟩
    ·rw [List.length_append, List.flatMap_append]
     simpa using Wd
    ·rw [List.append_assoc]
     exact (List.Perm.append_left got W0.symm).trans L6
   ·rw [if_neg hv]
    exact BW
end Go.Co
end
section
namespace Go.Co
open Go Go.Conc Go.Proofs
open Classical
variable {P : Program} {af : Machine → Trace → Prop} {γ : So} {w : World}
noncomputable def B6 : Code := match ni with | .seq _ (.seq _ (.seq _ (.seq _ x))) => x | _ => .skip
noncomputable def aab : Code := match ni with | .seq _ (.seq x _) => x | _ => .skip
noncomputable def aaa : Code := match ni with | .seq _ (.seq _ (.seq x _)) => x | _ => .skip
noncomputable def WB : Code := match ni with | .seq _ (.seq _ (.seq _ (.seq (.seq x _) _))) => x | _ => .skip
def cB (da db : Wk) : List Sm := da.aO.flatMap fun x => db.aO.flatMap fun y => (dY da db x y).map fun s => (x, y, s)
theorem Is (da db : Wk) (x : Int) : ∀ ys : List Int, msgs da db x ys = (ys.flatMap fun y => (dY da db x y).map fun s => (x, y, s)).map qf
 | [] => rfl
 | y :: ys => by
  rw [AX, Is da db x ys, List.flatMap_cons, List.map_append, List.map_map]
  rfl
theorem RB (da db : Wk) : (da.aO.map fun x => msgs da db x db.aO).flatten = (cB da db).map qf := by
 unfold cB
 induction da.aO with
 | nil => rfl
 | cons x l ih => rw [List.map_cons, List.flatten_cons, ih, List.flatMap_cons, List.map_append, Is]
theorem oZ {α β : Type} (f : α → List β) (c : Nat) : ∀ l : List α, (∀ x ∈ l, (f x).length ≤ c) → (l.flatMap f).length ≤ l.length * c
 | [], _ => by simp
 | a :: l, h => by
  have h1 := h a (by simp)
  have h2 := oZ f c l fun x hx => h x (by simp [hx])
  rw [List.flatMap_cons, List.length_append, List.length_cons, Nat.add_mul]
  omega
theorem yJ {da db : Wk} (qg : da.ok) (uY : db.ok) : (cB da db).length ≤ 4294967296 := by
 have h1 : ∀ x ∈ da.aO, (db.aO.flatMap fun y => (dY da db x y).map fun s => (x, y, s)).length ≤ 1000 * 2001 := by
  intro x _
  refine Nat.le_trans (oZ _ 2001 _ fun y _ => ?_) (Nat.mul_le_mul_right _ uY.Yg)
  rw [List.length_map]
  have h2 := (uY.up y.toNat).1
  have h3 := (qg.lo x.toNat).1
  exact Nat.le_trans (Ck _ _ _ _) (by omega)
 have h4 := oZ _ _ _ h1
 have h5 := Nat.mul_le_mul_right (1000 * 2001) qg.Yg
 unfold cB
 omega
set_option maxRecDepth 100000 in
set_option maxHeartbeats 1000000 in
theorem Q7 (hP : Plain Try.prog) {b2 b3 b5 b6 cf cl : Nat} {da db : Wk} (qg : da.ok) (uY : db.ok) {A : Nat → Prop} {B0 : Nat} {w0 : World} (hS : Db A B0 w0 γ w) (hF : Fx da db b2 b3 b5 b6 cf cl γ w) (u : Nat → Value) {Qf : Exit → Act → World → Prop}
  (hT : ∀ γ' a' w', Vi A B0 w0 (cB da db) (.ret, γ') .normal a' w' → KJ (fH Try.prog af) 33 () B6 (fun _ => Qf) a' w') :
  KJ (KG Try.prog af true) 33 (chain cf cl (.bool true) (.bool false) false da.aO.length (wF cf (.agg #[.int .i64 0, .int .i64 0, .int .i64 0]) ((cB da db).map qf)) (da.aO.map fun x => msgs da db x db.aO), γ) ni (fun γ' e a' w' => γ'.1 = .ret ∧ Qf e a' w') (Hx b2 b3 b5 b6 u) w := by
 have C := vg (af := af) (main := true) hP
 have U3 : wF cf (.agg #[.int .i64 0, .int .i64 0, .int .i64 0]) ((cB da db).map qf) ≠ .ret ∧ wF cf (.agg #[.int .i64 0, .int .i64 0, .int .i64 0]) ((cB da db).map qf) ≠ .stop := by
  obtain ⟨q, hq⟩ := pZ (cf := cf) (z := .agg #[.int .i64 0, .int .i64 0, .int .i64 0]) ((cB da db).map qf)
  rw [hq]; simp
 generalize I5 : wF cf (.agg #[.int .i64 0, .int .i64 0, .int .i64 0]) ((cB da db).map qf) = pc at *
 show KJ _ _ _ (.seq YZ (.seq aab (.seq aaa (.seq (.seq WB Mq) B6)))) _ _ _
 refine aJ C (sY (VH hP qg uY hS hF u) ?_)
 rintro ⟨p', γ'⟩ e a' w' ⟨rfl, nM, wD, hF', -, vl, nl, k, u', rfl⟩
 simp only at nM wD hF'
 subst nM
 unfold Dt
 refine aJ C (av C ?_)
 simp only [List.size_toArray, List.length_cons, List.length_nil, Nat.reduceAdd, Nat.zero_add, List.range, List.range.loop]
 refine aa C (v := ?v1) rfl (by rfl) (fun w => run_eq_of fun K hK => ?r1) (fun w => ?e1) ?h1
 case r1 => go_simp; exact hK
 case e1 => simp [go_sem, Instr.makeFunc]
 try walk_nrm
 show KO _ _ (Pc.go (C1 cf cl (.bool false) false da.aO.length) pc, γ') _ _ _ _ _
 refine S5 (d := call85 b2 b6 b5) (f := .func 60) (cap := #[.pointer (some ⟨b2, 0, none⟩), .pointer (some ⟨b6, 0, none⟩), .pointer (some ⟨b5, 0, none⟩)]) rfl (by rfl) (fun w => ?_) (fun w => ?_) rfl U3.2 (fun _ => U3.1) (fun w9 r9 WG r10 => ?_) (fun w9 r9 WG r10 => ?_)
 ·simp [execOp, resolve, Act.eval, call85, Deferred.ofValue]
 ·simp [execOp, resolve, Act.eval, Deferred.ofValue]
 ·have I9 := ((hF'.kept (Kept.rely r9)).give).kept (Kept.rely r10)
  exact Kv hP qg I9.wa I9.f I9.l
 have I9 := ((hF'.kept (Kept.rely r9)).give).kept (Kept.rely r10)
 have hS9 := ((wD.kept (Kept.rely r9)).give).kept (Kept.rely r10)
 have hf9 := I9.f
 clear hF' wD I9
 try walk_nrm
 refine aF C ?_
 co_then
 refine aJ C (av C ?_)
 simp only [List.size_toArray, List.length_cons, List.length_nil, Nat.zero_add, List.range, List.range.loop]
 refine aa C (v := ?v11) rfl (by rfl) (fun w => run_eq_of fun K hK => ?r11) (fun w => ?e11) ?zu
 case r11 => go_simp; exact hK
 case e11 => first | (simp [go_sem]; done) | (simp [go_sem, *]; done)
 try walk_nrm
 refine aF C ?_
 co_then
 refine aJ C (aJ C (av C ?_))
 simp only [List.size_toArray, List.length_cons, List.length_nil, Nat.zero_add, List.range, List.range.loop]
 refine cr C U3.1 (v := ?v21) rfl (by rfl) (fun w₁ h₁ => ⟨run_eq_of fun K hK => ?r21, ?e21⟩) ?h21
 case r21 => have hc := (aC.rely hf9 h₁).2; go_simp; exact hK
 case e21 => have hc := (aC.rely hf9 h₁).2; intro e he; simp [go_sem, hc] at he; subst he; exact (aC.rely hf9 h₁).mR
 try walk_nrm
 refine aF C ?_
 co_then
 subst I5
 refine (?_ : ∀ a', (∃ u, a' = Hy cf (.slice none 0 0) u) → KJ _ _ _ Mq _ a' _) _ (kW rfl)
 rintro a' ⟨u2, rfl⟩
 refine sY (OP hP (yJ qg uY) hS9 u2) ?_
 rintro ⟨p3, γ3⟩ e a3 w3 hE
 have he := hE.1
 have hp3 := hE.2.1
 simp only at hp3
 subst he
 subst hp3
 refine (?_ : KJ (KG Try.prog af true) 33 (.ret, γ3) B6 (fun γ' e a' w' => γ'.1 = .ret ∧ Qf e a' w') a3 w3)
 exact Oy (sY (hT γ3 a3 w3 hE) fun _ e a w q => ⟨rfl, q⟩)
end Go.Co
end
section
namespace Go.Co
open Go Go.Conc Go.Proofs
open Classical
variable {P : Program} {af : Machine → Trace → Prop} {γ : So} {w : World}
theorem Zu {fn : FuncId} {c : Code} {a : Act} {Q : Gm → Exit → Act → World → Prop} (h : ∀ w1, fL γ w w1 → KJ (fH P af) fn () c (fun _ e a w' => ∃ γ', Q (.bad, γ') e a w') a w1) : KJ (Jk P af) fn (.bad, γ) c Q a w := by
 intro b k cs hb hk hc _ w1 r
 refine h w1 r b k cs hb hk fun _ e a' w' q => ?_
 obtain ⟨γ', q⟩ := q
 have h := hc _ _ _ _ q
 cases e with
 | normal => exact h rfl w' (fo _ _)
 | exit id =>
  obtain ⟨k', h1, h2⟩ := h
  exact ⟨k', h1, h2 rfl w' (fo _ _)⟩
 | ret => exact fun todo => h todo rfl w' (fo _ _)
 | goto l => exact h
 | panic ch => exact h
 | outgrown => exact h
structure qF (γ : So) (w : World) (cs : Array Value) (d : Wk) : Prop where
 bH : cs[2]? = some (.int .i64 d.bH)
 aO : ∃ v, cs[3]? = some v ∧ tW γ w v d.aO
 up : ∀ i, i < 4 → ∃ v, cs[4 + i * 2]? = some v ∧ tW γ w v (d.up i)
 lo : ∀ i, i < 4 → ∃ v, cs[4 + i * 2 + 1]? = some v ∧ tW γ w v (d.lo i)
theorem qF.kept {cs : Array Value} {d : Wk} {γ' : So} {w' : World} (h : qF γ w cs d) (k : Kept γ w γ' w') : qF γ' w' cs d :=
 ⟨h.bH, h.aO.imp fun _ ⟨h1, h2⟩ => ⟨h1, k.Bs h2⟩, fun i hi => (h.up i hi).imp fun _ ⟨h1, h2⟩ => ⟨h1, k.Bs h2⟩, fun i hi => (h.lo i hi).imp fun _ ⟨h1, h2⟩ => ⟨h1, k.Bs h2⟩⟩
theorem qF.boxed {cs : Array Value} {d : Wk} {t : TypeId} (h : qF γ w cs d) : dR (γ.more w.heap.size) (w.alloc (.cells cs t)) w.heap.size d := by
 have k := Kept.alloc γ w w.heap.size (.cells cs t)
 exact ⟨aC.fresh rfl h.bH, h.aO.imp fun _ ⟨h1, h2⟩ => ⟨aC.fresh rfl h1, k.Bs h2⟩, fun i hi => (h.up i hi).imp fun _ ⟨h1, h2⟩ => ⟨aC.fresh rfl h1, k.Bs h2⟩, fun i hi => (h.lo i hi).imp fun _ ⟨h1, h2⟩ => ⟨aC.fresh rfl h1, k.Bs h2⟩⟩
def Ch (γ : So) (w : World) (c : Nat) : Prop := γ.all c ∧ w.heap[c]? = some (.chan 0 #[] false 0 0 false)
theorem Ch.lt {c : Nat} (h : Ch γ w c) : c < w.heap.size := (Array.getElem?_eq_some_iff.1 h.2).1
theorem Ch.kept {c : Nat} {γ' : So} {w' : World} (h : Ch γ w c) (k : Kept γ w γ' w') : Ch γ' w' c := ⟨k.all h.1, (k.blk c h.1 h.lt).trans h.2⟩
def Xn (w : World) (cf cl : Nat) : So := (fun b => b < w.heap.size ∧ b ≠ cf ∧ b ≠ cl, fun _ => False)
theorem aC.shr {cf cl : Nat} {ad : Addr} {v : Value} (hf : Ch γ w cf) (hl : Ch γ w cl) (h : aC γ w ad v) : aC (Xn w cf cl) w ad v := by
 refine ⟨.inl ⟨h.lt, fun e => ?_, fun e => ?_⟩, h.2⟩
 ·have := h.2; simp [World.cell?, e, hf.2] at this
 ·have := h.2; simp [World.cell?, e, hl.2] at this
theorem tW.shr {cf cl : Nat} {v : Value} {l : List Int} (hf : Ch γ w cf) (hl : Ch γ w cl) (h : tW γ w v l) : tW (Xn w cf cl) w v l := by
 obtain ⟨A, cap, rfl, h⟩ := h
 exact ⟨A, cap, rfl, fun i x hx => by obtain ⟨ad, h1, h2⟩ := h i x hx; exact ⟨ad, h1, h2.shr hf hl⟩⟩
theorem dR.shr {cf cl b : Nat} {d : Wk} (hf : Ch γ w cf) (hl : Ch γ w cl) (h : dR γ w b d) : dR (Xn w cf cl) w b d :=
 ⟨h.bH.shr hf hl, h.aO.imp fun _ ⟨h1, h2⟩ => ⟨h1.shr hf hl, h2.shr hf hl⟩, fun i hi => (h.up i hi).imp fun _ ⟨h1, h2⟩ => ⟨h1.shr hf hl, h2.shr hf hl⟩, fun i hi => (h.lo i hi).imp fun _ ⟨h1, h2⟩ => ⟨h1.shr hf hl, h2.shr hf hl⟩⟩
def Old (A : Nat → Prop) (B0 : Nat) (w0 w : World) : Prop := (∀ b, A b → w.heap[b]? = w0.heap[b]?) ∧ B0 ≤ w.heap.size ∧ w.os = w0.os ∧ w.output = w0.output
def M6 (af : Machine → Trace → Prop) (R : List Sm) : Prop := ∀ A B0 w0 γ' a' w', Vi A B0 w0 R (.ret, γ') .normal a' w' →
 KJ (fH Try.prog af) 33 () B6 (fun _ e a w => e = .ret ∧ a.defers = [] ∧ Old A B0 w0 w ∧ w.ownsRow B0 56 3 (a.tmps.getD 4 undef) R.length (R.flatMap mS)) a' w'
theorem Rx : (Try.prog.info? 115).map (fun i => (i.zero, i.size, i.bytes)) = some (some (.chan none), 1, 8) := by kernel_rfl
theorem Rw : (Try.prog.info? 116).map (fun i => (i.zero, i.size, i.bytes)) = some (some (.chan none), 1, 8) := by kernel_rfl
set_option maxRecDepth 100000 in
set_option maxHeartbeats 2000000 in
theorem EL (hP : Plain Try.prog) {ca cb : Array Value} {da db : Wk} (qg : da.ok) (uY : db.ok) (XH : qF γ w ca da) (XG : qF γ w cb db) (hT : M6 af (cB da db)) :
  sN (Jk Try.prog af) Try.prog (.bad, γ) 33 #[.agg ca, .agg cb] w fun γ' v w' => γ'.1 = .bad ∧ Kept γ w γ'.2 w' ∧ iy γ'.2 w' w.heap.size 56 3 v (cB da db).length ((cB da db).flatMap mS) := by
 have C := Rt (af := af) hP
 have hp : Pc.bad ≠ Pc.ret := by simp
 obtain ⟨i71, h71, -, -, b71⟩ := info_parts F5
 obtain ⟨i4, h4, -, -, b4⟩ := info_parts S6
 obtain ⟨i138, aaW, z138, -, -⟩ := info_parts Rx
 obtain ⟨i139, aaV, z139, -, -⟩ := info_parts Rw
 refine ym Try.func33 (by rfl) rfl ?_
 simp only [Try.ntmps33, List.size_toArray, List.length_cons, List.length_nil, Nat.reduceAdd, Nat.reduceSub, Array.replicate_succ, Array.replicate_zero, List.push_toArray, List.append_toArray, List.nil_append, List.cons_append]
 show KJ _ _ _ (.seq (.region _ _ false) (.seq (.region _ _ false) (.seq (.region _ _ false) ni))) _ _ _
 refine aJ C (av C ?_)
 simp only [List.size_toArray, List.length_cons, List.length_nil, Nat.reduceAdd, Nat.zero_add, List.range, List.range.loop]
 refine lS C hp (ob := ?ob1) rfl (by rfl) (fun w => run_eq_of fun K hK => ?r1) (fun w => ?e1) ?h1
 case r1 => go_simp; exact hK
 case e1 => simp [go_sem]
 intro w1 KZ
 try walk_nrm
 have qw := (Kept.rely KZ).trans (Kept.alloc γ w1 w1.heap.size (.cells ca 70))
 have Pe : dR (γ.more w1.heap.size) (w1.alloc (.cells ca 70)) w1.heap.size da := (XH.kept (Kept.rely KZ)).boxed
 have Yv := XG.kept qw
 generalize w1.alloc (.cells ca 70) = W1 at *
 generalize γ.more w1.heap.size = γ1 at *
 generalize w1.heap.size = b2 at *
 clear KZ
 refine lS C hp (ob := ?ob2) rfl (by rfl) (fun w => run_eq_of fun K hK => ?r2) (fun w => ?e2) ?h2
 case r2 => go_simp; exact hK
 case e2 => simp [go_sem]
 intro w2 KB
 try walk_nrm
 have De := (Kept.rely KB).trans (Kept.alloc γ1 w2 w2.heap.size (.cells cb 70))
 have xe : dR (γ1.more w2.heap.size) (w2.alloc (.cells cb 70)) w2.heap.size db := (Yv.kept (Kept.rely KB)).boxed
 have wC := Pe.kept De
 have I7 := qw.trans De
 generalize w2.alloc (.cells cb 70) = W2 at *
 generalize γ1.more w2.heap.size = γ2 at *
 generalize w2.heap.size = b3 at *
 clear KB De qw Pe Yv
 refine aa C (v := ?v3) rfl (by rfl) (fun w => run_eq_of fun K hK => ?r3) (fun w => ?e3) ?h3
 case r3 => go_simp; exact hK
 case e3 => first | (simp [go_sem]; done) | (simp [go_sem, *]; done)
 try walk_nrm
 refine aF C ?_
 co_then
 have hk := I7
 have ha := wC
 have hb := xe
 clear I7 wC xe
 refine aJ C (av C ?_)
 simp only [List.size_toArray, List.length_cons, List.length_nil, Nat.reduceAdd, Nat.zero_add, List.range, List.range.loop]
 refine BV C hp (f := fun n => .chan (some n)) (ob := .chan 0 #[] false 0 0 false) rfl (by rfl) (fun w => ?_) (fun w => ?_) ?_
 ·have h : (Instr.makeChan 115 (.int .i64 0)).run Try.prog w = _ := run_makeChan (P := Try.prog) (w := w) Try.underlying115 h71 .i64 0 (by omega) (by rw [b71]; omega)
  simp [execOp, Act.eval, h]
 ·have h : (Instr.makeChan 115 (.int .i64 0)).events Try.prog w #[] = _ := events_makeChan (P := Try.prog) (w := w) Try.underlying115 h71 .i64 0 (by omega) (by rw [b71]; omega) #[]
  simp [execOp, Act.eval, h]
 intro Pp UA
 try walk_nrm
 have sj := (Kept.rely UA).trans (Kept.alloc _ Pp Pp.heap.size (.chan 0 #[] false 0 0 false))
 have Ss : Ch (So.more γ2 Pp.heap.size) (Pp.alloc (.chan 0 #[] false 0 0 false)) Pp.heap.size := ⟨.inr (.inr rfl), heap_alloc_new Pp _⟩
 have abc : w.heap.size ≤ Pp.heap.size := Nat.le_trans hk.size UA.1
 replace hk := hk.trans sj
 replace ha := ha.kept sj
 replace hb := hb.kept sj
 generalize Pp.alloc (.chan 0 #[] false 0 0 false) = Wpa at *
 generalize Pp.heap.size = cf at *
 generalize So.more γ2 cf = γpa at *
 clear sj UA
 refine lS C hp (ob := .cells #[.chan none] 115) rfl (by rfl) (fun w => run_eq_of fun K hK => ?r4) (fun w => ?e4) ?h4
 case r4 => go_simp; exact hK
 case e4 => simp [execOp, Instr.alloc, zeroValue, typeInfo, aaW, z138, newVar, newRow]
 intro KX Uz
 try walk_nrm
 have sj := (Kept.rely Uz).trans (Kept.alloc _ KX KX.heap.size (.cells #[.chan none] 115))
 have hz : (KX.alloc (.cells #[.chan none] 115)).frozen? ⟨KX.heap.size, 0, none⟩ = false := World.frozen?_alloc_new _ _ _ _
 have hs : aC _ _ ⟨KX.heap.size, 0, none⟩ (.chan none) := aC.fresh (γ := γpa) (w := KX) (cs := #[.chan none]) (t := 115) rfl rfl
 have hO : (So.more γpa KX.heap.size).2 KX.heap.size := .inr rfl
 have C7 : Wpa.heap.size ≤ KX.heap.size := Uz.1
 generalize KX.alloc (.cells #[.chan none] 115) = Wpb at *
 generalize KX.heap.size = b5 at *
 generalize So.more γpa b5 = γpb at *
 clear Uz
 refine FX C hp (ad := ⟨b5, 0, none⟩) (v := .chan (some cf)) rfl (by rfl) hO (fun w₁ h₁ => ⟨?_, ?_⟩) ?_
 ·have hc := (hs.rely h₁).2
  have KH : w₁.frozen? ⟨b5, 0, none⟩ = false := (World.frozen?_of_block (h₁.2.1 b5 (.inr hO))).trans hz
  refine (?_ : ∀ K : Result Next → Prop, K (.ok .skip (w₁.setCell ⟨b5, 0, none⟩ (.chan (some cf)))) → K _) (· = _) rfl
  intro K hK
  go_simp
  try (unfold stored; go_simp)
  exact hK
 ·have hc := (hs.rely h₁).2
  have KH : w₁.frozen? ⟨b5, 0, none⟩ = false := (World.frozen?_of_block (h₁.2.1 b5 (.inr hO))).trans hz
  intro e he
  simp [go_sem, hc, KH] at he
  exact he
 intro wpc Uy
 try walk_nrm
 replace sj := (sj.trans (Kept.rely Uy)).put (ad := ⟨b5, 0, none⟩) (v := .chan (some cf)) C7
 have X2 : aC γpb (wpc.setCell ⟨b5, 0, none⟩ (.chan (some cf))) ⟨b5, 0, none⟩ (.chan (some cf)) := ⟨.inr hO, World.cell?_setCell_same _ _ _ (hs.rely Uy).2⟩
 generalize wpc.setCell ⟨b5, 0, none⟩ (.chan (some cf)) = Wpc at *
 replace hk := hk.trans sj
 replace Ss := Ss.kept sj
 replace ha := ha.kept sj
 replace hb := hb.kept sj
 clear sj hs hz C7 hO Uy
 refine aF C ?_
 co_then
 refine aJ C (av C ?_)
 simp only [List.size_toArray, List.length_cons, List.length_nil, Nat.reduceAdd, Nat.zero_add, List.range, List.range.loop]
 refine BV C hp (f := fun n => .chan (some n)) (ob := .chan 0 #[] false 0 0 false) rfl (by rfl) (fun w => ?_) (fun w => ?_) ?_
 ·have h : (Instr.makeChan 116 (.int .i64 0)).run Try.prog w = _ := run_makeChan (P := Try.prog) (w := w) Try.underlying116 h4 .i64 0 (by omega) (by rw [b4]; omega)
  simp [execOp, Act.eval, h]
 ·have h : (Instr.makeChan 116 (.int .i64 0)).events Try.prog w #[] = _ := events_makeChan (P := Try.prog) (w := w) Try.underlying116 h4 .i64 0 (by omega) (by rw [b4]; omega) #[]
  simp [execOp, Act.eval, h]
 intro O1 PT
 try walk_nrm
 have hne : cf ≠ O1.heap.size := Nat.ne_of_lt (Ss.kept (Kept.rely PT)).lt
 have sj := (Kept.rely PT).trans (Kept.alloc _ O1 O1.heap.size (.chan 0 #[] false 0 0 false))
 have tU : Ch (So.more γpb O1.heap.size) (O1.alloc (.chan 0 #[] false 0 0 false)) O1.heap.size := ⟨.inr (.inr rfl), heap_alloc_new O1 _⟩
 have abb : w.heap.size ≤ O1.heap.size := Nat.le_trans hk.size PT.1
 replace hk := hk.trans sj
 replace ha := ha.kept sj
 replace hb := hb.kept sj
 replace Ss := Ss.kept sj
 replace X2 := (sj.sees X2)
 generalize O1.alloc (.chan 0 #[] false 0 0 false) = Wqa at *
 generalize O1.heap.size = cl at *
 generalize So.more γpb cl = γqa at *
 clear sj PT
 refine lS C hp (ob := .cells #[.chan none] 116) rfl (by rfl) (fun w => run_eq_of fun K hK => ?r5) (fun w => ?e5) ?h5
 case r5 => go_simp; exact hK
 case e5 => simp [execOp, Instr.alloc, zeroValue, typeInfo, aaV, z139, newVar, newRow]
 intro KW Ux
 try walk_nrm
 have sj := (Kept.rely Ux).trans (Kept.alloc _ KW KW.heap.size (.cells #[.chan none] 116))
 have hz : (KW.alloc (.cells #[.chan none] 116)).frozen? ⟨KW.heap.size, 0, none⟩ = false := World.frozen?_alloc_new _ _ _ _
 have hs : aC _ _ ⟨KW.heap.size, 0, none⟩ (.chan none) := aC.fresh (γ := γqa) (w := KW) (cs := #[.chan none]) (t := 116) rfl rfl
 have hO : (So.more γqa KW.heap.size).2 KW.heap.size := .inr rfl
 have C7 : Wqa.heap.size ≤ KW.heap.size := Ux.1
 generalize KW.alloc (.cells #[.chan none] 116) = Wqb at *
 generalize KW.heap.size = b6 at *
 generalize So.more γqa b6 = γqb at *
 clear Ux
 refine FX C hp (ad := ⟨b6, 0, none⟩) (v := .chan (some cl)) rfl (by rfl) hO (fun w₁ h₁ => ⟨?_, ?_⟩) ?_
 ·have hc := (hs.rely h₁).2
  have KH : w₁.frozen? ⟨b6, 0, none⟩ = false := (World.frozen?_of_block (h₁.2.1 b6 (.inr hO))).trans hz
  refine (?_ : ∀ K : Result Next → Prop, K (.ok .skip (w₁.setCell ⟨b6, 0, none⟩ (.chan (some cl)))) → K _) (· = _) rfl
  intro K hK
  go_simp
  try (unfold stored; go_simp)
  exact hK
 ·have hc := (hs.rely h₁).2
  have KH : w₁.frozen? ⟨b6, 0, none⟩ = false := (World.frozen?_of_block (h₁.2.1 b6 (.inr hO))).trans hz
  intro e he
  simp [go_sem, hc, KH] at he
  exact he
 intro wqc Uw
 try walk_nrm
 replace sj := (sj.trans (Kept.rely Uw)).put (ad := ⟨b6, 0, none⟩) (v := .chan (some cl)) C7
 have hb6 : aC γqb (wqc.setCell ⟨b6, 0, none⟩ (.chan (some cl))) ⟨b6, 0, none⟩ (.chan (some cl)) := ⟨.inr hO, World.cell?_setCell_same _ _ _ (hs.rely Uw).2⟩
 generalize wqc.setCell ⟨b6, 0, none⟩ (.chan (some cl)) = Wqc at *
 replace hk := hk.trans sj
 replace tU := tU.kept sj
 replace ha := ha.kept sj
 replace hb := hb.kept sj
 replace Ss := Ss.kept sj
 replace X2 := (sj.sees X2)
 clear sj hs hz C7 hO Uw
 refine aF C ?_
 co_then
 refine Zu fun w1 r1 => ?_
 have Ud := Kept.rely r1
 have Lx := Ss.kept Ud
 have Lu := tU.kept Ud
 have qw := hk.trans Ud
 have hS : Db (fun b => γ.all b ∧ b < w.heap.size) w.heap.size w (Xn w1 cf cl) w1 :=
  ⟨fun b h => h.2, fun b h => .inl ⟨Nat.lt_of_lt_of_le h.2 qw.size, by have := h.2; omega, by have := h.2; omega⟩, fun b h => qw.blk b h.1 h.2, qw.size, qw.env⟩
 refine (?_ : ∀ a', (∃ u, a' = Hx b2 b3 b5 b6 u) → KJ _ _ _ ni _ a' _) _ (kW rfl)
 rintro a' ⟨u, rfl⟩
 have hW : ∀ n, 0 < n → xh (fun c => c = cf ∨ c = cl) (entry n (chain cf cl (.bool true) (.bool false) false da.aO.length (wF cf (.agg #[.int .i64 0, .int .i64 0, .int .i64 0]) ((cB da db).map qf)) (da.aO.map fun x => msgs da db x db.aO))) := by
  intro n hn
  have h := EF (tv := .bool true) (z := .agg #[.int .i64 0, .int .i64 0, .int .i64 0]) (z2 := .bool false) (lZ := false) hne (da.aO.map fun x => msgs da db x db.aO) hn
  rwa [List.length_map, RB] at h
 have gM : (chain cf cl (.bool true) (.bool false) false da.aO.length (wF cf (.agg #[.int .i64 0, .int .i64 0, .int .i64 0]) ((cB da db).map qf)) (da.aO.map fun x => msgs da db x db.aO)).live := by
  obtain ⟨x, y, h⟩ := E2 (cf := cf) (cl := cl) (tv := .bool true) (z2 := .bool false) (lZ := false) da.aO.length (wF cf (.agg #[.int .i64 0, .int .i64 0, .int .i64 0]) ((cB da db).map qf)) (da.aO.map fun x => msgs da db x db.aO)
  rw [h]
  exact ⟨by simp, by simp, by simp⟩
 refine Ox hP (Cs := fun c => c = cf ∨ c = cl) (S := (Xn w1 cf cl).1) (O := (Xn w1 cf cl).2) gM (fun b h => h.elim) (fun b h => h.elim (·.1) (·.elim)) (fun c hc => ?_) hW
  (Q7 hP qg uY hS ⟨(ha.kept Ud).shr Lx Lu, (hb.kept Ud).shr Lx Lu, (Ud.sees X2).shr Lx Lu, (Ud.sees hb6).shr Lx Lu⟩ u (fun γ' a' w' hE => sY (hT _ _ _ γ' a' w' hE) ?_))
 ·rcases hc with rfl | rfl
  ·exact ⟨⟨0, false, Lx.2⟩, fun h => h.2.1 rfl, fun h => h⟩
  ·exact ⟨⟨0, false, Lu.2⟩, fun h => h.2.2 rfl, fun h => h⟩
 ·rintro _ e a3 w3 ⟨rfl, hd, hold, dm⟩
  exact ⟨(γ.1, fun b => γ.2 b ∨ (w.heap.size ≤ b ∧ b < w3.heap.size)), hd, a3.tmps.getD 4 undef, resultsC_tmp Try.results33 _, rfl,
   ⟨rfl, fun _ h => .inl h, fun b hb hlt => hold.1 b ⟨hb, hlt⟩, hold.2.1, hold.2.2⟩, ⟨dm, fun b hb => .inr (dm.lt b hb)⟩⟩
end Go.Co
end
