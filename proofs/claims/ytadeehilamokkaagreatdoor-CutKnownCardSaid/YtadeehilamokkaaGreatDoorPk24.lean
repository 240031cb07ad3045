/- The law CutKnown: part 24: Co6i Co6j Co6k. By an AI agent. -/
import Derived.Test.YtadeehilamokkaaGreatDoorPk23
section
namespace Go.Co
open Go Go.Conc Go.Proofs
open Classical
variable {P : Program} {Final : Machine → Trace → Prop} {γ : So} {w : World}
theorem all_give {b : Nat} : γ.give.all b ↔ γ.all b := ⟨fun h => h.elim id fun h => h.elim, .inl⟩
theorem Sees.give {ad : Addr} {v : Value} (h : Sees γ w ad v) : Sees γ.give w ad v := ⟨all_give.2 h.1, h.2⟩
theorem Ils.give {v : Value} {l : List Int} (h : Ils γ w v l) : Ils γ.give w v l := by
  obtain ⟨A, cap, rfl, h⟩ := h
  exact ⟨A, cap, rfl, fun i x hx => by obtain ⟨ad, h1, h2⟩ := h i x hx; exact ⟨ad, h1, h2.give⟩⟩
theorem WorkAt.give {b : Nat} {d : Wk} (h : WorkAt γ w b d) : WorkAt γ.give w b d :=
  ⟨h.wear.give, h.lies.imp fun _ ⟨h1, h2⟩ => ⟨h1.give, h2.give⟩, fun i hi => (h.up i hi).imp fun _ ⟨h1, h2⟩ => ⟨h1.give, h2.give⟩, fun i hi => (h.lo i hi).imp fun _ ⟨h1, h2⟩ => ⟨h1.give, h2.give⟩⟩
theorem Kept.put {γ0 : So} {w0 : World} {ad : Addr} {v : Value} (k : Kept γ0 w0 γ w) (h : w0.heap.size ≤ ad.block) : Kept γ0 w0 γ (w.setCell ad v) :=
  ⟨k.shr, k.own, fun b hb hlt => (heap_setCell_other _ _ _ _ (by omega)).trans (k.blk b hb hlt), by rw [World.size_setCell]; exact k.size, k.env⟩
structure Sin (A : Nat → Prop) (B0 : Nat) (w0 : World) (γ : So) (w : World) : Prop where
  lt : ∀ b, A b → b < B0
  all : ∀ b, A b → γ.all b
  blk : ∀ b, A b → w.heap[b]? = w0.heap[b]?
  size : B0 ≤ w.heap.size
  env : w.os = w0.os ∧ w.output = w0.output
theorem Sin.kept {A : Nat → Prop} {B0 : Nat} {w0 w' : World} {γ' : So} (h : Sin A B0 w0 γ w) (k : Kept γ w γ' w') : Sin A B0 w0 γ' w' :=
  ⟨h.lt, fun b hb => k.all (h.all b hb), fun b hb => (k.blk b (h.all b hb) (Nat.lt_of_lt_of_le (h.lt b hb) h.size)).trans (h.blk b hb), Nat.le_trans h.size k.size, k.env.1.trans h.env.1, k.env.2.trans h.env.2⟩
theorem Sin.give {A : Nat → Prop} {B0 : Nat} {w0 : World} (h : Sin A B0 w0 γ w) : Sin A B0 w0 γ.give w := ⟨h.lt, fun b hb => all_give.2 (h.all b hb), h.blk, h.size, h.env⟩
structure Fx (da db : Wk) (b2 b3 b5 b6 cf cl : Nat) (γ : So) (w : World) : Prop where
  wa : WorkAt γ w b2 da
  wb : WorkAt γ w b3 db
  f : Sees γ w ⟨b5, 0, none⟩ (.chan (some cf))
  l : Sees γ w ⟨b6, 0, none⟩ (.chan (some cl))
theorem Fx.kept {da db : Wk} {b2 b3 b5 b6 cf cl : Nat} {γ' : So} {w' : World} (h : Fx da db b2 b3 b5 b6 cf cl γ w) (k : Kept γ w γ' w') : Fx da db b2 b3 b5 b6 cf cl γ' w' := ⟨h.wa.kept k, h.wb.kept k, k.sees h.f, k.sees h.l⟩
theorem Fx.give {da db : Wk} {b2 b3 b5 b6 cf cl : Nat} (h : Fx da db b2 b3 b5 b6 cf cl γ w) : Fx da db b2 b3 b5 b6 cf cl γ.give w := ⟨h.wa.give, h.wb.give, h.f.give, h.l.give⟩
def fr51s (b2 b3 b5 b6 : Nat) (u : Nat → Value) : Act :=
  ⟨#[u 0, u 1, .pointer (some ⟨b2, 0, none⟩), .pointer (some ⟨b3, 0, none⟩), u 4, .pointer (some ⟨b5, 0, none⟩), .pointer (some ⟨b6, 0, none⟩), u 7, u 8, u 9, u 10, u 11, u 12, u 13, u 14, u 15, u 16, u 17, u 18, u 19, u 20, u 21, u 22, u 23, u 24, u 25, u 26, u 27, u 28, u 29, u 30, u 31, u 32, u 33, u 34], []⟩
def fr51a (b2 b3 b5 b6 : Nat) (vl : Value) (nl k : Nat) (u : Nat → Value) : Act :=
  ⟨#[u 0, u 1, .pointer (some ⟨b2, 0, none⟩), .pointer (some ⟨b3, 0, none⟩), u 4, .pointer (some ⟨b5, 0, none⟩), .pointer (some ⟨b6, 0, none⟩), u 7, u 8, u 9, u 10, u 11, u 12, u 13, u 14, vl, .int .i64 nl, .int .i64 k, u 18, u 19, u 20, u 21, u 22, u 23, u 24, u 25, u 26, u 27, u 28, u 29, u 30, u 31, u 32, u 33, u 34], []⟩
def fr51b (b2 b3 b5 b6 cf : Nat) (out : Value) (u : Nat → Value) : Act :=
  ⟨#[u 0, u 1, .pointer (some ⟨b2, 0, none⟩), .pointer (some ⟨b3, 0, none⟩), u 4, .pointer (some ⟨b5, 0, none⟩), .pointer (some ⟨b6, 0, none⟩), u 7, u 8, out, u 10, u 11, u 12, u 13, u 14, u 15, u 16, u 17, u 18, u 19, u 20, u 21, u 22, u 23, .chan (some cf), u 25, u 26, u 27, u 28, u 29, u 30, u 31, u 32, u 33, u 34], []⟩
noncomputable def body51 : Code := Tryz.f64.body.getD .skip
noncomputable def Rest51 : Code := match body51 with | .seq _ (.seq _ (.seq _ x)) => x | _ => .skip
noncomputable def St51 : Code := match Rest51 with | .seq x _ => x | _ => .skip
theorem chain_ne {cf cl : Nat} {tv z2 : Value} {ok2 : Bool} {K : Nat} {p : Pc} (todo : List (List Value)) : chain cf cl tv z2 ok2 K p todo ≠ .ret ∧ chain cf cl tv z2 ok2 K p todo ≠ .stop := by cases todo <;> simp [chain]
def EndS (da db : Wk) (b2 b3 b5 b6 cf cl : Nat) (K : Nat) (p : Pc) (A : Nat → Prop) (B0 : Nat) (w0 : World) (γ' : Gm) (e : Exit) (a' : Act) (w' : World) : Prop :=
  e = .normal ∧ γ'.1 = chain cf cl (.bool true) (.bool false) false K p [] ∧ Sin A B0 w0 γ'.2 w' ∧ Fx da db b2 b3 b5 b6 cf cl γ'.2 w' ∧ (∀ b, A b → γ'.2.1 b ∨ γ'.2.2 b) ∧ ∃ vl nl k u, a' = fr51a b2 b3 b5 b6 vl nl k u
set_option maxRecDepth 100000 in
set_option maxHeartbeats 2000000 in
theorem starts (hP : Plain Tryz.prog) {b2 b3 b5 b6 cf cl : Nat} {da db : Wk} (hda : da.ok) (hdb : db.ok) {K : Nat} {p : Pc} {A : Nat → Prop} {B0 : Nat} {w0 : World} (hS : Sin A B0 w0 γ w) (hF : Fx da db b2 b3 b5 b6 cf cl γ w) (u : Nat → Value) :
    KJ (KG Tryz.prog Final true) 64 (chain cf cl (.bool true) (.bool false) false K p (da.lies.map fun x => msgs da db x db.lies), γ) St51 (EndS da db b2 b3 b5 b6 cf cl K p A B0 w0) (fr51s b2 b3 b5 b6 u) w := by
  have C := kc_pr (Final := Final) (main := true) hP
  have hp : ∀ todo, chain cf cl (.bool true) (.bool false) false K p todo ≠ .ret := fun todo => (chain_ne todo).1
  obtain ⟨v0, hv0, AA, cap, rfl, hA⟩ := hF.wa.lies
  have hI : Ils γ w (.slice AA da.lies.length cap) da.lies := ⟨AA, cap, rfl, hA⟩
  have hfew := hda.few
  unfold fr51s
  refine kj_seq C (kj_ra C ?_)
  refine ko_pa C ?_
  try walk_nrm
  refine ko_pa C ?_
  try walk_nrm
  refine ko_sa C (hp _) hv0 ?_
  try walk_nrm
  refine ko_pa C ?_
  try walk_nrm
  refine ko_pa C ?_
  try walk_nrm
  refine ko_nil C ?_
  co_then
  refine kj_block C ?_
  clear hv0 hA
  refine kj_loopN C (fun n γ' a w' => ∃ γ3 k, γ' = (chain cf cl (.bool true) (.bool false) false K p ((da.lies.drop k).map fun x => msgs da db x db.lies), γ3) ∧ Sin A B0 w0 γ3 w' ∧ Fx da db b2 b3 b5 b6 cf cl γ3 w' ∧ Ils γ3 w' (.slice AA da.lies.length cap) da.lies ∧ k ≤ da.lies.length ∧ n = da.lies.length - k ∧ ∃ u, a = fr51a b2 b3 b5 b6 (.slice AA da.lies.length cap) da.lies.length k u) (n := da.lies.length) ⟨γ, 0, rfl, hS, hF, hI, by omega, by omega, ex_u rfl⟩ ?_
  clear hS hF hI
  rintro n γ' a w' ⟨γ3, k, hγ, hS, hF, hI, hk, hn, u, ha0⟩
  subst hγ
  unfold fr51a at ha0
  subst ha0
  refine kj_seq C (kj_ra C ?_)
  by_cases hlt : k < da.lies.length
  · have hd1 : decide ((k : Int) < (da.lies.length : Int)) = true := by simpa using hlt
    obtain ⟨x, hx⟩ : ∃ x, da.lies[k]? = some x := ⟨_, List.getElem?_eq_getElem hlt⟩
    have hxb := hda.lies k x hx
    obtain ⟨ad, rfl, hsA⟩ : ∃ ad, AA = some ad ∧ Sees γ3 w' (ad.add k) (.int .i64 x) := by
      obtain ⟨A2, cap2, he, h2⟩ := hI
      cases he
      exact h2 k x hx
    have hdrop : da.lies.drop k = x :: da.lies.drop (k + 1) := by
      rw [List.drop_eq_getElem_cons hlt]
      congr 1
      exact Option.some.inj ((List.getElem?_eq_getElem hlt).symm.trans hx)
    have hw5 : IntKind.i64.wrap ((k : Int) + 1) = (k : Int) + 1 := by rw [wr64] <;> omega
    refine ko_pa C ?_
    try walk_nrm
    refine ko_nil C ?_
    co_then
    refine kj_seq C (kj_cond C (t := true) rfl ?_)
    simp only [if_true]
    refine kj_skip C ?_
    co_then
    refine kj_seq C (kj_block C (kj_seq C (kj_ra C ?_)))
    refine ko_pa C ?_
    try walk_nrm
    refine ko_sa C (hp _) hsA ?_
    try walk_nrm
    refine ko_box C (hp _) (ob := ?ob9) rfl (by rfl) (fun w => run_eq_of fun K hK => ?r9) (fun w => ?e9) ?h9
    case r9 => go_simp; exact hK
    case e9 => simp [go_sem]
    intro w5 rw5
    try walk_nrm
    have hk5 := (Kept.rely rw5).trans (Kept.alloc γ3 w5 w5.heap.size (.cells #[.int .i64 0] 3))
    have hz5 : (w5.alloc (.cells #[.int .i64 0] 3)).frozen? ⟨w5.heap.size, 0, none⟩ = false := World.frozen?_alloc_new _ _ _ _
    have hs5 : Sees _ _ ⟨w5.heap.size, 0, none⟩ (.int .i64 0) := Sees.fresh (γ := γ3) (w := w5) (cs := #[.int .i64 0]) (t := 3) rfl rfl
    have hO5 : (γ3.more w5.heap.size).2 w5.heap.size := .inr rfl
    have hge5 : w'.heap.size ≤ w5.heap.size := rw5.1
    generalize w5.alloc (.cells #[.int .i64 0] 3) = w6 at *
    generalize γ3.more w5.heap.size = γ6 at *
    generalize w5.heap.size = b8 at *
    clear hsA rw5
    refine ko_put C (hp _) (ad := ⟨b8, 0, none⟩) (v := .int .i64 x) rfl (by rfl) hO5 (fun w₁ h₁ => ⟨?_, ?_⟩) ?_
    · have hc := (hs5.rely h₁).2
      have hz : w₁.frozen? ⟨b8, 0, none⟩ = false := (World.frozen?_of_block (h₁.2.1 b8 (.inr hO5))).trans hz5
      refine (?_ : ∀ K : Result Next → Prop, K (.ok .skip (w₁.setCell ⟨b8, 0, none⟩ (.int .i64 x))) → K _) (· = _) rfl
      intro K hK
      go_simp
      try (unfold stored; go_simp)
      exact hK
    · have hc := (hs5.rely h₁).2
      have hz : w₁.frozen? ⟨b8, 0, none⟩ = false := (World.frozen?_of_block (h₁.2.1 b8 (.inr hO5))).trans hz5
      intro e he
      simp [go_sem, hc, hz] at he
      exact he
    intro w7 r7
    try walk_nrm
    have hk7 := (hk5.trans (Kept.rely r7)).put (ad := ⟨b8, 0, none⟩) (v := .int .i64 x) hge5
    have hx7 : Sees γ6 (w7.setCell ⟨b8, 0, none⟩ (.int .i64 x)) ⟨b8, 0, none⟩ (.int .i64 x) := ⟨.inr hO5, World.cell?_setCell_same _ _ _ (hs5.rely r7).2⟩
    generalize w7.setCell ⟨b8, 0, none⟩ (.int .i64 x) = w8 at *
    clear hs5 hz5 r7 hk5 hge5
    have hF8 := hF.kept hk7
    have hS8 := hS.kept hk7
    have hI8 := hk7.ils hI
    clear hF hS hI hk7
    refine ko_nil C ?_
    co_then
    refine kj_ra C ?_
    refine ko_pure C (v := ?v10) rfl (by rfl) (fun w => run_eq_of fun K hK => ?r10) (fun w => ?e10) ?h10
    case r10 => go_simp; exact hK
    case e10 => simp [go_sem, Instr.makeFunc]
    try walk_nrm
    rw [hdrop, List.map_cons]
    show KO _ _ (Pc.go (wk cf cl (.bool true) (msgs da db x db.lies)) (chain cf cl (.bool true) (.bool false) false K p ((da.lies.drop (k + 1)).map fun x => msgs da db x db.lies)), γ6) _ _ _ _ _
    refine ko_go (d := call84 b3 b2 b8 b5 b6) (f := .func 100) (cap := #[.pointer (some ⟨b3, 0, none⟩), .pointer (some ⟨b2, 0, none⟩), .pointer (some ⟨b8, 0, none⟩), .pointer (some ⟨b5, 0, none⟩), .pointer (some ⟨b6, 0, none⟩)]) rfl (by rfl) (fun w => ?_) (fun w => ?_) rfl (chain_ne _).2 (fun _ => hp _) (fun w9 r9 w10 r10 => ?_) (fun w9 r9 w10 r10 => ?_)
    · simp [execOp, resolve, Act.eval, call84, Deferred.ofValue]
    · simp [execOp, resolve, Act.eval, Deferred.ofValue]
    · have hk := (Kept.rely r9)
      have hk' := (Kept.rely r10)
      have hF9 := ((hF8.kept hk).give).kept hk'
      exact worker_pr hP hda hdb hxb.1 (by omega) hF9.wa hF9.wb (hk'.sees (hk.sees hx7).give) hF9.f hF9.l
    have hF9 := ((hF8.kept (Kept.rely r9)).give).kept (Kept.rely r10)
    have hS9 := ((hS8.kept (Kept.rely r9)).give).kept (Kept.rely r10)
    have hI9 := (Kept.rely r10).ils ((Kept.rely r9).ils hI8).give
    clear hF8 hS8 hI8 hx7
    try walk_nrm
    refine ko_nil C ?_
    co_then
    refine kj_ra C ?_
    refine ko_pa C ?_
    try walk_nrm
    refine ko_pa C ?_
    try walk_nrm
    refine ko_nil C (then_normal ?_)
    exact ⟨da.lies.length - (k + 1), by omega, _, k + 1, rfl, hS9, hF9, hI9, by omega, rfl, ex_u rfl⟩
  · have hke : k = da.lies.length := by omega
    subst hke
    have hd1 : decide ((da.lies.length : Int) < (da.lies.length : Int)) = false := by simp
    simp only [List.drop_length, List.map_nil]
    refine ko_pa C ?_
    try walk_nrm
    refine ko_nil C ?_
    co_then
    refine kj_seq C (kj_cond C (t := false) rfl ?_)
    simp only [Bool.false_eq_true, if_false]
    refine kj_exit C ?_
    co_then
    exact ⟨rfl, rfl, hS, hF, hS.all, _, _, _, ex_u (F := fun u => fr51a b2 b3 b5 b6 (.slice AA da.lies.length cap) da.lies.length da.lies.length u) rfl⟩
end Go.Co
end
section
namespace Go.Co
open Go Go.Conc Go.Proofs
open Classical
variable {P : Program} {Final : Machine → Trace → Prop} {main : Bool} {K : Gm → Goroutine → World → Prop} {fn : FuncId} {p : Pc} {γ : So} {Q : Gm → Exit → Act → World → Prop} {a : Act} {w : World} {ops : Array Oper} {i : Nat} {rest : List Nat} {o : Oper}
theorem ko_put3 (C : KC P main K RlG StG) (hp : p ≠ .ret) {b : Nat} {x y z : Value} (ho : ops[i]? = some o) (hw : Region.wanted o (yielded ops a.tmps) = true) (hO : γ.2 b)
    (hrun : ∀ w₁, RlS γ w w₁ → (execOp a.eval o).run P w₁ = .ok .skip (((w₁.setCell ⟨b, 0, none⟩ x).setCell ⟨b, 1, none⟩ y).setCell ⟨b, 2, none⟩ z) ∧ ∀ e ∈ (execOp a.eval o).events P w₁ #[], ∃ j, e = ⟨.cell ⟨b, j, none⟩, true, false⟩)
    (h : ∀ w₁, RlS γ w w₁ → KO K fn (p, γ) ops rest Q (a.put o.dst undef) (((w₁.setCell ⟨b, 0, none⟩ x).setCell ⟨b, 1, none⟩ y).setCell ⟨b, 2, none⟩ z)) : KO K fn (p, γ) ops (i :: rest) Q a w :=
  ko_cons C ho hw fun w₁ r => by
    obtain ⟨h1, h2⟩ := hrun w₁ (rlg hp r)
    rw [h1]
    have hsz : (((w₁.setCell ⟨b, 0, none⟩ x).setCell ⟨b, 1, none⟩ y).setCell ⟨b, 2, none⟩ z).heap.size = w₁.heap.size := by rw [World.size_setCell, World.size_setCell, World.size_setCell]
    refine ⟨(p, γ), stg hp ⟨rfl, fun c => ⟨.inl, fun h => h.elim id fun h => absurd h.2 (by omega)⟩, by omega, fun c _ hn => ?_, rfl, rfl, rfl, fun e he => ?_⟩, h w₁ (rlg hp r)⟩
    · have hne : c ≠ b := fun e => hn (e ▸ hO)
      rw [heap_setCell_other _ _ _ _ hne, heap_setCell_other _ _ _ _ hne, heap_setCell_other _ _ _ _ hne]
    · obtain ⟨j, rfl⟩ := h2 e (mem_listed he)
      exact .inl ⟨_, true, false, rfl, fun _ => hO, .inr hO⟩
theorem Sin.append {A : Nat → Prop} {B0 : Nat} {w0 w' : World} {γ' : So} {v : Value} (h : Sin A B0 w0 γ w) (h1 : γ'.1 = γ.1) (h2 : ∀ b, γ.2 b → γ'.2 b) (h3 : w.heap.size ≤ w'.heap.size)
    (h4 : ∀ b, γ.all b → b < w.heap.size → some b ≠ v.ownBlock → w'.heap[b]? = w.heap[b]?) (h5 : w'.os = w.os ∧ w'.output = w.output) (hb : ∀ b, v.ownBlock = some b → B0 ≤ b) : Sin A B0 w0 γ' w' :=
  ⟨h.lt, fun b hlt => (h.all b hlt).imp (by rw [h1]; exact id) (h2 b), fun b hlt => (h4 b (h.all b hlt) (Nat.lt_of_lt_of_le (h.lt b hlt) h.size) fun e => by have := hb b e.symm; have := h.lt b hlt; omega).trans (h.blk b hlt), Nat.le_trans h.size h3, h5.1.trans h.env.1, h5.2.trans h.env.2⟩
abbrev Sm := Int × Int × Int
def smV (m : Sm) : Value := seamV m.1 m.2.1 m.2.2
def smC (m : Sm) : List Value := [.int .i64 m.1, .int .i64 m.2.1, .int .i64 m.2.2]
theorem block_normal {id : Nat} {R : Exit → Act → World → Prop} (h : R .normal a w) : Exit.inBlock id R .normal a w := h
theorem smC_len (l : List Sm) : (l.flatMap smC).length = l.length * 3 := by
  induction l with
  | nil => rfl
  | cons m l ih => simp only [List.flatMap_cons, List.length_append, ih, smC, List.length_cons, List.length_nil]; omega
theorem smV_inj {m m' : Sm} (h : smV m = smV m') : m = m' := by
  obtain ⟨a, b, c⟩ := m
  obtain ⟨a', b', c'⟩ := m'
  simp [smV, seamV] at h
  obtain ⟨rfl, rfl, rfl⟩ := h
  rfl
theorem erase_smV (m : Sm) : ∀ l : List Sm, (l.map smV).erase (smV m) = (l.erase m).map smV
  | [] => rfl
  | a :: l => by
    rw [List.map_cons, List.erase_cons, List.erase_cons]
    by_cases h : a = m
    · grind
    · have h2 : ¬ smV a = smV m := fun e => h (smV_inj e)
      simp [h, h2, erase_smV m l]
theorem col_nil (cf : Nat) (z : Value) : col cf z [] = .recv cf true z fun x => match x with | some _ => .bad | none => .ret := rfl
theorem col_cons (cf : Nat) (z v0 : Value) (vs : List Value) : col cf z (v0 :: vs) = .recv cf true z fun x => match x with | some v => if v ∈ v0 :: vs then col cf z ((v0 :: vs).erase v) else .bad | none => .bad := by
  unfold col
  show Pc.recv cf true z (fun x => match x with | some v => if v ∈ v0 :: vs then colN cf z vs.length ((v0 :: vs).erase v) else .bad | none => .bad) = _
  congr 1
  funext x
  cases x with
  | none => rfl
  | some v => grind
def fr51c (out : Value) (u : Nat → Value) : Act :=
  ⟨#[u 0, u 1, u 2, u 3, u 4, u 5, u 6, u 7, u 8, out, u 10, u 11, u 12, u 13, u 14, u 15, u 16, u 17, u 18, u 19, u 20, u 21, u 22, u 23, u 24, u 25, u 26, u 27, u 28, u 29, u 30, u 31, u 32, u 33, u 34], []⟩
def fr51d (cf : Nat) (out : Value) (u : Nat → Value) : Act :=
  ⟨#[u 0, u 1, u 2, u 3, u 4, u 5, u 6, u 7, u 8, out, u 10, u 11, u 12, u 13, u 14, u 15, u 16, u 17, u 18, u 19, u 20, u 21, u 22, u 23, .chan (some cf), u 25, u 26, u 27, u 28, u 29, u 30, u 31, u 32, u 33, u 34], []⟩
def EndR (A : Nat → Prop) (B0 : Nat) (w0 : World) (R : List Sm) (γ' : Gm) (e : Exit) (a' : Act) (w' : World) : Prop :=
  e = .normal ∧ γ'.1 = .ret ∧ Sin A B0 w0 γ'.2 w' ∧ ∃ (got : List Sm) (out : Value), got.Perm R ∧ w'.ownsRow B0 79 3 out got.length (got.flatMap smC) ∧ ∃ u, a' = fr51c out u
noncomputable def Col51 : Code := match Rest51 with | .seq _ (.seq _ (.seq _ (.seq (.seq _ x) _))) => x | _ => .skip
set_option maxRecDepth 100000 in
set_option maxHeartbeats 2000000 in
theorem collects (hP : Plain Tryz.prog) {cf : Nat} {A : Nat → Prop} {B0 : Nat} {w0 : World} {R : List Sm} (hR : R.length ≤ 4294967296) (hS : Sin A B0 w0 γ w) (u : Nat → Value) :
    KJ (KG Tryz.prog Final true) 64 (col cf (.agg #[.int .i64 0, .int .i64 0, .int .i64 0]) (R.map smV), γ) Col51 (EndR A B0 w0 R) (fr51d cf (.slice none 0 0) u) w := by
  have C := kc_pr (Final := Final) (main := true) hP
  obtain ⟨i0, hi0, hz0, hz1, hz2⟩ := info_parts info71
  have hzv : ∀ w, (zeroValue 79).run Tryz.prog w = .ok (.agg #[.int .i64 0, .int .i64 0, .int .i64 0]) w := fun w => by simp [zeroValue, typeInfo, hi0, hz0]
  have hze : ∀ w es, (zeroValue 79).events Tryz.prog w es = es := fun w es => by simp [zeroValue, typeInfo, hi0, hz0]
  have hrun : ∀ (T : Act) (o : Oper) (w : World), o.op = .recv 170 (.tmp 24) true → T.eval (.tmp 24) = .chan (some cf) → (execOp T.eval o).run Tryz.prog w = .ok (.comm #[rcase cf (.agg #[.int .i64 0, .int .i64 0, .int .i64 0])] true (.recv true)) w := by
    intro T o w ho hT
    simp [execOp, ho, run_underlying Tryz.underlying170, hzv, rcase, hT]
  have hev : ∀ (T : Act) (o : Oper) (w : World), o.op = .recv 170 (.tmp 24) true → (execOp T.eval o).events Tryz.prog w #[] = #[] := by
    intro T o w ho
    simp [execOp, ho, run_underlying Tryz.underlying170, hze]
  refine kj_block C ?_
  refine kj_loopN C (fun n γ' a w' => ∃ (γ3 : So) (rem got : List Sm) (out : Value), γ' = (col cf (.agg #[.int .i64 0, .int .i64 0, .int .i64 0]) (rem.map smV), γ3) ∧ Sin A B0 w0 γ3 w' ∧ OwnV γ3 w' B0 79 3 out got.length (got.flatMap smC) ∧ (got ++ rem).Perm R ∧ n = rem.length ∧ ∃ u, a = fr51d cf out u) (n := R.length) ⟨γ, R, [], .slice none 0 0, rfl, hS, OwnV.nil _ _ _, by simp, rfl, u, rfl⟩ ?_
  clear hS
  rintro n γ' a w' ⟨γ3, rem, got, out, hγ, hS, hown, hperm, hn, u, ha0⟩
  subst hγ
  unfold fr51d at ha0
  subst ha0
  have hlen : got.length + rem.length ≤ 4294967296 := by
    have h1 := hperm.length_eq
    rw [List.length_append] at h1
    omega
  refine kj_seq C (kj_ra C ?_)
  cases rem with
  | nil =>
    simp only [List.map_nil]
    rw [col_nil]
    refine ko_recv rfl (by rfl) (fun w => hrun _ _ w rfl rfl) (fun w => hev _ _ w rfl) (fun x => by cases x <;> simp) (fun h => by cases h) (fun x w7 r7 => ?_)
    cases x with
    | some v => exact ko_bad
    | none =>
      have hS7 := hS.kept (Kept.rely r7)
      have hown7 := hown.rely r7
      simp only [Option.getD_none, Option.isSome_none, recvd]
      try walk_nrm
      refine ko_pa C ?_
      try walk_nrm
      refine ko_nil C ?_
      co_then
      refine kj_seq C (kj_cond C (t := false) rfl ?_)
      simp only [Bool.false_eq_true, if_false]
      refine kj_exit C ?_
      co_then
      exact ⟨rfl, rfl, hS7, got, out, by simpa using hperm, hown7.1, ex_u (F := fun u => fr51c out u) rfl⟩
  | cons m0 ms =>
    simp only [List.map_cons]
    rw [col_cons]
    refine ko_recv rfl (by rfl) (fun w => hrun _ _ w rfl rfl) (fun w => hev _ _ w rfl) (fun x => ?_) (fun h => by cases h) (fun x w7 r7 => ?_)
    · cases x with
      | none => simp
      | some v =>
        simp only
        split
        · obtain ⟨q, hq⟩ := col_shape (cf := cf) (z := .agg #[.int .i64 0, .int .i64 0, .int .i64 0]) ((smV m0 :: ms.map smV).erase v)
          rw [hq]; simp
        · simp
    cases x with
    | none => exact ko_bad
    | some v =>
      simp only
      by_cases hv : v ∈ smV m0 :: ms.map smV
      · rw [if_pos hv]
        obtain ⟨m, hm, rfl⟩ : ∃ m, m ∈ m0 :: ms ∧ smV m = v := by
          have : v ∈ (m0 :: ms).map smV := hv
          exact List.mem_map.1 this
        have hper : (smV m0 :: ms.map smV).erase (smV m) = ((m0 :: ms).erase m).map smV := erase_smV m (m0 :: ms)
        rw [hper]
        have hp2 := List.perm_cons_erase hm
        have hlen2 := List.length_erase_of_mem hm
        generalize (m0 :: ms).erase m = rem2 at *
        obtain ⟨x, y, s⟩ := m
        have hp : col cf (.agg #[.int .i64 0, .int .i64 0, .int .i64 0]) (rem2.map smV) ≠ .ret := by
          obtain ⟨q, hq⟩ := col_shape (cf := cf) (z := .agg #[.int .i64 0, .int .i64 0, .int .i64 0]) (rem2.map smV)
          rw [hq]; simp
        have hS7 := hS.kept (Kept.rely r7)
        have hown7 := hown.rely r7
        clear hS hown
        simp only [Option.getD_some, Option.isSome_some, recvd, smV, seamV]
        try walk_nrm
        refine ko_pa C ?_
        try walk_nrm
        refine ko_nil C ?_
        co_then
        refine kj_seq C (kj_cond C (t := true) rfl ?_)
        simp only [if_true]
        refine kj_skip C ?_
        co_then
        refine kj_block C (kj_seq C (kj_ra C ?_))
        refine ko_pa C ?_
        try walk_nrm
        refine ko_box C hp (ob := ?ob4) rfl (by rfl) (fun w => run_eq_of fun K hK => ?r4) (fun w => ?e4) ?h4
        case r4 => go_simp; exact hK
        case e4 => simp [go_sem]
        intro w5 rw5
        try walk_nrm
        have hk5 := (Kept.rely rw5).trans (Kept.alloc γ3 w5 w5.heap.size (.cells #[.int .i64 0, .int .i64 0, .int .i64 0] 79))
        have hz5 : ∀ j, (w5.alloc (.cells #[.int .i64 0, .int .i64 0, .int .i64 0] 79)).frozen? ⟨w5.heap.size, j, none⟩ = false := fun j => World.frozen?_alloc_new _ _ _ _
        have h50 : Sees _ _ ⟨w5.heap.size, 0, none⟩ (.int .i64 0) := Sees.fresh (γ := γ3) (w := w5) (cs := #[.int .i64 0, .int .i64 0, .int .i64 0]) (t := 79) rfl rfl
        have h51 : Sees _ _ ⟨w5.heap.size, 1, none⟩ (.int .i64 0) := Sees.fresh (γ := γ3) (w := w5) (cs := #[.int .i64 0, .int .i64 0, .int .i64 0]) (t := 79) rfl rfl
        have h52 : Sees _ _ ⟨w5.heap.size, 2, none⟩ (.int .i64 0) := Sees.fresh (γ := γ3) (w := w5) (cs := #[.int .i64 0, .int .i64 0, .int .i64 0]) (t := 79) rfl rfl
        have hO5 : (γ3.more w5.heap.size).2 w5.heap.size := .inr rfl
        have hge5 : w7.heap.size ≤ w5.heap.size := rw5.1
        generalize w5.alloc (.cells #[.int .i64 0, .int .i64 0, .int .i64 0] 79) = w6 at *
        generalize γ3.more w5.heap.size = γ6 at *
        generalize w5.heap.size = b8 at *
        clear rw5
        refine ko_put3 C hp (b := b8) (x := .int .i64 x) (y := .int .i64 y) (z := .int .i64 s) rfl (by rfl) hO5 (fun w₁ h₁ => ⟨?_, ?_⟩) ?_
        · have hc0 := (h50.rely h₁).2
          have hc1 := (h51.rely h₁).2
          have hc2 := (h52.rely h₁).2
          have hz : ∀ j, w₁.frozen? ⟨b8, j, none⟩ = false := fun j => (World.frozen?_of_block (h₁.2.1 b8 (.inr hO5))).trans (hz5 j)
          refine (?_ : ∀ K : Result Next → Prop, K (.ok .skip (((w₁.setCell ⟨b8, 0, none⟩ (.int .i64 x)).setCell ⟨b8, 1, none⟩ (.int .i64 y)).setCell ⟨b8, 2, none⟩ (.int .i64 s))) → K _) (· = _) rfl
          intro K hK
          go_simp
          try (unfold stored; go_simp)
          exact hK
        · have hc0 := (h50.rely h₁).2
          have hc1 := (h51.rely h₁).2
          have hc2 := (h52.rely h₁).2
          have hz : ∀ j, w₁.frozen? ⟨b8, j, none⟩ = false := fun j => (World.frozen?_of_block (h₁.2.1 b8 (.inr hO5))).trans (hz5 j)
          intro e he
          simp [go_sem, hc0, hc1, hc2, hz] at he
          rcases he with rfl | rfl | rfl
          · grind
          · grind
          · grind
        intro w9 r9
        try walk_nrm
        have hk9 := (((hk5.trans (Kept.rely r9)).put (ad := ⟨b8, 0, none⟩) (v := .int .i64 x) hge5).put (ad := ⟨b8, 1, none⟩) (v := .int .i64 y) hge5).put (ad := ⟨b8, 2, none⟩) (v := .int .i64 s) hge5
        have s0 : Sees γ6 (((w9.setCell ⟨b8, 0, none⟩ (.int .i64 x)).setCell ⟨b8, 1, none⟩ (.int .i64 y)).setCell ⟨b8, 2, none⟩ (.int .i64 s)) ⟨b8, 0, none⟩ (.int .i64 x) :=
          Sees.put (Sees.put ⟨.inr hO5, World.cell?_setCell_same _ _ _ (h50.rely r9).2⟩ (by simp)) (by simp)
        have s1 : Sees γ6 (((w9.setCell ⟨b8, 0, none⟩ (.int .i64 x)).setCell ⟨b8, 1, none⟩ (.int .i64 y)).setCell ⟨b8, 2, none⟩ (.int .i64 s)) ⟨b8, 1, none⟩ (.int .i64 y) :=
          Sees.put ⟨.inr hO5, World.cell?_setCell_same _ _ _ ((h51.rely r9).put (by simp)).2⟩ (by simp)
        have s2 : Sees γ6 (((w9.setCell ⟨b8, 0, none⟩ (.int .i64 x)).setCell ⟨b8, 1, none⟩ (.int .i64 y)).setCell ⟨b8, 2, none⟩ (.int .i64 s)) ⟨b8, 2, none⟩ (.int .i64 s) :=
          ⟨.inr hO5, World.cell?_setCell_same _ _ _ (((h52.rely r9).put (by simp)).put (by simp)).2⟩
        generalize ((w9.setCell ⟨b8, 0, none⟩ (.int .i64 x)).setCell ⟨b8, 1, none⟩ (.int .i64 y)).setCell ⟨b8, 2, none⟩ (.int .i64 s) = w10 at *
        have hS10 := hS7.kept hk9
        have hown10 := hown7.kept hk9
        clear hk9 hk5 h50 h51 h52 hz5 r9 hge5 hS7 hown7 hO5
        refine ko_nil C ?_
        co_then
        refine kj_ra C ?_
        refine ko_pa C ?_
        try walk_nrm
        refine ko_see C hp (v := ?v6) rfl (by rfl) (fun w₁ h₁ => ⟨run_eq_of fun K hK => ?r6, ?e6⟩) ?h6
        case r6 => have hc0 := (Sees.rely s0 h₁).2; have hc1 := (Sees.rely s1 h₁).2; have hc2 := (Sees.rely s2 h₁).2; go_simp; exact hK
        case e6 =>
          have hc0 := (Sees.rely s0 h₁).2
          have hc1 := (Sees.rely s1 h₁).2
          have hc2 := (Sees.rely s2 h₁).2
          intro e he
          simp [go_sem, hc0, hc1, hc2] at he
          rcases he with rfl | rfl | rfl
          · exact (Sees.rely s0 h₁).evo
          · exact (Sees.rely s1 h₁).evo
          · exact (Sees.rely s2 h₁).evo
        try walk_nrm
        refine ko_lit C hp (ob := ?ob7) (n := 1) rfl (by rfl) (fun w => run_eq_of fun K hK => ?r7) (fun w => ?e7) ?h7
        case r7 => go_simp; exact hK
        case e7 => simp [go_sem]
        intro w11 rw11
        try walk_nrm
        have hk12 := (Kept.rely rw11).trans (Kept.alloc γ6 w11 w11.heap.size (.cells #[.int .i64 x, .int .i64 y, .int .i64 s] 79))
        have hn12 : ∀ (j : Nat) (u : Value), (smC (x, y, s))[j]? = some u → Sees (γ6.more w11.heap.size) (w11.alloc (.cells #[.int .i64 x, .int .i64 y, .int .i64 s] 79)) ((⟨w11.heap.size, 0, none⟩ : Addr).add j) u := by
          intro j u hu
          rw [Addr.add_lit]
          simp only [Nat.zero_add]
          refine Sees.fresh (γ := γ6) (w := w11) rfl ?_
          simpa [smC] using hu
        have hS12 := hS10.kept hk12
        have hown12 := hown10.kept hk12
        have hall12 : (γ6.more w11.heap.size).all w11.heap.size := .inr (.inr rfl)
        generalize w11.alloc (.cells #[.int .i64 x, .int .i64 y, .int .i64 s] 79) = w12 at *
        generalize γ6.more w11.heap.size = γ12 at *
        generalize w11.heap.size = b12 at *
        clear hS10 hown10 s0 s1 s2 hk12
        have hl1 := smC_len got
        refine ko_append C hp (B := B0) (news := smC (x, y, s)) (m := 1) (c := 1) (ad := ⟨b12, 0, none⟩) (n := got.length) (xs := got.flatMap smC) (v := out) rfl (by rfl) rfl Tryz.underlying56 hi0 hz0 hz1 hz2 rfl (by decide) rfl rfl hS12.size hown12 rfl hn12 hall12 (by simp [smC, Value.oneCell']) (by simp only [maxLen]; omega) (by omega) ?_
        intro v13 w13 γ13 hg1 hg2 hg3 hg4 hg5 hown13
        have hS13 := hS12.append hg1 hg2 hg3 hg4 hg5 (v := out) (fun b hb => (hown12.1.lt b hb).1)
        try walk_nrm
        refine ko_pa C ?_
        try walk_nrm
        refine ko_nil C (block_normal (then_normal ?_))
        refine ⟨rem2.length, by simp only [List.length_cons] at hlen2 hn; omega, γ13, rem2, got ++ [(x, y, s)], v13, rfl, hS13, ?_, ?_, rfl, ex_u rfl⟩
        · grind
        · grind
      · rw [if_neg hv]
        exact ko_bad
end Go.Co
end
section
namespace Go.Co
open Go Go.Conc Go.Proofs
open Classical
variable {P : Program} {Final : Machine → Trace → Prop} {γ : So} {w : World}
noncomputable def Tail51 : Code := match Rest51 with | .seq _ (.seq _ (.seq _ (.seq _ x))) => x | _ => .skip
noncomputable def R51_8 : Code := match Rest51 with | .seq _ (.seq x _) => x | _ => .skip
noncomputable def R51_9 : Code := match Rest51 with | .seq _ (.seq _ (.seq x _)) => x | _ => .skip
noncomputable def R51_10 : Code := match Rest51 with | .seq _ (.seq _ (.seq _ (.seq (.seq x _) _))) => x | _ => .skip
def seamsM (da db : Wk) : List Sm := da.lies.flatMap fun x => db.lies.flatMap fun y => (seamsXY da db x y).map fun s => (x, y, s)
theorem msgs_sm (da db : Wk) (x : Int) : ∀ ys : List Int, msgs da db x ys = (ys.flatMap fun y => (seamsXY da db x y).map fun s => (x, y, s)).map smV
  | [] => rfl
  | y :: ys => by
    rw [msgs_cons, msgs_sm da db x ys, List.flatMap_cons, List.map_append, List.map_map]
    rfl
theorem flat_sm (da db : Wk) : (da.lies.map fun x => msgs da db x db.lies).flatten = (seamsM da db).map smV := by
  unfold seamsM
  induction da.lies with
  | nil => rfl
  | cons x l ih => rw [List.map_cons, List.flatten_cons, ih, List.flatMap_cons, List.map_append, msgs_sm]
theorem flatMap_len {α β : Type} (f : α → List β) (c : Nat) : ∀ l : List α, (∀ x ∈ l, (f x).length ≤ c) → (l.flatMap f).length ≤ l.length * c
  | [], _ => by simp
  | a :: l, h => by
    have h1 := h a (by simp)
    have h2 := flatMap_len f c l fun x hx => h x (by simp [hx])
    rw [List.flatMap_cons, List.length_append, List.length_cons, Nat.add_mul]
    omega
theorem seamsM_len {da db : Wk} (hda : da.ok) (hdb : db.ok) : (seamsM da db).length ≤ 4294967296 := by
  have h1 : ∀ x ∈ da.lies, (db.lies.flatMap fun y => (seamsXY da db x y).map fun s => (x, y, s)).length ≤ 1000 * 2001 := by
    intro x _
    refine Nat.le_trans (flatMap_len _ 2001 _ fun y _ => ?_) (Nat.mul_le_mul_right _ hdb.few)
    rw [List.length_map]
    have h2 := (hdb.up y.toNat).1
    have h3 := (hda.lo x.toNat).1
    exact Nat.le_trans (shN_len _ _ _ _) (by omega)
  have h4 := flatMap_len _ _ _ h1
  have h5 := Nat.mul_le_mul_right (1000 * 2001) hda.few
  unfold seamsM
  omega
set_option maxRecDepth 100000 in
set_option maxHeartbeats 1000000 in
theorem phase51 (hP : Plain Tryz.prog) {b2 b3 b5 b6 cf cl : Nat} {da db : Wk} (hda : da.ok) (hdb : db.ok) {A : Nat → Prop} {B0 : Nat} {w0 : World} (hS : Sin A B0 w0 γ w) (hF : Fx da db b2 b3 b5 b6 cf cl γ w) (u : Nat → Value) {Qf : Exit → Act → World → Prop}
    (hT : ∀ γ' a' w', EndR A B0 w0 (seamsM da db) (.ret, γ') .normal a' w' → KJ (KMu Tryz.prog Final) 64 () Tail51 (fun _ => Qf) a' w') :
    KJ (KG Tryz.prog Final true) 64 (chain cf cl (.bool true) (.bool false) false da.lies.length (col cf (.agg #[.int .i64 0, .int .i64 0, .int .i64 0]) ((seamsM da db).map smV)) (da.lies.map fun x => msgs da db x db.lies), γ) Rest51 (fun γ' e a' w' => γ'.1 = .ret ∧ Qf e a' w') (fr51s b2 b3 b5 b6 u) w := by
  have C := kc_pr (Final := Final) (main := true) hP
  have hcol : col cf (.agg #[.int .i64 0, .int .i64 0, .int .i64 0]) ((seamsM da db).map smV) ≠ .ret ∧ col cf (.agg #[.int .i64 0, .int .i64 0, .int .i64 0]) ((seamsM da db).map smV) ≠ .stop := by
    obtain ⟨q, hq⟩ := col_shape (cf := cf) (z := .agg #[.int .i64 0, .int .i64 0, .int .i64 0]) ((seamsM da db).map smV)
    rw [hq]; simp
  generalize hpc : col cf (.agg #[.int .i64 0, .int .i64 0, .int .i64 0]) ((seamsM da db).map smV) = pc at *
  show KJ _ _ _ (.seq St51 (.seq R51_8 (.seq R51_9 (.seq (.seq R51_10 Col51) Tail51)))) _ _ _
  refine kj_seq C (kj_mono (starts hP hda hdb hS hF u) ?_)
  rintro ⟨p', γ'⟩ e a' w' ⟨rfl, hp', hS', hF', -, vl, nl, k, u', rfl⟩
  simp only at hp' hS' hF'
  subst hp'
  unfold fr51a
  refine kj_seq C (kj_ra C ?_)
  refine ko_pure C (v := ?v1) rfl (by rfl) (fun w => run_eq_of fun K hK => ?r1) (fun w => ?e1) ?h1
  case r1 => go_simp; exact hK
  case e1 => simp [go_sem, Instr.makeFunc]
  try walk_nrm
  show KO _ _ (Pc.go (clo cf cl (.bool false) false da.lies.length) pc, γ') _ _ _ _ _
  refine ko_go (d := call85 b2 b6 b5) (f := .func 101) (cap := #[.pointer (some ⟨b2, 0, none⟩), .pointer (some ⟨b6, 0, none⟩), .pointer (some ⟨b5, 0, none⟩)]) rfl (by rfl) (fun w => ?_) (fun w => ?_) rfl hcol.2 (fun _ => hcol.1) (fun w9 r9 w10 r10 => ?_) (fun w9 r9 w10 r10 => ?_)
  · simp [execOp, resolve, Act.eval, call85, Deferred.ofValue]
  · simp [execOp, resolve, Act.eval, Deferred.ofValue]
  · have hF9 := ((hF'.kept (Kept.rely r9)).give).kept (Kept.rely r10)
    exact closer_pr hP hda hF9.wa hF9.f hF9.l
  have hF9 := ((hF'.kept (Kept.rely r9)).give).kept (Kept.rely r10)
  have hS9 := ((hS'.kept (Kept.rely r9)).give).kept (Kept.rely r10)
  have hf9 := hF9.f
  clear hF' hS' hF9
  try walk_nrm
  refine ko_nil C ?_
  co_then
  refine kj_seq C (kj_ra C ?_)
  refine ko_pa C ?_
  try walk_nrm
  refine ko_nil C ?_
  co_then
  refine kj_seq C (kj_seq C (kj_ra C ?_))
  refine ko_see C hcol.1 (v := ?v21) rfl (by rfl) (fun w₁ h₁ => ⟨run_eq_of fun K hK => ?r21, ?e21⟩) ?h21
  case r21 => have hc := (Sees.rely hf9 h₁).2; go_simp; exact hK
  case e21 => have hc := (Sees.rely hf9 h₁).2; intro e he; simp [go_sem, hc] at he; subst he; exact (Sees.rely hf9 h₁).evo
  try walk_nrm
  refine ko_nil C ?_
  co_then
  subst hpc
  refine (?_ : ∀ a', (∃ u, a' = fr51d cf (.slice none 0 0) u) → KJ _ _ _ Col51 _ a' _) _ (ex_u rfl)
  rintro a' ⟨u2, rfl⟩
  refine kj_mono (collects hP (seamsM_len hda hdb) hS9 u2) ?_
  rintro ⟨p3, γ3⟩ e a3 w3 hE
  have he := hE.1
  have hp3 := hE.2.1
  simp only at hp3
  subst he
  subst hp3
  refine (?_ : KJ (KG Tryz.prog Final true) 64 (.ret, γ3) Tail51 (fun γ' e a' w' => γ'.1 = .ret ∧ Qf e a' w') a3 w3)
  exact kj_alone (kj_mono (hT γ3 a3 w3 hE) fun _ e a w q => ⟨rfl, q⟩)
end Go.Co
end
