/- The law CutKnown: part 10: Co2d. By an AI agent. -/
import Derived.Test.YtadeehilamokkaaGreatDoorPk09
section
namespace Go.Co
open Go
def okItem : Item → Prop
  | .call .. => False
  | .extern r _ => r = "runtime.print$piece"
  | _ => True
def okF (fr : Frame) : Prop := ∀ i ∈ fr.todo, okItem i
def BK (fr : Frame) (callers : List Frame) : Prop := match callers.getLast? with | none => fr.kind = .report | some f => f.kind = .report
def Hg (b : Prop) (dy : Option Dying) (fr : Frame) (callers : List Frame) : Prop :=
  okF fr ∧ (∀ f ∈ callers, okF f) ∧ ((b → dy ≠ none) ∧ ∀ d, dy = some d → (d.calling = false ∨ BK fr callers))
def OkS (b : Prop) : GStep → Prop
  | .go g _ es => Bal es ∧ Hg b g.dying g.frame g.callers ∧ (∀ t, g.status ≠ .sleeping t) ∧ g.status ≠ .parked
  | .comm g _ _ _ _ es => Bal es ∧ Hg b g.dying g.frame g.callers ∧ g.status = .running
  | .spawn g _ _ es => Bal es ∧ Hg b g.dying g.frame g.callers
  | .coroswitch g _ _ _ es => Bal es ∧ Hg b g.dying g.frame g.callers
  | .ended .. => True
  | _ => False
theorem okS_after {b : Prop} {es : Array Event} {s : GStep} (he : Bal es) (h : OkS b s) : OkS b (GStep.after es s) := by
  cases s <;> first | exact ⟨bal_append he h.1, h.2⟩ | exact h
theorem okS_go {b : Prop} {dy : Option Dying} {fr : Frame} {callers : List Frame} {st : GoStatus} {off : Option (Array CommCase × CommShape)} {w : World} (h : Hg b dy fr callers) (hs : (∀ t, st ≠ .sleeping t) ∧ st ≠ .parked := by simp) : OkS b (.go ⟨fr, callers, st, dy, off⟩ w) := ⟨bal_nil, h, hs⟩
variable {b : Prop} {dy : Option Dying} {fr fr' : Frame} {callers callers' : List Frame}
theorem hg_fr (h : Hg b dy fr callers) (hk : fr'.kind = fr.kind) (ho : okF fr') : Hg b dy fr' callers := by
  refine ⟨ho, h.2.1, h.2.2.1, fun d hd => (h.2.2.2 d hd).imp id ?_⟩
  unfold BK
  cases callers.getLast? with
  | none => exact fun e => hk.trans e
  | some f => exact id
theorem hg_push (h : Hg b dy fr callers) (ho : okF fr') : Hg b dy fr' (fr :: callers) := by
  refine ⟨ho, fun f hf => ?_, h.2.2.1, fun d hd => (h.2.2.2 d hd).imp id ?_⟩
  · rcases List.mem_cons.1 hf with rfl | hf
    · exact h.1
    · exact h.2.1 f hf
  · unfold BK
    rw [List.getLast?_cons]
    cases callers.getLast? with
    | none => exact id
    | some f => exact id
theorem hg_pop {c : Frame} {rest : List Frame} (h : Hg b dy fr (c :: rest)) (hk : fr'.kind = c.kind) (ho : okF c → okF fr') : Hg b dy fr' rest := by
  refine ⟨ho (h.2.1 c (by simp)), fun f hf => h.2.1 f (by simp [hf]), h.2.2.1, fun d hd => (h.2.2.2 d hd).imp id ?_⟩
  unfold BK
  rw [List.getLast?_cons]
  cases rest.getLast? with
  | none => exact fun e => hk.trans e
  | some f => exact id
theorem okF_todo {fr fr' : Frame} (h : okF fr) (e : ∀ i ∈ fr'.todo, i ∈ fr.todo ∨ okItem i) : okF fr' := fun i hi => (e i hi).elim (h i) id
theorem okF_same {fr fr' : Frame} (h : okF fr) (e : fr'.todo = fr.todo) : okF fr' := fun i hi => h i (e ▸ hi)
theorem okF_finish (h : okF fr) (v : Value) : okF (fr.finish v) := by
  unfold Frame.finish
  split
  · rename_i hk
    intro i hi
    rcases List.mem_cons.1 hi with rfl | hi
    · trivial
    · exact h i (by rw [hk]; simp [hi])
  · rename_i hk
    intro i hi
    rcases List.mem_cons.1 hi with rfl | hi
    · trivial
    · exact h i (by rw [hk]; simp [hi])
  · rename_i hk
    intro i hi
    exact h i (by rw [hk]; simp [hi])
  · rename_i hk
    exact absurd (h _ (by rw [hk]; exact List.mem_cons_self ..)) id
  · rename_i hk
    intro i hi
    exact h i (by rw [hk]; simp [hi])
  · exact h
theorem kind_finish (fr : Frame) (v : Value) : (fr.finish v).kind = fr.kind := by
  unfold Frame.finish
  split <;> rfl
theorem okF_raise (h : okF fr) (l : List PanicEntry) : okF (fr.raise l) := by
  unfold Frame.raise
  split <;> exact h
theorem kind_raise (fr : Frame) (l : List PanicEntry) : (fr.raise l).kind = fr.kind := by
  unfold Frame.raise
  split <;> rfl
theorem okF_enter (P : Program) (f : FuncId) (args : Array Value) (k : CallKind) : okF (Frame.enter P f args k) := by
  intro i hi
  simp only [Frame.enter, List.mem_singleton] at hi
  subst hi; trivial
theorem okF_round (l : Nat) (f : FuncId) (tmps : Array Value) (a c : Code) (k : CallKind) : okF (Frame.round l f tmps a c k) := by
  intro i hi
  simp only [Frame.round, List.mem_cons, List.not_mem_nil, or_false] at hi
  rcases hi with rfl | rfl | rfl <;> trivial
theorem okF_row (P : Program) (args : Array Value) (k : CallKind) : okF (Frame.ofRow P "runtime.print$piece" args k) := by
  intro i hi
  simp only [Frame.ofRow, List.mem_singleton] at hi
  subst hi; exact rfl
theorem hg_finish (h : Hg b dy fr callers) (v : Value) : Hg b dy (fr.finish v) callers := hg_fr h (kind_finish _ _) (okF_finish h.1 v)
theorem hg_raise (h : Hg b dy fr callers) (l : List PanicEntry) : Hg b dy (fr.raise l) callers := hg_fr h (kind_raise _ _) (okF_raise h.1 l)
theorem hg_same (h : Hg b dy fr callers) (hk : fr'.kind = fr.kind) (ht : fr'.todo = fr.todo) : Hg b dy fr' callers := hg_fr h hk (okF_same h.1 ht)
theorem hg_recover : ∀ {fr : Frame} {callers callers' : List Frame} {v : Value}, tryRecover fr callers = some (v, callers') → Hg b dy fr callers → Hg b dy fr callers' := by
  intro fr callers
  induction callers generalizing fr with
  | nil => intro callers' v e; simp [tryRecover] at e
  | cons c rest ih =>
    intro callers' v e h
    unfold tryRecover at e
    split at e
    · rename_i hc
      simp only [List.cons.injEq] at hc
      obtain ⟨rfl, rfl⟩ := hc
      split at e
      · simp only [Option.some.injEq, Prod.mk.injEq] at e
        obtain ⟨-, rfl⟩ := e
        refine ⟨h.1, fun f hf => ?_, h.2.2.1, fun d hd => (h.2.2.2 d hd).imp id ?_⟩
        · rcases List.mem_cons.1 hf with rfl | hf
          · exact okF_same (h.2.1 _ (List.mem_cons_self ..)) rfl
          · exact h.2.1 f (by simp [hf])
        · unfold BK
          rw [List.getLast?_cons, List.getLast?_cons]
          cases rest.getLast? <;> exact id
      · cases e
    · rename_i hc
      simp only [List.cons.injEq] at hc
      obtain ⟨rfl, rfl⟩ := hc
      simp only [Option.map_eq_some_iff, Prod.exists, Prod.mk.injEq] at e
      obtain ⟨a, r, e, rfl, rfl⟩ := e
      exact hg_push (ih e (hg_pop (fr' := c) h rfl id)) h.1
    · cases e
theorem hg_recoverLoop : ∀ {l : Nat} {fr : Frame} {callers callers' : List Frame} {v : Value}, tryRecoverLoop l callers = some (v, callers') → Hg b dy fr callers → Hg b dy fr callers' := by
  intro l fr callers
  induction callers generalizing fr l with
  | nil => intro callers' v e; simp [tryRecoverLoop] at e
  | cons c rest ih =>
    intro callers' v e h
    unfold tryRecoverLoop at e
    simp only [Option.map_eq_some_iff, Prod.exists, Prod.mk.injEq] at e
    obtain ⟨a, r, e, rfl, rfl⟩ := e
    have h' := hg_pop (fr' := c) h rfl id
    have : Hg b dy c r := by
      split at e
      · grind
      · split at e
        · exact hg_recover e h'
        · grind
      · grind
    exact hg_push this h.1
theorem deaf_step (d : Nat) (e : Event) (es : List Event) : deafBehind d ⟨e :: es⟩ = deafBehind (deafBehind d #[e]) ⟨es⟩ := by
  have e1 : (⟨e :: es⟩ : Array Event) = #[e] ++ ⟨es⟩ := by simp
  rw [e1, deafBehind_append]
theorem seen_quietless {P : Program} (hq : ∀ f : FuncId, (P.funcs[f]?).any (·.norace) = false) (fn : FuncId) (es : Array Event) (d : Nat) : deafBehind d (seen P fn es) = deafBehind d es := by
  obtain ⟨l⟩ := es
  have key : ∀ (l : List Event) (kept : Array Event), deafBehind d (l.foldl (fun (x : Bool × Array Event) e =>
      match e.loc with
      | .mark (.extern _) => (false, x.2)
      | _ => (x.1, if x.1 && !e.sync then x.2 else x.2.push e)) (false, kept)).2 = deafBehind (deafBehind d kept) ⟨l⟩ := by
    intro l
    induction l with
    | nil => intro kept; rfl
    | cons e l ih =>
      intro kept
      rw [List.foldl_cons, deaf_step]
      split
      · rename_i f hf
        rw [ih]
        congr 1
        have := deafBehind_push (deafBehind d kept) #[] e
        rw [hf] at this
        exact this.symm
      · simp only [Bool.false_and, Bool.false_eq_true, if_false]
        rw [ih]
        congr 1
        rw [← deafBehind_append]
        rfl
  have := key l #[]
  unfold seen
  simp only [hq]
  rw [← Array.foldl_toList]
  exact this
theorem bal_seen {P : Program} (hP : Plain P) (fn : FuncId) {es : Array Event} (h : Bal es) : Bal (seen P fn es) := by
  unfold Bal
  rw [seen_quietless hP.quiet]
  exact h
theorem okS_ite {b : Prop} {c : Prop} [Decidable c] {x y : GStep} (hx : OkS b x) (hy : OkS b y) : OkS b (if c then x else y) := by split <;> assumption
theorem dieOf_ok {b : Prop} (fr : Frame) (h : okF fr) (a : List ByteArray) (m : String) (x : Bool) (w : World) : OkS b (dieOf fr a m x w) :=
  ⟨bal_nil, ⟨h, fun _ hf => absurd hf (List.not_mem_nil), ⟨fun _ hx => (nomatch hx), fun d hd => .inl (by cases hd; rfl)⟩⟩, by simp⟩
theorem endThrow_ok {b : Prop} (fr : Frame) (h : okF fr) (m : String) (w : World) : OkS b (endThrow fr m w) := dieOf_ok fr h _ _ _ w
theorem endFatal_ok {b : Prop} (P : Program) (fr : Frame) (h : okF fr) (callers : List Frame) (dy : Option Dying) (m : String) (w : World) : OkS b (endFatal P fr callers dy m w) := by
  unfold endFatal
  dsimp only
  split
  · exact dieOf_ok fr h _ _ _ _
  · exact trivial
  · exact trivial
theorem endPrinting_ok {b : Prop} (P : Program) (fr : Frame) (h : okF fr) (v : Value) (w : World) : OkS b (endPrinting P fr v w) := by
  unfold endPrinting
  dsimp only
  split
  · exact endThrow_ok fr h _ _
  · exact trivial
theorem endWith_ok {b : Prop} (w : World) (fd : Nat) (t : ByteArray) (o : Outcome) : OkS b (endWith w fd t o) := by
  unfold endWith
  dsimp only
  split
  · split <;> exact trivial
  · exact trivial
  · exact trivial
theorem hg_early {P : Program} : ∀ (l : List Nat), Hg b dy fr callers → ∀ f, Hg b dy (Frame.enter P f #[] .early) (l.map (Frame.enter P · #[] .early) ++ fr :: callers)
  | [], h, f => hg_push h (by exact okF_enter _ _ _ _)
  | x :: l, h, f => hg_push (hg_early l h x) (by exact okF_enter _ _ _ _)
theorem early_ok (P : Program) (h : Hg b dy fr callers) (g : Nat) (w : World) : OkS b (early P fr callers dy g w) := by
  have notYet : ∀ w : World, OkS b
      (match w.heap[g]? with
        | some (.pending c elem) => .go { frame := fr, callers, status := .running, dying := dy } { w with heap := w.heap.setIfInBounds g (.cells c elem) }
        | _ => .ended (.stuck "early: the variable does not wait" (fr.pos P)) w) := by
    intro w
    split
    · exact okS_go h
    · exact trivial
  unfold early
  dsimp only
  split
  · grind
  · split
    · exact trivial
    · split
      · grind
      · split
        · grind
        · split
          · exact trivial
          · exact okS_go (hg_early _ h _)
          · exact trivial
          · grind
          · split
            · exact okS_go (hg_early _ h _)
            · split
              · grind
              · split
                · grind
                · exact okS_go (hg_early _ h _)
                · exact trivial
theorem apply_ok {P : Program} (hP : Plain P) (h : Hg b dy fr callers) {s : Sem Next} (hs : TN P s) (w : World) : OkS b (stepG.apply P true fr callers dy s w) := by
  unfold stepG.apply
  have := hs.tb w #[] bal_nil
  revert this
  generalize s.runT P w #[] = x
  obtain ⟨r, es⟩ := x
  simp only [if_true]
  intro this
  cases r with
  | ok a w' =>
    obtain ⟨hn, he⟩ := this
    refine okS_after (bal_seen hP _ (by split <;> first | exact bal_nil | exact he)) ?_
    cases a with
    | callThen d r s x => exact absurd hn id
    | stack r s => exact absurd hn id
    | row r args =>
      have hr : r = "runtime.print$piece" := hn
      subst hr
      dsimp only
      split
      · rename_i k hk
        refine okS_go (hg_fr h rfl ?_)
        intro i hi
        rcases List.mem_cons.1 hi with rfl | hi
        · exact rfl
        · exact h.1 i (by rw [hk]; simp [hi])
      · exact okS_go (hg_push h (by exact okF_row _ _ _))
    | value v => exact okS_go (hg_finish h v)
    | skip => exact okS_go (hg_finish h _)
    | enter f args => exact okS_go (hg_push h (by exact okF_enter _ _ _ _))
    | round l f tmps as body => exact okS_go (hg_push h (by exact okF_round _ _ _ _ _ _))
    | defer d => exact okS_go (hg_finish (fr := { fr with defers := d :: fr.defers }) (hg_same h rfl rfl) _)
    | recover =>
      dsimp only
      split
      · rename_i v callers' e
        split at e
        · split at e
          · exact okS_go (hg_finish (hg_recover e h) _)
          · exact okS_go (hg_finish (hg_recoverLoop e h) _)
        · exact okS_go (hg_finish (hg_recover e h) _)
      · exact okS_go (hg_finish h _)
    | comm c bl sh => exact ⟨bal_nil, h, rfl⟩
    | coroswitch c x => exact ⟨bal_nil, h⟩
    | spawn d =>
      dsimp only
      exact okS_ite (endThrow_ok fr h.1 _ _) ⟨bal_nil, hg_finish h _⟩
    | _ => exact absurd hn id
  | halt x w' =>
    cases x with
    | panic v => exact okS_after (bal_seen hP _ (by split <;> first | exact bal_nil | exact this trivial)) (okS_go (hg_raise h _))
    | goexit => exact okS_after (bal_seen hP _ (by split <;> first | exact bal_nil | exact this trivial)) (okS_go (hg_raise h _))
    | blocked => exact okS_after (bal_seen hP _ (by split <;> exact bal_nil)) (okS_go h)
    | waiting => exact okS_after (bal_seen hP _ (by split <;> exact bal_nil)) (okS_go h)
    | fatal m => exact okS_after (bal_seen hP _ (by split <;> first | exact bal_nil | exact this trivial)) (endFatal_ok P fr h.1 _ _ _ _)
    | throw m => exact okS_after (bal_seen hP _ (by split <;> first | exact bal_nil | exact this trivial)) (endThrow_ok fr h.1 _ _)
    | unsupported u =>
      cases u with
      | initOrder g => exact okS_after (bal_seen hP _ (by split <;> exact bal_nil)) (early_ok P h _ _)
      | _ => exact trivial
    | exit c => exact trivial
    | stuck s => exact trivial
theorem oper_ok {P : Program} (hP : Plain P) (h : Hg b dy fr callers) (w : World) : OkS b (stepG.oper P true fr callers dy w) := by
  unfold stepG.oper
  split
  · exact trivial
  · split
    · refine apply_ok hP h ?_ w
      exact tm_bind1 TC.out fun _ => tm_bind1 TC.out fun _ => tm_pure trivial
    · exact apply_ok hP h (tn_execOp hP _ _) w
theorem doReturn_ok (P : Program) (main : Bool) (h : Hg b dy fr callers) (hx : dy ≠ none → BK fr callers) (v : Value) (w : World) : OkS b (doReturn P main fr callers dy v w) := by
  unfold doReturn
  split
  · rename_i c rest
    split
    · exact okS_go (hg_pop h (kind_finish _ _) fun hc => okF_finish hc _)
    · exact okS_go (hg_pop h (kind_finish _ _) fun hc => okF_finish hc _)
    · exact okS_go (hg_pop h rfl id)
    · dsimp only
      refine okS_go (hg_pop h ?_ fun hc => ?_)
      · grind
      · split
        · split <;> exact hc
        · exact hc
  · split
    · exact okS_go ⟨h.1, h.2.1, ⟨fun _ hx => (nomatch hx), fun d hd => .inl (by cases hd; rfl)⟩⟩
    · exact trivial
    · rename_i hk _
      have nb : b → False := fun hb => hk (hx (h.2.2.1 hb))
      split
      · exact okS_go ⟨h.1, h.2.1, fun hb => (nb hb).elim, fun d hd => (nomatch hd)⟩
      · split
        · exact okS_go ⟨okF_enter _ _ _ _, h.2.1, fun hb => (nb hb).elim, fun d hd => (nomatch hd)⟩
        · exact trivial
theorem callDeferred_ok {P : Program} (hP : Plain P) (h : Hg b dy fr callers) (d : Deferred) (w : World) : OkS b (callDeferred P fr callers dy d w) := by
  unfold callDeferred
  refine okS_ite trivial ?_
  have := (tn_invoke hP d.target d.args).tb w #[] bal_nil
  revert this
  generalize (invoke d.target d.args).runT P w #[] = x
  obtain ⟨r, es⟩ := x
  intro this
  dsimp only
  cases r with
  | ok a w' =>
    obtain ⟨hn, he⟩ := this
    refine okS_after (bal_seen hP _ he) ?_
    cases a with
    | callThen d r s x => exact absurd hn id
    | stack r s => exact absurd hn id
    | row r args =>
      have hr : r = "runtime.print$piece" := hn
      subst hr
      exact okS_go (hg_push h (okF_row _ _ _))
    | enter f args => exact okS_go (hg_push h (okF_enter _ _ _ _))
    | round l f tmps as body => exact okS_go (hg_push h (okF_round _ _ _ _ _ _))
    | recover =>
      dsimp only
      split
      · rename_i e
        exact okS_go (hg_recover e h)
      · exact okS_go h
    | coroswitch c x => cases x <;> first | exact trivial | exact ⟨bal_nil, h⟩
    | value v => exact okS_go h
    | skip => exact okS_go h
    | defer d => exact okS_go h
    | spawn d => exact okS_go h
    | comm c bl sh => exact okS_go h
    | _ => exact absurd hn id
  | halt x w' =>
    cases x with
    | panic v => exact okS_after (bal_seen hP _ (this trivial)) (okS_go (hg_raise h _))
    | goexit => exact okS_after (bal_seen hP _ (this trivial)) (okS_go (hg_raise h _))
    | blocked => exact okS_after (bal_seen hP _ bal_nil) (okS_go (hg_same h rfl rfl))
    | waiting => exact okS_after (bal_seen hP _ bal_nil) (okS_go (hg_same h rfl rfl))
    | fatal m => exact okS_after (bal_seen hP _ (this trivial)) (endFatal_ok P fr h.1 _ _ _ _)
    | throw m => exact okS_after (bal_seen hP _ (this trivial)) (endThrow_ok fr h.1 _ _)
    | unsupported u => exact trivial
    | exit c => exact trivial
    | stuck s => exact trivial
theorem bal_runT {P : Program} {α : Type} {s : Sem α} (hs : T1 P s) {w w' : World} {a : α} {es : Array Event} (h : s.runT P w #[] = (.ok a w', es)) : Bal es := by
  have := hs.tb w #[] bal_nil
  rw [h] at this
  exact this.2
theorem unwind_ok {P : Program} (hP : Plain P) (main : Bool) (h : Hg b dy fr callers) (hx : dy ≠ none → BK fr callers) (w : World) : OkS b (unwind P main fr callers dy w) := by
  unfold unwind
  split
  · rename_i block args ds hk
    have := (TC.out : T1 P (Instr.takeDeferred block)).tb w #[] bal_nil
    revert this
    generalize (Instr.takeDeferred block).runT P w #[] = x
    obtain ⟨r, es⟩ := x
    intro this
    cases r with
    | ok a w' => exact okS_after (bal_seen hP _ this.2) (okS_go (hg_same h rfl rfl))
    | halt x w' => exact trivial
  · rename_i d ds _ _
    exact callDeferred_ok (fr := { fr with defers := ds }) hP (hg_same h rfl rfl) _ w
  · split
    · exact trivial
    · refine okS_ite trivial ?_
      split
      · exact okS_go (hg_pop h (kind_raise _ _) fun hc => okF_raise hc _)
      · split
        · refine okS_ite (okS_go ⟨h.1, h.2.1, h.2.2.1, fun d hd => (nomatch hd)⟩) ?_
          split
          · exact okS_go ⟨h.1, h.2.1, ⟨fun _ hx => (nomatch hx), fun d hd => .inl (by cases hd; rfl)⟩⟩
          · exact trivial
          · exact trivial
        · split
          · exact endPrinting_ok P fr h.1 _ _
          · exact trivial
    · split
      · exact doReturn_ok P main h hx _ w
      · rename_i fn _
        have := (TC.out : T1 P (results fn fr.tmps)).tb w #[] bal_nil
        revert this
        generalize (results fn fr.tmps).runT P w #[] = x
        obtain ⟨r, es⟩ := x
        intro this
        cases r with
        | ok a w' => exact okS_after (bal_seen hP _ this.2) (doReturn_ok P main h hx _ _)
        | halt x w' => cases x <;> exact trivial
theorem okF_exitTo {id : Nat} : ∀ {k k' : List Item}, exitTo id k = some k' → ∀ i ∈ k', i ∈ k
  | [], _, e => by simp [exitTo] at e
  | x :: k, k', e => by
    unfold exitTo at e
    split at e
    · rename_i hk
      cases hk
      split at e
      · grind
      · exact fun i hi => by simp [okF_exitTo e i hi]
    · rename_i hk
      cases hk
      exact fun i hi => by simp [okF_exitTo e i hi]
    · grind
theorem okF_gotoIn {l : Nat} : ∀ {k k' : List Item}, gotoIn l k = some k' → ∀ i ∈ k', i ∈ k ∨ okItem i
  | [], _, e => by simp [gotoIn] at e
  | x :: k, k', e => by
    unfold gotoIn at e
    split at e
    · rename_i hk
      cases hk
      split at e
      · cases e
        intro i hi
        rcases List.mem_cons.1 hi with rfl | hi
        · exact .inr trivial
        · grind
      · intro i hi
        rcases okF_gotoIn e i hi with h | h
        · grind
        · grind
    · rename_i hk
      cases hk
      intro i hi
      rcases okF_gotoIn e i hi with h | h
      · grind
      · grind
    · grind
theorem next_piece {P : Program} {e : Array Value → Sem Next} (h : Extern.next "runtime.print$piece" = some e) (args : Array Value) : TN P (e args) := by
  have : Extern.next "runtime.print$piece" = some (Extern.PrintPieces.piece #[] #[]) := by rfl
  rw [this] at h
  cases h
  exact tn_piece _ _ _
theorem exec_ok {P : Program} (hP : Plain P) (main : Bool) (h : Hg b dy fr callers) (hx : dy ≠ none → BK fr callers) (w : World) : OkS b (stepG.exec P main true fr callers dy w) := by
  have leave : ∀ jump : Option Code, OkS b
      (match fr.roundOf with
        | none => if jump matches none | some .ret then .go { frame := { fr with mode := .returning }, callers, status := .running, dying := dy } w else .ended (.stuck "exit, goto: no such block or label" (fr.pos P)) w
        | some l =>
          GStep.after (seen P fr.fn ((Instr.endRound l jump).runT P w #[]).2) <| match ((Instr.endRound l jump).runT P w #[]).1 with
          | .ok v w => doReturn P main fr callers dy v w
          | .halt _ w => .ended (.stuck "range over a function: no such loop" (fr.pos P)) w) := by
    intro jump
    cases fr.roundOf with
    | none => exact okS_ite (okS_go (hg_same h rfl rfl)) trivial
    | some l =>
      dsimp only
      have := (TC.out : T1 P (Instr.endRound l jump)).tb w #[] bal_nil
      revert this
      generalize (Instr.endRound l jump).runT P w #[] = x
      obtain ⟨r, es⟩ := x
      intro this
      cases r with
      | ok a w' => exact okS_after (bal_seen hP _ this.2) (doReturn_ok P main h hx _ _)
      | halt x w' => exact trivial
  have to : ∀ (todo : List Item), (∀ i ∈ todo, i ∈ fr.todo ∨ okItem i) → OkS b (.go { frame := { fr with todo }, callers, status := .running, dying := dy } w) :=
    fun todo ht => okS_go (hg_fr h rfl (okF_todo h.1 ht))
  have ho := h.1
  unfold stepG.exec
  dsimp only
  split
  · exact leave none
  · exact leave (some .ret)
  · rename_i k hk; exact to k (fun i hi => .inl (by rw [hk]; simp [hi]))
  · rename_i k hk; exact to k (fun i hi => .inl (by rw [hk]; simp [hi]))
  · rename_i k hk; exact to k (fun i hi => .inl (by rw [hk]; simp [hi]))
  · rename_i k hk; exact to k (fun i hi => .inl (by rw [hk]; simp [hi]))
  · rename_i x y k hk
    refine to _ fun i hi => ?_
    rcases List.mem_cons.1 hi with rfl | hi
    · exact .inr trivial
    rcases List.mem_cons.1 hi with rfl | hi
    · exact .inr trivial
    · exact .inl (by rw [hk]; simp [hi])
  · rename_i c x y k hk
    split
    · refine to _ fun i hi => ?_
      rcases List.mem_cons.1 hi with rfl | hi
      · exact .inr trivial
      · exact .inl (by rw [hk]; simp [hi])
    · exact trivial
  · rename_i k hk
    refine to _ fun i hi => ?_
    rcases List.mem_cons.1 hi with rfl | hi
    · exact .inr trivial
    rcases List.mem_cons.1 hi with rfl | hi
    · exact .inr trivial
    · exact .inl (by rw [hk]; simp [hi])
  · rename_i k hk
    refine to _ fun i hi => ?_
    rcases List.mem_cons.1 hi with rfl | hi
    · exact .inr trivial
    rcases List.mem_cons.1 hi with rfl | hi
    · exact .inr trivial
    · exact .inl (by rw [hk]; simp [hi])
  · rename_i k hk
    refine to _ fun i hi => ?_
    rcases List.mem_cons.1 hi with rfl | hi
    · exact .inr trivial
    rcases List.mem_cons.1 hi with rfl | hi
    · exact .inr trivial
    · exact .inl (by rw [hk]; simp [hi])
  · rename_i k hk
    refine to _ fun i hi => ?_
    rcases List.mem_cons.1 hi with rfl | hi
    · exact .inr trivial
    rcases List.mem_cons.1 hi with rfl | hi
    · exact .inr trivial
    · exact .inl (by rw [hk]; simp [hi])
  · rename_i id k hk
    cases e : exitTo id k with
    | none => exact leave (some (.exit id))
    | some k' => exact to k' fun i hi => .inl (by rw [hk]; simp [okF_exitTo e i hi])
  · rename_i l k hk
    cases e : gotoIn l k with
    | none => exact leave (some (.goto l))
    | some k' => exact to k' fun i hi => (okF_gotoIn e i hi).imp (fun hi => by rw [hk]; simp [hi]) _root_.id
  · rename_i f params assign body k hk
    have := (TC.out : T1 P (Instr.enterLoop fr.fn fr.tmps params assign body fr.roundOf)).tb w #[] bal_nil
    revert this
    generalize (Instr.enterLoop fr.fn fr.tmps params assign body fr.roundOf).runT P w #[] = x
    obtain ⟨r, es⟩ := x
    intro this
    cases r with
    | ok a w' =>
      refine okS_after (bal_seen hP _ this.2) ?_
      refine apply_ok (fr := { fr with todo := .inRangeFunc a.1 :: k, defers := a.2 ++ fr.defers }) hP (hg_fr h rfl ?_) (tm_bind1 TC.out fun _ => tn_invoke hP _ _) _
      intro i hi
      rcases List.mem_cons.1 hi with rfl | hi
      · exact trivial
      · exact ho i (by rw [hk]; simp [hi])
    | halt x w' => exact trivial
  · exact trivial
  · refine apply_ok hP h (tm_bind1 ?_ fun _ => tm_pure (show NextOk .skip from trivial)) w
    cases fr.roundOf with
    | none => exact tm_stuck _
    | some l => exact (TC.out : T1 P (Instr.beginRound l))
  · rename_i l k hk
    have := (TC.out : T1 P (Instr.endLoop l)).tb w #[] bal_nil
    revert this
    generalize (Instr.endLoop l).runT P w #[] = x
    obtain ⟨r, es⟩ := x
    intro this
    cases r with
    | ok a w' =>
      refine okS_after (bal_seen hP _ this.2) (okS_go (hg_fr h rfl ?_))
      intro i hi
      rcases List.mem_append.1 hi with hi | hi
      · cases a with
        | none => simp at hi
        | some c => simp at hi; subst hi; exact trivial
      · exact ho i (by rw [hk]; simp [hi])
    | halt x w' =>
      cases x with
      | panic v => exact okS_after (bal_seen hP _ (this trivial)) (okS_go (hg_raise h _))
      | _ => exact trivial
  · exact trivial
  · rename_i hk; exact absurd (ho _ (by rw [hk]; exact List.mem_cons_self ..)) id
  · rename_i row args k hk
    have hr : row = "runtime.print$piece" := ho (.extern row args) (by rw [hk]; exact List.mem_cons_self ..)
    subst hr
    cases e : Extern.next "runtime.print$piece" with
    | none => exact trivial
    | some x => exact apply_ok hP h (next_piece e args) w
  · rename_i id ops draw k hk
    have hin : ∀ t, ∀ i ∈ (Item.inRegion ops t :: k), i ∈ fr.todo ∨ okItem i := fun t i hi => by
      rcases List.mem_cons.1 hi with rfl | hi
      · exact .inr trivial
      · exact .inl (by rw [hk]; simp [hi])
    refine okS_ite (to _ (hin _)) ?_
    split
    · exact okS_go (hg_fr h rfl (okF_todo ho (hin _)))
    · exact trivial
  · rename_i k hk; exact to k (fun i hi => .inl (by rw [hk]; simp [hi]))
  · exact okS_ite (oper_ok hP h w) (okS_go (hg_finish h _))
theorem td_uns {P : Program} {α : Type} {d d' : Nat} (m : Unsupported) : Td P d d' (unsupported m : Sem α) := td_halt id
theorem td_sys {P : Program} {d : Nat} (c : Sys) : Td P d d (sys c) := fun _ es he => by
  show deafBehind 0 (es.push _) = _
  rw [deafBehind_push, he]
theorem writeOn_ok {b : Prop} {P : Program} (fr : Frame) (d : Dying) (f : Fatal) (ho : okF fr) (hd : d.calling = false) (w : World) : OkS b (writeOn P fr d f w) := by
  unfold writeOn
  dsimp only
  split
  · exact trivial
  · rename_i piece rest _
    have hT : Tb P (fun _ => True) (do
        if !(f.whole && f.begun) then
          mark .disable
          if ← Extern.PrintPieces.held then .halt .blocked
          if f.whole then store (printLock (← program)) (.bool true) .atomic
          mark .enable
        if piece.size > 65536 then unsupported (.noEntry "a report of more than 65536 bytes")
        match ← sys (.write 2 piece) with
        | .int n => if n != piece.size then unsupported (.noEntry "a report that its descriptor cannot take whole")
        | .err _ => pure ()
        | _ => unsupported (.noEntry "a report that its descriptor cannot take whole") : Sem Unit) := by
      refine tb_of_td ?_
      (repeat' first | (with_reducible exact td_stuck _) | (with_reducible exact td_pure _) | (with_reducible refine td_stuckBind _ _) | (with_reducible refine td_unsBind _ _) | (with_reducible refine td_haltBind id _) | (with_reducible refine td_bind td_disable (fun _ => ?_)) | (with_reducible refine td_bind td_enable (fun _ => ?_)) | (with_reducible exact td_enable) | (with_reducible exact td_halt id) | (with_reducible exact td_uns _) | (with_reducible refine td_bind td_held (fun _ => ?_)) | (with_reducible refine td_bind td_program (fun _ => ?_)) | (with_reducible refine td_bind (td_store _ _ _) (fun _ => ?_)) | (with_reducible refine td_bind (td_sys _) (fun _ => ?_)) | split | dsimp only)
    have := hT w #[] bal_nil
    revert this
    generalize Sem.runT P _ w #[] = x
    obtain ⟨r, es⟩ := x
    intro this
    cases r with
    | ok a w' => exact ⟨this.2, ⟨ho, fun _ hf => absurd hf (List.not_mem_nil), ⟨fun _ hx => (nomatch hx), fun d' hd' => .inl (by cases hd'; exact hd)⟩⟩, by simp⟩
    | halt x w' =>
      cases x with
      | blocked => exact ⟨bal_nil, ⟨ho, fun _ hf => absurd hf (List.not_mem_nil), ⟨fun _ hx => (nomatch hx), fun d' hd' => .inl (by cases hd'; exact hd)⟩⟩, by simp⟩
      | _ => exact trivial
theorem die_ok {b : Prop} {P : Program} (hP : Plain P) (fr : Frame) (d : Dying) (ho : okF fr) (hd : d.calling = false) (w : World) : OkS b (die P fr d w) := by
  have hg : ∀ (d : Dying), d.calling = false → Hg b (some d) fr [] := fun d hd => ⟨ho, fun _ hf => absurd hf (List.not_mem_nil), ⟨fun _ hx => (nomatch hx), fun d' hd' => .inl (by cases hd'; exact hd)⟩⟩
  unfold die
  split
  · exact writeOn_ok fr d _ ho hd w
  · split
    · exact okS_ite (okS_go (hg d hd)) (endWith_ok _ _ _ _)
    · dsimp only
      split
      · exact okS_go (hg _ hd)
      · split
        · exact okS_go (hg _ hd)
        · exact trivial
      · rename_i t recv name _
        have := (tn_invoke hP (.fn (.method name) #[]) #[.iface t recv]).tb w #[] bal_nil
        revert this
        generalize (invoke (.fn (.method name) #[]) #[.iface t recv]).runT P w #[] = x
        obtain ⟨r, es⟩ := x
        intro this
        dsimp only
        split
        · refine okS_after (bal_seen hP _ this.2) (okS_go ⟨okF_enter _ _ _ _, fun _ hf => absurd hf (List.not_mem_nil), ⟨fun _ hx => (nomatch hx), fun d' hd' => .inr rfl⟩⟩)
        · exact okS_after (bal_seen hP _ this.2) (okS_go (hg _ hd))
        · exact trivial
        · exact okS_after (bal_seen hP _ (this trivial)) (endPrinting_ok P fr ho _ _)
        · exact trivial
      · exact trivial
theorem stepG_ok {b : Prop} {P : Program} (hP : Plain P) (main : Bool) (g : Goroutine) (h : Hg b g.dying g.frame g.callers) (w : World) : OkS b (stepG P main g w) := by
  obtain ⟨fr, callers, st, dy, off⟩ := g
  unfold stepG
  dsimp only at h ⊢
  split
  · rename_i d hc _
    exact die_ok hP fr _ h.1 rfl w
  · rename_i hd hm
    refine exec_ok hP main h (fun hb => ?_) w
    obtain ⟨d, hd0⟩ := Option.ne_none_iff_exists'.1 hb
    rcases h.2.2.2 d hd0 with h' | h'
    · obtain ⟨_, _, _, _, _, _, _⟩ := d
      simp only at h'
      subst h'
      exact (hd _ _ _ _ _ _ hd0).elim
    · exact h'
  · rename_i hd hm
    refine unwind_ok hP main h (fun hb => ?_) w
    obtain ⟨d, hd0⟩ := Option.ne_none_iff_exists'.1 hb
    rcases h.2.2.2 d hd0 with h' | h'
    · obtain ⟨_, _, _, _, _, _, _⟩ := d
      simp only at h'
      subst h'
      exact (hd _ _ _ _ _ _ hd0).elim
    · exact h'
end Go.Co
end
