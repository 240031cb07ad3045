/- The law CutKnown: part 11: Co2e Co3a Co3b Co3c. By an AI agent. -/
import Derived.Test.YtadeehilamokkaaGreatDoorPk10
import Derived.Conc.Beside
import Derived.Conc.CrowdComm
import Derived.Lone
section
namespace Go.Co
open Go
variable {hz : Hz}
theorem run_pf {P : Program} {α : Type} {s : Sem α} (hs : Pf P s) {L W : World} (h : Sync hz L W) : Over hz (s.run P L) ∨ SyncR hz (s.run P L) (s.run P W) := by
  have := hs hz L W #[] h
  unfold Sim at this
  simp only [Sem.runT_fst] at this
  exact this.imp id (·.1)
def SyncG (hz : Hz) : GStep → GStep → Prop
  | .go g L es, s => g.dying = none → L.drawn ≤ hz.h → ∃ W, s = .go g W es ∧ Sync hz L W
  | .comm g c b sh L es, s => g.dying = none → L.drawn ≤ hz.h → ∃ W, s = .comm g c b sh W es ∧ Sync hz L W
  | .coroswitch g c x L es, s => g.dying = none → L.drawn ≤ hz.h → ∃ W, s = .coroswitch g c x W es ∧ Sync hz L W
  | _, _ => True
def Pst (hz : Hz) : GStep → Prop
  | .go g L _ => g.dying = none → hz.h < L.drawn
  | .comm g _ _ _ L _ => g.dying = none → hz.h < L.drawn
  | .coroswitch g _ _ L _ => g.dying = none → hz.h < L.drawn
  | _ => True
theorem syncG_past {s s' : GStep} (h : Pst hz s) : SyncG hz s s' := by
  cases s <;> first | exact trivial | exact fun hd hl => absurd (h hd) (by omega)
theorem Pst.after (es : Array Event) {s : GStep} (h : Pst hz s) : Pst hz (GStep.after es s) := by
  cases s <;> exact h
theorem SyncG.after (es : Array Event) {s s' : GStep} (h : SyncG hz s s') : SyncG hz (GStep.after es s) (GStep.after es s') := by
  cases s <;> first | exact trivial | (intro hd hl; obtain ⟨W, rfl, hs⟩ := h hd hl; exact ⟨W, rfl, hs⟩)
theorem syncG_go (g : Goroutine) (es : Array Event) {L W : World} (h : Sync hz L W) : SyncG hz (.go g L es) (.go g W es) := fun _ _ => ⟨W, rfl, h⟩
theorem syncG_ite {c : Prop} [Decidable c] {a a' b b' : GStep} (h : SyncG hz a a') (h' : SyncG hz b b') : SyncG hz (if c then a else b) (if c then a' else b') := by grind
theorem pst_ite {c : Prop} [Decidable c] {a b : GStep} (h : Pst hz a) (h' : Pst hz b) : Pst hz (if c then a else b) := by grind
theorem pst_dieOf (fr : Frame) (a : List ByteArray) (m : String) (b : Bool) (L : World) : Pst hz (dieOf fr a m b L) := fun hd => nomatch hd
theorem pst_endThrow (fr : Frame) (m : String) (L : World) : Pst hz (endThrow fr m L) := pst_dieOf _ _ _ _ _
theorem pst_endFatal (P : Program) (fr : Frame) (callers : List Frame) (dy : Option Dying) (m : String) (L : World) : Pst hz (endFatal P fr callers dy m L) := by
  unfold endFatal
  dsimp only
  split
  · exact pst_dieOf _ _ _ _ _
  · exact trivial
  · exact trivial
theorem pst_early (P : Program) (fr : Frame) (callers : List Frame) (dy : Option Dying) (g : Nat) {L : World} (h : hz.h < L.drawn) : Pst hz (early P fr callers dy g L) := by
  have notYet : ∀ {L : World}, hz.h < L.drawn → Pst hz
      (match L.heap[g]? with
        | some (.pending c elem) => .go { frame := fr, callers, status := .running, dying := dy } { L with heap := L.heap.setIfInBounds g (.cells c elem) }
        | _ => .ended (.stuck "early: the variable does not wait" (fr.pos P)) L) := by
    intro L h
    split
    · exact fun _ => h
    · exact trivial
  unfold early
  dsimp only
  split
  · grind
  · split
    · exact trivial
    · split
      · grind
      · split
        · grind
        · split
          · exact trivial
          · exact fun _ => h
          · exact trivial
          · grind
          · split
            · exact fun _ => h
            · split
              · grind
              · have hm := runT_drawn P (choose (.early g)) L #[]
                rw [Sem.runT_fst] at hm
                generalize Sem.run P (choose (.early g)) L = x at hm
                cases x with
                | ok a w =>
                  cases a with
                  | zero => exact notYet (Nat.lt_of_lt_of_le h hm)
                  | succ a => exact fun _ => Nat.lt_of_lt_of_le h hm
                | halt x w => exact trivial
theorem early_sync (P : Program) (fr : Frame) (callers : List Frame) (dy : Option Dying) (g : Nat) {L W : World} (h : Sync hz L W) : SyncG hz (early P fr callers dy g L) (early P fr callers dy g W) := by
  have hb : ∀ n a b, P.brought W n a b = P.brought L n a b := by
    intro n
    induction n with
    | zero => intro a b; rfl
    | succ n ih =>
      intro a b
      cases a with
      | nil => rfl
      | cons f todo => simp only [Program.brought, ih, h.heap]
  have hsh : W.shape? = L.shape? := by funext r; unfold World.shape?; rw [h.heap]
  have hf : ∀ n f, P.found W n f = P.found L n f := by
    intro n
    induction n with
    | zero => intro f; rfl
    | succ n ih =>
      intro f
      simp only [Program.found, ih, h.heap, hsh]
  have notYet : ∀ {L W : World}, Sync hz L W → SyncG hz
      (match L.heap[g]? with
        | some (.pending c elem) => .go { frame := fr, callers, status := .running, dying := dy } { L with heap := L.heap.setIfInBounds g (.cells c elem) }
        | _ => .ended (.stuck "early: the variable does not wait" (fr.pos P)) L)
      (match W.heap[g]? with
        | some (.pending c elem) => .go { frame := fr, callers, status := .running, dying := dy } { W with heap := W.heap.setIfInBounds g (.cells c elem) }
        | _ => .ended (.stuck "early: the variable does not wait" (fr.pos P)) W) := by
    intro L W h
    rw [h.heap]
    split
    · exact syncG_go _ _ (h.withHeap _)
    · exact trivial
  unfold early
  simp only [hb, hf, hsh]
  by_cases hfo : P.follows .staticDataAhead = true
  · simp only [hfo, Bool.not_true, Bool.false_eq_true, if_false]
    cases P.stepOf g with
    | none => exact trivial
    | some f =>
      simp only
      split
      · grind
      · split
        · grind
        · split
          · exact trivial
          · exact syncG_go _ _ h
          · exact trivial
          · grind
          · split
            · exact syncG_go _ _ h
            · split
              · grind
              · have hr := run_pf (t_choose (P := P) (.early g)).pf h
                generalize Sem.run P (choose (.early g)) L = x at hr
                generalize Sem.run P (choose (.early g)) W = y at hr
                rcases hr with ho | hr
                · cases x with
                  | ok a w =>
                    rcases ho with ho | ⟨m, w, e⟩
                    · refine syncG_past ?_
                      cases a with
                      | zero =>
                        show Pst hz (match w.heap[g]? with | some (.pending c elem) => _ | _ => _)
                        split
                        · exact fun _ => ho
                        · exact trivial
                      | succ a => exact fun _ => ho
                    · cases e
                  | halt x w => exact trivial
                cases hr with
                | ok a h' =>
                  cases a with
                  | zero => exact notYet h'
                  | succ a => exact syncG_go _ _ h'
                | halt x h' => exact trivial
  · grind
theorem pst_apply (P : Program) (fr : Frame) (callers : List Frame) (dy : Option Dying) (s : Sem Next) {L : World} (h : hz.h < L.drawn) : Pst hz (stepG.apply P true fr callers dy s L) := by
  unfold stepG.apply
  have hm := runT_drawn P s L #[]
  generalize Sem.runT P s L #[] = x at hm
  obtain ⟨r, es⟩ := x
  simp only [if_true]
  cases r with
  | ok a w =>
    have h' : hz.h < w.drawn := Nat.lt_of_lt_of_le h hm
    cases a <;> refine Pst.after _ ?_ <;> try (first | exact fun _ => h' | exact trivial)
    all_goals (dsimp only; (repeat' split) <;> first | exact fun _ => h' | exact trivial | exact pst_endThrow _ _ _)
  | halt x w =>
    have h' : hz.h < w.drawn := Nat.lt_of_lt_of_le h hm
    cases x with
    | unsupported u => cases u <;> refine Pst.after _ ?_ <;> first | exact pst_early _ _ _ _ _ h' | exact trivial
    | _ => refine Pst.after _ ?_ ; first | exact fun _ => h' | exact trivial | exact pst_endFatal _ _ _ _ _ _ | exact pst_endThrow _ _ _
theorem pst_doReturn (P : Program) (main : Bool) (fr : Frame) (callers : List Frame) (dy : Option Dying) (v : Value) {L : World} (h : hz.h < L.drawn) : Pst hz (doReturn P main fr callers dy v L) := by
  unfold doReturn
  (repeat' split) <;> first | exact fun _ => h | exact trivial
theorem apply_sync (P : Program) (fr : Frame) (callers : List Frame) {s : Sem Next} (hs : Pf P s) {L W : World} (h : Sync hz L W) :
    SyncG hz (stepG.apply P true fr callers none s L) (stepG.apply P true fr callers none s W) := by
  unfold stepG.apply
  have hr := hs hz L W #[] h
  generalize Sem.runT P s L #[] = x at hr
  generalize Sem.runT P s W #[] = y at hr
  obtain ⟨r, es⟩ := x
  obtain ⟨r', es'⟩ := y
  simp only [if_true]
  rcases hr with ho | ⟨hr, he⟩
  · rcases ho with ho | ⟨m, w, e⟩
    · refine syncG_past ?_
      cases r with
      | ok a w =>
        have h' : hz.h < w.drawn := ho
        cases a <;> refine Pst.after _ ?_ <;> try (first | exact fun _ => h' | exact trivial)
        all_goals (dsimp only; (repeat' split) <;> first | exact fun _ => h' | exact trivial | exact pst_endThrow _ _ _)
      | halt x w =>
        have h' : hz.h < w.drawn := ho
        cases x with
        | unsupported u => cases u <;> refine Pst.after _ ?_ <;> first | exact pst_early _ _ _ _ _ h' | exact trivial
        | _ => refine Pst.after _ ?_ ; first | exact fun _ => h' | exact trivial | exact pst_endFatal _ _ _ _ _ _ | exact pst_endThrow _ _ _
    · simp only at e
      subst e
      exact trivial
  · simp only at hr he
    subst he
    cases hr with
    | ok a h' =>
      cases a <;> refine SyncG.after _ ?_ <;> try (first | exact syncG_go _ _ h' | exact trivial | exact fun _ _ => ⟨_, rfl, h'⟩)
      all_goals (dsimp only; (repeat' split) <;> first | exact syncG_go _ _ h' | exact trivial | exact syncG_past (pst_endThrow _ _ _))
    | halt x h' =>
      cases x with
      | unsupported u => cases u <;> refine SyncG.after _ ?_ <;> first | exact early_sync _ _ _ _ _ h' | exact trivial
      | _ => refine SyncG.after _ ?_ ; first | exact syncG_go _ _ h' | exact trivial | exact syncG_past (pst_endFatal _ _ _ _ _ _) | exact syncG_past (pst_endThrow _ _ _)
theorem oper_sync {P : Program} (hP : Plain P) (fr : Frame) (callers : List Frame) {L W : World} (h : Sync hz L W) : SyncG hz (stepG.oper P true fr callers none L) (stepG.oper P true fr callers none W) := by
  unfold stepG.oper
  split
  · exact trivial
  · split
    · refine apply_sync _ _ _ ?_ h
      exact (tm_bind1 (R' := NextOk) TC.out fun _ => tm_bind1 TC.out fun _ => tm_pure (show NextOk .skip from trivial)).pf
    · exact apply_sync _ _ _ (tn_execOp hP _ _).pf h
theorem doReturn_sync (P : Program) (main : Bool) (fr : Frame) (callers : List Frame) (v : Value) {L W : World} (h : Sync hz L W) : SyncG hz (doReturn P main fr callers none v L) (doReturn P main fr callers none v W) := by
  unfold doReturn
  cases callers with
  | cons c rest => cases fr.kind <;> exact syncG_go _ _ h
  | nil =>
    simp only
    (repeat' split) <;> first | exact syncG_go _ _ h | exact trivial
theorem after_run {α : Type} (P : Program) (fn : FuncId) {s : Sem α} (hs : Pf P s) (k : Result α → GStep) (hk : ∀ {r r' : Result α}, SyncR hz r r' → SyncG hz (k r) (k r')) (ho : ∀ {r : Result α}, Over hz r → Pst hz (k r)) {L W : World} (h : Sync hz L W) :
    SyncG hz (GStep.after (seen P fn (s.runT P L #[]).2) (k (s.runT P L #[]).1)) (GStep.after (seen P fn (s.runT P W #[]).2) (k (s.runT P W #[]).1)) := by
  rcases hs hz L W #[] h with h1 | ⟨h1, h2⟩
  · exact syncG_past (Pst.after _ (ho h1))
  · rw [h2]
    exact SyncG.after _ (hk h1)
theorem callDeferred_sync {P : Program} (hP : Plain P) (fr : Frame) (callers : List Frame) (d : Deferred) {L W : World} (h : Sync hz L W) : SyncG hz (callDeferred P fr callers none d L) (callDeferred P fr callers none d W) := by
  unfold callDeferred
  refine syncG_ite trivial ?_
  have hr := (tn_invoke hP d.target d.args).pf hz L W #[] h
  generalize Sem.runT P (invoke d.target d.args) L #[] = x at hr
  generalize Sem.runT P (invoke d.target d.args) W #[] = y at hr
  obtain ⟨r, es⟩ := x
  obtain ⟨r', es'⟩ := y
  simp only
  rcases hr with ho | ⟨hr, he⟩
  · rcases ho with ho | ⟨m, w, e⟩
    · refine syncG_past (Pst.after _ ?_)
      cases r with
      | ok a w =>
        have h' : hz.h < w.drawn := ho
        cases a with
        | recover =>
          dsimp only
          split <;> exact fun _ => h'
        | alone on v => cases on <;> exact trivial
        | coroswitch c e => cases e <;> first | exact fun _ => h' | exact trivial
        | _ => first | exact fun _ => h' | exact trivial
      | halt x w =>
        have h' : hz.h < w.drawn := ho
        cases x <;> first | exact fun _ => h' | exact trivial | exact pst_endFatal _ _ _ _ _ _ | exact pst_endThrow _ _ _
    · simp only at e
      subst e
      exact trivial
  · simp only at hr he
    subst he
    cases hr with
    | ok a h' =>
      refine SyncG.after _ ?_
      cases a with
      | recover =>
        dsimp only
        split <;> exact syncG_go _ _ h'
      | alone on v => cases on <;> exact trivial
      | coroswitch c e => cases e <;> first | exact fun _ _ => ⟨_, rfl, h'⟩ | exact trivial
      | _ => first | exact syncG_go _ _ h' | exact trivial
    | halt x h' =>
      cases x with
      | unsupported u => exact trivial
      | _ => refine SyncG.after _ ?_ ; first | exact syncG_go _ _ h' | exact trivial | exact syncG_past (pst_endFatal _ _ _ _ _ _) | exact syncG_past (pst_endThrow _ _ _)
theorem unwind_sync {P : Program} (hP : Plain P) (main : Bool) (fr : Frame) (callers : List Frame) {L W : World} (h : Sync hz L W) : SyncG hz (unwind P main fr callers none L) (unwind P main fr callers none W) := by
  unfold unwind
  split
  · rename_i block args ds hk
    refine after_run P _ (TC.out : T1 P (Instr.takeDeferred block)).pf (fun r => match r with
      | .ok calls w => .go { frame := { fr with defers := calls ++ ds }, callers, status := .running, dying := none } w
      | .halt _ w => .ended (.stuck "the deferred calls of a range-over-func loop have been taken" (fr.pos P)) w) (fun hr => ?_) (fun {r} ho => ?_) h
    · cases hr with
      | ok a h' => exact syncG_go _ _ h'
      | halt x h' => exact trivial
    · cases r with
      | ok a w => rcases ho with ho | ⟨m, w, e⟩; exact fun _ => ho; cases e
      | halt x w => exact trivial
  · exact callDeferred_sync hP _ _ _ h
  · split
    · exact trivial
    · split
      · exact trivial
      · split
        · exact syncG_go _ _ h
        · dsimp only
          split
          · exact syncG_go _ _ h
          · refine syncG_past ?_
            split
            · exact fun hd => nomatch hd
            · exact trivial
            · exact trivial
    · split
      · exact doReturn_sync _ _ _ _ _ h
      · rename_i fn _
        refine after_run P _ (TC.out : T1 P (results fn fr.tmps)).pf (fun r => match r with
          | .ok v w => doReturn P main fr callers none v w
          | .halt (.stuck s) w => .ended (.stuck s (fr.pos P)) w
          | .halt _ w => .ended (.stuck "return: the result variables cannot be read" (fr.pos P)) w) (fun hr => ?_) (fun {r} ho => ?_) h
        · cases hr with
          | ok a h' => exact doReturn_sync _ _ _ _ _ h'
          | halt x h' => cases x <;> exact trivial
        · cases r with
          | ok a w => rcases ho with ho | ⟨m, w, e⟩; exact pst_doReturn _ _ _ _ _ _ ho; cases e
          | halt x w => cases x <;> exact trivial
theorem exec_sync {P : Program} (hP : Plain P) (main : Bool) (fr : Frame) (callers : List Frame) (ho : okF fr) {L W : World} (h : Sync hz L W) : SyncG hz (stepG.exec P main true fr callers none L) (stepG.exec P main true fr callers none W) := by
  have leave : ∀ jump : Option Code, SyncG hz
      (match fr.roundOf with
        | none => if jump matches none | some .ret then .go { frame := { fr with mode := .returning }, callers, status := .running, dying := none } L else .ended (.stuck "exit, goto: no such block or label" (fr.pos P)) L
        | some l =>
          GStep.after (seen P fr.fn ((Instr.endRound l jump).runT P L #[]).2) <| match ((Instr.endRound l jump).runT P L #[]).1 with
          | .ok v w => doReturn P main fr callers none v w
          | .halt _ w => .ended (.stuck "range over a function: no such loop" (fr.pos P)) w)
      (match fr.roundOf with
        | none => if jump matches none | some .ret then .go { frame := { fr with mode := .returning }, callers, status := .running, dying := none } W else .ended (.stuck "exit, goto: no such block or label" (fr.pos P)) W
        | some l =>
          GStep.after (seen P fr.fn ((Instr.endRound l jump).runT P W #[]).2) <| match ((Instr.endRound l jump).runT P W #[]).1 with
          | .ok v w => doReturn P main fr callers none v w
          | .halt _ w => .ended (.stuck "range over a function: no such loop" (fr.pos P)) w) := by
    intro jump
    cases fr.roundOf with
    | none =>
      exact syncG_ite (syncG_go _ _ h) trivial
    | some l =>
      refine after_run P _ (TC.out : T1 P (Instr.endRound l jump)).pf (fun r => match r with
          | .ok v w => doReturn P main fr callers none v w
          | .halt _ w => .ended (.stuck "range over a function: no such loop" (fr.pos P)) w) (fun hr => ?_) (fun {r} ho => ?_) h
      · cases hr with
        | ok a h' => exact doReturn_sync _ _ _ _ _ h'
        | halt x h' => exact trivial
      · cases r with
        | ok a w => rcases ho with ho | ⟨m, w, e⟩; exact pst_doReturn _ _ _ _ _ _ ho; cases e
        | halt x w => exact trivial
  unfold stepG.exec
  dsimp only
  obtain ⟨fn, tmps, todo, defers, mode, kind, ro⟩ := fr
  cases todo with
  | nil => exact leave none
  | cons it k =>
    cases it with
    | code c =>
      cases c with
      | ret => exact leave (some .ret)
      | exit id =>
        simp only
        cases exitTo id k with
        | none => exact leave (some (.exit id))
        | some k' => exact syncG_go _ _ h
      | goto l =>
        simp only
        cases gotoIn l k with
        | none => exact leave (some (.goto l))
        | some k' => exact syncG_go _ _ h
      | cond c x y =>
        simp only
        split
        · exact syncG_go _ _ h
        · exact trivial
      | region id ops draw =>
        simp only
        split
        · exact syncG_go _ _ h
        · have hr := run_pf (t_choose (P := P) (.order fn id)).pf h
          generalize Sem.run P (choose (.order fn id)) L = x at hr
          generalize Sem.run P (choose (.order fn id)) W = y at hr
          rcases hr with ho | hr
          · cases x with
            | ok a w => rcases ho with ho | ⟨m, w, e⟩; exact syncG_past (fun _ => ho); cases e
            | halt x w => exact trivial
          cases hr with
          | ok a h' => exact syncG_go _ _ h'
          | halt x h' => exact trivial
      | rangeFunc f params assign body =>
        refine after_run P _ (TC.out : T1 P (Instr.enterLoop fn tmps params assign body ro)).pf (fun r => match r with
          | .ok (l, mark) w => stepG.apply P true ⟨fn, tmps, .inRangeFunc l :: k, mark ++ defers, mode, kind, ro⟩ callers none (do let d ← resolve (Frame.eval ⟨fn, tmps, .inRangeFunc l :: k, mark ++ defers, mode, kind, ro⟩) { callee := .value f, args := #[.const (.func (.yield l) #[] #[])], argTypes := #[] } 0; invoke d.target d.args) w
          | .halt _ w => .ended (.stuck "range over a function: no such loop" (Frame.pos P _)) w) (fun hr => ?_) (fun {r} ho => ?_) h
        · cases hr with
          | ok a h' => exact apply_sync _ _ _ (tm_bind1 (R' := NextOk) TC.out fun _ => tn_invoke hP _ _).pf h'
          | halt x h' => exact trivial
        · cases r with
          | ok a w => rcases ho with ho | ⟨m, w, e⟩; exact pst_apply _ _ _ _ _ ho; cases e
          | halt x w => exact trivial
      | refuse why => exact trivial
      | _ => exact syncG_go _ _ h
    | inBlock _ => exact syncG_go _ _ h
    | inLoop _ => exact syncG_go _ _ h
    | inScope _ => exact syncG_go _ _ h
    | inRegion ops todo =>
      cases todo with
      | nil => exact syncG_go _ _ h
      | cons i rest =>
        simp only
        split
        · exact oper_sync hP _ _ h
        · exact syncG_go _ _ h
    | inRangeFunc _ => exact trivial
    | endRangeFunc l =>
      refine after_run P _ (TC.out : T1 P (Instr.endLoop l)).pf (fun (r : Result (Option Code)) => match r with
          | .ok jump w => .go { frame := ⟨fn, tmps, (jump.map Item.code).toList ++ k, defers, mode, kind, ro⟩, callers, status := .running, dying := none } w
          | .halt (.panic v) w => .go { frame := Frame.raise ⟨fn, tmps, .endRangeFunc l :: k, defers, mode, kind, ro⟩ [{ v, recovered := false }], callers, status := .running, dying := none } w
          | .halt _ w => .ended (.stuck "range over a function: no such loop" (Frame.pos P _)) w) (fun hr => ?_) (fun {r} ho => ?_) h
      · cases hr with
        | ok a h' => exact syncG_go _ _ h'
        | halt x h' => cases x <;> first | exact syncG_go _ _ h' | exact trivial
      · cases r with
        | ok a w => rcases ho with ho | ⟨m, w, e⟩; exact fun _ => ho; cases e
        | halt x w =>
          rcases ho with ho | ⟨m, w, e⟩
          · cases x <;> first | exact fun _ => ho | exact trivial
          · cases e; exact trivial
    | beginRound =>
      refine apply_sync _ _ _ ?_ h
      refine (tm_bind1 (R' := NextOk) ?_ fun _ => tm_pure (show NextOk .skip from trivial)).pf
      cases ro with
      | none => exact tm_stuck _
      | some l => exact (TC.out : T1 P (Instr.beginRound l))
    | call d w r s => exact apply_sync _ _ _ (tn_invoke hP _ _).pf h
    | extern row args =>
      have hr : row = "runtime.print$piece" := ho (.extern row args) (List.mem_cons_self ..)
      subst hr
      simp only
      cases e : Extern.next "runtime.print$piece" with
      | none => exact trivial
      | some x => exact apply_sync _ _ _ (next_piece e args).pf h
theorem stepG_sync {P : Program} (hP : Plain P) (main : Bool) (g : Goroutine) (hd : g.dying = none) (ho : okF g.frame) {L W : World} (h : Sync hz L W) : SyncG hz (stepG P main g L) (stepG P main g W) := by
  obtain ⟨fr, callers, st, dy, off⟩ := g
  simp only at hd
  subst hd
  unfold stepG
  cases hm : fr.mode with
  | run => simp only [hm]; exact exec_sync hP _ _ _ ho h
  | returning => simp only [hm]; exact unwind_sync hP _ _ _ h
  | panicking c => simp only [hm]; exact unwind_sync hP _ _ _ h
end Go.Co
end
section
namespace Go.Co
open Go Go.Conc
variable {P : Program}
def Lw : Way → Prop
  | .partner .. => False
  | _ => True
theorem ways_lw {w : World} {gs : Array Goroutine} {c : CommCase} (hp : ∀ r b, partners gs r b = []) : ∀ x ∈ ways w gs c, Lw x := by
  unfold ways
  simp only [hp]
  intro x hx
  split at hx
  · split at hx
    · split at hx
      · simp at hx; subst hx; trivial
      · split at hx
        · simp at hx; subst hx; trivial
        · simp at hx
    · split at hx
      · simp at hx; subst hx; trivial
      · split at hx
        · simp at hx; subst hx; trivial
        · simp at hx
    · simp at hx
  · simp at hx
theorem ways_alone {w : World} {gs gs' : Array Goroutine} {c : CommCase} (hp : ∀ r b, partners gs r b = []) (hp' : ∀ r b, partners gs' r b = []) : ways w gs c = ways w gs' c := by
  unfold ways
  simp only [hp, hp']
theorem ways_heap {w w' : World} {gs : Array Goroutine} {c : CommCase} (h : w'.heap = w.heap) : ways w' gs c = ways w gs c := by
  unfold ways
  rw [h]
theorem lw_getD {ws : List Way} (h : ∀ x ∈ ws, Lw x) (b : Nat) : Lw (ws.getD b .closed) := by
  rw [List.getD_eq_getElem?_getD]
  cases e : ws[b]? with
  | none => trivial
  | some x => exact h x (List.mem_of_getElem? e)
theorem lw_getD3 {l : List (Nat × CommCase × List Way)} (h : ∀ x ∈ l, ∀ y ∈ x.2.2, Lw y) (a b : Nat) : Lw ((l.getD a (0, default, [])).2.2.getD b .closed) := by
  refine lw_getD ?_ b
  rw [List.getD_eq_getElem?_getD]
  cases e : l[a]? with
  | none => simp
  | some x => exact h x (List.mem_of_getElem? e)
theorem choose_ok (q : Question) (w : World) : ∃ n d, (choose q).run P w = .ok n (w.at d) := by
  unfold choose
  simp only [Sem.run]
  split
  · exact ⟨0, w.drawn, rfl⟩
  · exact ⟨_, w.drawn + 1, rfl⟩
def Tame (op : MemOp) : Prop := op.g = 0 ∧ op.act.touch? = none ∧ (∀ m, op.act ≠ .mark m)
theorem waitingAt_none {rest : Rest} (hT : rest.timers = #[]) (cases : Array CommCase) (w : World) : waitingAt rest cases w = some w := by
  have : timerAhead rest w.os.mono cases = false := by
    unfold timerAhead
    rw [Array.any_eq_false]
    intro k hk
    split <;> simp [hT]
  unfold waitingAt
  simp [this]
theorem run_bind_ok {α β : Type} {s : Sem α} {f : α → Sem β} {w w' : World} {a : α} (h : s.run P w = .ok a w') : (s >>= f).run P w = (f a).run P w' := by
  have e := runT_bind' P s f w #[]
  have e2 := Sem.runT_fst P s w #[]
  rw [← Sem.runT_fst P (s >>= f) w #[], e]
  revert e2
  generalize s.runT P w #[] = x
  obtain ⟨r, es⟩ := x
  intro e2
  simp only at e2
  rw [h] at e2
  subst e2
  exact Sem.runT_fst P (f a) w' es
theorem illMade_heap {w w' : World} (h : w'.heap = w.heap) (cases : Array CommCase) : cases.any (illMade w') = cases.any (illMade w) := by
  have : illMade w' = illMade w := by funext c; unfold illMade; rw [h]
  rw [this]
theorem choose_sync {hz : Hz} (q : Question) {L W : World} (h : Sync hz L W) : ∃ n L', (choose q).run P L = .ok n L' ∧ (L'.drawn ≤ hz.h → ∃ W', (choose q).run P W = .ok n W' ∧ Sync hz L' W') ∧ L.drawn ≤ L'.drawn := by
  obtain ⟨n, d, hn⟩ := choose_ok (P := P) q L
  refine ⟨n, L.at d, hn, fun hd => ?_, ?_⟩
  · have := run_pf (t_choose (P := P) q).pf h
    rw [hn] at this
    rcases this with (ho | ⟨m, w, e⟩) | hr
    · have ho' : hz.h < (L.at d).drawn := ho
      omega
    · cases e
    · generalize Sem.run P (choose q) W = y at hr
      cases hr with
      | ok a h' => exact ⟨_, rfl, h'⟩
  · have := runT_drawn P (choose q) L #[]
    rw [Sem.runT_fst, hn] at this
    exact this
theorem run_drawn {α : Type} {s : Sem α} {w w' : World} {a : α} (e : s.run P w = .ok a w') : w.drawn ≤ w'.drawn := by
  have := runT_drawn P s w #[]
  rw [Sem.runT_fst, e] at this
  exact this
theorem pick_sync {hz : Hz} (ready : List (Nat × CommCase × List Way)) {L W : World} (h : Sync hz L W) : ∃ x L2,
    (do let a ← choose (.select ready.length)
        let (k, c, ws) := ready.getD a (0, default, [])
        let b ← choose (.extern "which waiting goroutine is the partner" ws.length)
        pure (k, c, ws.getD b .closed) : Sem (Nat × CommCase × Way)).run P L = .ok x L2 ∧
    (L2.drawn ≤ hz.h → ∃ W2, (do let a ← choose (.select ready.length)
                                 let (k, c, ws) := ready.getD a (0, default, [])
                                 let b ← choose (.extern "which waiting goroutine is the partner" ws.length)
                                 pure (k, c, ws.getD b .closed) : Sem (Nat × CommCase × Way)).run P W = .ok x W2 ∧ Sync hz L2 W2) ∧
    ((∀ x ∈ ready, ∀ y ∈ x.2.2, Lw y) → Lw x.2.2) := by
  obtain ⟨n1, L1, e1, f1, m1⟩ := choose_sync (P := P) (.select ready.length) h
  rw [run_bind_ok e1]
  have hl := fun hlw b => lw_getD3 (l := ready) hlw n1 b
  cases hrd : ready.getD n1 (0, default, []) with
  | mk k cw =>
    obtain ⟨c, ws⟩ := cw
    rw [hrd] at hl
    dsimp only
    obtain ⟨n2, d2, e2⟩ := choose_ok (P := P) (.extern "which waiting goroutine is the partner" ws.length) L1
    rw [run_bind_ok e2]
    refine ⟨_, _, rfl, fun hd => ?_, fun hlw => hl hlw n2⟩
    have hm := runT_drawn P (choose (.extern "which waiting goroutine is the partner" ws.length)) L1 #[]
    rw [Sem.runT_fst, e2] at hm
    obtain ⟨W1, e1', s1⟩ := f1 (Nat.le_trans hm hd)
    rw [run_bind_ok e1', hrd]
    dsimp only
    obtain ⟨n3, L3, e3, f3, _⟩ := choose_sync (P := P) (.extern "which waiting goroutine is the partner" ws.length) s1
    rw [e2] at e3
    cases e3
    obtain ⟨W2, e2', s2⟩ := f3 hd
    rw [run_bind_ok e2']
    exact ⟨_, rfl, s2⟩
theorem comm_alone {hz : Hz} {b : Prop} {rest rest0 : Rest} (hT : rest.timers = #[]) (hT0 : rest0.timers = #[]) {gs gs0 : Array Goroutine} (hp : ∀ r b, partners gs r b = []) (hp0 : ∀ r b, partners gs0 r b = []) {g : Goroutine} {cases : Array CommCase} {bl : Bool} {sh : CommShape} {L W : World} (hs : Sync hz L W) {m0 : Machine} {ops : Array MemOp}
    (h : communicate P rest0 gs0 0 g cases bl sh L = (.next m0, ops)) (hle : m0.world.drawn ≤ hz.h) :
    ∃ g' L' W', m0 = { world := L', gs := gs0.setIfInBounds 0 g', rest := rest0 } ∧ communicate P rest gs 0 g cases bl sh W = (.next { world := W', gs := gs.setIfInBounds 0 g', rest }, ops) ∧ Sync hz L' W' ∧ (∀ op ∈ ops, Tame op) ∧ g'.dying = g.dying ∧ L.drawn ≤ L'.drawn ∧ (g.status = .running → ∀ t, g'.status ≠ .sleeping t) ∧ (Hg b g.dying g.frame g.callers → Hg b g'.dying g'.frame g'.callers) := by
  unfold communicate at h ⊢
  simp only [waitingAt_none hT, waitingAt_none hT0] at h ⊢
  have hw : (fun (x : CommCase × Nat) => ((x.2, x.1, ways W gs x.1) : Nat × CommCase × List Way)) = fun x => (x.2, x.1, ways L gs0 x.1) := by
    funext x
    rw [ways_heap hs.heap, ways_alone hp hp0]
  have hlw : ∀ x ∈ ((cases.zipIdx.toList.map fun (x : CommCase × Nat) => ((x.2, x.1, ways L gs0 x.1) : Nat × CommCase × List Way)).filter fun (x : Nat × CommCase × List Way) => !x.2.2.isEmpty), ∀ y ∈ x.2.2, Lw y := by
    intro x hx y hy
    obtain ⟨x', -, rfl⟩ := List.mem_map.1 (List.mem_filter.1 hx).1
    exact ways_lw hp0 y hy
  rw [hw, hs.heap]
  generalize ((cases.zipIdx.toList.map fun (x : CommCase × Nat) => ((x.2, x.1, ways L gs0 x.1) : Nat × CommCase × List Way)).filter fun (x : Nat × CommCase × List Way) => !x.2.2.isEmpty) = ready at h hlw ⊢
  split at h
  · cases h
  rename_i hill
  rw [if_neg hill]
  split at h
  · rename_i hr
    rw [if_pos hr]
    split at h
    · rename_i hb
      rw [if_pos hb]
      simp only [Prod.mk.injEq, Stepped.next.injEq] at h
      obtain ⟨rfl, rfl⟩ := h
      exact ⟨_, _, _, rfl, rfl, hs, by simp, rfl, Nat.le_refl _, fun hst t => by first | (intro h; cases h; done) | (show g.status ≠ _; rw [hst]; simp; done), fun hg => hg⟩
    · rename_i hb
      rw [if_neg hb]
      simp only [Prod.mk.injEq, Stepped.next.injEq] at h
      obtain ⟨rfl, rfl⟩ := h
      exact ⟨_, _, _, rfl, rfl, hs, by simp, rfl, Nat.le_refl _, fun hst t => by first | (intro h; cases h; done) | (show g.status ≠ _; rw [hst]; simp; done), fun hg => hg_finish hg _⟩
  · rename_i hr
    rw [if_neg hr]
    obtain ⟨⟨k, c, way⟩, L2, e, f, hl⟩ := pick_sync (P := P) ready hs
    have hm : L.drawn ≤ L2.drawn := by
      exact run_drawn e
    rw [e] at h
    replace hl : Lw way := hl hlw
    dsimp only at h
    have hpanic : ∀ w : World, (runtimePanic (.plain "send on closed channel") : Sem Unit).run P w = .halt (.panic (.iface P.rt.plainError (strVal "send on closed channel"))) w := fun _ => rfl
    simp only [hpanic] at h
    split at h
    ·
      simp only [Prod.mk.injEq, Stepped.next.injEq] at h
      obtain ⟨rfl, rfl⟩ := h
      obtain ⟨W2, e', s2⟩ := f hle
      rw [e']
      dsimp only
      simp only [hpanic]
      exact ⟨_, _, _, rfl, rfl, s2, by simp, rfl, hm, fun hst t => by first | (intro h; cases h; done) | (show g.status ≠ _; rw [hst]; simp; done), fun hg => hg_raise hg _⟩
    · simp only [Prod.mk.injEq, Stepped.next.injEq] at h
      obtain ⟨rfl, rfl⟩ := h
      obtain ⟨W2, e', s2⟩ := f hle
      rw [e']
      dsimp only
      refine ⟨_, _, _, rfl, rfl, s2, ?_, rfl, hm, fun hst t => by first | (intro h; cases h; done) | (show g.status ≠ _; rw [hst]; simp; done), fun hg => hg_finish hg _⟩
      intro op hop
      simp only [List.mem_toArray, List.mem_singleton] at hop
      subst hop
      exact ⟨rfl, rfl, by simp⟩
    · rename_i hheap hsend
      simp only [Prod.mk.injEq, Stepped.next.injEq] at h
      obtain ⟨rfl, rfl⟩ := h
      obtain ⟨W2, e', s2⟩ := f hle
      rw [e']
      dsimp only
      rw [s2.heap, hheap, hsend]
      dsimp only
      refine ⟨_, _, _, rfl, rfl, s2.withHeap _, ?_, rfl, hm, fun hst t => by first | (intro h; cases h; done) | (show g.status ≠ _; rw [hst]; simp; done), fun hg => hg_finish hg _⟩
      intro op hop
      simp only [List.mem_toArray, List.mem_cons, List.not_mem_nil, or_false] at hop
      rcases hop with rfl | rfl <;> exact ⟨rfl, rfl, by simp⟩
    · rename_i hheap hsend
      rw [hp0] at h
      simp only [Prod.mk.injEq, Stepped.next.injEq] at h
      obtain ⟨rfl, rfl⟩ := h
      obtain ⟨W2, e', s2⟩ := f hle
      rw [e']
      dsimp only
      rw [s2.heap, hheap, hsend]
      dsimp only
      rw [hp]
      refine ⟨_, _, _, rfl, rfl, s2.withHeap _, ?_, rfl, hm, fun hst t => by first | (intro h; cases h; done) | (show g.status ≠ _; rw [hst]; simp; done), fun hg => hg_finish hg _⟩
      intro op hop
      simp only [List.mem_toArray, List.mem_cons, List.not_mem_nil, or_false] at hop
      rcases hop with rfl | rfl <;> exact ⟨rfl, rfl, by simp⟩
    · exact hl.elim
    · exact hl.elim
    · cases h
end Go.Co
end
section
namespace Go.Co
open Go Go.Conc
variable {P : Program}
theorem Sync.refl (h : Nat) (w : World) : Sync ⟨h, w.tape, 0, 0⟩ w w := ⟨w.drawn, rfl, rfl, fun _ _ _ => rfl⟩
def Oth (P : Program) (g : Goroutine) (gs : Array Goroutine) : Prop := ∀ j x, 0 < j → gs[j]? = some x → (x.status = .running ∨ x.status = .finished) ∧ ∀ g' w', woken P g g' w' x = x
theorem oth_partners {g : Goroutine} {gs : Array Goroutine} (h : Oth P g gs) (r : Nat) (b : Bool) : partners (gs.setIfInBounds 0 ph) r b = [] := by
  refine partners_nil fun j x hx => offersAt_of_not_blocked ?_ r b
  rcases getElem?_stand gs 0 j x hx with ⟨_, rfl⟩ | ⟨hj, hx⟩
  · simp [ph]
  · rcases (h j x (by omega) hx).1 with e | e <;> simp [e]
theorem oth_one {g : Goroutine} : Oth P g #[g] := fun j x hj hx => by
  have := (Array.getElem?_eq_some_iff.1 hx).1
  simp at this
  omega
theorem oth_map {g : Goroutine} {gs : Array Goroutine} (h : Oth P g gs) (g' g'' : Goroutine) (w' : World) : (gs.map (woken P g g' w')).setIfInBounds 0 g'' = gs.setIfInBounds 0 g'' := by
  apply Array.ext_getElem?
  intro j
  by_cases hj : 0 = j
  · grind
  · rw [Array.getElem?_setIfInBounds_ne hj, Array.getElem?_setIfInBounds_ne hj, Array.getElem?_map]
    cases hx : gs[j]? with
    | none => rfl
    | some x => simp [(h j x (by omega) hx).2]
theorem deaf_tame (t : Trace) : ∀ (u : List MemOp), (∀ op ∈ u, Tame op) → Deaf (t ++ u.toArray) 0 = Deaf t 0 := by
  intro u hu
  rw [Deaf_append]
  generalize Deaf t 0 = d
  induction u generalizing d with
  | nil => rfl
  | cons y u ih =>
    rw [List.foldl_cons]
    have hy := hu y (by simp)
    have : deafStep 0 d y = d := by
      unfold deafStep
      split
      · rename_i h; exact absurd h (hy.2.2 _)
      · rename_i h; exact absurd h (hy.2.2 _)
      · rfl
    rw [this]
    exact ih (fun op hop => hu op (by simp [hop])) d
abbrev Fr (g : Goroutine) : Prop := Hg False g.dying g.frame g.callers
theorem solo_inj {g g' : Goroutine} {w w' : World} {o o' : Array MemOp} (e : ((Stepped.next (solo g w), o) : Stepped × Array MemOp) = (.next (solo g' w'), o')) : g = g' ∧ w = w' ∧ o = o' := by
  simp [solo] at e
  exact ⟨e.1.2, e.1.1, e.2⟩
theorem runT_coro {gs : Array Goroutine} {g g1 : Goroutine} {w w1 : World} {sl : Option (Nat × Nat)} {c : Nat} {x : Bool} {es : Array Event} (h0 : gs[0]? = some g) (h : stepG P true g w = .coroswitch g1 c x w1 es) :
    runT P (crowd gs w sl) 0 = ((match w1.heap[c]? with
      | some (.coro (some h)) => .next { world := { w1 with heap := w1.heap.setIfInBounds c (.coro (if x then none else some 0)) }, gs := (gs.setIfInBounds 0 (if x then { g1 with status := .finished } else { g1 with frame := g1.frame.finish undef, status := .parked })).modify h (fun o => { o with status := .running }), rest := { timers := #[], alone := none, slice := sl } }
      | some (.coro none) => (match endThrow g1.frame "coroswitch on exited coro" w1 with
        | .go g w _ => .next { world := w, gs := gs.setIfInBounds 0 g, rest := { timers := #[], alone := none, slice := sl } }
        | _ => .ended (.stuck "" "") w1)
      | _ => .ended (.stuck "coroswitch: no coroutine" "") w1), MemOp.ofEvents 0 g.frame.fn g.frame.place es) := by
  obtain ⟨hlt, rfl⟩ := Array.getElem?_eq_some_iff.1 h0
  have hsw := swapAt_of_lt hlt { (default : Goroutine) with status := .finished }
  show runT P { world := w, gs := gs, rest := { timers := #[], alone := none, slice := sl } } 0 = _
  unfold runT
  simp only [hsw, show (0 == 0) = true from rfl, h, GStep.es, set_setIfInBounds hlt]
  rfl
theorem own_step {hz : Hz} (hP : Plain P) {g : Goroutine} (hd : g.dying = none) (hf : Fr g) {L W : World} (hs : Sync hz L W) {g' : Goroutine} {L' : World} {ops : Array MemOp}
    (h : runT P (solo g L) 0 = (.next (solo g' L'), ops)) (hr' : g'.status = .running) (hd' : g'.dying = none) (hle : L'.drawn ≤ hz.h) {gs : Array Goroutine} {sl : Option (Nat × Nat)} (h0 : gs[0]? = some g) (hO : Oth P g gs) :
    ∃ W', Sync hz L' W' ∧ runT P (crowd gs W sl) 0 = (.next (crowd (gs.setIfInBounds 0 g') W' sl), ops) ∧ (∀ op ∈ ops, op.g = 0) ∧ (∀ t, Deaf t 0 = 0 → Deaf (t ++ ops) 0 = 0) ∧ Fr g' := by
  have hok := stepG_ok (b := False) hP true g hf L
  have hsy := stepG_sync hP true g hd hf.1 hs
  cases hst : stepG P true g L with
  | go g1 w1 es =>
    rw [hst] at hok hsy
    have e := runT_solo_go hst
    rw [h] at e
    obtain ⟨rfl, rfl, rfl⟩ := solo_inj e
    obtain ⟨W', hW, hs'⟩ := hsy hd' hle
    refine ⟨W', hs', ?_, ?_, ?_, hok.2.1⟩
    · have := runT_crowd_go (P := P) (sl := sl) (i := 0) h0 (show stepG P (0 == 0) g W = _ from hW)
      rw [oth_map hO] at this
      exact this
    · intro op hop
      rw [ofEvents_eq] at hop
      obtain ⟨e, _, rfl⟩ := Array.mem_map.1 hop
      rfl
    · intro t ht
      rw [Deaf_own, ht]
      exact hok.1
  | comm g1 cases bl sh w1 es =>
    rw [hst] at hok hsy
    have e := runT_crowd_comm (P := P) (gs := #[g]) (sl := none) (i := 0) rfl (show stepG P (0 == 0) g L = _ from hst)
    rw [← solo_eq_crowd, h] at e
    simp only [Prod.mk.injEq] at e
    obtain ⟨e1, e2⟩ := e
    generalize hc : communicate P (solo g L).rest (#[g].setIfInBounds 0 ph) 0 g1 cases bl sh w1 = cm at e1 e2
    obtain ⟨c1, c2⟩ := cm
    subst e1
    dsimp only at e2
    have e6 : g'.dying = g1.dying ∧ w1.drawn ≤ L'.drawn := by
      obtain ⟨g2, L2, W2, h1, h2, h3, h4, h5, h5', _, h6⟩ := comm_alone (P := P) (b := False) (rest := (crowd #[g] L none).rest) (gs := #[g].setIfInBounds 0 ph) rfl rfl (oth_partners (P := P) oth_one) (oth_partners (P := P) oth_one) (Sync.refl L'.drawn w1) hc (Nat.le_refl _)
      have h1' : (solo g' L') = solo g2 L2 := by
        rw [h1]; simp [solo]
      simp [solo] at h1'
      obtain ⟨rfl, rfl⟩ := h1'
      exact ⟨h5, h5'⟩
    obtain ⟨W1, hW, hs1⟩ : ∃ W1, stepG P true g W = .comm g1 cases bl sh W1 es ∧ Sync hz w1 W1 := hsy (e6.1 ▸ hd') (Nat.le_trans e6.2 hle)
    obtain ⟨g2, L2, W2, h1, h2, h3, h4, h5, _, _, h6⟩ := comm_alone (P := P) (b := False) (rest := (crowd gs W sl).rest) (gs := gs.setIfInBounds 0 ph) rfl rfl (oth_partners hO) (oth_partners (P := P) oth_one) hs1 hc hle
    have h1' : (solo g' L') = solo g2 L2 := by
      rw [h1]; simp [solo]
    simp [solo] at h1'
    obtain ⟨rfl, rfl⟩ := h1'
    have := runT_crowd_comm (P := P) (sl := sl) (i := 0) h0 (show stepG P (0 == 0) g W = _ from hW)
    refine ⟨W2, h3, ?_, ?_, ?_, h6 hok.2.1⟩
    · rw [this, h2, e2]
      simp [crowd]
    · intro op hop
      rw [e2] at hop
      rcases Array.mem_append.1 hop with hop | hop
      · rw [ofEvents_eq] at hop
        obtain ⟨e, _, rfl⟩ := Array.mem_map.1 hop
        rfl
      · exact (h4 op hop).1
    · intro t ht
      have e5 : t ++ ops = (t ++ MemOp.ofEvents 0 g.frame.fn g.frame.place es) ++ c2.toList.toArray := by rw [e2]; simp
      rw [e5, deaf_tame _ _ (fun op hop => h4 op (by simpa using hop)), Deaf_own, ht]
      exact hok.1
  | coroswitch g1 c x w1 es =>
    rw [hst] at hok hsy
    have e := runT_coro (gs := #[g]) (sl := none) rfl hst
    rw [← solo_eq_crowd, h] at e
    obtain ⟨eh, eo⟩ := Prod.mk.inj e
    cases hc : w1.heap[c]? with
    | none => rw [hc] at eh; cases eh
    | some o =>
      rw [hc] at eh
      cases o <;> try cases eh
      rename_i oh
      cases oh with
      | none =>
        dsimp only [endThrow, dieOf] at eh
        simp [solo] at eh
        obtain ⟨-, rfl⟩ := eh
        simp at hd'
      | some k =>
        dsimp only at eh
        obtain ⟨me, hme⟩ : ∃ f : Goroutine, f = (if x then { g1 with status := .finished } else { g1 with frame := g1.frame.finish undef, status := .parked }) := ⟨_, rfl⟩
        rw [← hme] at eh
        have hmf : me.status ≠ .running ∧ me.dying = g1.dying ∧ Hg False me.dying me.frame me.callers := by
          subst hme
          cases x
          · exact ⟨by simp, rfl, hg_finish hok.2 _⟩
          · exact ⟨by simp, rfl, hok.2⟩
        have h1 : (#[g].setIfInBounds 0 me) = #[me] := by simp
        rw [h1] at eh
        by_cases hk : k = 0
        · subst hk
          rw [modify_eq_set #[me] 0 _ me rfl] at eh
          simp [solo] at eh
          obtain ⟨rfl, rfl⟩ := eh
          obtain ⟨W1, hW, hs1⟩ := hsy (hmf.2.1 ▸ hd') hle
          have := runT_coro (sl := sl) h0 hW
          rw [hs1.heap, hc, ← hme] at this
          dsimp only at this
          have hlt : 0 < gs.size := (Array.getElem?_eq_some_iff.1 h0).1
          rw [modify_eq_set (gs.setIfInBounds 0 me) 0 _ me (by simp [hlt])] at this
          refine ⟨_, hs1.withHeap _, ?_, ?_, ?_, hmf.2.2⟩
          · rw [this, eo]
            simp [crowd]
          · intro op hop
            rw [eo, ofEvents_eq] at hop
            obtain ⟨e, _, rfl⟩ := Array.mem_map.1 hop
            rfl
          · intro t ht
            rw [eo, Deaf_own]
            show deafBehind (Deaf t 0) es = 0
            rw [ht]
            exact hok.1
        · exfalso
          have : (#[me]).modify k (fun o => { o with status := .running }) = #[me] := by grind
          rw [this] at eh
          simp [solo] at eh
          obtain ⟨-, rfl⟩ := eh
          exact hmf.1 hr'
  | spawn g1 ch w1 es =>
    have e := runT_solo_spawn hst
    rw [h] at e
    simp [solo, duo] at e
  | ended o w1 es =>
    have e := runT_many_ended (P := P) (gs := #[g]) (sl := none) (i := 0) rfl (show stepG P (0 == 0) g L = _ from hst)
    rw [← solo_eq_crowd, h] at e
    simp at e
  | _ => rw [hst] at hok; exact hok.elim
end Go.Co
end
section
namespace Go.Co
open Go Go.Conc
variable {P : Program}
theorem endWith_ended (w : World) (fd : Nat) (t : ByteArray) (o : Outcome) : ∃ o' w', endWith w fd t o = .ended o' w' := by
  unfold endWith
  dsimp only
  split
  · split <;> exact ⟨_, _, rfl⟩
  · grind
  · grind
theorem solo_stuck {g : Goroutine} {w : World} (h1 : g.status ≠ .running) (h2 : ∀ t, g.status ≠ .sleeping t) {m' : Machine} {ops : Array MemOp} (h : stepT P (solo g w) = (.next m', ops)) : m' = solo g w := by
  have hrun : runnable (solo g w).gs (solo g w).world.os.mono = [] := by
    cases hs : g.status <;> simp [solo, runnable_eq, Goroutine.canRun, List.range_succ, hs] <;> first | exact absurd hs h1 | exact absurd hs (h2 _)
  have hah : ahead (solo g w) false = none := by
    cases hs : g.status <;> simp [solo, ahead, hs] <;> first | exact absurd hs h1 | exact absurd hs (h2 _)
  have hdue : due (solo g w).rest.timers (solo g w).world.os.mono = [] := by simp [solo, due]
  have hm : move P (solo g w) = .machine (.next (solo g w)) ∨ ∃ o w', move P (solo g w) = .machine (.ended o w') := by
    have e1 : move P (solo g w) = askOn P (solo g w) := rfl
    rw [e1]
    unfold askOn
    simp only [hrun, hdue, hah, List.isEmpty_nil, if_true, Sem.run, pure, List.length_nil, Nat.not_lt_zero, if_false]
    split
    · grind
    · grind
  rcases hm with hm | ⟨o, w', hm⟩
  · unfold stepT at h
    rw [hm] at h
    simp only [Prod.mk.injEq, Stepped.next.injEq] at h
    exact h.1.symm
  · unfold stepT at h
    rw [hm] at h
    simp at h
theorem set_one (g me : Goroutine) : (#[g].setIfInBounds 0 me) = #[me] := by simp
theorem solo_class (hP : Plain P) {b : Prop} {g : Goroutine} {w : World} (hr : g.status = .running) (hg : Hg b g.dying g.frame g.callers) {m' : Machine} {ops : Array MemOp} (h : stepT P (solo g w) = (.next m', ops)) (h1 : m'.gs.size ≤ 1) :
    ∃ g' w', m' = solo g' w' ∧ Hg b g'.dying g'.frame g'.callers ∧ ∀ t, g'.status ≠ .sleeping t := by
  rw [stepT_solo hr] at h
  have hok := stepG_ok (b := b) hP true g hg w
  cases hst : stepG P true g w with
  | go g1 w1 es =>
    rw [hst] at hok
    rw [runT_solo_go hst] at h
    simp only [Prod.mk.injEq, Stepped.next.injEq] at h
    exact ⟨g1, w1, h.1.symm, hok.2.1, hok.2.2.1⟩
  | comm g1 cases bl sh w1 es =>
    rw [hst] at hok
    have e := runT_crowd_comm (P := P) (gs := #[g]) (sl := none) (i := 0) rfl (show stepG P (0 == 0) g w = _ from hst)
    rw [← solo_eq_crowd, h] at e
    simp only [Prod.mk.injEq] at e
    obtain ⟨e1, e2⟩ := e
    generalize hc : communicate P (solo g w).rest (#[g].setIfInBounds 0 ph) 0 g1 cases bl sh w1 = cm at e1 e2
    obtain ⟨c1, c2⟩ := cm
    subst e1
    obtain ⟨g2, L2, W2, h1, h2, h3, h4, h5, h5', h7, h6⟩ := comm_alone (P := P) (b := b) (rest := (crowd #[g] w none).rest) (gs := #[g].setIfInBounds 0 ph) rfl rfl (oth_partners (P := P) oth_one) (oth_partners (P := P) oth_one) (Sync.refl m'.world.drawn w1) hc (Nat.le_refl _)
    exact ⟨g2, L2, by rw [h1]; simp [solo], h6 hok.2.1, h7 hok.2.2⟩
  | coroswitch g1 c x w1 es =>
    rw [hst] at hok
    have e := runT_coro (gs := #[g]) (sl := none) rfl hst
    rw [← solo_eq_crowd, h] at e
    obtain ⟨eh, eo⟩ := Prod.mk.inj e
    cases hc : w1.heap[c]? with
    | none => rw [hc] at eh; cases eh
    | some o =>
      rw [hc] at eh
      cases o <;> try cases eh
      rename_i oh
      cases oh with
      | none =>
        dsimp only [endThrow, dieOf] at eh
        simp only [Stepped.next.injEq] at eh
        rw [set_one] at eh
        refine ⟨_, _, eh, ?_, by simp⟩
        exact ⟨hok.2.1, fun _ hf => absurd hf (List.not_mem_nil), ⟨fun _ hx => (nomatch hx), fun d hd => .inl (by cases hd; rfl)⟩⟩
      | some k =>
        dsimp only at eh
        obtain ⟨me, hme⟩ : ∃ f : Goroutine, f = (if x then { g1 with status := .finished } else { g1 with frame := g1.frame.finish undef, status := .parked }) := ⟨_, rfl⟩
        rw [← hme] at eh
        have hmf : (∀ t, me.status ≠ .sleeping t) ∧ Hg b me.dying me.frame me.callers := by
          subst hme
          cases x
          · exact ⟨by simp, hg_finish hok.2 _⟩
          · exact ⟨by simp, hok.2⟩
        have h1 : (#[g].setIfInBounds 0 me) = #[me] := by simp
        rw [h1] at eh
        simp only [Stepped.next.injEq] at eh
        by_cases hk : k = 0
        · subst hk
          rw [modify_eq_set #[me] 0 _ me rfl, set_one] at eh
          refine ⟨_, _, eh, ?_, by simp⟩
          exact hmf.2
        · have : (#[me]).modify k (fun o => { o with status := .running }) = #[me] := by
            apply Array.ext_getElem?
            intro j
            rw [Array.getElem?_modify]
            split
            · grind
            · rfl
          rw [this] at eh
          exact ⟨me, _, eh, hmf.2, hmf.1⟩
  | spawn g1 ch w1 es =>
    rw [runT_solo_spawn hst] at h
    simp only [Prod.mk.injEq, Stepped.next.injEq] at h
    rw [← h.1] at h1
    simp [duo] at h1
  | ended o w1 es =>
    have e := runT_many_ended (P := P) (gs := #[g]) (sl := none) (i := 0) rfl (show stepG P (0 == 0) g w = _ from hst)
    rw [← solo_eq_crowd, h] at e
    simp at e
  | _ => rw [hst] at hok; exact hok.elim
end Go.Co
end
