/- The law CutKnown: part 8: Co1 Co2a. By an AI agent. -/
import Derived.Calls
import Derived.Laws.Sem
import GoSem.ClaimLeaving
section
namespace Go.Co
open Go
def _root_.Go.World.re (w : World) (τ : Nat → Question → Nat) (d : Nat) : World := { w with tape := τ, drawn := d }
@[simp] theorem heap_re (w : World) (τ : Nat → Question → Nat) (d : Nat) : (w.re τ d).heap = w.heap := rfl
@[simp] theorem os_re (w : World) (τ : Nat → Question → Nat) (d : Nat) : (w.re τ d).os = w.os := rfl
@[simp] theorem output_re (w : World) (τ : Nat → Question → Nat) (d : Nat) : (w.re τ d).output = w.output := rfl
@[simp] theorem tape_re (w : World) (τ : Nat → Question → Nat) (d : Nat) : (w.re τ d).tape = τ := rfl
@[simp] theorem drawn_re (w : World) (τ : Nat → Question → Nat) (d : Nat) : (w.re τ d).drawn = d := rfl
@[simp] theorem re_re (w : World) (τ τ' : Nat → Question → Nat) (d d' : Nat) : (w.re τ d).re τ' d' = w.re τ' d' := rfl
theorem re_self (w : World) : w.re w.tape w.drawn = w := rfl
@[simp] theorem cell?_re (w : World) (τ : Nat → Question → Nat) (d : Nat) (a : Addr) : (w.re τ d).cell? a = w.cell? a := rfl
@[simp] theorem frozen?_re (w : World) (τ : Nat → Question → Nat) (d : Nat) (a : Addr) : (w.re τ d).frozen? a = w.frozen? a := rfl
@[simp] theorem shape?_re (w : World) (τ : Nat → Question → Nat) (d : Nat) (r : Nat) : (w.re τ d).shape? r = w.shape? r := rfl
theorem setCell_re (w : World) (τ : Nat → Question → Nat) (d : Nat) (a : Addr) (v : Value) : (w.re τ d).setCell a v = (w.setCell a v).re τ d := rfl
theorem freeze_re (w : World) (τ : Nat → Question → Nat) (d : Nat) (a : Addr) (n : Nat) : (w.re τ d).freeze a n = (w.freeze a n).re τ d := by
  unfold World.freeze; split <;> rfl
theorem farLoad_re (p : Program) (w : World) (τ : Nat → Question → Nat) (d : Nat) (a : Addr) (b : Bool) : (w.re τ d).farLoad p a b = w.farLoad p a b := rfl
theorem viewStore_re (p : Program) (w : World) (τ : Nat → Question → Nat) (d : Nat) (x : Addr) (u : TypeId) (k : Addr) (v : Value) (b : Bool) :
    (w.re τ d).viewStore p x u k v b = (w.viewStore p x u k v b).map fun r => (r.1.re τ d, r.2) := by
  unfold World.viewStore
  rw [show (w.re τ d).seen p x u k b = w.seen p x u k b from rfl]
  cases tight p p.depth u with
  | false => rfl
  | true =>
    cases w.seen p x u k b with
    | error e => rfl
    | ok r =>
      obtain ⟨c, e, fr, first, like, cells⟩ := r
      simp only [bind, Except.bind, pure, Except.pure, Bool.not_true, Bool.false_eq_true, if_false]
      cases v.bytes? with
      | none => rfl
      | some bytes =>
        simp only
        split
        · rfl
        · split <;> simp_all [Except.map, World.re] <;> rfl
theorem farStore_re (p : Program) (w : World) (τ : Nat → Question → Nat) (d : Nat) (a : Addr) (v : Value) (b : Bool) :
    (w.re τ d).farStore p a v b = match w.farStore p a v b with | .ok r => .ok (r.1.re τ d, r.2) | .error e => .error e := by
  unfold World.farStore
  rw [show (w.re τ d).heap = w.heap from rfl, show (w.re τ d).noCell a = w.noCell a from rfl]
  split
  · rename_i at_ u' _
    rw [viewStore_re]
    cases w.viewStore p at_ u' a v b <;> rfl
  · rfl
theorem farStore_tape {p : Program} {w w' : World} {a : Addr} {v : Value} {b : Bool} {l : List Addr} (h : w.farStore p a v b = .ok (w', l)) : w'.tape = w.tape ∧ w'.drawn = w.drawn := by
  have e := farStore_re p w w.tape w.drawn a v b
  rw [re_self, h] at e
  simp only [Except.ok.injEq, Prod.mk.injEq] at e
  rw [e.1]
  exact ⟨rfl, rfl⟩
@[simp] theorem setCell_drawn (w : World) (a : Addr) (v : Value) : (w.setCell a v).drawn = w.drawn := rfl
theorem freeze_tape (w : World) (a : Addr) (n : Nat) : (w.freeze a n).tape = w.tape ∧ (w.freeze a n).drawn = w.drawn := by unfold World.freeze; split <;> exact ⟨rfl, rfl⟩
theorem ask_drawn {α : Type} : ∀ (a : Ask α) (w : World), w.drawn ≤ (w.ask a).2.drawn
  | .done _, _ => Nat.le_refl _
  | .ask what range k, w => by
    unfold World.ask
    dsimp only
    split
    · exact ask_drawn (k 0) w
    · exact Nat.le_trans (Nat.le_succ _) (ask_drawn (k _) { w with drawn := w.drawn + 1 })
theorem sys_drawn (c : Sys) (w : World) : w.drawn ≤ (w.sys c).2.drawn := by
  have ha := ask_drawn (Kernel.perform c w.os) w
  unfold World.sys
  generalize w.ask (Kernel.perform c w.os) = x at ha
  obtain ⟨⟨r, o⟩, l⟩ := x
  cases r <;> first | exact Nat.le_refl _ | exact ha
def _root_.Go.Result.wld {α : Type} : Result α → World
  | .ok _ w | .halt _ w => w
theorem runT_drawn {α : Type} (P : Program) (s : Sem α) : ∀ (w : World) (es : Array Event), w.drawn ≤ (s.runT P w es).1.wld.drawn := by
  induction s with
  | pure a => intro w es; exact Nat.le_refl _
  | load m a k ih =>
    intro w es
    simp only [Sem.runT]
    split
    · grind
    · split
      · grind
      · exact Nat.le_refl _
  | store m a v k ih =>
    intro w es
    cases v <;> simp only [Sem.runT] <;> first
        | exact Nat.le_refl _
        | (split
           · by_cases hz : w.frozen? a = true
             · simp only [hz, if_true]; exact Nat.le_refl _
             · simp only [hz, if_false, Bool.false_eq_true]; exact ih (w.setCell a _) _
           · generalize hf : w.farStore P a _ _ = r
             cases r with
             | error e => exact Nat.le_refl _
             | ok r =>
               obtain ⟨w', l⟩ := r
               have hk := farStore_tape hf
               exact hk.2 ▸ ih w' _)
  | new o k ih => intro w es; exact ih w.heap.size { w with heap := w.heap.push o } _
  | shape r k ih => intro w es; exact ih _ _ _
  | freeze a n k ih => intro w es; exact (freeze_tape w a n).2 ▸ ih (w.freeze a n) es
  | frozen a k ih => intro w es; exact ih _ _ _
  | getObj r k ih =>
    intro w es
    simp only [Sem.runT]
    split
    · exact Nat.le_refl _
    · grind
    · exact Nat.le_refl _
  | setObj r o k ih =>
    intro w es
    simp only [Sem.runT]
    split
    · exact Nat.le_refl _
    · grind
    · exact Nat.le_refl _
  | choose q k ih =>
    intro w es
    simp only [Sem.runT]
    split
    · grind
    · grind
  | sys c k ih =>
    intro w es
    exact Nat.le_trans (sys_drawn c w) (ih _ _ _)
  | program k ih => intro w es; exact ih _ _ _
  | mark m k ih => intro w es; exact ih _ _
  | halt x => intro w es; exact Nat.le_refl _
structure Hz where
  h : Nat
  τ : Nat → Question → Nat
  a : Nat
  b : Nat
def Sync (hz : Hz) (L W : World) : Prop := ∃ d, W = L.re hz.τ d ∧ d + hz.a = L.drawn + hz.b ∧ ∀ i q, L.drawn + i < hz.h → L.tape (L.drawn + i) q = hz.τ (d + i) q
variable {hz : Hz}
theorem Sync.heap {L W : World} (h : Sync hz L W) : W.heap = L.heap := by obtain ⟨_, rfl, _, _⟩ := h; rfl
theorem Sync.os {L W : World} (h : Sync hz L W) : W.os = L.os := by obtain ⟨_, rfl, _, _⟩ := h; rfl
theorem Sync.output {L W : World} (h : Sync hz L W) : W.output = L.output := by obtain ⟨_, rfl, _, _⟩ := h; rfl
theorem Sync.eq {L W : World} (h : Sync hz L W) : W = L.re W.tape W.drawn := by obtain ⟨_, rfl, _, _⟩ := h; rfl
theorem Sync.answer {L W : World} (h : Sync hz L W) (hd : L.drawn < hz.h) (q : Question) : W.tape W.drawn q = L.tape L.drawn q := by
  obtain ⟨d, rfl, _, ht⟩ := h; exact (ht 0 q hd).symm
theorem Sync.drew {L W : World} (h : Sync hz L W) : Sync hz { L with drawn := L.drawn + 1 } { W with drawn := W.drawn + 1 } := by
  obtain ⟨d, rfl, hd, ht⟩ := h
  refine ⟨d + 1, rfl, by simp only; omega, fun i q hi => ?_⟩
  have := ht (1 + i) q (by simp only at hi; omega)
  simpa [Nat.add_assoc] using this
theorem Sync.withHeap {L W : World} (h : Sync hz L W) (H : Array Obj) : Sync hz { L with heap := H } { W with heap := H } := by
  obtain ⟨d, rfl, hd, ht⟩ := h; exact ⟨d, rfl, hd, ht⟩
theorem Sync.setCell {L W : World} (h : Sync hz L W) (a : Addr) (v : Value) : Sync hz (L.setCell a v) (W.setCell a v) := by
  obtain ⟨d, rfl, hd, ht⟩ := h; exact ⟨d, rfl, hd, ht⟩
theorem Sync.freeze {L W : World} (h : Sync hz L W) (a : Addr) (n : Nat) : Sync hz (L.freeze a n) (W.freeze a n) := by
  obtain ⟨d, rfl, hd, ht⟩ := h
  have := freeze_tape L a n
  refine ⟨d, freeze_re _ _ _ _ _, ?_, ?_⟩
  · grind
  · grind
theorem ask_sync {α : Type} : ∀ (a : Ask α) {L W : World}, Sync hz L W → hz.h < (L.ask a).2.drawn ∨ ((L.ask a).1 = (W.ask a).1 ∧ Sync hz (L.ask a).2 (W.ask a).2)
  | .done _, _, _, h => .inr ⟨rfl, h⟩
  | .ask what range k, L, W, h => by
    by_cases hd : L.drawn < hz.h
    · unfold World.ask
      dsimp only
      split
      · exact ask_sync (k 0) h
      · rw [h.answer hd]
        exact ask_sync _ h.drew
    · unfold World.ask
      dsimp only
      split
      · exact ask_sync (k 0) h
      · refine .inl (Nat.lt_of_lt_of_le ?_ (ask_drawn _ _))
        simp only; omega
theorem sys_sync (c : Sys) {L W : World} (h : Sync hz L W) : (L.sys c).1 = .wouldBlock ∨ hz.h < (L.sys c).2.drawn ∨ ((L.sys c).1 = (W.sys c).1 ∧ Sync hz (L.sys c).2 (W.sys c).2) := by
  have ha := ask_sync (Kernel.perform c L.os) h
  unfold World.sys
  rw [h.os]
  generalize L.ask (Kernel.perform c L.os) = x at ha
  generalize W.ask (Kernel.perform c L.os) = y at ha
  obtain ⟨⟨r, o⟩, l⟩ := x
  obtain ⟨⟨r', o'⟩, l'⟩ := y
  rcases ha with ha | ⟨h1, h2⟩
  · grind
  simp only [Prod.mk.injEq] at h1
  obtain ⟨rfl, rfl⟩ := h1
  obtain ⟨d, h3, hd, ht⟩ := h2
  simp only at h3
  subst h3
  cases r <;> first | exact .inl rfl | exact .inr (.inr ⟨rfl, d, rfl, hd, ht⟩)
inductive SyncR {α : Type} (hz : Hz) : Result α → Result α → Prop
  | ok (a : α) {L W : World} (h : Sync hz L W) : SyncR hz (.ok a L) (.ok a W)
  | halt (x : Halt) {L W : World} (h : Sync hz L W) : SyncR hz (.halt x L) (.halt x W)
def Over {α : Type} (hz : Hz) (r : Result α) : Prop := hz.h < r.wld.drawn ∨ ∃ m w, r = .halt (.unsupported (.noEntry m)) w
def Sim {α : Type} (hz : Hz) (x y : Result α × Array Event) : Prop := Over hz x.1 ∨ (SyncR hz x.1 y.1 ∧ x.2 = y.2)
def Pf (P : Program) {α : Type} (s : Sem α) : Prop := ∀ (hz : Hz) (L W : World) (es : Array Event), Sync hz L W → Sim hz (s.runT P L es) (s.runT P W es)
def NS (P : Program) {α : Type} : Sem α → Prop
  | .pure _ | .halt _ => True
  | .load _ _ k => ∀ v, NS P (k v)
  | .store _ _ _ k => NS P k
  | .new _ k => ∀ r, NS P (k r)
  | .shape _ k => ∀ r, NS P (k r)
  | .freeze _ _ k => NS P k
  | .frozen _ k => ∀ r, NS P (k r)
  | .getObj _ k => ∀ r, NS P (k r)
  | .setObj _ _ k => NS P k
  | .choose _ k => ∀ r, NS P (k r)
  | .sys _ _ => False
  | .program k => NS P (k P)
  | .mark _ k => NS P k
theorem pf_of_ns {α : Type} (P : Program) (s : Sem α) : NS P s → Pf P s := by
  intro hn hz
  induction s with
  | pure a => intro L W es h; exact .inr ⟨.ok a h, rfl⟩
  | load m a k ih =>
    intro L W es h
    obtain ⟨d, rfl, hd, ht⟩ := h
    simp only [Sem.runT, cell?_re, farLoad_re]
    split
    · exact ih _ (hn _) _ _ _ ⟨d, rfl, hd, ht⟩
    · split
      · exact ih _ (hn _) _ _ _ ⟨d, rfl, hd, ht⟩
      · exact .inr ⟨.halt _ ⟨d, rfl, hd, ht⟩, rfl⟩
  | store m a v k ih =>
    intro L W es h
    obtain ⟨d, rfl, hd, ht⟩ := h
    have hs : Sync hz L (L.re hz.τ d) := ⟨d, rfl, hd, ht⟩
    cases v <;> simp only [Sem.runT, cell?_re, frozen?_re, farStore_re] <;>
      first
        | exact .inr ⟨.halt _ hs, rfl⟩
        | (split
           · by_cases hz' : L.frozen? a = true
             · simp only [hz', if_true]; exact .inr ⟨.halt _ hs, rfl⟩
             · simp only [hz', if_false, Bool.false_eq_true]; exact ih hn _ _ _ (hs.setCell _ _)
           · generalize hf : L.farStore P a _ _ = r
             cases r with
             | error e => exact .inr ⟨.halt _ hs, rfl⟩
             | ok r =>
               obtain ⟨w', l⟩ := r
               have hk := farStore_tape hf
               exact ih hn _ _ _ ⟨d, rfl, by rw [hk.2]; exact hd, by rw [hk.1, hk.2]; exact ht⟩)
  | new o k ih =>
    intro L W es h
    simp only [Sem.runT]
    rw [h.heap]
    exact ih _ (hn _) _ _ _ (h.withHeap _)
  | shape r k ih =>
    intro L W es h
    obtain ⟨d, rfl, hd, ht⟩ := h
    exact ih _ (hn _) _ _ _ ⟨d, rfl, hd, ht⟩
  | freeze a n k ih => intro L W es h; exact ih hn _ _ _ (h.freeze a n)
  | frozen a k ih =>
    intro L W es h
    obtain ⟨d, rfl, hd, ht⟩ := h
    exact ih _ (hn _) _ _ _ ⟨d, rfl, hd, ht⟩
  | getObj r k ih =>
    intro L W es h
    simp only [Sem.runT]
    rw [h.heap]
    split
    · exact .inr ⟨.halt _ h, rfl⟩
    · exact ih _ (hn _) _ _ _ h
    · exact .inr ⟨.halt _ h, rfl⟩
  | setObj r o k ih =>
    intro L W es h
    simp only [Sem.runT]
    rw [h.heap]
    split
    · exact .inr ⟨.halt _ h, rfl⟩
    · exact ih hn _ _ _ (h.withHeap _)
    · exact .inr ⟨.halt _ h, rfl⟩
  | choose q k ih =>
    intro L W es h
    simp only [Sem.runT]
    by_cases hd : L.drawn < hz.h
    · rw [h.answer hd]
      split
      · exact ih _ (hn _) _ _ _ h
      · exact ih _ (hn _) _ _ _ h.drew
    · split
      · exact ih _ (hn _) _ _ _ h
      · refine .inl (.inl (Nat.lt_of_lt_of_le ?_ (runT_drawn P _ _ _)))
        simp only; omega
  | sys c k ih => exact hn.elim
  | program k ih => intro L W es h; exact ih _ hn _ _ _ h
  | mark m k ih => intro L W es h; exact ih hn _ _ _ h
  | halt x => intro L W es h; exact .inr ⟨.halt x h, rfl⟩
theorem runT_bind' {α β : Type} (P : Program) (s : Sem α) (f : α → Sem β) : ∀ (w : World) (es : Array Event), (s >>= f).runT P w es = match s.runT P w es with
    | (.ok a w', es') => (f a).runT P w' es'
    | (.halt h w', es') => (.halt h w', es') := by
  induction s with
  | pure a => intro w es; rfl
  | load m a k ih =>
    intro w es
    show (Sem.load m a fun v => (k v).bind f).runT P w es = _
    simp only [Sem.runT]
    split
    · exact ih _ _ _
    · split
      · exact ih _ _ _
      · rfl
  | store m a v k ih =>
    intro w es
    show (Sem.store m a v (k.bind f)).runT P w es = _
    cases v <;> simp only [Sem.runT] <;> first
      | rfl
      | (split
         · by_cases hz : w.frozen? a = true
           · grind
           · simp only [hz, if_false, Bool.false_eq_true]; exact ih _ _
         · generalize w.farStore P a _ _ = r
           cases r with
           | ok r => exact ih _ _
           | error e => rfl)
  | new o k ih => intro w es; exact ih _ _ _
  | shape r k ih => intro w es; exact ih _ _ _
  | freeze a n k ih => intro w es; exact ih _ _
  | frozen a k ih => intro w es; exact ih _ _ _
  | getObj r k ih =>
    intro w es
    show (Sem.getObj r fun o => (k o).bind f).runT P w es = _
    simp only [Sem.runT]
    split
    · rfl
    · exact ih _ _ _
    · rfl
  | setObj r o k ih =>
    intro w es
    show (Sem.setObj r o (k.bind f)).runT P w es = _
    simp only [Sem.runT]
    split
    · rfl
    · exact ih _ _
    · rfl
  | choose q k ih =>
    intro w es
    show (Sem.choose q fun n => (k n).bind f).runT P w es = _
    simp only [Sem.runT]
    split
    · exact ih _ _ _
    · exact ih _ _ _
  | sys c k ih => intro w es; exact ih _ _ _
  | program k ih => intro w es; exact ih _ _ _
  | mark m k ih => intro w es; exact ih _ _
  | halt h => intro w es; rfl
theorem pf_bind' {P : Program} {α β : Type} {s : Sem α} {f : α → Sem β} {R : α → Prop} (h : Pf P s) (hR : ∀ w es a w' es', s.runT P w es = (.ok a w', es') → R a) (hf : ∀ a, R a → Pf P (f a)) : Pf P (s >>= f) := by
  intro hz L W es hs
  have hR' := hR L es
  have h1 := h hz L W es hs
  rw [runT_bind', runT_bind']
  generalize s.runT P L es = x at h1 hR'
  generalize s.runT P W es = y at h1
  obtain ⟨r, es1⟩ := x
  obtain ⟨r', es2⟩ := y
  rcases h1 with ho | ⟨hr, he⟩
  · cases r with
    | ok a w' =>
      rcases ho with ho | ⟨u, w, e⟩
      · exact .inl (.inl (Nat.lt_of_lt_of_le ho (runT_drawn P _ _ _)))
      · cases e
    | halt x w' =>
      rcases ho with ho | ⟨u, w, e⟩
      · exact .inl (.inl ho)
      · cases e; exact .inl (.inr ⟨_, _, rfl⟩)
  · simp only at hr he
    subst he
    cases hr with
    | ok a h' => exact hf a (hR' _ _ _ rfl) hz _ _ _ h'
    | halt x h' => exact .inr ⟨.halt x h', rfl⟩
theorem pf_bind {P : Program} {α β : Type} {s : Sem α} {f : α → Sem β} (h : Pf P s) (hf : ∀ a, Pf P (f a)) : Pf P (s >>= f) := pf_bind' (R := fun _ => True) h (fun _ _ _ _ _ _ => trivial) fun a _ => hf a
theorem pf_pure {P : Program} {α : Type} (a : α) : Pf P (pure a : Sem α) := fun _ _ _ _ h => .inr ⟨.ok a h, rfl⟩
theorem pf_halt {P : Program} {α : Type} (x : Halt) : Pf P (Sem.halt x : Sem α) := fun _ _ _ _ h => .inr ⟨.halt x h, rfl⟩
theorem pf_sys {P : Program} {α : Type} (c : Sys) (k : SysRet → Sem α) (hw : ∃ m, k .wouldBlock = .halt (.unsupported (.noEntry m))) (hk : ∀ r, Pf P (k r)) : Pf P (Sem.sys c k) := by
  intro hz L W es hs
  have h := sys_sync c hs
  simp only [Sem.runT]
  rcases h with h | h | ⟨h1, h2⟩
  · rw [h]
    obtain ⟨u, hu⟩ := hw
    rw [hu]
    exact .inl (.inr ⟨u, _, rfl⟩)
  · exact .inl (.inl (Nat.lt_of_lt_of_le h (runT_drawn P _ _ _)))
  · rw [← h1]
    exact hk _ hz _ _ _ h2
end Go.Co
end
section
namespace Go.Co
open Go
def Bal (es : Array Event) : Prop := deafBehind 0 es = 0
theorem bal_nil : Bal #[] := rfl
theorem deafBehind_push (d : Nat) (es : Array Event) (e : Event) : deafBehind d (es.push e) = (match e.loc with | .mark .disable => deafBehind d es + 1 | .mark .enable => deafBehind d es - 1 | _ => deafBehind d es) := by
  simp only [deafBehind, Array.foldl_push]
  rfl
theorem bal_push {es : Array Event} {e : Event} (h : Bal es) (he : e.loc ≠ .mark .disable) : Bal (es.push e) := by
  unfold Bal at *
  rw [deafBehind_push]
  split
  · grind
  · omega
  · exact h
theorem deafBehind_append (d : Nat) (es es' : Array Event) : deafBehind d (es ++ es') = deafBehind (deafBehind d es) es' := by
  simp only [deafBehind, Array.foldl_append]
theorem bal_append {es es' : Array Event} (h : Bal es) (h' : Bal es') : Bal (es ++ es') := by
  unfold Bal at *
  rw [deafBehind_append, h, h']
theorem bal_all {es : Array Event} (h : ∀ e ∈ es, e.loc ≠ .mark .disable) : Bal es := by
  obtain ⟨l⟩ := es
  induction l with
  | nil => rfl
  | cons e l ih =>
    have e1 : (⟨e :: l⟩ : Array Event) = #[e] ++ ⟨l⟩ := by simp
    rw [e1]
    refine bal_append ?_ (ih fun x hx => h x (by simp at hx ⊢; exact .inr hx))
    exact bal_push bal_nil (h e (by simp))
def Loud : Halt → Prop
  | .panic _ | .goexit | .fatal _ | .throw _ => True
  | _ => False
def Tb (P : Program) {α : Type} (R : α → Prop) (s : Sem α) : Prop :=
  ∀ (w : World) (es : Array Event), Bal es → match s.runT P w es with
    | (.ok a _, es') => R a ∧ Bal es'
    | (.halt h _, es') => Loud h → Bal es'
structure Tm (P : Program) {α : Type} (R : α → Prop) (s : Sem α) : Prop where
  tb : Tb P R s
  pf : Pf P s
abbrev T1 (P : Program) {α : Type} (s : Sem α) : Prop := Tm P (fun _ => True) s
section
variable {P : Program} {α β : Type} {R : α → Prop} {R' : β → Prop}
theorem tm_pure {a : α} (h : R a) : Tm P R (pure a) := ⟨fun _ _ he => ⟨h, he⟩, pf_pure a⟩
theorem tm_Pure {a : α} (h : R a) : Tm P R (Sem.pure a) := tm_pure h
theorem tb_bind {s : Sem α} {f : α → Sem β} (h : Tb P R s) (hf : ∀ a, R a → Tb P R' (f a)) : Tb P R' (s >>= f) := by
  intro w es he
  rw [runT_bind']
  have := h w es he
  revert this
  cases s.runT P w es with
  | mk r es' =>
    cases r with
    | ok a w' => exact fun ⟨ha, hb⟩ => hf a ha w' es' hb
    | halt x w' => exact id
theorem tm_bind1 {s : Sem α} {f : α → Sem β} (h : T1 P s) (hf : ∀ a, Tm P R' (f a)) : Tm P R' (s >>= f) := ⟨tb_bind h.tb fun a _ => (hf a).tb, pf_bind h.pf fun a => (hf a).pf⟩
theorem tm_program {f : Program → Sem β} (hf : Tm P R' (f P)) : Tm P R' (program >>= f) := ⟨fun w es he => hf.tb w es he, fun hz L W es hs => hf.pf hz L W es hs⟩
theorem tm_map1 {s : Sem α} {f : α → β} (h : T1 P s) (hf : ∀ a, R' (f a)) : Tm P R' (f <$> s) := by
  rw [← bind_pure_comp]
  exact tm_bind1 h fun a => tm_pure (hf a)
theorem tm_halt (x : Halt) : Tm P R (Sem.halt x) := ⟨fun _ _ he _ => he, pf_halt x⟩
theorem tb_mono {R₂ : α → Prop} {s : Sem α} (h : Tb P R s) (hr : ∀ a, R a → R₂ a) : Tb P R₂ s := by
  intro w es he
  have := h w es he
  revert this
  cases s.runT P w es with
  | mk r es' => grind
theorem tm_mono {R₂ : α → Prop} {s : Sem α} (h : Tm P R s) (hr : ∀ a, R a → R₂ a) : Tm P R₂ s := ⟨tb_mono h.tb hr, h.pf⟩
theorem tm_t1 {s : Sem α} (h : Tm P R s) : T1 P s := tm_mono h fun _ _ => trivial
theorem tm_ite {c : Prop} [Decidable c] {s t : Sem α} (h : Tm P R s) (h' : Tm P R t) : Tm P R (if c then s else t) := by split <;> assumption
class TC (P : Program) {α : Type} (s : Sem α) : Prop where
  out : T1 P s
instance (m : String) : TC P (stuck m : Sem α) := ⟨tm_halt _⟩
instance (u : Unsupported) : TC P (unsupported u : Sem α) := ⟨tm_halt _⟩
instance (v : Value) : TC P (goPanic v : Sem α) := ⟨tm_halt _⟩
instance (m : String) : TC P (fatal m : Sem α) := ⟨tm_halt _⟩
instance (m : String) : TC P (throw m : Sem α) := ⟨tm_halt _⟩
instance : TC P (blocked : Sem α) := ⟨tm_halt _⟩
instance (h : Halt) : TC P (Sem.halt h : Sem α) := ⟨tm_halt _⟩
instance (a : α) : TC P (pure a : Sem α) := ⟨tm_pure trivial⟩
theorem t_program1 : T1 P program := ⟨fun _ _ he => ⟨trivial, he⟩, pf_of_ns P _ (show NS P (Sem.program Sem.pure) from trivial)⟩
instance : TC P program := ⟨t_program1⟩
theorem tm_stuck (m : String) : Tm P R (stuck m) := tm_halt _
theorem tm_unsupported (u : Unsupported) : Tm P R (unsupported u) := tm_halt _
theorem tm_goPanic (v : Value) : Tm P R (goPanic v) := tm_halt _
theorem tm_fatal (m : String) : Tm P R (fatal m) := tm_halt _
theorem tm_throw (m : String) : Tm P R (throw m) := tm_halt _
theorem tm_blocked : Tm P R (blocked : Sem α) := tm_halt _
theorem t_load (a : Addr) (m : Mode) : T1 P (load a m) := by
  refine ⟨?_, pf_of_ns P _ (fun _ => trivial)⟩
  intro w es he
  unfold load
  simp only [Sem.runT]
  split
  · rename_i h1; split at h1
    · simp only [Prod.mk.injEq] at h1; obtain ⟨_, rfl⟩ := h1; exact ⟨trivial, bal_push he (by simp)⟩
    · split at h1
      · simp only [Prod.mk.injEq] at h1; obtain ⟨_, rfl⟩ := h1; exact ⟨trivial, bal_append he (bal_all (by simp))⟩
      · simp at h1
  · grind
theorem t_store (a : Addr) (v : Value) (m : Mode) : T1 P (store a v m) := by
  refine ⟨?_, pf_of_ns P _ trivial⟩
  intro w es he
  unfold store
  cases v <;> simp only [Sem.runT] <;> first
    | exact fun _ => he
    | (cases w.cell? a with
       | some _ =>
         by_cases hz : w.frozen? a = true
         · grind
         · simp only [hz, if_false, Bool.false_eq_true]; exact ⟨trivial, bal_push he (by simp)⟩
       | none =>
         generalize w.farStore P a _ _ = r
         cases r with
         | ok r => exact ⟨trivial, bal_append he (bal_all (by simp))⟩
         | error e => exact fun _ => he)
theorem t_newObj (o : Obj) : T1 P (newObj o) := ⟨fun _ _ he => ⟨trivial, he⟩, pf_of_ns P _ (fun _ => trivial)⟩
theorem t_shape (r : Nat) : T1 P (shape r) := ⟨fun _ _ he => ⟨trivial, he⟩, pf_of_ns P _ (fun _ => trivial)⟩
theorem t_freeze (a : Addr) (n : Nat) : T1 P (freeze a n) := ⟨fun _ _ he => ⟨trivial, he⟩, pf_of_ns P _ trivial⟩
theorem t_frozen (a : Addr) : T1 P (frozen a) := ⟨fun _ _ he => ⟨trivial, he⟩, pf_of_ns P _ (fun _ => trivial)⟩
theorem t_choose (q : Question) : T1 P (choose q) := by
  refine ⟨?_, pf_of_ns P _ (fun _ => trivial)⟩
  intro w es he
  unfold choose
  simp only [Sem.runT]
  by_cases h : q.forced = true
  · grind
  · grind
theorem pf_mark (m : Mark) : Pf P (mark m) := pf_of_ns P _ trivial
theorem t_mark {m : Mark} (h : m ≠ .disable) : T1 P (mark m) := ⟨fun _ _ he => ⟨trivial, bal_push he (by simpa using h)⟩, pf_mark m⟩
theorem t_getObj (r : Nat) : T1 P (getObj r) := by
  refine ⟨?_, pf_of_ns P _ (fun _ => trivial)⟩
  intro w es he
  unfold getObj
  simp only [Sem.runT]
  cases w.heap[r]? with
  | none => exact fun _ => he
  | some o => cases o <;> first | exact fun _ => he | exact ⟨trivial, bal_push he (by simp)⟩
theorem t_setObj (r : Nat) (o : Obj) : T1 P (setObj r o) := by
  refine ⟨?_, pf_of_ns P _ trivial⟩
  intro w es he
  unfold setObj
  simp only [Sem.runT]
  cases w.heap[r]? with
  | none => exact fun _ => he
  | some o => cases o <;> first | exact fun _ => he | exact ⟨trivial, bal_push he (by simp)⟩
instance (a : Addr) (m : Mode) : TC P (load a m) := ⟨t_load a m⟩
instance (a : Addr) (v : Value) (m : Mode) : TC P (store a v m) := ⟨t_store a v m⟩
instance (o : Obj) : TC P (newObj o) := ⟨t_newObj o⟩
instance (r : Nat) : TC P (shape r) := ⟨t_shape r⟩
instance (a : Addr) (n : Nat) : TC P (freeze a n) := ⟨t_freeze a n⟩
instance (a : Addr) : TC P (frozen a) := ⟨t_frozen a⟩
instance (q : Question) : TC P (choose q) := ⟨t_choose q⟩
instance (r : Nat) : TC P (getObj r) := ⟨t_getObj r⟩
instance (r : Nat) (o : Obj) : TC P (setObj r o) := ⟨t_setObj r o⟩
instance : TC P (mark .noRoom) := ⟨t_mark (by decide)⟩
instance : TC P (mark .enable) := ⟨t_mark (by decide)⟩
theorem t_forInList {γ σ : Type} (f : γ → σ → Sem (ForInStep σ)) (h : ∀ c s, T1 P (f c s)) : ∀ (l : List γ) (s : σ), T1 P (forIn l s f)
  | [], s => by rw [List.forIn_nil]; exact tm_pure trivial
  | c :: l, s => by
    rw [List.forIn_cons]
    refine tm_bind1 (h c s) fun x => ?_
    cases x with
    | done s => exact tm_pure trivial
    | yield s => exact t_forInList f h l s
theorem t_forInArray {γ σ : Type} (f : γ → σ → Sem (ForInStep σ)) (h : ∀ c s, T1 P (f c s)) (l : Array γ) (s : σ) : T1 P (forIn l s f) := by
  rw [← Array.forIn_toList]; exact t_forInList f h _ _
theorem t_forInRange {σ : Type} (f : Nat → σ → Sem (ForInStep σ)) (h : ∀ c s, T1 P (f c s)) (n : Nat) (s : σ) : T1 P (forIn [0:n] s f) := by
  rw [Std.Legacy.Range.forIn_eq_forIn_range']; exact t_forInList f h _ _
theorem t_mapMList {γ δ : Type} (f : γ → Sem δ) (h : ∀ c, T1 P (f c)) : ∀ (l : List γ), T1 P (l.mapM f)
  | [] => by rw [List.mapM_nil]; exact tm_pure trivial
  | c :: l => by
    rw [List.mapM_cons]
    exact tm_bind1 (h c) fun x => tm_bind1 (t_mapMList f h l) fun _ => tm_pure trivial
theorem t_mapMArray {γ δ : Type} (f : γ → Sem δ) (h : ∀ c, T1 P (f c)) (l : Array γ) : T1 P (l.mapM f) := by
  rw [Array.mapM_eq_mapM_toList]
  exact tm_map1 (t_mapMList f h _) fun _ => trivial
theorem t_foldlM {γ σ : Type} (f : σ → γ → Sem σ) (h : ∀ s c, T1 P (f s c)) : ∀ (l : List γ) (s : σ), T1 P (l.foldlM f s)
  | [], s => by rw [List.foldlM_nil]; exact tm_pure trivial
  | c :: l, s => by rw [List.foldlM_cons]; exact tm_bind1 (h s c) fun x => t_foldlM f h l x
end
section
variable {P : Program}
theorem t_writeFd (fd : Nat) (b : ByteArray) : T1 P (writeFd fd b) := by
  refine ⟨?_, ?_⟩
  · intro w es he
    unfold writeFd
    simp only [Sem.runT]
    generalize (w.sys (.write fd b)).1 = r
    cases r <;> first | exact fun _ => bal_push he (by simp) | exact ⟨trivial, bal_push he (by simp)⟩
  · refine pf_sys _ _ ⟨_, rfl⟩ fun r => ?_
    cases r <;> first | exact pf_halt _ | exact pf_pure _
theorem env_nowait (w : World) : (w.sys .env).1 ≠ .wouldBlock := by
  have : (w.ask (Kernel.perform .env w.os)).1.1 = .strings w.os.env := by
    simp only [Kernel.perform, Kernel.lengthOf, Kernel.named, Kernel.ofKernel, Kernel.stamps]
    rfl
  unfold World.sys
  generalize w.ask (Kernel.perform .env w.os) = x at this
  obtain ⟨⟨r, o⟩, l⟩ := x
  simp only at this
  subst this
  simp
instance : TC P (sys .env) := ⟨⟨fun _ _ he => ⟨trivial, bal_push he (by simp)⟩, fun hz L W es hs => by
  have h := sys_sync .env hs
  unfold sys
  simp only [Sem.runT]
  rcases h with h | h | ⟨h1, h2⟩
  · exact absurd h (env_nowait L)
  · exact .inl (.inl h)
  · rw [← h1]
    exact .inr ⟨.ok _ h2, rfl⟩⟩⟩
instance  (fd : Nat) (b : ByteArray)  : TC P (writeFd fd b) := ⟨t_writeFd fd b⟩
theorem tgo {p : Prop} (h : p := by
  try dsimp only
  (repeat' first | exact TC.out | exact ih _ | exact ih _ _ | exact ih _ _ _ | (with_reducible refine tm_bind1 ?_ (fun _ => ?_)) | (with_reducible refine tm_map1 ?_ (fun _ => trivial)) | (with_reducible refine t_forInArray _ (fun _ _ => ?_) _ _) | (with_reducible refine t_forInList _ (fun _ _ => ?_) _ _) | (with_reducible refine t_forInRange _ (fun _ _ => ?_) _ _) | (with_reducible refine t_mapMArray _ (fun _ => ?_) _) | (with_reducible refine t_mapMList _ (fun _ => ?_) _) | (with_reducible refine t_foldlM _ (fun _ _ => ?_) _ _) | (with_reducible refine tm_ite ?_ ?_) | split | dsimp only)) : p := h
instance (n : Nat) : TC P (askRoom n) := ⟨by
  unfold askRoom
  exact tgo⟩
instance (r : Nat) : TC P (viewAt r) := ⟨by
  unfold viewAt
  exact tgo⟩
instance (r : Nat) : TC P (numberAt r) := ⟨by
  unfold numberAt
  exact tgo⟩
instance (r : Nat) : TC P (cellsIn r) := ⟨by
  unfold cellsIn
  exact tgo⟩
instance (a : Addr) (b : Bool) : TC P (asNumber a b) := ⟨by
  unfold asNumber
  exact tgo⟩
instance (a : Addr) : TC P (behindNumber a) := ⟨by
  unfold behindNumber
  exact tgo⟩
instance (a : Addr) : TC P (backFromNumber a) := ⟨by
  unfold backFromNumber
  exact tgo⟩
instance (a : Addr) : TC P (noView a) := ⟨by
  unfold noView
  exact tgo⟩
instance (a : Addr) : TC P (markStringish a) := ⟨by
  unfold markStringish
  exact tgo⟩
instance (a : Addr) : TC P (stringish a) := ⟨by
  unfold stringish
  exact tgo⟩
instance (a b : Addr) : TC P (mayBeOne a b) := ⟨by
  unfold mayBeOne
  exact tgo⟩
instance (a b : Addr) : TC P (sameAddr a b) := ⟨by
  unfold sameAddr
  exact tgo⟩
instance (a b : Option Addr) : TC P (samePointer a b) := ⟨by
  unfold samePointer
  exact tgo⟩
instance (t : TypeId) : TC P (typeInfo t) := ⟨by
  unfold typeInfo
  exact tgo⟩
instance (t : TypeId) : TC P (underlying t) := ⟨by
  unfold underlying
  exact tgo⟩
instance (s : String) : TC P (cutType s) := ⟨by
  unfold cutType
  exact tgo⟩
instance (s : String) : TC P (globalAddr s) := ⟨by
  unfold globalAddr
  exact tgo⟩
instance (t : TypeId) : TC P (typeStr t) := ⟨by
  unfold typeStr
  exact tgo⟩
instance (t : TypeId) : TC P (zeroValue t) := ⟨by
  unfold zeroValue
  exact tgo⟩
instance (t : TypeId) : TC P (sizeOf t) := ⟨by
  unfold sizeOf
  exact tgo⟩
instance (t : TypeId) : TC P (isAgg t) := ⟨by
  unfold isAgg
  exact tgo⟩
theorem t_loadCellsFrom (a : Addr) : ∀ (n i : Nat) (acc : Array Value), T1 P (loadCellsFrom a i n acc)
  | 0, _, _ => tm_pure trivial
  | _ + 1, _, _ => tm_bind1 (t_load _ _) fun _ => t_loadCellsFrom a _ _ _
instance (a : Addr) (n i : Nat) (acc : Array Value) : TC P (loadCellsFrom a i n acc) := ⟨t_loadCellsFrom a n i acc⟩
instance (a : Addr) (n : Nat) : TC P (loadCells a n) := ⟨by
  unfold loadCells
  exact tgo⟩
theorem t_storeCells (a : Addr) : ∀ (vs : List Value) (i : Nat), T1 P (storeCells a vs i)
  | [], _ => tm_pure trivial
  | _ :: rest, _ => tm_bind1 (t_store _ _ _) fun _ => t_storeCells a rest _
instance (a : Addr) (vs : List Value) (i : Nat) : TC P (storeCells a vs i) := ⟨t_storeCells a vs i⟩
instance (t : TypeId) (a : Addr) : TC P (loadVar t a) := ⟨by
  unfold loadVar
  exact tgo⟩
instance (t : TypeId) (a : Addr) (v : Value) : TC P (storeVar t a v) := ⟨by
  unfold storeVar
  exact tgo⟩
instance (t : TypeId) (c : Array Value) : TC P (newRow t c) := ⟨by
  unfold newRow
  exact tgo⟩
instance (t : TypeId) (v : Value) : TC P (newVar t v) := ⟨by
  unfold newVar
  exact tgo⟩
instance (t : TypeId) : TC P (elemOf t) := ⟨by
  unfold elemOf
  exact tgo⟩
instance (t : TypeId) (c : Array Value) (o : Nat) : TC P (part t c o) := ⟨by
  unfold part
  exact tgo⟩
theorem t_panicString {α : Type} (m : String) : T1 P (panicString m : Sem α) := by
  unfold panicString
  exact tgo
instance  {α : Type} (m : String)  : TC P (panicString m : Sem α) := ⟨t_panicString m⟩
instance (s : String) : TC P (externState s) := ⟨by
  unfold externState
  exact tgo⟩
theorem t_runtimePanic {α : Type} (e : RuntimeError) : T1 P (runtimePanic e : Sem α) := by
  unfold runtimePanic
  dsimp only
  exact tgo
instance  {α : Type} (e : RuntimeError)  : TC P (runtimePanic e : Sem α) := ⟨t_runtimePanic e⟩
theorem t_boundsPanic {α : Type} (k : IntKind) (x y : Int) (c : BoundsCode) : T1 P (boundsPanic k x y c : Sem α) := by
  unfold boundsPanic
  exact tgo
instance  {α : Type} (k : IntKind) (x y : Int) (c : BoundsCode)  : TC P (boundsPanic k x y c : Sem α) := ⟨t_boundsPanic k x y c⟩
instance (v : Value) : TC P (asIntOf v) := ⟨by
  unfold asIntOf
  exact tgo⟩
instance (v : Value) : TC P (asInt v) := ⟨by
  unfold asInt
  exact tgo⟩
instance (v : Value) : TC P (asBool v) := ⟨by
  unfold asBool
  exact tgo⟩
instance (v : Value) : TC P (asString v) := ⟨by
  unfold asString
  exact tgo⟩
instance (v : Value) : TC P (asAgg v) := ⟨by
  unfold asAgg
  exact tgo⟩
instance (v : Value) : TC P (asAddr v) := ⟨by
  unfold asAddr
  exact tgo⟩
theorem t_loadBytes (a : Addr) : ∀ (n : Nat) (acc : ByteArray), T1 P (loadBytes a acc n)
  | 0, _ => tm_pure trivial
  | n + 1, acc => by
    unfold loadBytes
    refine tm_bind1 (t_load _ _) fun v => ?_
    split
    · exact t_loadBytes _ n _
    · exact tm_stuck _
instance (a : Addr) (n : Nat) (acc : ByteArray) : TC P (loadBytes a acc n) := ⟨t_loadBytes a n acc⟩
instance (a : Addr) (b : ByteArray) : TC P (storeBytes a b) := ⟨by
  unfold storeBytes
  exact tgo⟩
instance (a : Addr) : TC P (byteOf a) := ⟨by
  unfold byteOf
  exact tgo⟩
instance (a : Addr) (c b : Nat) : TC P (partAt a c b) := ⟨by
  unfold partAt
  exact tgo⟩
instance (a : Addr) (f : Field) : TC P (fieldPlace a f) := ⟨by
  unfold fieldPlace
  exact tgo⟩
instance (a : Addr) (u : TypeId) (n : Nat) : TC P (variablesAt a u n) := ⟨by
  unfold variablesAt
  exact tgo⟩
end
end Go.Co
end
