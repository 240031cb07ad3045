/- The law CutKnown: part 12: Co3d Co3e Co3f Co3g Co4a. By an AI agent. -/
import Derived.Test.YtadeehilamokkaaGreatDoorPk11
import Derived.Conc.CompanyCalls
import Derived.Conc.Holds
import Derived.Conc.Neutral
section
namespace Go.Co
open Go Go.Conc
variable {P : Program}
theorem runN_size : ∀ {n : Nat} {m m' : Machine}, runN P n m = .next m' → m.gs.size ≤ m'.gs.size
  | 0, m, m', h => by simp [runN] at h; subst h; exact Nat.le_refl _
  | n + 1, m, m', h => by
    unfold runN at h
    cases hs : step P m with
    | next m1 =>
      rw [hs] at h
      exact Nat.le_trans (stepT_size P m m1 true hs) (runN_size h)
    | ended o w => rw [hs] at h; cases h
theorem runN_stuck {g : Goroutine} {w : World} (h1 : g.status ≠ .running) (h2 : ∀ t, g.status ≠ .sleeping t) : ∀ {n : Nat} {m' : Machine}, runN P n (solo g w) = .next m' → m' = solo g w
  | 0, m', h => by simp [runN] at h; exact h.symm
  | n + 1, m', h => by
    unfold runN at h
    cases hs : stepT P (solo g w) with
    | mk s ops =>
      cases s with
      | next m1 =>
        have e := solo_stuck h1 h2 hs
        subst e
        have : step P (solo g w) = .next (solo g w) := by unfold step; rw [hs]
        rw [this] at h
        exact runN_stuck h1 h2 h
      | ended o w' =>
        have : step P (solo g w) = .ended o w' := by unfold step; rw [hs]
        rw [this] at h
        cases h
theorem runN_dying (hP : Plain P) : ∀ {n : Nat} {g : Goroutine} {w : World} {gt : Goroutine} {wt : World}, Hg True g.dying g.frame g.callers → (∀ t, g.status ≠ .sleeping t) → runN P n (solo g w) = .next (solo gt wt) → gt.dying ≠ none
  | 0, g, w, gt, wt, hg, _, h => by
    simp [runN, solo] at h
    rw [← h.2]
    exact hg.2.2.1 trivial
  | n + 1, g, w, gt, wt, hg, hs, h => by
    by_cases hr : g.status = .running
    · unfold runN at h
      cases hst : stepT P (solo g w) with
      | mk s ops =>
        cases s with
        | next m1 =>
          have e1 : step P (solo g w) = .next m1 := by unfold step; rw [hst]
          rw [e1] at h
          obtain ⟨g', w', rfl, hg', hs'⟩ := solo_class hP hr hg hst (by have := runN_size h; simpa [solo] using this)
          exact runN_dying hP hg' hs' h
        | ended o w' =>
          have e1 : step P (solo g w) = .ended o w' := by unfold step; rw [hst]
          rw [e1] at h
          cases h
    · have := runN_stuck hr hs h
      simp [solo] at this
      rw [this.2]
      exact hg.2.2.1 trivial
theorem runN_first (hP : Plain P) {n : Nat} {g : Goroutine} {w : World} {gt : Goroutine} {wt : World} (hg : Fr g) (hs : ∀ t, g.status ≠ .sleeping t) (h : runN P n (solo g w) = .next (solo gt wt)) (hr : gt.status = .running) (hd : gt.dying = none) :
    g.status = .running ∧ g.dying = none ∧ ((n = 0 ∧ g = gt ∧ w = wt) ∨ ∃ k g1 w1 ops, n = k + 1 ∧ runT P (solo g w) 0 = (.next (solo g1 w1), ops) ∧ Fr g1 ∧ (∀ t, g1.status ≠ .sleeping t) ∧ runN P k (solo g1 w1) = .next (solo gt wt)) := by
  have hr0 : g.status = .running := by
    by_cases h1 : g.status = .running
    · exact h1
    · have := runN_stuck h1 hs h
      simp [solo] at this
      rw [← this.2]; exact hr
  have hd0 : g.dying = none := by
    by_cases h1 : g.dying = none
    · exact h1
    · exact absurd hd (runN_dying hP ⟨hg.1, hg.2.1, fun _ => h1, hg.2.2.2⟩ hs h)
  refine ⟨hr0, hd0, ?_⟩
  cases n with
  | zero =>
    simp [runN, solo] at h
    exact .inl ⟨rfl, h.2, h.1⟩
  | succ k =>
    unfold runN at h
    cases hst : stepT P (solo g w) with
    | mk s ops =>
      cases s with
      | next m1 =>
        have e1 : step P (solo g w) = .next m1 := by unfold step; rw [hst]
        rw [e1] at h
        obtain ⟨g', w', rfl, hg', hs'⟩ := solo_class hP hr0 hg hst (by have := runN_size h; simpa [solo] using this)
        rw [stepT_solo hr0] at hst
        exact .inr ⟨k, g', w', ops, rfl, hst, hg', hs', h⟩
      | ended o w' =>
        have e1 : step P (solo g w) = .ended o w' := by unfold step; rw [hst]
        rw [e1] at h
        cases h
theorem own_mono (hP : Plain P) {g : Goroutine} (hd : g.dying = none) (hf : Fr g) {L : World} {g' : Goroutine} {L' : World} {ops : Array MemOp}
    (h : runT P (solo g L) 0 = (.next (solo g' L'), ops)) (hr' : g'.status = .running) (hd' : g'.dying = none) : L.drawn ≤ L'.drawn := by
  rcases Nat.lt_or_ge L'.drawn L.drawn with hlt | hge
  · exfalso
    obtain ⟨W', ⟨d, -, hab, -⟩, -⟩ := own_step (hz := ⟨L'.drawn, L.tape, L.drawn, 0⟩) (sl := none) hP hd hf (L := L) (W := L.re L.tape 0) ⟨0, rfl, by simp only; omega, fun i q hi => by simp only at hi; omega⟩ h hr' hd' (Nat.le_refl _) (gs := #[g]) rfl oth_one
    simp only at hab
    omega
  · exact hge
open Classical in
theorem lift (hP : Plain P) (K : Goroutine → World → Prop)
    (closed : ∀ g w, Fr g → g.status = .running → g.dying = none → (∀ d, ∃ g' w' ops, runT P (solo g (w.at d)) 0 = (.next (solo g' w'), ops) ∧ g'.status = .running ∧ g'.dying = none ∧ Fr g' ∧ K g' w') → K g w)
    (g : Goroutine) (w : World) (hg : Fr g) (hs : ∀ t, g.status ≠ .sleeping t)
    (lone : ∀ τ, ∃ n gt wt, runN P n (solo g (w.re τ 0)) = .next (solo gt wt) ∧ gt.status = .running ∧ gt.dying = none ∧ ∀ τ d, K gt (wt.re τ d)) : K g w := by
  apply Classical.byContradiction
  intro hK
  let GS : Goroutine × World → Nat → Goroutine × World → Prop := fun s d s' => ∃ ops, runT P (solo s.1 (s.2.at d)) 0 = (.next (solo s'.1 s'.2), ops) ∧ s'.1.status = .running ∧ s'.1.dying = none
  have hbad : ∀ s : Goroutine × World, ∃ d, Fr s.1 → s.1.status = .running → s.1.dying = none → ¬ K s.1 s.2 → ∀ s', GS s d s' → Fr s'.1 → ¬ K s'.1 s'.2 := by
    intro s
    apply Classical.byContradiction
    intro hno
    have hno : ∀ d, ¬ (Fr s.1 → s.1.status = .running → s.1.dying = none → ¬ K s.1 s.2 → ∀ s', GS s d s' → Fr s'.1 → ¬ K s'.1 s'.2) := fun d hd => hno ⟨d, hd⟩
    have h0 := hno 0
    simp only [Classical.not_imp] at h0
    obtain ⟨h1, h2, h3, h4, -⟩ := h0
    refine h4 (closed _ _ h1 h2 h3 fun d => ?_)
    have := hno d
    simp only [Classical.not_forall, Classical.not_not] at this
    obtain ⟨-, -, -, -, s', ⟨ops, e1, e2, e3⟩, hf, hk⟩ := this
    exact ⟨s'.1, s'.2, ops, e1, e2, e3, hf, hk⟩
  let dd : Goroutine × World → Nat := fun s => Classical.choose (hbad s)
  have hdd : ∀ s, Fr s.1 → s.1.status = .running → s.1.dying = none → ¬ K s.1 s.2 → ∀ s', GS s (dd s) s' → Fr s'.1 → ¬ K s'.1 s'.2 := fun s => Classical.choose_spec (hbad s)
  let nx : Goroutine × World → Option (Goroutine × World) := fun s => if h : ∃ s', GS s (dd s) s' then some (Classical.choose h) else none
  have hnx : ∀ s s', nx s = some s' → GS s (dd s) s' := by
    intro s s' h
    simp only [nx] at h
    split at h
    · rename_i hx
      have := Option.some.inj h
      rw [← this]
      exact Classical.choose_spec hx
    · cases h
  have hnn : ∀ s, nx s = none → ∀ s', ¬ GS s (dd s) s' := by
    intro s h s' hs'
    simp only [nx] at h
    split at h
    · cases h
    · rename_i hx; exact hx ⟨s', hs'⟩
  let sq : Nat → Goroutine × World := fun n => Nat.rec (g, w) (fun _ s => (nx s).getD s) n
  have sq0 : sq 0 = (g, w) := rfl
  have sqs : ∀ i, sq (i + 1) = (nx (sq i)).getD (sq i) := fun i => rfl
  let e : Nat → Nat := fun n => Nat.rec 0 (fun i a => a + ((sq (i + 1)).2.drawn - dd (sq i))) n
  have e0 : e 0 = 0 := rfl
  have es : ∀ i, e (i + 1) = e i + ((sq (i + 1)).2.drawn - dd (sq i)) := fun i => rfl
  have emono : ∀ i j, i ≤ j → e i ≤ e j := by
    intro i j h
    induction h with
    | refl => exact Nat.le_refl _
    | step h ih => exact Nat.le_trans ih (by rw [es]; omega)
  have live0 : g.status = .running ∧ g.dying = none := by
    obtain ⟨n, gt, wt, h1, h2, h3, -⟩ := lone w.tape
    have := runN_first hP hg hs h1 h2 h3
    exact ⟨this.1, this.2.1⟩
  have inv : ∀ i, (∀ j, j < i → nx (sq j) ≠ none) → Fr (sq i).1 ∧ (sq i).1.status = .running ∧ (sq i).1.dying = none ∧ ¬ K (sq i).1 (sq i).2 := by
    intro i
    induction i with
    | zero => exact fun _ => ⟨hg, live0.1, live0.2, hK⟩
    | succ i ih =>
      intro h
      obtain ⟨h1, h2, h3, h4⟩ := ih fun j hj => h j (by omega)
      obtain ⟨s', hs'⟩ := Option.ne_none_iff_exists'.1 (h i (by omega))
      have hsq : sq (i + 1) = s' := by rw [sqs, hs']; rfl
      rw [hsq]
      have hgs := hnx _ _ hs'
      obtain ⟨ops, e1, e2, e3⟩ := hgs
      have hf : Fr s'.1 := by
        obtain ⟨W', -, -, -, -, hf⟩ := own_step (sl := none) hP h3 h1 (Sync.refl s'.2.drawn _) e1 e2 e3 (Nat.le_refl _) (gs := #[(sq i).1]) rfl oth_one
        exact hf
      exact ⟨hf, e2, e3, hdd _ h1 h2 h3 h4 s' ⟨ops, e1, e2, e3⟩ hf⟩
  let Q : Nat → Nat → Prop := fun n i => (∀ j, j < i → nx (sq j) ≠ none) ∧ e i ≤ n ∧ (n < e (i + 1) ∨ nx (sq i) = none)
  have Qlt : ∀ n i i', Q n i → Q n i' → ¬ i < i' := by
    intro n i i' h h' hlt
    rcases h.2.2 with h1 | h1
    · have := emono (i + 1) i' hlt
      have := h'.2.1
      omega
    · exact h'.1 i hlt h1
  let τs : Nat → Question → Nat := fun n q => if h : ∃ i, Q n i then (sq (Classical.choose h)).2.tape (dd (sq (Classical.choose h)) + (n - e (Classical.choose h))) q else 0
  have hτ : ∀ n i q, Q n i → τs n q = (sq i).2.tape (dd (sq i) + (n - e i)) q := by
    intro n i q h
    have hx : ∃ i, Q n i := ⟨i, h⟩
    have hc := Classical.choose_spec hx
    have : Classical.choose hx = i := by
      rcases Nat.lt_trichotomy (Classical.choose hx) i with h1 | h1 | h1
      · exact absurd h1 (Qlt _ _ _ hc h)
      · exact h1
      · exact absurd h1 (Qlt _ _ _ h hc)
    simp only [τs, dif_pos hx, this]
  have claim : ∀ i, (∀ j, j < i → nx (sq j) ≠ none) → runN P i (solo g (w.re τs 0)) = .next (solo (sq i).1 ((sq i).2.re τs (e i))) := by
    intro i
    induction i with
    | zero => intro _; rfl
    | succ i ih =>
      intro h
      have hr := ih fun j hj => h j (by omega)
      obtain ⟨h1, h2, h3, h4⟩ := inv i fun j hj => h j (by omega)
      obtain ⟨s', hs'⟩ := Option.ne_none_iff_exists'.1 (h i (by omega))
      have hsq : sq (i + 1) = s' := by rw [sqs, hs']; rfl
      obtain ⟨ops, e1, e2, e3⟩ := hnx _ _ hs'
      have hm := own_mono hP h3 h1 e1 e2 e3
      have hm' : dd (sq i) ≤ s'.2.drawn := hm
      have hei : e (i + 1) = e i + (s'.2.drawn - dd (sq i)) := by rw [es, hsq]
      obtain ⟨W', ⟨d, rfl, hab, -⟩, hrun, -⟩ := own_step (hz := ⟨s'.2.drawn, τs, dd (sq i), e i⟩) (sl := none) hP h3 h1 (L := (sq i).2.at (dd (sq i))) (W := (sq i).2.re τs (e i))
        ⟨e i, rfl, by show e i + dd (sq i) = dd (sq i) + e i; omega, fun k q hk => by
          have hk' : dd (sq i) + k < s'.2.drawn := hk
          have : Q (e i + k) i := ⟨fun j hj => h j (by omega), by omega, .inl (by rw [hei]; omega)⟩
          show (sq i).2.tape (dd (sq i) + k) q = τs (e i + k) q
          rw [hτ _ _ q this]
          congr 1
          omega⟩ e1 e2 e3 (Nat.le_refl _) (gs := #[(sq i).1]) rfl oth_one
      simp only at hab
      have hd : d = e (i + 1) := by rw [hei]; omega
      rw [runN_add, hr]
      have hstep : step P (solo (sq i).1 ((sq i).2.re τs (e i))) = .next (solo s'.1 (s'.2.re τs d)) := by
        unfold step
        rw [stepT_solo h2, solo_eq_crowd, hrun, set_one]
        rfl
      simp only [runN, hstep, hsq, hd]
  obtain ⟨n, gt, wt, hl1, hl2, hl3, hl4⟩ := lone τs
  have split : ∀ m, (∀ j, j < m → nx (sq j) ≠ none) ∨ ∃ s, s < m ∧ nx (sq s) = none ∧ ∀ j, j < s → nx (sq j) ≠ none := by
    intro m
    induction m with
    | zero => exact .inl fun j hj => by omega
    | succ m ih =>
      rcases ih with h | ⟨s, h1, h2, h3⟩
      · by_cases hm : nx (sq m) = none
        · exact .inr ⟨m, by omega, hm, h⟩
        · refine .inl fun j hj => ?_
          rcases Nat.lt_or_ge j m with h1 | h1
          · exact h j h1
          · have : j = m := by omega
            rw [this]; exact hm
      · exact .inr ⟨s, by omega, h2, h3⟩
  rcases split n with h | ⟨s, hsn, hnone, h⟩
  · have := claim n h
    rw [hl1] at this
    simp [solo] at this
    obtain ⟨h1, rfl⟩ := this
    have hk := hl4 (sq n).2.tape (sq n).2.drawn
    rw [h1, re_re, re_self] at hk
    exact (inv n h).2.2.2 hk
  · have hc := claim s h
    obtain ⟨h1, h2, h3, h4⟩ := inv s h
    have hn : n = s + (n - s) := by omega
    rw [hn, runN_add, hc] at hl1
    simp only at hl1
    obtain ⟨-, -, hz | ⟨k, g1, w1, ops, -, hrun, hf1, hs1, hrest⟩⟩ := runN_first hP h1 (fun t ht => by rw [h2] at ht; cases ht) hl1 hl2 hl3
    · omega
    · have hl := runN_first hP hf1 hs1 hrest hl2 hl3
      obtain ⟨W', -, hrun', -⟩ := own_step (hz := ⟨w1.drawn, (sq s).2.tape, e s, dd (sq s)⟩) (sl := none) hP h3 h1 (L := (sq s).2.re τs (e s)) (W := (sq s).2.at (dd (sq s)))
        ⟨dd (sq s), rfl, by show dd (sq s) + e s = e s + dd (sq s); omega, fun i q hi => by
          have : Q (e s + i) s := ⟨h, by omega, .inr hnone⟩
          show τs (e s + i) q = (sq s).2.tape (dd (sq s) + i) q
          rw [hτ _ _ q this]
          congr 1
          omega⟩ hrun hl.1 hl.2.1 (Nat.le_refl _) (gs := #[(sq s).1]) rfl oth_one
      rw [← solo_eq_crowd, set_one] at hrun'
      exact hnn _ hnone (g1, W') ⟨ops, hrun', hl.1, hl.2.1⟩
end Go.Co
end
section
namespace Go.Co
open Go Go.Conc
open Go.ConcN (sumTo upd sumTo_upd upd_ne upd_same)
variable {P : Program}
structure Past0 (t : Trace) : Prop where
  clean : ∀ said, ¬ Race said t
  known : ∀ i a, touchAt t i = some a → a.loc.isMemory = true → Knows t 0 i
  over : t.HandedOver
  hears : Deaf t 0 = 0
theorem Past0.own {t u : Trace} (h : Past0 t) (hu : ∀ op ∈ u, op.g = 0) (hd : Deaf t 0 = 0 → Deaf (t ++ u) 0 = 0) : Past0 (t ++ u) := by
  refine ⟨fun said => noRace_append (h.clean said) hu fun i a ha op hop b hb hc => h.known i a ha hc.2.1, fun i a ha hm => ?_, handedOver_app h.over fun op hop => .inl (hu op hop), hd h.hears⟩
  obtain ⟨x, hx, hxa⟩ := touch_of ha
  rcases getElem?_append_cases hx with ⟨_, hx'⟩ | ⟨_, hxu⟩
  · exact (h.known i a (by rw [touchAt_of hx']; exact hxa) hm).app u
  · have := knows_own hx
    rw [hu x hxu] at this
    exact this
theorem Past0.mute {t u : Trace} {g : Nat} (h : Past0 t) (hg : g ≠ 0) (hu : ∀ op ∈ u, op.g = g) (hn : ∀ op ∈ u, op.act.touch? = none) : Past0 (t ++ u) := by
  refine ⟨fun said => noRace_append (h.clean said) hu fun i a _ op hop b hb _ => (by rw [hn op hop] at hb; cases hb), fun i a ha hm => ?_, handedOver_app h.over fun op hop => .inr (hn op hop), (Deaf_other t hg u hu).trans h.hears⟩
  obtain ⟨x, hx, hxa⟩ := touch_of ha
  rcases getElem?_append_cases hx with ⟨_, hx'⟩ | ⟨_, hxu⟩
  · exact (h.known i a (by rw [touchAt_of hx']; exact hxa) hm).app u
  · grind
theorem past0_nil : Past0 #[] :=
  ⟨fun said => by rintro ⟨i, j, _, ⟨a, b, ha, _⟩, _⟩; simp [Trace.act?] at ha, fun i a ha => by simp [touchAt, Trace.act?] at ha, fun i g hg => by simp [Trace.g?] at hg, rfl⟩
def Rch (P : Program) (Final : Machine → Trace → Prop) (m : Machine) (t : Trace) : Prop := ∃ N m' t', runNT P N m t = (.next m', t') ∧ Final m' t'
variable {Final : Machine → Trace → Prop}
theorem rch_here {m : Machine} {t : Trace} (h : Final m t) : Rch P Final m t := ⟨0, m, t, rfl, h⟩
theorem rch_step {m m' : Machine} {t : Trace} {ops : Array MemOp} (h : stepT P m = (.next m', ops)) (h' : Rch P Final m' (t ++ ops)) : Rch P Final m t := by
  obtain ⟨N, m2, t2, e, hf⟩ := h'
  exact ⟨N + 1, m2, t2, by simp only [runNT, h]; exact e, hf⟩
def KM (P : Program) (Final : Machine → Trace → Prop) (g : Goroutine) (w : World) : Prop :=
  Fr g → g.status = .running → g.dying = none → ∀ gs sl t q, gs[0]? = some g → Leavers P t gs q → Past0 t → Rch P Final (crowd gs w sl) t
theorem leavers_oth {g : Goroutine} {gs : Array Goroutine} {t : Trace} {q : Nat → Nat} (hL : Leavers P t gs q) : Oth P g gs := fun j x hj hx => ⟨(hL.old j x hj hx).status, fun _ _ => woken_quitsD (hL.old j x hj hx)⟩
theorem km_closed (hP : Plain P) (g : Goroutine) (w : World) (_hf : Fr g) (_hr : g.status = .running) (_hd : g.dying = none)
    (h : ∀ d, ∃ g' w' ops, runT P (solo g (w.at d)) 0 = (.next (solo g' w'), ops) ∧ g'.status = .running ∧ g'.dying = none ∧ Fr g' ∧ KM P Final g' w') : KM P Final g w := by
  intro hf hr hd
  suffices hM : ∀ (M : Nat) (d0 : Nat) (gs : Array Goroutine) (sl : Option (Nat × Nat)) (t : Trace) (q : Nat → Nat), sumTo gs.size q < M → gs[0]? = some g → Leavers P t gs q → Past0 t → Rch P Final (crowd gs (w.at d0) sl) t by
    intro gs sl t q h0 hL hp
    exact hM _ w.drawn gs sl t q (Nat.lt_succ_self _) h0 hL hp
  intro M
  induction M with
  | zero => exact fun d0 gs sl t q hM => absurd hM (Nat.not_lt_zero _)
  | succ M ih =>
    intro d0 gs sl t q hM h0 hL hp
    have haw : ∀ g ∈ gs, awake g := by
      intro x hx
      obtain ⟨i, hi, rfl⟩ := Array.mem_iff_getElem.1 hx
      rcases Nat.eq_zero_or_pos i with rfl | hpos
      · have : gs[0] = g := by simpa [Array.getElem?_eq_getElem hi] using h0
        rw [this]; exact awake_of (.inl hr)
      · exact awake_of ((hL.old i _ hpos (Array.getElem?_eq_getElem hi)).status.elim .inl fun x => .inr (.inr x))
    obtain ⟨i, x, d, sl', hi, hx, hst⟩ := crowd_pick (P := P) (w := w.at d0) (sl := sl) haw ⟨0, g, h0, hr⟩
    have hat : (w.at d0).at d = w.at d := rfl
    rw [hat] at hst
    rcases Nat.eq_zero_or_pos i with rfl | hpos
    · obtain rfl : x = g := by rw [h0] at hi; exact (Option.some.inj hi).symm
      obtain ⟨g', w', ops, e1, e2, e3, e4, e5⟩ := h d
      obtain ⟨W', hsy, hrun, ho, hdf, hfr⟩ := own_step (sl := sl') hP hd hf (Sync.refl w'.drawn (w.at d)) e1 e2 e3 (Nat.le_refl _) h0 (leavers_oth hL)
      have hW : W' = w' := by
        obtain ⟨W1, hsy1, hrun1, -⟩ := own_step (sl := none) hP hd hf (Sync.refl w'.drawn (w.at d)) e1 e2 e3 (Nat.le_refl _) (gs := #[x]) rfl oth_one
        rw [← solo_eq_crowd, e1, set_one] at hrun1
        simp [solo, crowd] at hrun1
        obtain ⟨dd, rfl, hab, -⟩ := hsy
        obtain ⟨d1, hw1, hab1, -⟩ := hsy1
        simp only at hab hab1
        have : dd = d1 := by omega
        rw [this, ← hw1]
        exact hrun1.symm
      subst hW
      rw [hrun] at hst
      refine rch_step hst (e5 e4 e2 e3 _ _ _ q ?_ ⟨fun j y hj hy => ?_, fun j hj => ?_⟩ (hp.own ho (hdf t)))
      · grind
      · have hne : 0 ≠ j := by omega
        rw [Array.getElem?_setIfInBounds_ne hne] at hy
        rw [Deaf_other t (g' := 0) (by omega) _ ho]
        exact hL.old j y hj hy
      · rw [Deaf_other t (g' := 0) (by
          have hlt : 0 < gs.size := (Array.getElem?_eq_some_iff.1 h0).1
          simp at hj; omega) _ ho]
        exact hL.above j (by simpa using hj)
    ·
      have hq := hL.old i x hpos hi
      have hi0 : (i == 0) = false := by simp; omega
      have hlt : i < gs.size := (Array.getElem?_eq_some_iff.1 hi).1
      cases hqi : q i with
      | zero => rw [hqi] at hq; rw [hq.1] at hx; cases hx
      | succ k =>
        rw [hqi] at hq
        rcases hq with ⟨hf', _⟩ | ⟨_, g', es, hm, hstp, hq'⟩
        · grind
        have hrunT := runT_crowd_go (P := P) (sl := sl') (i := i) hi (by rw [hi0]; exact hstp (w.at d))
        have hsz : ((gs.map (woken P x g' (w.at d))).setIfInBounds i g').size = gs.size := by simp
        have hsum : sumTo gs.size (upd q i k) + (k + 1) = sumTo gs.size q + k := by
          have := sumTo_upd q k id hlt
          simpa [hqi] using this
        rw [hrunT] at hst
        refine rch_step hst (ih d _ sl' _ (upd q i k) (by rw [hsz]; omega) ?_ ⟨fun j y hj hy => ?_, fun j hj => ?_⟩ (hp.mute (g := i) (by omega) (fun op hop => by rw [ofEvents_eq] at hop; obtain ⟨e, _, rfl⟩ := Array.mem_map.1 hop; rfl) fun op hop => by rw [ofEvents_eq] at hop; obtain ⟨e, he, rfl⟩ := Array.mem_map.1 hop; exact touch_mute (hm e he)))
        · have hne : i ≠ 0 := by omega
          rw [Array.getElem?_setIfInBounds_ne hne, Array.getElem?_map, h0]
          simp [woken_run hr]
        · by_cases hji : i = j
          · subst hji
            rw [Array.getElem?_setIfInBounds_self_of_lt (by simpa using hlt)] at hy
            obtain rfl := Option.some.inj hy
            rw [upd_same, Deaf_own]
            exact hq'
          · rw [Array.getElem?_setIfInBounds_ne hji, Array.getElem?_map] at hy
            obtain ⟨y', hy', rfl⟩ := Option.map_eq_some_iff.1 hy
            have hqj := hL.old j y' hj hy'
            rw [woken_quitsD hqj, upd_ne q k (Ne.symm hji), Deaf_other t hji _ (fun op hop => by rw [ofEvents_eq] at hop; obtain ⟨e, _, rfl⟩ := Array.mem_map.1 hop; rfl)]
            exact hqj
        · rw [Deaf_other t (g' := i) (by simp at hj; omega) _ (fun op hop => by rw [ofEvents_eq] at hop; obtain ⟨e, _, rfl⟩ := Array.mem_map.1 hop; rfl)]
          exact hL.above j (by simpa using hj)
end Go.Co
end
section
namespace Go.Co
open Go Go.Conc
structure KC (P : Program) (main : Bool) {Γ : Type} (K : Γ → Goroutine → World → Prop) (Rl : Γ → World → World → Prop) (St : Γ → World → Γ → World → Array Event → Prop) : Prop where
  step : ∀ (γ : Γ) (fr : Frame) (cs : List Frame) (w : World), (∀ w1, Rl γ w w1 → ∃ fr' cs' w' es γ', stepG P main (G fr cs) w1 = .go (G fr' cs') w' es ∧ St γ w1 γ' w' es ∧ K γ' (G fr' cs') w') → K γ (G fr cs) w
  idle : ∀ γ w, St γ w γ w #[]
  rely : ∀ γ g w w1, Rl γ w w1 → K γ g w → K γ g w1
variable {P : Program} {main : Bool} {Γ : Type} {K : Γ → Goroutine → World → Prop} {Rl : Γ → World → World → Prop} {St : Γ → World → Γ → World → Array Event → Prop}
theorem KC.go (C : KC P main K Rl St) {γ : Γ} {fr fr' : Frame} {cs cs' : List Frame} {w : World} (h : ∀ w, stepG P main (G fr cs) w = .go (G fr' cs') w) (hk : K γ (G fr' cs') w) : K γ (G fr cs) w :=
  C.step _ _ _ _ fun w1 r => ⟨_, _, _, _, γ, h w1, C.idle _ _, C.rely _ _ _ _ r hk⟩
def AftK (K : Γ → Goroutine → World → Prop) (b : Frame) (k : List Item) (cs : List Frame) (γ : Γ) : Exit → Act → World → Prop
  | .normal, a, w => K γ (G (b.at a k) cs) w
  | .exit id, a, w => ∃ k', exitTo id k = some k' ∧ K γ (G (b.at a k') cs) w
  | .ret, a, w => ∀ todo, K γ (G { b.at a todo with mode := .returning } cs) w
  | _, _, _ => False
theorem AftK.push {b : Frame} {x : Item} {k : List Item} {cs : List Frame} {γ : Γ} {e : Exit} {a : Act} {w : World} (hx : x.plain = true) (he : e ≠ .normal) (h : AftK K b k cs γ e a w) : AftK K b (x :: k) cs γ e a w := by
  cases e with
  | normal => exact absurd rfl he
  | exit id =>
    obtain ⟨k', h1, h2⟩ := h
    exact ⟨k', by cases x <;> simp_all [exitTo, Item.plain], h2⟩
  | ret => exact h
  | goto l => exact h
  | panic ch => exact h
  | outgrown => exact h
def KJ (K : Γ → Goroutine → World → Prop) (fn : FuncId) (γ : Γ) (c : Code) (Q : Γ → Exit → Act → World → Prop) (a : Act) (w : World) : Prop :=
  ∀ (b : Frame) (k : List Item) (cs : List Frame), b.fn = fn → b.kind ≠ .early → (∀ γ' e a' w', Q γ' e a' w' → AftK K b k cs γ' e a' w') → K γ (G (b.at a (.code c :: k)) cs) w
def KO (K : Γ → Goroutine → World → Prop) (fn : FuncId) (γ : Γ) (ops : Array Oper) (todo : List Nat) (Q : Γ → Exit → Act → World → Prop) (a : Act) (w : World) : Prop :=
  ∀ (b : Frame) (k : List Item) (cs : List Frame), b.fn = fn → b.kind ≠ .early → (∀ γ' e a' w', Q γ' e a' w' → AftK K b k cs γ' e a' w') → K γ (G (b.at a (.inRegion ops todo :: k)) cs) w
variable {fn : FuncId} {γ : Γ} {Q : Γ → Exit → Act → World → Prop} {a : Act} {w : World}
theorem kj_mono {c : Code} {Q' : Γ → Exit → Act → World → Prop} (h : KJ K fn γ c Q a w) (hq : ∀ γ e a w, Q γ e a w → Q' γ e a w) : KJ K fn γ c Q' a w :=
  fun b k cs hb hk hc => h b k cs hb hk fun _ _ _ _ q => hc _ _ _ _ (hq _ _ _ _ q)
theorem kj_rely (C : KC P main K Rl St) {c : Code} {w1 : World} (r : Rl γ w w1) (h : KJ K fn γ c Q a w) : KJ K fn γ c Q a w1 :=
  fun b k cs hb hk hc => C.rely _ _ _ _ r (h b k cs hb hk hc)
theorem ko_rely (C : KC P main K Rl St) {ops : Array Oper} {todo : List Nat} {w1 : World} (r : Rl γ w w1) (h : KO K fn γ ops todo Q a w) : KO K fn γ ops todo Q a w1 :=
  fun b k cs hb hk hc => C.rely _ _ _ _ r (h b k cs hb hk hc)
theorem kj_skip (C : KC P main K Rl St) (h : Q γ .normal a w) : KJ K fn γ .skip Q a w := fun _ _ _ _ _ hc => C.go (fun _ => stepG_skip) (hc _ _ _ _ h)
theorem kj_label (C : KC P main K Rl St) {l : Nat} (h : Q γ .normal a w) : KJ K fn γ (.label l) Q a w := fun _ _ _ _ _ hc => C.go (fun _ => stepG_label) (hc _ _ _ _ h)
theorem kj_ret (C : KC P main K Rl St) (h : Q γ .ret a w) : KJ K fn γ .ret Q a w := fun _ _ _ _ _ hc => C.go (fun _ => stepG_ret') (hc _ _ _ _ h _)
theorem kj_exit (C : KC P main K Rl St) {id : Nat} (h : Q γ (.exit id) a w) : KJ K fn γ (.exit id) Q a w := fun _ _ _ _ _ hc => by
  obtain ⟨k', h1, h2⟩ := hc _ _ _ _ h
  exact C.go (fun _ => stepG_exit h1) h2
theorem kj_seq (C : KC P main K Rl St) {x y : Code} (h : KJ K fn γ x (fun γ' => Exit.then (KJ K fn γ' y Q) (Q γ')) a w) : KJ K fn γ (.seq x y) Q a w := fun b k cs hb hk hc =>
  C.go (fun _ => stepG_seq) (h b (.code y :: k) cs hb hk fun γ' e a' w' q => by
    cases e with
    | normal => exact q b k cs hb hk hc
    | exit id => exact (hc _ _ _ _ q).push rfl (by simp)
    | ret => exact AftK.push (x := .code y) rfl (by simp) (hc _ _ _ _ q)
    | goto l => exact hc _ _ _ _ q
    | panic ch => exact hc _ _ _ _ q
    | outgrown => exact hc _ _ _ _ q)
theorem kj_cond (C : KC P main K Rl St) {c : Operand} {x y : Code} {t : Bool} (ht : a.eval c = .bool t) (h : KJ K fn γ (if t then x else y) Q a w) : KJ K fn γ (.cond c x y) Q a w := fun b k cs hb hk hc =>
  C.go (fun _ => stepG_cond ht) (h b k cs hb hk hc)
theorem kj_block (C : KC P main K Rl St) {id : Nat} {c : Code} (h : KJ K fn γ c (fun γ' => Exit.inBlock id (Q γ')) a w) : KJ K fn γ (.block id c) Q a w := fun b k cs hb hk hc =>
  C.go (fun _ => stepG_block) (h b (.inBlock id :: k) cs hb hk fun γ' e a' w' q => by
    cases e with
    | normal => exact C.go (fun _ => stepG_inBlock) (hc _ _ _ _ q)
    | exit id' =>
      simp only [Exit.inBlock] at q
      split at q
      · rename_i h; subst h
        exact ⟨k, by simp [exitTo], hc _ _ _ _ q⟩
      · rename_i h
        obtain ⟨k', h1, h2⟩ := hc _ _ _ _ q
        exact ⟨k', by simp [exitTo, Ne.symm h, h1], h2⟩
    | ret => exact hc _ _ _ _ q
    | goto l => exact (hc _ _ _ _ q).elim
    | panic ch => exact hc _ _ _ _ q
    | outgrown => exact hc _ _ _ _ q)
theorem kj_loop (C : KC P main K Rl St) {c : Code} (I : Γ → Act → World → Prop) (μ : Γ → Act → World → Nat) (h₀ : I γ a w)
    (round : ∀ γ a w, I γ a w → KJ K fn γ c (fun γ' => Exit.then (fun a' w' => I γ' a' w' ∧ μ γ' a' w' < μ γ a w) (Q γ')) a w) : KJ K fn γ (.loop c) Q a w := by
  intro b k cs hb hk hc
  have key : ∀ N γ a w, μ γ a w < N → I γ a w → K γ (G (b.at a (.code c :: .inLoop c :: k)) cs) w := by
    intro N
    induction N with
    | zero => exact fun _ _ _ h => absurd h (Nat.not_lt_zero _)
    | succ N ih =>
      intro γ a w hμ hI
      refine round γ a w hI b (.inLoop c :: k) cs hb hk fun γ' e a' w' q => ?_
      cases e with
      | normal => exact C.go (fun _ => stepG_inLoop) (ih γ' a' w' (by have := q.2; omega) q.1)
      | exit id => exact (hc _ _ _ _ q).push rfl (by simp)
      | ret => exact AftK.push (x := .inLoop c) rfl (by simp) (hc _ _ _ _ q)
      | goto l => exact hc _ _ _ _ q
      | panic ch => exact hc _ _ _ _ q
      | outgrown => exact hc _ _ _ _ q
  exact C.go (fun _ => stepG_loop) (key _ γ a w (Nat.lt_succ_self _) h₀)
theorem kj_region (C : KC P main K Rl St) {id : Nat} {ops : Array Oper} (h : KO K fn γ ops (List.range ops.size) Q a w) : KJ K fn γ (.region id ops false) Q a w := fun b k cs hb hk hc =>
  C.go (fun _ => stepG_region) (h b k cs hb hk hc)
theorem ko_nil (C : KC P main K Rl St) {ops : Array Oper} (h : Q γ .normal a w) : KO K fn γ ops [] Q a w := fun _ _ _ _ _ hc => C.go (fun _ => stepG_region_end) (hc _ _ _ _ h)
theorem ko_cons (C : KC P main K Rl St) {ops : Array Oper} {i : Nat} {rest : List Nat} {o : Oper} (ho : ops[i]? = some o) (hw : Region.wanted o (yielded ops a.tmps) = true)
    (h : ∀ w₁, Rl γ w w₁ → uponK o a (fun a' w' => ∃ γ', St γ w₁ γ' w' (listed P fn a o w₁) ∧ KO K fn γ' ops rest Q a' w') ((execOp a.eval o).run P w₁)) : KO K fn γ ops (i :: rest) Q a w := by
  intro b k cs hb hk hc
  refine C.step _ _ _ _ fun w₁ h₁ => ?_
  have hke : b.kind ≠ .early := hk
  have := h w₁ h₁
  revert this
  cases hr : (execOp a.eval o).run P w₁ with
  | ok x w' =>
    cases x with
    | value v => exact fun ⟨γ', d, g⟩ => ⟨_, _, _, _, γ', stepG_value ho hw hke hr, hb ▸ d, g b k cs hb hk hc⟩
    | skip => exact fun ⟨γ', d, g⟩ => ⟨_, _, _, _, γ', stepG_none ho hw hke hr, hb ▸ d, g b k cs hb hk hc⟩
    | _ => exact fun h => h.elim
  | halt _ _ => exact fun h => h.elim
theorem ko_unwanted (C : KC P main K Rl St) {ops : Array Oper} {i : Nat} {rest : List Nat} {o : Oper} (ho : ops[i]? = some o) (hw : Region.wanted o (yielded ops a.tmps) = false)
    (h : KO K fn γ ops rest Q (a.put o.dst undef) w) : KO K fn γ ops (i :: rest) Q a w := fun b k cs hb hk hc =>
  C.go (fun _ => stepG_unwanted ho hw) (h b k cs hb hk hc)
def bodyK (P : Program) (fn : Func) (Post : Γ → Value → World → Prop) (γ : Γ) : Exit → Act → World → Prop
  | .normal, a, w | .ret, a, w => a.defers = [] ∧ ∃ v, ResultsC P fn a.tmps v ∧ Post γ v w
  | _, _, _ => False
def KCall (K : Γ → Goroutine → World → Prop) (P : Program) (γ : Γ) (f : FuncId) (args : Array Value) (w : World) (Post : Γ → Value → World → Prop) : Prop :=
  ∃ fn c, P.funcs[f]? = some fn ∧ (fn.name == "runtime.NumGoroutine") = false ∧ fn.body = some c ∧ KJ K f γ c (bodyK P fn Post) { tmps := args ++ Array.replicate (fn.ntmps - args.size) undef, defers := [] } w
theorem kcall_of {f : FuncId} {fn' : Func} {c : Code} {args : Array Value} {Post : Γ → Value → World → Prop} (hf : P.funcs[f]? = some fn') (hname : (fn'.name == "runtime.NumGoroutine") = false) (hb : fn'.body = some c)
    (h : KJ K f γ c (bodyK P fn' Post) { tmps := args ++ Array.replicate (fn'.ntmps - args.size) undef, defers := [] } w) : KCall K P γ f args w Post := ⟨fn', c, hf, hname, hb, h⟩
theorem ko_call (C : KC P main K Rl St) {ops : Array Oper} {i : Nat} {rest : List Nat} {o : Oper} {f : FuncId} {args : Array Operand} {ats : Array TypeId} {Post : Γ → Value → World → Prop}
    (ho : ops[i]? = some o) (hw : Region.wanted o (yielded ops a.tmps) = true) (hop : o.op = .call { callee := .value (.func f), args, argTypes := ats })
    (hcall : KCall K P γ f (args.map a.eval) w Post) (hnext : ∀ γ' v w', Post γ' v w' → KO K fn γ' ops rest Q (a.put o.dst v) w') : KO K fn γ ops (i :: rest) Q a w := by
  intro b k cs hb hk hc
  obtain ⟨fn', c, hf, hname, hbody, hwp⟩ := hcall
  have hke : b.kind ≠ .early := hk
  have hfin : ∀ v, (b.at a (.inRegion ops (i :: rest) :: k)).finish v = b.at (a.put o.dst v) (.inRegion ops rest :: k) := fun v => by rw [Frame.finish_at, ho]; rfl
  have hleave : ∀ (γ' : Γ) (a' : Act) (w' : World) (todo : List Item), (a'.defers = [] ∧ ∃ v, ResultsC P fn' a'.tmps v ∧ Post γ' v w') →
      K γ' (G { (base f).at a' todo with mode := .returning } (b.at a (.inRegion ops (i :: rest) :: k) :: cs)) w' := by
    rintro γ' a' w' todo ⟨hd, v, hr, hp⟩
    refine C.go (fun w₁ => ?_) (hnext γ' v w' hp b k cs hb hk hc)
    rw [stepG_leave (b := base f) rfl hd hf (hr w₁).1 (hr w₁).2, hfin]
  have hbodyG : K γ (G ((base f).at { tmps := args.map a.eval ++ Array.replicate (fn'.ntmps - (args.map a.eval).size) undef, defers := [] } [.code c]) (b.at a (.inRegion ops (i :: rest) :: k) :: cs)) w := by
    refine hwp (base f) [] _ rfl (by simp [base]) fun γ' e a' w' q => ?_
    cases e with
    | normal => exact C.go (fun _ => stepG_end) (hleave γ' a' w' [] q)
    | ret => exact fun todo => hleave γ' a' w' todo q
    | exit id => exact q.elim
    | goto l => exact q.elim
    | panic ch => exact q.elim
    | outgrown => exact q.elim
  refine C.go (fun w₁ => ?_) hbodyG
  have := goes_call (P := P) (main := main) (b := b) (k := k) (cs := cs) (w := w₁) (K := fun g w es => g = G ((base f).at { tmps := args.map a.eval ++ Array.replicate (fn'.ntmps - (args.map a.eval).size) undef, defers := [] } [.code c]) (b.at a (.inRegion ops (i :: rest) :: k) :: cs) ∧ w = w₁ ∧ es = #[]) ho hw hke hop hf hname hbody ⟨rfl, rfl, rfl⟩
  obtain ⟨g', w', es, e, h1, h2, h3⟩ := goes_elim this
  rw [e, h1, h2, h3]
end Go.Co
end
section
namespace Go.Co
open Go Go.Conc
open Go.ConcN (sumTo upd sumTo_upd upd_ne upd_same)
variable {P : Program} {Final : Machine → Trace → Prop}
def RlM (_ : Unit) (w w1 : World) : Prop := ∃ d, w1 = w.at d
def StM (_ : Unit) (_ : World) (_ : Unit) (_ : World) (_ : Array Event) : Prop := True
def KMu (P : Program) (Final : Machine → Trace → Prop) (_ : Unit) (g : Goroutine) (w : World) : Prop := ∀ d, KM P Final g (w.at d)
theorem kc_main (hP : Plain P) : KC P true (KMu P Final) RlM StM where
  step := fun γ fr cs w h d0 hf hr hd => by
    refine km_closed hP _ (w.at d0) hf hr hd (fun d => ?_) hf hr hd
    obtain ⟨fr', cs', w', es, γ', e, -, hk⟩ := h (w.at d) ⟨d, rfl⟩
    have hok := stepG_ok (b := False) hP true (G fr cs) hf (w.at d)
    rw [e] at hok
    exact ⟨G fr' cs', w', _, runT_solo_go e, rfl, rfl, hok.2.1, hk w'.drawn⟩
  idle := fun _ _ => trivial
  rely := fun γ g w w1 r h d => by
    obtain ⟨d1, rfl⟩ := r
    exact h d
theorem km_lone (hP : Plain P) {g : Goroutine} {w : World}
    (h : Fr g → ∀ τ, ∃ n gt wt, runN P n (solo g (w.re τ 0)) = .next (solo gt wt) ∧ gt.status = .running ∧ gt.dying = none ∧ ∀ τ d, KMu P Final () gt (wt.re τ d)) : KMu P Final () g w := by
  intro d0 hf hr hd
  refine lift hP (KM P Final) (fun g w hf hr hd h => km_closed hP g w hf hr hd h) g (w.at d0) hf (fun t => by rw [hr]; simp) (fun τ => ?_) hf hr hd
  obtain ⟨n, gt, wt, h1, h2, h3, h4⟩ := h hf τ
  exact ⟨n, gt, wt, h1, h2, h3, fun τ d => h4 τ d d⟩
theorem kj_of_wp (hP : Plain P) {fn : FuncId} {c : Code} {Q0 : Exit → Act → World → Prop} {Q : Unit → Exit → Act → World → Prop} {a : Act} {w : World}
    (h : ∀ τ, c.wp P Q0 a (w.re τ 0)) (hq : ∀ e a w, Q0 e a w → ∀ τ d, Q () e a (w.re τ d)) : KJ (KMu P Final) fn () c Q a w := by
  intro b k cs _ _ hc
  refine km_lone hP fun _ τ => ?_
  obtain ⟨e, a', w', hq', harr⟩ := h τ b k cs
  have hk := fun τ d => hc () e a' _ (hq _ _ _ hq' τ d)
  cases e with
  | normal =>
    obtain ⟨n, hn⟩ := harr
    exact ⟨n, _, w', hn, rfl, rfl, fun τ d => hk τ d⟩
  | exit id =>
    obtain ⟨k', h1, -⟩ := hk w'.tape 0
    obtain ⟨n, hn⟩ := harr k' h1
    refine ⟨n, _, w', hn, rfl, rfl, fun τ d => ?_⟩
    obtain ⟨k2, h2, h3⟩ := hk τ d
    rw [h1] at h2
    cases h2
    exact h3
  | ret =>
    obtain ⟨todo, n, hn⟩ := harr
    exact ⟨n, _, w', hn, rfl, rfl, fun τ d => hk τ d todo⟩
  | goto l => exact (hk w'.tape 0).elim
  | panic ch => exact (hk w'.tape 0).elim
  | outgrown => exact (hk w'.tape 0).elim
def Fin0 (P : Program) (Post : Value → World → Prop) (m : Machine) (t : Trace) : Prop := ∃ o w' ops, stepT P m = (.ended o w', ops) ∧ Good P Post m o w' (t ++ ops)
theorem beside_pick {g : Goroutine} {gs : Array Goroutine} {w : World} {sl : Option (Nat × Nat)} {t : Trace} {q : Nat → Nat} (hr : g.status = .running) (h0 : gs[0]? = some g) (hL : Leavers P t gs q) (hp : Past0 t) :
    (∃ d sl', stepT P (crowd gs w sl) = runT P (crowd gs (w.at d) sl') 0) ∨
    (∃ d sl' gs' ops q', stepT P (crowd gs w sl) = (.next (crowd gs' (w.at d) sl'), ops) ∧ gs'[0]? = some g ∧ Leavers P (t ++ ops) gs' q' ∧ Past0 (t ++ ops) ∧ sumTo gs'.size q' < sumTo gs.size q) := by
  have haw : ∀ g ∈ gs, awake g := by
    intro x hx
    obtain ⟨i, hi, rfl⟩ := Array.mem_iff_getElem.1 hx
    rcases Nat.eq_zero_or_pos i with rfl | hpos
    · have : gs[0] = g := by simpa [Array.getElem?_eq_getElem hi] using h0
      rw [this]; exact awake_of (.inl hr)
    · exact awake_of ((hL.old i _ hpos (Array.getElem?_eq_getElem hi)).status.elim .inl fun x => .inr (.inr x))
  obtain ⟨i, x, d, sl', hi, hx, hst⟩ := crowd_pick (P := P) (w := w) (sl := sl) haw ⟨0, g, h0, hr⟩
  rcases Nat.eq_zero_or_pos i with rfl | hpos
  · grind
  · have hq := hL.old i x hpos hi
    have hi0 : (i == 0) = false := by simp; omega
    have hlt : i < gs.size := (Array.getElem?_eq_some_iff.1 hi).1
    cases hqi : q i with
    | zero => rw [hqi] at hq; rw [hq.1] at hx; cases hx
    | succ k =>
      rw [hqi] at hq
      rcases hq with ⟨hf', _⟩ | ⟨_, g', es, hm, hstp, hq'⟩
      · grind
      have hrunT := runT_crowd_go (P := P) (sl := sl') (i := i) hi (by rw [hi0]; exact hstp (w.at d))
      have hsz : ((gs.map (woken P x g' (w.at d))).setIfInBounds i g').size = gs.size := by simp
      have hsum : sumTo gs.size (upd q i k) + (k + 1) = sumTo gs.size q + k := by
        have := sumTo_upd q k id hlt
        simpa [hqi] using this
      rw [hrunT] at hst
      refine .inr ⟨d, sl', _, _, upd q i k, hst, ?_, ⟨fun j y hj hy => ?_, fun j hj => ?_⟩, hp.mute (g := i) (by omega) (fun op hop => by rw [ofEvents_eq] at hop; obtain ⟨e, _, rfl⟩ := Array.mem_map.1 hop; rfl) (fun op hop => by rw [ofEvents_eq] at hop; obtain ⟨e, he, rfl⟩ := Array.mem_map.1 hop; exact touch_mute (hm e he)), by rw [hsz]; omega⟩
      · have hne : i ≠ 0 := by omega
        rw [Array.getElem?_setIfInBounds_ne hne, Array.getElem?_map, h0]
        simp [woken_run hr]
      · by_cases hji : i = j
        · subst hji
          rw [Array.getElem?_setIfInBounds_self_of_lt (by simpa using hlt)] at hy
          obtain rfl := Option.some.inj hy
          rw [upd_same, Deaf_own]
          exact hq'
        · rw [Array.getElem?_setIfInBounds_ne hji, Array.getElem?_map] at hy
          obtain ⟨y', hy', rfl⟩ := Option.map_eq_some_iff.1 hy
          have hqj := hL.old j y' hj hy'
          rw [woken_quitsD hqj, upd_ne q k (Ne.symm hji), Deaf_other t hji _ (fun op hop => by rw [ofEvents_eq] at hop; obtain ⟨e, _, rfl⟩ := Array.mem_map.1 hop; rfl)]
          exact hqj
      · rw [Deaf_other t (g' := i) (by simp at hj; omega) _ (fun op hop => by rw [ofEvents_eq] at hop; obtain ⟨e, _, rfl⟩ := Array.mem_map.1 hop; rfl)]
        exact hL.above j (by simpa using hj)
theorem beside_until {g : Goroutine} {w : World} (hr : g.status = .running)
    (h : ∀ d d0 sl' gs sl t q, gs[0]? = some g → Leavers P t gs q → Past0 t → stepT P (crowd gs (w.at d0) sl) = runT P (crowd gs (w.at d) sl') 0 → Rch P Final (crowd gs (w.at d0) sl) t) :
    ∀ d0 gs sl t q, gs[0]? = some g → Leavers P t gs q → Past0 t → Rch P Final (crowd gs (w.at d0) sl) t := by
  suffices hM : ∀ (M : Nat) (d0 : Nat) (gs : Array Goroutine) (sl : Option (Nat × Nat)) (t : Trace) (q : Nat → Nat), sumTo gs.size q < M → gs[0]? = some g → Leavers P t gs q → Past0 t → Rch P Final (crowd gs (w.at d0) sl) t by
    intro d0 gs sl t q h0 hL hp
    exact hM _ d0 gs sl t q (Nat.lt_succ_self _) h0 hL hp
  intro M
  induction M with
  | zero => exact fun d0 gs sl t q hM => absurd hM (Nat.not_lt_zero _)
  | succ M ih =>
    intro d0 gs sl t q hM h0 hL hp
    rcases beside_pick (w := w.at d0) (sl := sl) hr h0 hL hp with ⟨d, sl', hst⟩ | ⟨d, sl', gs', ops, q', hst, h0', hL', hp', hlt⟩
    · exact h d d0 sl' gs sl t q h0 hL hp hst
    · exact rch_step hst (ih d gs' sl' _ q' (by omega) h0' hL' hp')
theorem km_end {Post : Value → World → Prop} {fr : Frame} {w : World} {v : Value} (hl : ∀ d, fr.leaving P (w.at d) (.returned v)) (hi : P.inits.idxOf? fr.fn = none) (hpost : ∀ d, Post v (w.at d)) :
    KMu P (Fin0 P Post) () (G fr []) w := by
  intro d0 hf hr hd gs sl t q h0 hL hp
  refine beside_until (g := G fr []) (w := w) rfl (fun d d0 sl' gs sl t q h0 hL hp hst => rch_here ?_) d0 gs sl t q h0 hL hp
  have hend : ∃ es, stepG P true (G fr []) (w.at d) = .ended (.done v) (w.at d) es := by
    obtain ⟨hm, hdf, hk, fn, hfn, hres⟩ := hl d
    refine ⟨seen P fr.fn ((results fn fr.tmps).runT P (w.at d) #[]).2 ++ #[], ?_⟩
    simp [stepG, G, unwind, doReturn, hm, hdf, hk, hfn, hres, hi, GStep.after]
  obtain ⟨es, hend⟩ := hend
  have hrunT := runT_many_ended (P := P) (sl := sl') (i := 0) h0 (show stepG P (0 == 0) (G fr []) (w.at d) = _ from hend)
  have hu : ∀ op ∈ MemOp.ofEvents 0 (G fr []).frame.fn (G fr []).frame.place es, op.g = 0 := fun op hop => by rw [ofEvents_eq] at hop; obtain ⟨e, _, rfl⟩ := Array.mem_map.1 hop; rfl
  refine ⟨_, _, _, hst.trans hrunT, v, rfl, hpost d, fun said => noRace_append (hp.clean said) hu fun i a ha op hop b hb hc => hp.known i a ha hc.2.1, handedOver_app hp.over fun op hop => .inl (hu op hop), ⟨fun x hx => ?_, rfl⟩, fun j x hx hj => ?_⟩
  · obtain ⟨j, hj⟩ := List.mem_iff_getElem?.1 hx
    rw [List.getElem?_drop] at hj
    exact ⟨_, (hL.old (1 + j) x (by omega) (by simpa [crowd] using hj)).leaves⟩
  · have hq := hL.old j x (by omega) hx
    refine ⟨q j, ?_⟩
    have e : (t ++ MemOp.ofEvents 0 (G fr []).frame.fn (G fr []).frame.place es).deaf j (t ++ MemOp.ofEvents 0 (G fr []).frame.fn (G fr []).frame.place es).size = Deaf t j :=
      Deaf_other t (g := j) (g' := 0) (by omega) _ hu
    rw [e]
    exact hq.hears _
theorem good_of_km {Post : Value → World → Prop} {fr : Frame} {w : World} (hf : Fr (G fr [])) (h : KMu P (Fin0 P Post) () (G fr []) w) :
    ∃ N last o w' t', runNT P (N + 1) (solo (G fr []) w) #[] = (.ended o w', t') ∧ runN P N (solo (G fr []) w) = .next last ∧ step P last = .ended o w' ∧ Good P Post last o w' t' := by
  obtain ⟨N, m, t, hr, o, w', ops, hst, hg⟩ := h w.drawn hf rfl rfl #[G fr []] none #[] (fun _ => 0) rfl (leavers_one P _) past0_nil
  rw [← solo_eq_crowd] at hr
  have hs : step P m = .ended o w' := by unfold step; rw [hst]
  have hr' : runNT P N (solo (G fr []) w) #[] = (.next m, t) := hr
  refine ⟨N, m, o, w', t ++ ops, ?_, ?_, hs, hg⟩
  · have h2 := runNT_succ P N _ _ _ _ hr'
    have h1 : (runNT P (N + 1) (solo (G fr []) w) #[]).1 = .ended o w' := by
      rw [runNT_fst, runN_add, show runN P N (solo (G fr []) w) = .next m by rw [← runNT_fst P N _ #[], hr']]
      simp only [runN, hs]
    rw [hst] at h2
    exact Prod.ext h1 h2
  · rw [← runNT_fst P N _ #[], hr']
end Go.Co
end
section
namespace Go.Co
open Go Go.Conc
inductive Tr where
  | leaf
  | node (f : World → Tr)
inductive TLt : Tr → Tr → Prop
  | mk (f : World → Tr) (w : World) : TLt (f w) (.node f)
theorem tlt_acc : ∀ r : Tr, Acc TLt r
  | .leaf => ⟨_, fun _ h => nomatch h⟩
  | .node f => ⟨_, fun _ h => by cases h with | mk _ w => exact tlt_acc (f w)⟩
def Tr.nat : Nat → Tr
  | 0 => .leaf
  | n + 1 => .node fun _ => Tr.nat n
theorem tlt_nat (n : Nat) : TLt (Tr.nat n) (Tr.nat (n + 1)) := .mk (fun _ => Tr.nat n) default
def Tr.up : Tr → Tr
  | .leaf => .node fun _ => .leaf
  | .node f => .node fun w => (f w).up
theorem tlt_up (f : World → Tr) (w : World) : TLt (f w).up (Tr.node f).up := .mk (fun w => (f w).up) w
theorem tlt_leaf : TLt .leaf (Tr.leaf).up := .mk (fun _ => .leaf) default
inductive LLt : List Tr → List Tr → Prop
  | mk (l : List Tr) (i : Nat) (r r' : Tr) : l[i]? = some r → TLt r' r → LLt (l.set i r') l
theorem llt_acc : ∀ l : List Tr, Acc LLt l
  | [] => ⟨_, fun _ h => by cases h with | mk _ i r r' h => simp at h⟩
  | x :: xs => by
    have hx := tlt_acc x
    have hxs := llt_acc xs
    induction hx generalizing xs with
    | intro x _ ihx =>
      induction hxs with
      | intro xs hacc ihxs =>
        refine ⟨_, fun y h => ?_⟩
        cases h with
        | mk _ i r r' h hlt =>
          cases i with
          | zero =>
            simp at h
            subst h
            exact ihx r' hlt xs (Acc.intro xs hacc)
          | succ i =>
            have : LLt (xs.set i r') xs := .mk xs i r r' (by simpa using h) hlt
            exact ihxs _ this
variable {P : Program} {main : Bool} {Γ : Type} {Rl : Γ → World → World → Prop} {St : Γ → World → Γ → World → Array Event → Prop} {Stop : Γ → Goroutine → World → Prop}
def GtR (P : Program) (main : Bool) (Rl : Γ → World → World → Prop) (St : Γ → World → Γ → World → Array Event → Prop) (Stop : Γ → Goroutine → World → Prop) : Tr → Γ → Goroutine → World → Prop
  | .leaf, γ, g, w => ∀ w1, Rl γ w w1 → Stop γ g w1
  | .node f, γ, g, w => g.status = .running ∧ ∀ w1, Rl γ w w1 → ∃ g' w' es γ', stepG P main g w1 = .go g' w' es ∧ St γ w1 γ' w' es ∧ GtR P main Rl St Stop (f w1) γ' g' w'
def Gt (P : Program) (main : Bool) (Rl : Γ → World → World → Prop) (St : Γ → World → Γ → World → Array Event → Prop) (Stop : Γ → Goroutine → World → Prop) (γ : Γ) (g : Goroutine) (w : World) : Prop := ∃ r, GtR P main Rl St Stop r γ g w
structure Tms (Rl : Γ → World → World → Prop) (St : Γ → World → Γ → World → Array Event → Prop) : Prop where
  trans : ∀ γ a b c, Rl γ a b → Rl γ b c → Rl γ a c
  idle : ∀ γ w, St γ w γ w #[]
theorem gtR_rely (T : Tms Rl St) {r : Tr} {γ : Γ} {g : Goroutine} {w w1 : World} (h : GtR P main Rl St Stop r γ g w) (hr : Rl γ w w1) : GtR P main Rl St Stop r γ g w1 := by
  cases r with
  | leaf => exact fun w2 h2 => h w2 (T.trans _ _ _ _ hr h2)
  | node f => exact ⟨h.1, fun w2 h2 => h.2 w2 (T.trans _ _ _ _ hr h2)⟩
open Classical in
theorem gt_step {γ : Γ} {g : Goroutine} {w : World} (hs : g.status = .running) (h : ∀ w1, Rl γ w w1 → ∃ g' w' es γ', stepG P main g w1 = .go g' w' es ∧ St γ w1 γ' w' es ∧ Gt P main Rl St Stop γ' g' w') : Gt P main Rl St Stop γ g w := by
  have hr : ∀ w1, ∃ r, Rl γ w w1 → ∃ g' w' es γ', stepG P main g w1 = .go g' w' es ∧ St γ w1 γ' w' es ∧ GtR P main Rl St Stop r γ' g' w' := by
    intro w1
    by_cases hw : Rl γ w w1
    · obtain ⟨g', w', es, γ', h1, h2, r, h3⟩ := h w1 hw
      exact ⟨r, fun _ => ⟨g', w', es, γ', h1, h2, h3⟩⟩
    · exact ⟨.leaf, fun h => absurd h hw⟩
  exact ⟨.node fun w1 => Classical.choose (hr w1), hs, fun w1 hw => Classical.choose_spec (hr w1) hw⟩
theorem gt_stop {γ : Γ} {g : Goroutine} {w : World} (h : ∀ w1, Rl γ w w1 → Stop γ g w1) : Gt P main Rl St Stop γ g w := ⟨.leaf, h⟩
theorem gt_rely (T : Tms Rl St) {γ : Γ} {g : Goroutine} {w w1 : World} (h : Gt P main Rl St Stop γ g w) (hr : Rl γ w w1) : Gt P main Rl St Stop γ g w1 := by
  obtain ⟨r, h⟩ := h
  exact ⟨r, gtR_rely T h hr⟩
theorem kc_gt (T : Tms Rl St) : KC P main (Gt P main Rl St Stop) Rl St where
  step := fun γ fr cs w h => gt_step rfl fun w1 h1 => by
    obtain ⟨fr', cs', w', es, γ', h1, h2, h3⟩ := h w1 h1
    exact ⟨_, _, _, _, h1, h2, h3⟩
  idle := T.idle
  rely := fun γ g w w1 r h => gt_rely T h r
def Rlo (S O : Nat → Prop) (w w1 : World) : Prop :=
  w.heap.size ≤ w1.heap.size ∧ (∀ b, S b ∨ O b → w1.heap[b]? = w.heap[b]?) ∧ w1.tape = w.tape ∧ w1.os = w.os ∧ w1.output = w.output
def Evo (S O : Nat → Prop) (e : Event) : Prop := (∃ a wr sy, e = ⟨.cell a, wr, sy⟩ ∧ (wr = true → O a.block) ∧ (S a.block ∨ O a.block)) ∨ ∃ m, e = ⟨.mark m, false, true⟩ ∧ Neutral m
def Sto (S O : Nat → Prop) (w : World) (O' : Nat → Prop) (w' : World) (es : Array Event) : Prop :=
  (∀ b, O' b ↔ (O b ∨ (w.heap.size ≤ b ∧ b < w'.heap.size))) ∧ w.heap.size ≤ w'.heap.size ∧ (∀ b, b < w.heap.size → ¬ O b → w'.heap[b]? = w.heap[b]?) ∧ w'.tape = w.tape ∧ w'.os = w.os ∧ w'.output = w.output ∧ ∀ e ∈ es, Evo S O' e
theorem rlo_refl (S O : Nat → Prop) (w : World) : Rlo S O w w := ⟨Nat.le_refl _, fun _ _ => rfl, rfl, rfl, rfl⟩
theorem rlo_trans {S O : Nat → Prop} {a b c : World} (h : Rlo S O a b) (k : Rlo S O b c) : Rlo S O a c :=
  ⟨Nat.le_trans h.1 k.1, fun x hx => (k.2.1 x hx).trans (h.2.1 x hx), k.2.2.1.trans h.2.2.1, k.2.2.2.1.trans h.2.2.2.1, k.2.2.2.2.trans h.2.2.2.2⟩
theorem sto_idle (S O : Nat → Prop) (w : World) : Sto S O w O w #[] := ⟨fun b => ⟨.inl, fun h => h.elim id fun h => absurd h.2 (by omega)⟩, Nat.le_refl _, fun _ _ _ => rfl, rfl, rfl, rfl, by simp⟩
theorem sto_read {S O : Nat → Prop} {w : World} {es : Array Event} (h : ∀ e ∈ es, Evo S O e) : Sto S O w O w es := ⟨fun b => ⟨.inl, fun h => h.elim id fun h => absurd h.2 (by omega)⟩, Nat.le_refl _, fun _ _ _ => rfl, rfl, rfl, rfl, h⟩
end Go.Co
end
