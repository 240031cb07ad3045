/- The law CutKnown: part 14: Co5c Co5d Co5e Co5f Co5g Co5h Co5i. By an AI agent. -/
import Derived.Test.YtadeehilamokkaaGreatDoorPk13
section
namespace Go.Co
open Go Go.Conc
open Go.ConcN (sumTo upd upd_same upd_ne)
variable {P : Program} {Final : Machine → Trace → Prop}
def StopOf (P : Program) (Final : Machine → Trace → Prop) (main : Bool) : Pc → So → Goroutine → World → Prop
  | .send c v k => fun γ g w => AtSend P main c v g w ∧ ∀ w1, RlS γ w w1 → Pr P Final main k γ (Conc.served g undef) w1
  | .recv c ok z k => fun γ g w => AtRecv P main c ok z g w ∧ ∀ x w1, RlS γ w w1 → Pr P Final main (k x) γ (Conc.served g (recvd ok (x.getD z) x.isSome)) w1
  | .close c k => fun γ g w => g.status = .running ∧ mayWake P g = true ∧ ∃ g', g'.status = .running ∧ (∀ s r tm, w.heap[c]? = some (.chan 0 #[] false s r tm) → stepG P main g w = .go g' (w.setChan c 0 #[] true s r tm) (closeEvents c)) ∧ ∀ w1, RlS γ w w1 → Pr P Final main k γ g' w1
  | .go child k => fun γ g w => g.status = .running ∧ ∃ g' ch, g'.status = .running ∧ stepG P main g w = .spawn g' ch w ∧ ch.status = .running ∧ (∀ w1, RlS γ.give w w1 → Pr P Final false child γ.give ch w1) ∧ ∀ w1, RlS γ.give w w1 → Pr P Final main k γ.give g' w1
  | _ => fun _ _ _ => False
def Pc.live (p : Pc) : Prop := p ≠ .stop ∧ p ≠ .ret ∧ p ≠ .bad
theorem pr_live {main : Bool} {p : Pc} (hp : p.live) {γ : So} {g : Goroutine} {w : World} (h : Pr P Final main p γ g w) : ∃ r, GtR P main RlS StS (StopOf P Final main p) r γ g w := by
  cases p with
  | stop => exact absurd rfl hp.1
  | ret => exact absurd rfl hp.2.1
  | bad => exact absurd rfl hp.2.2
  | send c v k => exact h
  | recv c ok z k => exact h
  | close c k => exact h
  | go ch k => exact h
theorem stop_running {main : Bool} {p : Pc} {γ : So} {g : Goroutine} {w : World} (h : StopOf P Final main p γ g w) : g.status = .running := by
  cases p with
  | send c v k => exact h.1.1
  | recv c ok z k => exact h.1.1
  | close c k => exact h.1
  | go ch k => exact h.1
  | stop => exact h.elim
  | ret => exact h.elim
  | bad => exact h.elim
theorem rlS_at (γ : So) (w : World) (d : Nat) : RlS γ w (w.at d) := ⟨Nat.le_refl _, fun _ _ => rfl, rfl, rfl, rfl⟩
theorem rlS_refl (γ : So) (w : World) : RlS γ w w := rlo_refl _ _ _
theorem gtR_running {main : Bool} {p : Pc} {r : Tr} {γ : So} {g : Goroutine} {w : World} (h : GtR P main RlS StS (StopOf P Final main p) r γ g w) : g.status = .running := by
  cases r with
  | leaf => exact stop_running (h w (rlS_refl _ _))
  | node f => exact h.1
inductive Mem (P : Program) (Final : Machine → Trace → Prop) (j d : Nat) (γ : So) (w : World) : Pc → Tr → Goroutine → Prop
  | stop (n : Nat) (g : Goroutine) : j ≠ 0 → QuitsD P n d g → Mem P Final j d γ w .stop (Tr.nat n) g
  | ret (r : Tr) (g : Goroutine) : g.status = .running → g.dying = none → KMu P Final () g w → Mem P Final j d γ w .ret r g
  | run (p : Pc) (r : Tr) (g : Goroutine) : p.live → GtR P (j == 0) RlS StS (StopOf P Final (j == 0) p) r γ g w → Mem P Final j d γ w p r.up g
  | send (c : Nat) (v : Value) (k : Pc) (g : Goroutine) (z : Value) : (∀ w1, RlS γ w w1 → Pr P Final (j == 0) k γ (Conc.served g undef) w1) → Mem P Final j d γ w (.send c v k) .leaf (parked g #[scase c v z] .send)
  | recv (c : Nat) (ok : Bool) (z : Value) (k : Option Value → Pc) (g : Goroutine) : (∀ w1, RlS γ w w1 → AtRecv P (j == 0) c ok z (core g) w1) → (∀ x w1, RlS γ w w1 → Pr P Final (j == 0) (k x) γ (Conc.served g (recvd ok (x.getD z) x.isSome)) w1) → Mem P Final j d γ w (.recv c ok z k) .leaf (parked g #[rcase c z] (.recv ok))
theorem mem_of_pr {j : Nat} {γ : So} {w : World} {p : Pc} {g : Goroutine} (hs : g.status = .running) (hb : p ≠ .bad) (h0 : p = .stop → j ≠ 0) (h : Pr P Final (j == 0) p γ g w) : ∃ r, Mem P Final j 0 γ w p r g := by
  by_cases h1 : p = .stop
  · subst h1
    obtain ⟨n, hn⟩ := h
    exact ⟨_, .stop n g (h0 rfl) hn⟩
  · by_cases h2 : p = .ret
    · subst h2
      exact ⟨.leaf, .ret _ _ hs h.1 h.2⟩
    · obtain ⟨r, hr⟩ := pr_live ⟨h1, h2, hb⟩ h
      exact ⟨_, .run p r g ⟨h1, h2, hb⟩ hr⟩
structure Sit (P : Program) (Final : Machine → Trace → Prop) (Cs : Nat → Prop) (N : Net) (γ : Nat → So) (rk : Nat → Tr) (tp : Nat) (gs : Array Goroutine) (w : World) (t : Trace) : Prop where
  size : gs.size = N.n
  pos : 0 < N.n
  mem : ∀ j g, gs[j]? = some g → Mem P Final j (Deaf t j) (γ j) w (N.pr j) (rk j) g
  ti : TI N γ w.heap.size tp t
  chan : ∀ c, Cs c → (∃ s tm, w.heap[c]? = some (.chan 0 #[] (N.cl c).isSome s s tm)) ∧ ∀ j, ¬ (γ j).1 c ∧ ¬ (γ j).2 c
  open_ : ∀ j c ok z k g, gs[j]? = some g → g.status = .blocked → N.pr j = .recv c ok z k → N.cl c = none
  apart : ∀ i j c v k ok z k' g g', gs[i]? = some g → gs[j]? = some g' → g.status = .blocked → g'.status = .blocked → N.pr i = .send c v k → N.pr j = .recv c ok z k' → False
  frames : ∀ g, gs[0]? = some g → Fr g
theorem Mem.rely {j d : Nat} {γ : So} {w w1 : World} {p : Pc} {r : Tr} {g : Goroutine} (hp : p ≠ .ret) (h : Mem P Final j d γ w p r g) (hr : RlS γ w w1) : Mem P Final j d γ w1 p r g := by
  cases h with
  | stop n g h1 h2 => exact .stop n g h1 h2
  | ret r g h1 h2 h3 => exact absurd rfl hp
  | run p r g h1 h2 => exact .run p r g h1 (gtR_rely tms_s h2 hr)
  | send c v k g z h1 => exact .send c v k g z fun w2 h2 => h1 w2 (rlo_trans hr h2)
  | recv c ok z k g h1 h2 => exact .recv c ok z k g (fun w2 h3 => h1 w2 (rlo_trans hr h3)) fun x w2 h3 => h2 x w2 (rlo_trans hr h3)
theorem rely_of_sto {N : Net} {γ : Nat → So} {tp : Nat} {t : Trace} {w w' : World} {i j : Nat} (h : TI N γ w.heap.size tp t) (hij : j ≠ i) {O' : Nat → Prop} {es : Array Event} (hs : Sto (γ i).1 (γ i).2 w O' w' es) : RlS (γ j) w w' := by
  obtain ⟨-, h2, h3, h4, h5, h6, -⟩ := hs
  refine ⟨h2, fun b hb => h3 b (h.bnd j b hb) fun hO => ?_, h4, h5, h6⟩
  have := h.disj i j b hO
  rcases hb with hb | hb
  · grind
  · grind
theorem Mem.awake {j d : Nat} {γ : So} {w : World} {p : Pc} {r : Tr} {g : Goroutine} (h : Mem P Final j d γ w p r g) : g.status = .running ∨ g.status = .blocked ∨ g.status = .finished := by
  cases h with
  | stop n g h1 h2 => exact h2.status.imp id .inr
  | ret r g h1 h2 h3 => exact .inl h1
  | run p r g h1 h2 => exact .inl (gtR_running h2)
  | send c v k g z h1 => exact .inr (.inl rfl)
  | recv c ok z k g h1 h2 => exact .inr (.inl rfl)
theorem Mem.woken {j d : Nat} {γ : So} {w w' : World} {p : Pc} {r : Tr} {g : Goroutine} (h : Mem P Final j d γ w p r g) (hc : ∀ c, (∃ v k, p = .send c v k) ∨ (∃ ok z k, p = .recv c ok z k) → g.status = .blocked → ∃ s tm, w'.heap[c]? = some (.chan 0 #[] false s s tm)) (a a' : Goroutine) : Conc.woken P a a' w' g = g := by
  cases h with
  | stop n g h1 h2 => exact woken_quitsD h2
  | ret r g h1 h2 h3 => exact woken_run h1
  | run p r g h1 h2 => exact woken_run (gtR_running h2)
  | send c v k g z h1 =>
    obtain ⟨s, tm, h⟩ := hc c (.inl ⟨v, k, rfl⟩) rfl
    exact woken_send_open a a' h
  | recv c ok z k g h1 h2 =>
    obtain ⟨s, tm, h⟩ := hc c (.inr ⟨ok, z, k, rfl⟩) rfl
    exact woken_recv_open a a' h
open Classical in
theorem net_done {Cs : Nat → Prop} {N : Net} {γ : Nat → So} {rk : Nat → Tr} {tp : Nat} {gs : Array Goroutine} {w : World} {sl : Option (Nat × Nat)} {t : Trace} (h : Sit P Final Cs N γ rk tp gs w t)
    (h0 : N.pr 0 = .ret) (hd : ∀ j, 0 < j → j < N.n → N.pr j = .stop ∧ N.D 0 j) : Rch P Final (crowd gs w sl) t := by
  have hlt : 0 < gs.size := by rw [h.size]; exact h.pos
  obtain ⟨g, hg⟩ : ∃ g, gs[0]? = some g := ⟨gs[0], Array.getElem?_eq_getElem hlt⟩
  have hm := h.mem 0 g hg
  rw [h0] at hm
  generalize hrk : rk 0 = r at hm
  cases hm with
  | run p r g h1 h2 => exact absurd rfl h1.2.1
  | ret r g h1 h2 h3 =>
    have hq : ∀ j, ∃ n, ∀ x, 0 < j → gs[j]? = some x → QuitsD P n (Deaf t j) x := by
      intro j
      by_cases hj : 0 < j ∧ ∃ x, gs[j]? = some x
      · obtain ⟨hj, x, hx⟩ := hj
        have hjn : j < N.n := by rw [← h.size]; exact (Array.getElem?_eq_some_iff.1 hx).1
        have hmj := h.mem j x hx
        rw [(hd j hj hjn).1] at hmj
        generalize hr2 : rk j = r2 at hmj
        cases hmj with
        | stop n g h4 h5 => exact ⟨n, fun y _ hy => by rw [hx] at hy; cases hy; exact h5⟩
        | run p r g h4 h5 => exact absurd rfl h4.1
      · exact ⟨0, fun x h4 h5 => absurd ⟨h4, x, h5⟩ hj⟩
    have known : ∀ i a, touchAt t i = some a → a.loc.isMemory = true → Knows t 0 i := by
      intro i a ha hmem
      rcases Nat.lt_or_ge i tp with hi | hi
      · exact h.ti.pre i a 0 hi ha hmem (by rw [h0]; simp) h.pos
      · obtain ⟨z, hz, -⟩ := touch_of ha
        have hgz : t.g? i = some z.g := by unfold Trace.g?; rw [hz]; rfl
        by_cases hz0 : z.g = 0
        · exact g?_own (hz0 ▸ hgz)
        · have hn := h.ti.num i z.g hi hgz
          obtain ⟨h4, h5⟩ := hd z.g (by omega) hn
          exact h.ti.kn i a z.g 0 hi ha hgz h4 h5 (.inl rfl) h.pos
    have hpast : Past0 t := by
      refine ⟨h.ti.clean, known, fun i g hg hne hc => ?_, h.ti.hears 0 (.inl (by rw [h0]; simp))⟩
      obtain ⟨x, hx, hm, -⟩ := hc
      obtain ⟨q, z, hz, hz0, hb⟩ := known i x hx hm
      have hzg : t.g? q = some 0 := by unfold Trace.g?; rw [hz]; simp [hz0]
      rcases hb with rfl | hb
      · grind
      · grind
    exact h3 w.drawn (h.frames g hg) h1 h2 gs sl t (fun j => Classical.choose (hq j)) hg ⟨fun j x hj hx => Classical.choose_spec (hq j) x hj hx, fun j hj => h.ti.hears j (.inr (by rw [← h.size]; exact hj))⟩ hpast
theorem Mem.deaf {j d d' : Nat} {γ : So} {w : World} {p : Pc} {r : Tr} {g : Goroutine} (hp : p ≠ .stop) (h : Mem P Final j d γ w p r g) : Mem P Final j d' γ w p r g := by
  cases h with
  | stop n g h1 h2 => exact absurd rfl hp
  | ret r g h1 h2 h3 => exact .ret r g h1 h2 h3
  | run p r g h1 h2 => exact .run p r g h1 h2
  | send c v k g z h1 => exact .send c v k g z h1
  | recv c ok z k g h1 h2 => exact .recv c ok z k g h1 h2
theorem get_set {gs : Array Goroutine} {i j : Nat} {g' x : Goroutine} (h : (gs.setIfInBounds i g')[j]? = some x) : (j = i ∧ x = g') ∨ (j ≠ i ∧ gs[j]? = some x) := by grind
theorem map_woken {gs : Array Goroutine} {i : Nat} {f : Goroutine → Goroutine} {g' : Goroutine} (h : ∀ (j : Nat) (x : Goroutine), j ≠ i → gs[j]? = some x → f x = x) : (gs.map f).setIfInBounds i g' = gs.setIfInBounds i g' := by
  apply Array.ext_getElem?
  intro j
  by_cases hj : i = j
  · grind
  · grind
theorem Sit.woken {Cs : Nat → Prop} {N : Net} {γ : Nat → So} {rk : Nat → Tr} {tp : Nat} {gs : Array Goroutine} {w w' : World} {t : Trace} (h : Sit P Final Cs N γ rk tp gs w t)
    (hsend : ∀ i c v k, i < N.n → N.pr i = .send c v k → N.cl c = none ∧ Cs c) (hrecv : ∀ j c ok z k, j < N.n → N.pr j = .recv c ok z k → Cs c) (hc : ∀ c, Cs c → w'.heap[c]? = w.heap[c]?) (a a' : Goroutine) :
    ∀ (j : Nat) (x : Goroutine), gs[j]? = some x → Conc.woken P a a' w' x = x := by
  intro j x hx
  have hjn : j < N.n := by rw [← h.size]; exact (Array.getElem?_eq_some_iff.1 hx).1
  refine (h.mem j x hx).woken (fun c hcc hbl => ?_) a a'
  rcases hcc with ⟨v, k, hp⟩ | ⟨ok, z, k, hp⟩
  · obtain ⟨h1, h2⟩ := hsend j c v k hjn hp
    obtain ⟨⟨s, tm, h3⟩, -⟩ := h.chan c h2
    rw [h1] at h3
    exact ⟨s, tm, (hc c h2).trans h3⟩
  · have h2 := hrecv j c ok z k hjn hp
    have h1 := h.open_ j c ok z k x hx hbl hp
    obtain ⟨⟨s, tm, h3⟩, -⟩ := h.chan c h2
    rw [h1] at h3
    exact ⟨s, tm, (hc c h2).trans h3⟩
theorem sit_step (hP : Plain P) {Cs : Nat → Prop} {N : Net} {γ : Nat → So} {rk : Nat → Tr} {tp : Nat} {gs : Array Goroutine} {w : World} {t : Trace} (h : Sit P Final Cs N γ rk tp gs w t)
    (hno : ∀ j, j < N.n → N.pr j ≠ .ret ∧ N.pr j ≠ .bad) (hsend : ∀ i c v k, i < N.n → N.pr i = .send c v k → N.cl c = none ∧ Cs c) (hrecv : ∀ j c ok z k, j < N.n → N.pr j = .recv c ok z k → Cs c)
    {i : Nat} {g g' : Goroutine} {d : Nat} {sl : Option (Nat × Nat)} {w' : World} {es : Array Event} {γ' : So} {r' : Tr} (hi : gs[i]? = some g) (hl : (N.pr i).live)
    (hst : stepG P (i == 0) g (w.at d) = .go g' w' es) (hS : StS (γ i) (w.at d) γ' w' es) (hG : GtR P (i == 0) RlS StS (StopOf P Final (i == 0) (N.pr i)) r' γ' g' w') :
    runT P (crowd gs (w.at d) sl) i = (.next (crowd (gs.setIfInBounds i g') w' sl), MemOp.ofEvents i g.frame.fn g.frame.place es) ∧
    Sit P Final Cs N (upd γ i γ') (upd rk i r'.up) tp (gs.setIfInBounds i g') w' (t ++ MemOp.ofEvents i g.frame.fn g.frame.place es) := by
  obtain ⟨hS1, hS2⟩ := hS
  have hin : i < N.n := by rw [← h.size]; exact (Array.getElem?_eq_some_iff.1 hi).1
  have hlt : i < gs.size := (Array.getElem?_eq_some_iff.1 hi).1
  have hγ : γ' = ((γ i).1, γ'.2) := by rw [← hS1]
  have hchan : ∀ c, Cs c → w'.heap[c]? = w.heap[c]? := by
    intro c hc
    obtain ⟨⟨s, tm, h3⟩, h4⟩ := h.chan c hc
    refine hS2.2.2.1 c ?_ (h4 i).2
    show c < w.heap.size
    exact (Array.getElem?_eq_some_iff.1 h3).1
  have hrun := runT_crowd_go (P := P) (sl := sl) hi hst
  rw [map_woken fun j x _ hx => h.woken hsend hrecv hchan g g' j x hx] at hrun
  refine ⟨hrun, ?_⟩
  have hti := h.ti.step hin hl.1 (O' := γ'.2) (es := es) g.frame.fn g.frame.place (sz' := w'.heap.size) hS2.2.1 hS2.1 hS2.2.2.2.2.2.2
  rw [← hγ] at hti
  have hrel : ∀ j, j ≠ i → RlS (γ j) w w' := fun j hj => rely_of_sto h.ti hj (w := w) (O' := γ'.2) (es := es) ⟨hS2.1, hS2.2.1, hS2.2.2.1, hS2.2.2.2.1, hS2.2.2.2.2.1, hS2.2.2.2.2.2.1, hS2.2.2.2.2.2.2⟩
  have hg' := gtR_running hG
  have hu : ∀ op ∈ MemOp.ofEvents i g.frame.fn g.frame.place es, op.g = i := fun op hop => by rw [ofEvents_eq] at hop; obtain ⟨e, _, rfl⟩ := Array.mem_map.1 hop; rfl
  refine ⟨by simpa using h.size, h.pos, fun j x hx => ?_, hti, fun c hc => ?_, fun j c ok z k x hx hb hp => ?_, fun j j' c v k ok z k' x x' hx hx' hb hb' hp hp' => ?_, fun x hx => ?_⟩
  · rcases get_set hx with ⟨rfl, rfl⟩ | ⟨hj, hx'⟩
    · rw [upd_same, upd_same]
      exact .run _ r' x hl hG
    · rw [upd_ne _ _ hj, upd_ne _ _ hj, Deaf_other t (Ne.symm hj) _ hu]
      have hjn : j < N.n := by rw [← h.size]; exact (Array.getElem?_eq_some_iff.1 hx').1
      exact (h.mem j x hx').rely (hno j hjn).1 (hrel j hj)
  · obtain ⟨⟨s, tm, h3⟩, h4⟩ := h.chan c hc
    refine ⟨⟨s, tm, (hchan c hc).trans h3⟩, fun j => ?_⟩
    by_cases hj : j = i
    · subst hj
      rw [upd_same]
      refine ⟨by rw [hS1]; exact (h4 j).1, fun hO => ?_⟩
      rcases (hS2.1 c).1 hO with h5 | ⟨h5, -⟩
      · grind
      · have : c < w.heap.size := (Array.getElem?_eq_some_iff.1 h3).1
        have h5' : w.heap.size ≤ c := h5
        omega
    · rw [upd_ne _ _ hj]
      exact h4 j
  · rcases get_set hx with ⟨rfl, rfl⟩ | ⟨hj, hx'⟩
    · grind
    · exact h.open_ j c ok z k x hx' hb hp
  · rcases get_set hx with ⟨rfl, rfl⟩ | ⟨hj, hx1⟩
    · grind
    · rcases get_set hx' with ⟨rfl, rfl⟩ | ⟨hj', hx2⟩
      · grind
      · exact h.apart j j' c v k ok z k' x x' hx1 hx2 hb hb' hp hp'
  · rcases get_set hx with ⟨hi0, rfl⟩ | ⟨hj, hx'⟩
    · subst hi0
      have hok := stepG_ok (b := False) hP true g (h.frames g hi) (w.at d)
      rw [show stepG P true g (w.at d) = _ from hst] at hok
      exact hok.2.1
    · exact h.frames x hx'
end Go.Co
end
section
namespace Go.Co
open Go Go.Conc
open Go.ConcN (sumTo upd upd_same upd_ne)
variable {P : Program} {Final : Machine → Trace → Prop} {Cs : Nat → Prop} {N : Net} {γ : Nat → So} {rk : Nat → Tr} {tp : Nat} {gs : Array Goroutine} {w : World} {t : Trace}
theorem sit_at (h : Sit P Final Cs N γ rk tp gs w t) (hno : ∀ j, j < N.n → N.pr j ≠ .ret ∧ N.pr j ≠ .bad) (d : Nat) : Sit P Final Cs N γ rk tp gs (w.at d) t :=
  ⟨h.size, h.pos, fun j x hx => (h.mem j x hx).rely (hno j (by rw [← h.size]; exact (Array.getElem?_eq_some_iff.1 hx).1)).1 (rlS_at _ _ _), h.ti, h.chan, h.open_, h.apart, h.frames⟩
theorem sit_slip (h : Sit P Final Cs N γ rk tp gs w t)
    {i n : Nat} {g g' : Goroutine} {sl : Option (Nat × Nat)} {es : Array Event} (hi : gs[i]? = some g) (hp : N.pr i = .stop) (hi0 : i ≠ 0)
    (hm : ∀ e ∈ es, Event.mute e = true) (hst : ∀ w, stepG P false g w = .go g' w es) (hq : QuitsD P n (deafBehind (Deaf t i) es) g')
    (hsend : ∀ i c v k, i < N.n → N.pr i = .send c v k → N.cl c = none ∧ Cs c) (hrecv : ∀ j c ok z k, j < N.n → N.pr j = .recv c ok z k → Cs c) :
    runT P (crowd gs w sl) i = (.next (crowd (gs.setIfInBounds i g') w sl), MemOp.ofEvents i g.frame.fn g.frame.place es) ∧
    Sit P Final Cs N γ (upd rk i (Tr.nat n)) tp (gs.setIfInBounds i g') w (t ++ MemOp.ofEvents i g.frame.fn g.frame.place es) := by
  have hlt : i < gs.size := (Array.getElem?_eq_some_iff.1 hi).1
  have hin : i < N.n := by rw [← h.size]; exact hlt
  have hib : (i == 0) = false := by simpa using hi0
  have hrun := runT_crowd_go (P := P) (sl := sl) hi (by rw [hib]; exact hst w)
  rw [map_woken fun j x _ hx => h.woken hsend hrecv (fun _ _ => rfl) g g' j x hx] at hrun
  refine ⟨hrun, ?_⟩
  have hu : ∀ op ∈ MemOp.ofEvents i g.frame.fn g.frame.place es, op.g = i ∧ op.act.touch? = none := fun op hop => by
    rw [ofEvents_eq] at hop
    obtain ⟨e, he, rfl⟩ := Array.mem_map.1 hop
    exact ⟨rfl, touch_mute (hm e he)⟩
  have hti : TI N γ w.heap.size tp (t ++ MemOp.ofEvents i g.frame.fn g.frame.place es) := by
    refine h.ti.move (fun op hop => (hu op hop).2) (fun j hj => ?_) (Nat.le_refl _) (fun op hop => by rw [(hu op hop).1]; exact hin) (fun j hj hjn => ⟨j, hjn, hj, fun x hx => hx.app _, fun b hb => .inl hb⟩) (fun _ _ hb => hb) ?_ ?_ h.ti.disj h.ti.bnd h.ti.cov h.ti.dst
    · have hji : j ≠ i := by
        rcases hj with h1 | h1
        · grind
        · omega
      rw [Deaf_other t (Ne.symm hji) _ fun op hop => (hu op hop).1]
      exact h.ti.hears j hj
    · intro x y hD hy hx hxn q a hq' ha hg
      exact (h.ti.kn q a y x hq' ha hg hy hD hx hxn).app _
    · intro c E hE
      obtain ⟨q, z, hq', hz, hh, hk⟩ := h.ti.kc c E hE
      exact ⟨q, z, by rw [getElem?_append_old (lt_size_of_getElem? hq')]; exact hq', hz, (heard_old (lt_size_of_getElem? hq')).2 hh, fun x a y hx ha hgx hEy => (hk x a y hx ha hgx hEy).app _⟩
  refine ⟨by simpa using h.size, h.pos, fun j x hx => ?_, hti, h.chan, fun j c ok z k x hx hb hpj => ?_, fun j j' c v k ok z k' x x' hx hx' hb hb' hpj hpj' => ?_, fun x hx => ?_⟩
  · rcases get_set hx with ⟨rfl, rfl⟩ | ⟨hj, hx'⟩
    · rw [hp, upd_same, Deaf_own]
      exact .stop n x hi0 hq
    · rw [upd_ne _ _ hj, Deaf_other t (Ne.symm hj) _ fun op hop => (hu op hop).1]
      exact h.mem j x hx'
  · rcases get_set hx with ⟨rfl, rfl⟩ | ⟨hj, hx'⟩
    · grind
    · exact h.open_ j c ok z k x hx' hb hpj
  · rcases get_set hx with ⟨rfl, rfl⟩ | ⟨hj, hx1⟩
    · grind
    · rcases get_set hx' with ⟨rfl, rfl⟩ | ⟨hj', hx2⟩
      · grind
      · exact h.apart j j' c v k ok z k' x x' hx1 hx2 hb hb' hpj hpj'
  · rcases get_set hx with ⟨hi0', rfl⟩ | ⟨hj, hx'⟩
    · grind
    · exact h.frames x hx'
theorem sit_park (h : Sit P Final Cs N γ rk tp gs w t) {i : Nat} {g x0 : Goroutine} (hi : gs[i]? = some g) (hf : x0.frame = g.frame) (hc : x0.callers = g.callers) (hd : x0.dying = g.dying)
    (hm : Mem P Final i (Deaf t i) (γ i) w (N.pr i) .leaf x0) (hop : ∀ c ok z k, N.pr i = .recv c ok z k → N.cl c = none)
    (hap : ∀ j x c v k ok z k', j ≠ i → gs[j]? = some x → x.status = .blocked → (N.pr i = .send c v k → N.pr j = .recv c ok z k' → False) ∧ (N.pr j = .send c v k → N.pr i = .recv c ok z k' → False)) :
    Sit P Final Cs N γ (upd rk i .leaf) tp (gs.setIfInBounds i x0) w t := by
  refine ⟨by simpa using h.size, h.pos, fun j x hx => ?_, h.ti, h.chan, fun j c ok z k x hx hb hpj => ?_, fun j j' c v k ok z k' x x' hx hx' hb hb' hpj hpj' => ?_, fun x hx => ?_⟩
  · rcases get_set hx with ⟨rfl, rfl⟩ | ⟨hj, hx'⟩
    · rw [upd_same]; exact hm
    · rw [upd_ne _ _ hj]
      exact h.mem j x hx'
  · rcases get_set hx with ⟨rfl, rfl⟩ | ⟨hj, hx'⟩
    · grind
    · exact h.open_ j c ok z k x hx' hb hpj
  · rcases get_set hx with ⟨rfl, rfl⟩ | ⟨hj, hx1⟩
    · grind
    · rcases get_set hx' with ⟨rfl, rfl⟩ | ⟨hj', hx2⟩
      · grind
      · exact h.apart j j' c v k ok z k' x x' hx1 hx2 hb hb' hpj hpj'
  · rcases get_set hx with ⟨rfl, rfl⟩ | ⟨hj, hx'⟩
    · have := h.frames g hi
      unfold Fr at *
      rw [hf, hc, hd]
      exact this
    · exact h.frames x hx'
end Go.Co
end
section
namespace Go.Co
open Go Go.Conc
open Go.ConcN (sumTo upd upd_same upd_ne)
variable {P : Program} {Final : Machine → Trace → Prop} {Cs : Nat → Prop} {N : Net} {γ : Nat → So} {rk : Nat → Tr} {tp : Nat} {gs : Array Goroutine} {w : World} {t : Trace}
theorem win_ok {N : Net} (h : Win Cs N) : N.pr 0 ≠ .stop ∧ ∀ j, j < N.n → N.pr j ≠ .bad := by
  cases h with
  | done _ h1 h2 => grind
  | step _ h1 h2 => exact ⟨h2, fun j hj => (h1 j hj).2⟩
theorem rlS_setChan {γ : So} {c : Nat} (hc : ¬ γ.1 c ∧ ¬ γ.2 c) (w : World) (d cap : Nat) (buf : Array Value) (cl : Bool) (s r : Nat) (tm : Bool) : RlS γ w ((w.at d).setChan c cap buf cl s r tm) := by
  refine ⟨by simp [World.setChan, World.at], fun b hb => ?_, rfl, rfl, rfl⟩
  have : c ≠ b := by grind
  simp only [World.setChan, World.at]
  rw [Array.getElem?_setIfInBounds_ne this]
theorem sit_pass (h : Sit P Final Cs N γ rk tp gs w t) (hno : ∀ j, j < N.n → N.pr j ≠ .ret ∧ N.pr j ≠ .bad) {i j c s : Nat} {v : Value} {k : Pc} {ok : Bool} {z : Value} {kr : Option Value → Pc} (hij : i ≠ j) (hi : i < N.n) (hj : j < N.n) (hcs : Cs c)
    (hs : N.pr i = .send c v k) (hr : N.pr j = .recv c ok z kr) (hopen : N.cl c = none) {gi gj : Goroutine} {gs' : Array Goroutine} {d : Nat} {tm : Bool} {f f' : FuncId} {p p' : String}
    (hsz : gs'.size = gs.size) (hgi : gs'[i]? = some gi) (hgj : gs'[j]? = some gj) (hgo : ∀ y, y ≠ i → y ≠ j → gs'[y]? = gs[y]?)
    (hsi : gi.status = .running) (hsj : gj.status = .running) (hpi : ∀ w1, RlS (γ i) w w1 → Pr P Final (i == 0) k (γ i) gi w1) (hpj : ∀ w1, RlS (γ j) w w1 → Pr P Final (j == 0) (kr (some v)) (γ j) gj w1)
    (hfr : ∀ x, gs'[0]? = some x → Fr x) (hwin : Win Cs (N.meet i j k (kr (some v)))) :
    ∃ rk', Sit P Final Cs (N.meet i j k (kr (some v))) γ rk' tp gs' ((w.at d).setChan c 0 #[] false (s + 1) (s + 1) tm) (t ++ passOps i j c s f f' p p') := by
  have hchan := h.chan c hcs
  obtain ⟨hbad0, hbad⟩ := win_ok hwin
  have hpr : ∀ y, y ≠ i → y ≠ j → (N.meet i j k (kr (some v))).pr y = N.pr y := fun y h1 h2 => by
    show upd (upd N.pr i k) j _ y = _
    rw [upd_ne _ _ h2, upd_ne _ _ h1]
  have hpj' : (N.meet i j k (kr (some v))).pr j = kr (some v) := upd_same _ _ _
  have hpi' : (N.meet i j k (kr (some v))).pr i = k := by
    show upd (upd N.pr i k) j _ i = _
    rw [upd_ne _ _ hij, upd_same]
  have hrel : ∀ y, RlS (γ y) w ((w.at d).setChan c 0 #[] false (s + 1) (s + 1) tm) := fun y => rlS_setChan (hchan.2 y) _ _ _ _ _ _ _ _
  obtain ⟨ri, hmi⟩ := mem_of_pr hsi (by rw [← hpi']; exact hbad i hi) (fun e h0 => hbad0 (by rw [← h0, hpi', e])) (hpi _ (hrel i))
  obtain ⟨rj, hmj⟩ := mem_of_pr hsj (by rw [← hpj']; exact hbad j hj) (fun e h0 => hbad0 (by rw [← h0, hpj', e])) (hpj _ (hrel j))
  have hli : N.pr i ≠ .stop := by rw [hs]; simp
  have hlj : N.pr j ≠ .stop := by rw [hr]; simp
  have hsize : ((w.at d).setChan c 0 #[] false (s + 1) (s + 1) tm).heap.size = w.heap.size := by simp [World.setChan, World.at]
  refine ⟨upd (upd rk i ri) j rj, hsz.trans h.size, h.pos, fun y x hx => ?_, ?_, fun c' hc' => ?_, fun y c' ok' z' k' x hx hb hp => ?_, fun y y' c' v' k' ok' z' kr' x x' hx hx' hb hb' hp hp' => ?_, hfr⟩
  · by_cases h2 : y = j
    · subst h2
      rw [hgj] at hx
      cases hx
      rw [upd_same, hpj', Deaf_plainly (pass_plainly _ _ _ _ _ _ _ _), h.ti.hears y (.inl hlj)]
      exact hmj
    · by_cases h1 : y = i
      · subst h1
        rw [hgi] at hx
        cases hx
        rw [upd_ne _ _ h2, upd_same, hpi', Deaf_plainly (pass_plainly _ _ _ _ _ _ _ _), h.ti.hears y (.inl hli)]
        exact hmi
      · rw [hgo y h1 h2] at hx
        rw [upd_ne _ _ h2, upd_ne _ _ h1, hpr y h1 h2, Deaf_plainly (pass_plainly _ _ _ _ _ _ _ _)]
        have hyn : y < N.n := by rw [← h.size]; exact (Array.getElem?_eq_some_iff.1 hx).1
        exact (h.mem y x hx).rely (hno y hyn).1 (hrel y)
  · rw [hsize]
    exact h.ti.meet hi hj hij hs hr f f' p p'
  · obtain ⟨⟨s0, tm0, h3⟩, h4⟩ := h.chan c' hc'
    refine ⟨?_, h4⟩
    by_cases hcc : c' = c
    · subst hcc
      have hlt : c' < w.heap.size := (Array.getElem?_eq_some_iff.1 h3).1
      refine ⟨s + 1, tm, ?_⟩
      show _ = some (Obj.chan 0 #[] (N.cl c').isSome (s + 1) (s + 1) tm)
      rw [hopen]
      simp [World.setChan, World.at, hlt]
    · refine ⟨s0, tm0, ?_⟩
      show ((w.at d).setChan c 0 #[] false (s + 1) (s + 1) tm).heap[c']? = some (Obj.chan 0 #[] (N.cl c').isSome s0 s0 tm0)
      simp only [World.setChan, World.at]
      rw [Array.getElem?_setIfInBounds_ne (Ne.symm hcc)]
      exact h3
  · by_cases h2 : y = j
    · grind
    · by_cases h1 : y = i
      · grind
      · rw [hgo y h1 h2] at hx
        rw [hpr y h1 h2] at hp
        exact h.open_ y c' ok' z' k' x hx hb hp
  · have live : ∀ y x, gs'[y]? = some x → x.status = .blocked → y ≠ i ∧ y ≠ j := fun y x hx hb => by
      refine ⟨?_, ?_⟩
      · grind
      · grind
    obtain ⟨a1, a2⟩ := live y x hx hb
    obtain ⟨b1, b2⟩ := live y' x' hx' hb'
    rw [hpr y a1 a2] at hp
    rw [hpr y' b1 b2] at hp'
    rw [hgo y a1 a2] at hx
    rw [hgo y' b1 b2] at hx'
    exact h.apart y y' c' v' k' ok' z' kr' x x' hx hx' hb hb' hp hp'
theorem partner_recv (h : Sit P Final Cs N γ rk tp gs w t) {i c j k : Nat} (hp : (j, k) ∈ partners (gs.setIfInBounds i ph) c false) :
    k = 0 ∧ j ≠ i ∧ j < N.n ∧ ∃ g0 ok z kr, gs[j]? = some (parked g0 #[rcase c z] (.recv ok)) ∧ N.pr j = .recv c ok z kr ∧ ∀ x w1, RlS (γ j) w w1 → Pr P Final (j == 0) (kr x) (γ j) (Conc.served g0 (recvd ok (x.getD z) x.isSome)) w1 := by
  obtain ⟨g, hg, hk⟩ := mem_partners.1 hp
  rcases get_set hg with ⟨rfl, rfl⟩ | ⟨hji, hg'⟩
  · rw [offersAt_ph] at hk; cases hk
  · have hjn : j < N.n := by rw [← h.size]; exact (Array.getElem?_eq_some_iff.1 hg').1
    have hm := h.mem j g hg'
    generalize hpj : N.pr j = pj at hm
    generalize rk j = rj at hm
    cases hm with
    | stop n g h1 h2 =>
      rw [offersAt_of_not_blocked (by rcases h2.status with e | e <;> simp [e])] at hk; cases hk
    | ret r g h1 h2 h3 => rw [offersAt_of_not_blocked (by simp [h1])] at hk; cases hk
    | run p r g h1 h2 => rw [offersAt_of_not_blocked (by simp [gtR_running h2])] at hk; cases hk
    | send c' v k' g z h1 => rw [offersAt_parked_send'] at hk; cases hk
    | recv c' ok z k' g h1 h2 =>
      rw [offersAt_parked_recv] at hk
      split at hk
      · grind
      · cases hk
theorem partner_send (h : Sit P Final Cs N γ rk tp gs w t) {i c j k : Nat} (hp : (j, k) ∈ partners (gs.setIfInBounds i ph) c true) :
    k = 0 ∧ j ≠ i ∧ j < N.n ∧ ∃ g0 v z kr, gs[j]? = some (parked g0 #[scase c v z] .send) ∧ N.pr j = .send c v kr ∧ ∀ w1, RlS (γ j) w w1 → Pr P Final (j == 0) kr (γ j) (Conc.served g0 undef) w1 := by
  obtain ⟨g, hg, hk⟩ := mem_partners.1 hp
  rcases get_set hg with ⟨rfl, rfl⟩ | ⟨hji, hg'⟩
  · rw [offersAt_ph] at hk; cases hk
  · have hjn : j < N.n := by rw [← h.size]; exact (Array.getElem?_eq_some_iff.1 hg').1
    have hm := h.mem j g hg'
    generalize hpj : N.pr j = pj at hm
    generalize rk j = rj at hm
    cases hm with
    | stop n g h1 h2 =>
      rw [offersAt_of_not_blocked (by rcases h2.status with e | e <;> simp [e])] at hk; cases hk
    | ret r g h1 h2 h3 => rw [offersAt_of_not_blocked (by simp [h1])] at hk; cases hk
    | run p r g h1 h2 => rw [offersAt_of_not_blocked (by simp [gtR_running h2])] at hk; cases hk
    | recv c' ok z k' g h1 h2 => rw [offersAt_parked_recv'] at hk; cases hk
    | send c' v k' g z h1 =>
      rw [offersAt_parked_send] at hk
      split at hk
      · grind
      · cases hk
end Go.Co
end
section
namespace Go.Co
open Go Go.Conc
open Go.ConcN (sumTo upd upd_same upd_ne)
variable {P : Program} {Final : Machine → Trace → Prop} {Cs : Nat → Prop} {N : Net} {γ : Nat → So} {rk : Nat → Tr} {tp : Nat} {gs : Array Goroutine} {w : World} {t : Trace}
theorem ofEvents_none (g : Nat) (fn : FuncId) (pos : String) : MemOp.ofEvents g fn pos #[] = #[] := rfl
theorem served_parked {g g0 : Goroutine} {cs cs' : Array CommCase} {sh sh' : CommShape} (h : parked g cs sh = parked g0 cs' sh') (v : Value) : Conc.served g v = Conc.served g0 v := by
  have : Conc.served (parked g cs sh) v = Conc.served (parked g0 cs' sh') v := by rw [h]
  exact this
theorem frame_parked {g g0 : Goroutine} {cs cs' : Array CommCase} {sh sh' : CommShape} (h : parked g cs sh = parked g0 cs' sh') : g.frame = g0.frame ∧ g.callers = g0.callers ∧ g.dying = g0.dying ∧ cs = cs' ∧ sh = sh' := by
  have := congrArg (fun (x : Goroutine) => (x.frame, x.callers, x.dying, x.offers)) h
  simp [parked] at this
  exact ⟨this.1, this.2.1, this.2.2.1, this.2.2.2.1, this.2.2.2.2⟩
theorem fr_served {g : Goroutine} (h : Fr g) (v : Value) : Fr (Conc.served g v) := hg_finish h v
theorem sit_send (h : Sit P Final Cs N γ rk tp gs w t) (hno : ∀ j, j < N.n → N.pr j ≠ .ret ∧ N.pr j ≠ .bad) {i c : Nat} {v : Value} {k : Pc} {g : Goroutine} {d : Nat} {sl : Option (Nat × Nat)} (hi : gs[i]? = some g) (hs : N.pr i = .send c v k) (hopen : N.cl c = none) (hcs : Cs c)
    (hat : AtSend P (i == 0) c v g (w.at d)) (hk : ∀ w1, RlS (γ i) (w.at d) w1 → Pr P Final (i == 0) k (γ i) (Conc.served g undef) w1)
    (hwin : ∀ j ok z kr, j < N.n → N.pr j = .recv c ok z kr → Win Cs (N.meet i j k (kr (some v)))) :
    (∃ gs', runT P (crowd gs (w.at d) sl) i = (.next (crowd gs' (w.at d) sl), #[]) ∧ Sit P Final Cs N γ (upd rk i .leaf) tp gs' w t) ∨
    (∃ N' gs' w' ops rk', runT P (crowd gs (w.at d) sl) i = (.next (crowd gs' w' sl), ops) ∧ Win Cs N' ∧ (∃ j ok z kr, j < N.n ∧ N.pr j = .recv c ok z kr ∧ N' = N.meet i j k (kr (some v))) ∧ Sit P Final Cs N' γ rk' tp gs' w' (t ++ ops)) := by
  obtain ⟨hr, z, hst⟩ := hat
  have hin : i < N.n := by rw [← h.size]; exact (Array.getElem?_eq_some_iff.1 hi).1
  have hlt : i < gs.size := (Array.getElem?_eq_some_iff.1 hi).1
  obtain ⟨⟨s, tm, hc⟩, -⟩ := h.chan c hcs
  rw [hopen] at hc
  have hc' : (w.at d).heap[c]? = some (.chan 0 #[] false s s tm) := hc
  by_cases hne : partners (gs.setIfInBounds i ph) c false = []
  · left
    refine ⟨gs.setIfInBounds i (parked (core g) #[scase c v z] .send), ?_, ?_⟩
    · have := crowd_waits (P := P) (sl := sl) hi hst (fun cc hcc => by
        simp only [List.mem_toArray, List.mem_singleton] at hcc
        subst hcc
        exact ways_send_none hc' (by simp) hne)
      rw [this, ofEvents_none]
    · refine sit_park h hi rfl rfl rfl ?_ (fun c' ok' z' k' e => by rw [hs] at e; cases e) fun j x c' v' k' ok' z' kr' hj hx hb => ⟨fun e1 e2 => ?_, fun e1 e2 => by rw [hs] at e2; cases e2⟩
      · rw [hs]
        exact .send c v k (core g) z fun w1 h1 => hk w1 h1
      · rw [hs] at e1
        cases e1
        have hm := h.mem j x hx
        rw [e2] at hm
        generalize rk j = rj at hm
        cases hm with
        | run p r g h1 h2 => rw [gtR_running h2] at hb; cases hb
        | recv _ _ _ _ g h1 h2 =>
          have : (j, 0) ∈ partners (gs.setIfInBounds i ph) c false := mem_partners.2 ⟨_, stand_get hj hx, by rw [offersAt_parked_recv]; simp⟩
          rw [hne] at this; cases this
  · right
    obtain ⟨j, gj, zj, shj, d2, hji, hgj, hrun⟩ := crowd_send_meets_some (P := P) (sl := sl) hi hst hc' hne fun j k hp => by
      obtain ⟨h1, h2, -, g0, ok, z, kr, h3, -⟩ := partner_recv h hp
      exact ⟨h1, h2, g0, z, _, h3⟩
    have hp : (j, 0) ∈ partners (gs.setIfInBounds i ph) c false := mem_partners.2 ⟨_, stand_get hji hgj, by rw [offersAt_parked_recv]; simp⟩
    obtain ⟨-, -, hjn, g0, ok, z0, kr, h3, h4, h5⟩ := partner_recv h hp
    rw [hgj] at h3
    have h3 := Option.some.inj h3
    obtain ⟨hf1, hf2, hf3, -, hsh⟩ := frame_parked h3
    have hzz : Conc.served gj (recvd ok v true) = Conc.served g0 (recvd ok v true) := served_parked h3 _
    subst hsh
    rw [finishComm_recv, finishComm_send, hzz, ofEvents_none] at hrun
    have hw := hwin j ok z0 kr hjn h4
    obtain ⟨rk', hsit⟩ := sit_pass (gs' := (gs.setIfInBounds j (Conc.served g0 (recvd ok v true))).setIfInBounds i (Conc.served (core g) undef)) (d := d2) (tm := tm) (s := s) (f := (core g).frame.fn) (p := (core g).frame.place) (f' := gj.frame.fn) (p' := gj.frame.place) h hno (Ne.symm hji) hin hjn hcs hs h4 hopen (by simp) (gi := Conc.served (core g) undef) (gj := Conc.served g0 (recvd ok v true))
      (by simp [hlt]) (by
        rw [Array.getElem?_setIfInBounds_ne (Ne.symm hji)]
        have : j < gs.size := by rw [h.size]; exact hjn
        simp [this]) (fun y h1 h2 => by rw [Array.getElem?_setIfInBounds_ne (Ne.symm h1), Array.getElem?_setIfInBounds_ne (Ne.symm h2)]) rfl rfl (fun w1 h1 => hk w1 h1) (fun w1 h1 => h5 (some v) w1 h1) (fun x hx => by
        rcases get_set hx with ⟨h1, rfl⟩ | ⟨h1, hx'⟩
        · subst h1
          exact fr_served (h.frames g hi) undef
        · rcases get_set hx' with ⟨h2, rfl⟩ | ⟨h2, hx2⟩
          · subst h2
            rw [← hzz]
            exact fr_served (h.frames _ hgj) _
          · exact h.frames x hx2) hw
    refine ⟨_, _, _, _, rk', hrun, hw, ⟨j, ok, z0, kr, hjn, h4, rfl⟩, ?_⟩
    rw [Array.empty_append]
    exact hsit
end Go.Co
end
section
namespace Go.Co
open Go Go.Conc
open Go.ConcN (sumTo upd upd_same upd_ne)
variable {P : Program} {Final : Machine → Trace → Prop} {Cs : Nat → Prop} {N : Net} {γ : Nat → So} {rk : Nat → Tr} {tp : Nat} {gs : Array Goroutine} {w : World} {t : Trace}
theorem sit_recv (h : Sit P Final Cs N γ rk tp gs w t) (hno : ∀ j, j < N.n → N.pr j ≠ .ret ∧ N.pr j ≠ .bad) {i c : Nat} {ok : Bool} {z : Value} {kr : Option Value → Pc} {g : Goroutine} {d : Nat} {sl : Option (Nat × Nat)} (hi : gs[i]? = some g) (hs : N.pr i = .recv c ok z kr) (hopen : N.cl c = none) (hcs : Cs c)
    (hat : AtRecv P (i == 0) c ok z g (w.at d)) (hat' : ∀ w1, RlS (γ i) w w1 → AtRecv P (i == 0) c ok z g w1) (hk : ∀ x w1, RlS (γ i) w w1 → Pr P Final (i == 0) (kr x) (γ i) (Conc.served g (recvd ok (x.getD z) x.isSome)) w1)
    (hwin : ∀ j v k, j < N.n → N.pr j = .send c v k → Win Cs (N.meet j i k (kr (some v)))) :
    (∃ gs', runT P (crowd gs (w.at d) sl) i = (.next (crowd gs' (w.at d) sl), #[]) ∧ Sit P Final Cs N γ (upd rk i .leaf) tp gs' w t) ∨
    (∃ N' gs' w' ops rk', runT P (crowd gs (w.at d) sl) i = (.next (crowd gs' w' sl), ops) ∧ Win Cs N' ∧ (∃ j v k, j < N.n ∧ N.pr j = .send c v k ∧ N' = N.meet j i k (kr (some v))) ∧ Sit P Final Cs N' γ rk' tp gs' w' (t ++ ops)) := by
  obtain ⟨hr, hst⟩ := hat
  have hin : i < N.n := by rw [← h.size]; exact (Array.getElem?_eq_some_iff.1 hi).1
  have hlt : i < gs.size := (Array.getElem?_eq_some_iff.1 hi).1
  obtain ⟨⟨s, tm, hc⟩, -⟩ := h.chan c hcs
  rw [hopen] at hc
  have hc' : (w.at d).heap[c]? = some (.chan 0 #[] false s s tm) := hc
  by_cases hne : partners (gs.setIfInBounds i ph) c true = []
  · left
    refine ⟨gs.setIfInBounds i (parked (core g) #[rcase c z] (.recv ok)), ?_, ?_⟩
    · have := crowd_waits (P := P) (sl := sl) hi hst (fun cc hcc => by
        simp only [List.mem_toArray, List.mem_singleton] at hcc
        subst hcc
        exact ways_recv_none hc' hne)
      rw [this, ofEvents_none]
    · refine sit_park h hi rfl rfl rfl ?_ (fun c' ok' z' k' e => by rw [hs] at e; cases e; exact hopen) fun j x c' v' k' ok' z' kr' hj hx hb => ⟨fun e1 e2 => (by rw [hs] at e1; cases e1), fun e1 e2 => ?_⟩
      · rw [hs]
        exact .recv c ok z kr (core g) (fun w1 h1 => ⟨rfl, by
          have e : stepG P (i == 0) (core g) w1 = stepG P (i == 0) g w1 := stepG_same rfl rfl rfl w1
          show stepG P (i == 0) (core g) w1 = _
          rw [e]
          exact (hat' w1 h1).2⟩) fun x w1 h1 => hk x w1 h1
      · rw [hs] at e2
        cases e2
        have hm := h.mem j x hx
        rw [e1] at hm
        generalize rk j = rj at hm
        cases hm with
        | run p r g h1 h2 => rw [gtR_running h2] at hb; cases hb
        | send _ _ _ g _ h1 =>
          have : (j, 0) ∈ partners (gs.setIfInBounds i ph) c true := mem_partners.2 ⟨_, stand_get hj hx, by rw [offersAt_parked_send]; simp⟩
          rw [hne] at this; cases this
  · right
    obtain ⟨j, gj, vj, zj, shj, d2, hji, hgj, hrun⟩ := crowd_recv_meets_some (P := P) (sl := sl) hi hst hc' hne fun j k hp => by
      obtain ⟨h1, h2, -, g0, v, z, kr, h3, -⟩ := partner_send h hp
      exact ⟨h1, h2, g0, v, z, _, h3⟩
    have hp : (j, 0) ∈ partners (gs.setIfInBounds i ph) c true := mem_partners.2 ⟨_, stand_get hji hgj, by rw [offersAt_parked_send]; simp⟩
    obtain ⟨-, -, hjn, g0, v, z0, k, h3, h4, h5⟩ := partner_send h hp
    rw [hgj] at h3
    have h3 := Option.some.inj h3
    obtain ⟨hf1, hf2, hf3, hcc, hsh⟩ := frame_parked h3
    have hv : vj = v := by simp [scase] at hcc; exact hcc.1
    subst hv
    have hzz : Conc.served gj undef = Conc.served g0 undef := served_parked h3 _
    subst hsh
    rw [finishComm_send, finishComm_recv, hzz, ofEvents_none] at hrun
    have hw := hwin j vj k hjn h4
    obtain ⟨rk', hsit⟩ := sit_pass (gs' := (gs.setIfInBounds j (Conc.served g0 undef)).setIfInBounds i (Conc.served (core g) (recvd ok vj true))) (d := d2) (tm := tm) (s := s) (f' := (core g).frame.fn) (p' := (core g).frame.place) (f := gj.frame.fn) (p := gj.frame.place) h hno hji hjn hin hcs h4 hs hopen (by simp) (gj := Conc.served (core g) (recvd ok vj true)) (gi := Conc.served g0 undef)
      (by
        rw [Array.getElem?_setIfInBounds_ne (Ne.symm hji)]
        have : j < gs.size := by rw [h.size]; exact hjn
        simp [this]) (by simp [hlt]) (fun y h1 h2 => by rw [Array.getElem?_setIfInBounds_ne (Ne.symm h2), Array.getElem?_setIfInBounds_ne (Ne.symm h1)]) rfl rfl (fun w1 h1 => h5 w1 h1) (fun w1 h1 => hk (some vj) w1 h1) (fun x hx => by
        rcases get_set hx with ⟨h1, rfl⟩ | ⟨h1, hx'⟩
        · subst h1
          exact fr_served (h.frames g hi) _
        · rcases get_set hx' with ⟨h2, rfl⟩ | ⟨h2, hx2⟩
          · subst h2
            rw [← hzz]
            exact fr_served (h.frames _ hgj) _
          · exact h.frames x hx2) hw
    refine ⟨_, _, _, _, rk', hrun, hw, ⟨j, vj, k, hjn, h4, rfl⟩, ?_⟩
    rw [Array.empty_append]
    exact hsit
end Go.Co
end
section
namespace Go.Co
open Go Go.Conc
open Go.ConcN (sumTo upd upd_same upd_ne)
variable {P : Program} {Final : Machine → Trace → Prop} {Cs : Nat → Prop} {N : Net} {γ : Nat → So} {rk : Nat → Tr} {tp : Nat} {gs : Array Goroutine} {w : World} {t : Trace}
theorem sit_hear (h : Sit P Final Cs N γ rk tp gs w t) (hsend : ∀ i c v k, i < N.n → N.pr i = .send c v k → N.cl c = none ∧ Cs c) {i c : Nat} {ok : Bool} {z : Value} {kr : Option Value → Pc} {E : Nat → Prop} {g : Goroutine} {d : Nat} {sl : Option (Nat × Nat)} (hi : gs[i]? = some g) (hs : N.pr i = .recv c ok z kr) (hcl : N.cl c = some E) (hcs : Cs c)
    (hat : AtRecv P (i == 0) c ok z g (w.at d)) (hk : ∀ x w1, RlS (γ i) w w1 → Pr P Final (i == 0) (kr x) (γ i) (Conc.served g (recvd ok (x.getD z) x.isSome)) w1)
    (hwin : Win Cs (N.hear i (kr none) E)) :
    ∃ gs' ops rk', runT P (crowd gs (w.at d) sl) i = (.next (crowd gs' (w.at d) sl), ops) ∧ Sit P Final Cs (N.hear i (kr none) E) γ rk' tp gs' w (t ++ ops) := by
  obtain ⟨hr, hst⟩ := hat
  have hin : i < N.n := by rw [← h.size]; exact (Array.getElem?_eq_some_iff.1 hi).1
  have hlt : i < gs.size := (Array.getElem?_eq_some_iff.1 hi).1
  obtain ⟨⟨s, tm, hc⟩, -⟩ := h.chan c hcs
  rw [hcl] at hc
  have hc' : (w.at d).heap[c]? = some (.chan 0 #[] true s s tm) := hc
  have hnp : partners (gs.setIfInBounds i ph) c true = [] := by
    cases hp : partners (gs.setIfInBounds i ph) c true with
    | nil => rfl
    | cons x l =>
      obtain ⟨j, k⟩ := x
      obtain ⟨-, -, hjn, g0, v, z0, k', -, h4, -⟩ := partner_send h (i := i) (c := c) (j := j) (k := k) (by rw [hp]; simp)
      rw [(hsend j c v k' hjn h4).1] at hcl
      cases hcl
  have hrun := crowd_recv_closed (P := P) (sl := sl) hi hst hc' hnp
  rw [finishComm_recv, ofEvents_none, Array.empty_append] at hrun
  obtain ⟨hbad0, hbad⟩ := win_ok hwin
  have hpr : ∀ y, y ≠ i → (N.hear i (kr none) E).pr y = N.pr y := fun y h1 => upd_ne _ _ h1
  have hpi : (N.hear i (kr none) E).pr i = kr none := upd_same _ _ _
  have hli : N.pr i ≠ .stop := by rw [hs]; simp
  obtain ⟨ri, hmi⟩ := mem_of_pr (P := P) (Final := Final) (j := i) (γ := γ i) (w := w) (p := kr none) (g := Conc.served (core g) (recvd ok z false)) rfl (by rw [← hpi]; exact hbad i hin) (fun e h0 => hbad0 (by rw [← h0, hpi, e])) (hk none w (rlS_refl _ _))
  have hpl : Plainly #[({ g := i, fn := (core g).frame.fn, pos := (core g).frame.place, act := .recvClosed c } : MemOp)] := by
    intro op hop m
    simp only [List.mem_toArray, List.mem_singleton] at hop
    subst hop; simp
  refine ⟨_, _, upd rk i ri, hrun, (by rw [Array.size_setIfInBounds]; exact h.size), h.pos, fun y x hx => ?_, h.ti.hear hin hs hcl _ _, h.chan, fun y c' ok' z' k' x hx hb hp => ?_, fun y y' c' v' k' ok' z' kr' x x' hx hx' hb hb' hp hp' => ?_, fun x hx => ?_⟩
  · rcases get_set hx with ⟨rfl, rfl⟩ | ⟨hy, hx'⟩
    · rw [upd_same, hpi, Deaf_plainly hpl, h.ti.hears y (.inl hli)]
      exact hmi
    · rw [upd_ne _ _ hy, hpr y hy, Deaf_plainly hpl]
      exact h.mem y x hx'
  · rcases get_set hx with ⟨rfl, rfl⟩ | ⟨hy, hx'⟩
    · cases hb
    · rw [hpr y hy] at hp
      exact h.open_ y c' ok' z' k' x hx' hb hp
  · rcases get_set hx with ⟨rfl, rfl⟩ | ⟨hy, hx1⟩
    · cases hb
    · rcases get_set hx' with ⟨rfl, rfl⟩ | ⟨hy', hx2⟩
      · cases hb'
      · rw [hpr y hy] at hp
        rw [hpr y' hy'] at hp'
        exact h.apart y y' c' v' k' ok' z' kr' x x' hx1 hx2 hb hb' hp hp'
  · rcases get_set hx with ⟨h1, rfl⟩ | ⟨h1, hx'⟩
    · subst h1
      exact fr_served (h.frames g hi) _
    · exact h.frames x hx'
end Go.Co
end
section
namespace Go.Co
open Go Go.Conc
open Go.ConcN (sumTo upd upd_same upd_ne)
variable {P : Program} {Final : Machine → Trace → Prop} {Cs : Nat → Prop} {N : Net} {γ : Nat → So} {rk : Nat → Tr} {tp : Nat} {gs : Array Goroutine} {w : World} {t : Trace}
theorem rlS_give {N : Net} {γ : Nat → So} {sz tp : Nat} {t : Trace} (_h : TI N γ sz tp t) (i : Nat) (w : World) (d : Nat) : RlS (γ i).give w (w.at d) := rlS_at _ _ _
theorem sit_start (hP : Plain P) (h : Sit P Final Cs N γ rk tp gs w t) {i : Nat} {ch k : Pc} {g g' x0 : Goroutine} {d : Nat} {sl : Option (Nat × Nat)} (hi : gs[i]? = some g) (hs : N.pr i = .go ch k)
    (hst : stepG P (i == 0) g (w.at d) = .spawn g' x0 (w.at d)) (hr' : g'.status = .running) (hr0 : x0.status = .running)
    (hch : ∀ w1, RlS (γ i).give (w.at d) w1 → Pr P Final false ch (γ i).give x0 w1) (hk : ∀ w1, RlS (γ i).give (w.at d) w1 → Pr P Final (i == 0) k (γ i).give g' w1)
    (hwin : Win Cs (N.start i ch k)) :
    ∃ gs' ops rk', runT P (crowd gs (w.at d) sl) i = (.next (crowd gs' (w.at d) sl), ops) ∧ Sit P Final Cs (N.start i ch k) (upd (upd γ i (γ i).give) N.n (γ i).give) rk' tp gs' w (t ++ ops) := by
  have hlt : i < gs.size := (Array.getElem?_eq_some_iff.1 hi).1
  have hin : i < N.n := by rw [← h.size]; exact hlt
  have hrun := runT_crowd_spawn (P := P) (sl := sl) hi hst
  have hin' : i ≠ N.n := by omega
  have hn0 : N.n ≠ 0 := by omega
  have e : (((MemOp.ofEvents i g.frame.fn g.frame.place #[]).push { g := i, fn := g.frame.fn, pos := g.frame.place, act := .go gs.size }).push { g := gs.size, fn := x0.frame.fn, pos := g.frame.place, act := .start }) = goOps i N.n g.frame.fn x0.frame.fn g.frame.place g.frame.place := by
    rw [ofEvents_none, h.size]; rfl
  rw [e] at hrun
  obtain ⟨hbad0, hbad⟩ := win_ok hwin
  have hpr : ∀ y, y ≠ i → y ≠ N.n → (N.start i ch k).pr y = N.pr y := fun y h1 h2 => by
    show upd (upd N.pr i k) N.n ch y = _
    rw [upd_ne _ _ h2, upd_ne _ _ h1]
  have hpn : (N.start i ch k).pr N.n = ch := upd_same _ _ _
  have hpi : (N.start i ch k).pr i = k := by
    show upd (upd N.pr i k) N.n ch i = _
    rw [upd_ne _ _ hin', upd_same]
  have hli : N.pr i ≠ .stop := by rw [hs]; simp
  have back : RlS (γ i).give (w.at d) w := ⟨Nat.le_refl _, fun _ _ => rfl, rfl, rfl, rfl⟩
  obtain ⟨ri, hmi⟩ := mem_of_pr (j := i) hr' (by rw [← hpi]; exact hbad i (Nat.lt_succ_of_lt hin)) (fun e h0 => hbad0 (by rw [← h0, hpi, e])) (hk w back)
  obtain ⟨rn, hmn⟩ := mem_of_pr (P := P) (Final := Final) (j := N.n) (γ := (γ i).give) (w := w) (p := ch) (g := x0) hr0 (by rw [← hpn]; exact hbad N.n (Nat.lt_succ_self _)) (fun _ => hn0) (by rw [show (N.n == 0) = false by simpa using hn0]; exact hch w back)
  have hti := h.ti.start hin hs g.frame.fn x0.frame.fn g.frame.place g.frame.place
  have hpl := go_plainly i N.n g.frame.fn x0.frame.fn g.frame.place g.frame.place
  have hget : ∀ (y : Nat) (x : Goroutine), ((gs.setIfInBounds i g').push x0)[y]? = some x → (y = N.n ∧ x = x0) ∨ (y = i ∧ x = g') ∨ (y ≠ i ∧ y ≠ N.n ∧ gs[y]? = some x) := by
    intro y x hx
    rw [Array.getElem?_push] at hx
    split at hx
    · rename_i hy
      rw [Array.size_setIfInBounds, h.size] at hy
      exact .inl ⟨hy, (Option.some.inj hx).symm⟩
    · rename_i hy
      rw [Array.size_setIfInBounds, h.size] at hy
      rcases get_set hx with ⟨h1, h2⟩ | ⟨h1, h2⟩
      · grind
      · grind
  refine ⟨_, _, upd (upd rk i ri) N.n rn, hrun, ?_, Nat.succ_pos _, fun y x hx => ?_, hti, fun c hc => ?_, fun y c' ok' z' k' x hx hb hp => ?_, fun y y' c' v' k' ok' z' kr' x x' hx hx' hb hb' hp hp' => ?_, fun x hx => ?_⟩
  · rw [Array.size_push, Array.size_setIfInBounds, h.size]; rfl
  · rcases hget y x hx with ⟨rfl, rfl⟩ | ⟨rfl, rfl⟩ | ⟨h1, h2, hx'⟩
    · rw [upd_same, upd_same, hpn, Deaf_plainly hpl, h.ti.hears N.n (.inr (Nat.le_refl _))]
      exact hmn
    · rw [upd_ne _ _ hin', upd_same, upd_ne _ _ hin', upd_same, hpi, Deaf_plainly hpl, h.ti.hears y (.inl hli)]
      exact hmi
    · rw [upd_ne _ _ h2, upd_ne _ _ h1, upd_ne _ _ h2, upd_ne _ _ h1, hpr y h1 h2, Deaf_plainly hpl]
      exact h.mem y x hx'
  · obtain ⟨h3, h4⟩ := h.chan c hc
    refine ⟨h3, fun y => ?_⟩
    have hgv : ¬ ((γ i).give).1 c ∧ ¬ ((γ i).give).2 c := ⟨fun hx => hx.elim (h4 i).1 (h4 i).2, fun hx => hx⟩
    by_cases h2 : y = N.n
    · rw [h2, upd_same]; exact hgv
    · by_cases h1 : y = i
      · rw [h1, upd_ne _ _ hin', upd_same]; exact hgv
      · rw [upd_ne _ _ h2, upd_ne _ _ h1]; exact h4 y
  · rcases hget y x hx with ⟨rfl, rfl⟩ | ⟨rfl, rfl⟩ | ⟨h1, h2, hx'⟩
    · grind
    · grind
    · rw [hpr y h1 h2] at hp
      exact h.open_ y c' ok' z' k' x hx' hb hp
  · rcases hget y x hx with ⟨rfl, rfl⟩ | ⟨rfl, rfl⟩ | ⟨h1, h2, hx1⟩
    · grind
    · grind
    · rcases hget y' x' hx' with ⟨rfl, rfl⟩ | ⟨rfl, rfl⟩ | ⟨h1', h2', hx2⟩
      · grind
      · grind
      · rw [hpr y h1 h2] at hp
        rw [hpr y' h1' h2'] at hp'
        exact h.apart y y' c' v' k' ok' z' kr' x x' hx1 hx2 hb hb' hp hp'
  · rcases hget 0 x hx with ⟨h1, -⟩ | ⟨h1, rfl⟩ | ⟨_, _, hx'⟩
    · grind
    · have h1 : i = 0 := h1.symm
      subst h1
      have hok := stepG_ok (b := False) hP true g (h.frames g hi) (w.at d)
      rw [show stepG P true g (w.at d) = _ from hst] at hok
      exact hok.2
    · exact h.frames x hx'
end Go.Co
end
