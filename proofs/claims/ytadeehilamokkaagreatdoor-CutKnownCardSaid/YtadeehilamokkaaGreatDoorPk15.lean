/- The law CutKnown: part 15: Co5j Co5k Co5l Co5m Co5n Co6b Co6m. By an AI agent. -/
import Derived.Test.YtadeehilamokkaaGreatDoorPk14
import Derived.Conc.CompanyMem
import Derived.Conc.AppendWalk
import Derived.Laws.AppendOwn
import Derived.Below
section
namespace Go.Co
open Go Go.Conc
open Go.ConcN (sumTo upd upd_same upd_ne)
variable {P : Program} {Final : Machine → Trace → Prop} {Cs : Nat → Prop} {N : Net} {γ : Nat → So} {rk : Nat → Tr} {tp : Nat} {gs : Array Goroutine} {w : World} {t : Trace}
theorem woken_may {a a' : Goroutine} {w' : World} {o : Goroutine} (hm : mayWake P a = true) (hr : a'.status = .running) : Conc.woken P a a' w' o = o.again w' := by
  unfold Conc.woken
  simp [hm, hr]
theorem Mem.shut {j d dd : Nat} {γ : So} {w : World} {p : Pc} {r : Tr} {g : Goroutine} {c s : Nat} {tm : Bool} {a a' : Goroutine} (h : Mem P Final j d γ w p r g) (hp : p ≠ .ret) (hm : mayWake P a = true) (hr : a'.status = .running)
    (hcw : ∃ x, w.heap[c]? = some x) (hrel : RlS γ w ((w.at dd).setChan c 0 #[] true s s tm))
    (hsend : ∀ c' v k, p = .send c' v k → c' ≠ c ∧ ∃ s tm, w.heap[c']? = some (.chan 0 #[] false s s tm))
    (hrecv : ∀ c' ok z k, p = .recv c' ok z k → g.status = .blocked → ∃ s tm, w.heap[c']? = some (.chan 0 #[] false s s tm)) :
    ∃ r', Mem P Final j d γ ((w.at dd).setChan c 0 #[] true s s tm) p r' (Conc.woken P a a' ((w.at dd).setChan c 0 #[] true s s tm) g) ∧
      (∀ c' ok z k, p = .recv c' ok z k → (Conc.woken P a a' ((w.at dd).setChan c 0 #[] true s s tm) g).status = .blocked → g.status = .blocked ∧ c' ≠ c) ∧
      ((Conc.woken P a a' ((w.at dd).setChan c 0 #[] true s s tm) g).status = .blocked → g.status = .blocked) ∧ (Conc.woken P a a' ((w.at dd).setChan c 0 #[] true s s tm) g).frame = g.frame ∧ (Conc.woken P a a' ((w.at dd).setChan c 0 #[] true s s tm) g).callers = g.callers ∧ (Conc.woken P a a' ((w.at dd).setChan c 0 #[] true s s tm) g).dying = g.dying := by
  obtain ⟨x, hx⟩ := hcw
  have hlt : c < w.heap.size := (Array.getElem?_eq_some_iff.1 hx).1
  have hother : ∀ c', c' ≠ c → ((w.at dd).setChan c 0 #[] true s s tm).heap[c']? = w.heap[c']? := fun c' hc' => by
    simp only [World.setChan, World.at]
    rw [Array.getElem?_setIfInBounds_ne (Ne.symm hc')]
  have hself : ((w.at dd).setChan c 0 #[] true s s tm).heap[c]? = some (Obj.chan 0 #[] true s s tm) := by simp [World.setChan, World.at, hlt]
  have h' := h.rely hp hrel
  cases h with
  | stop n g h1 h2 =>
    rw [woken_quitsD h2]
    exact ⟨_, h', fun _ _ _ _ e => (by cases e), id, rfl, rfl, rfl⟩
  | ret r g h1 h2 h3 => exact absurd rfl hp
  | run p r g h1 h2 =>
    have hgr := gtR_running h2
    rw [woken_run hgr]
    exact ⟨_, h', fun _ _ _ _ _ hb => (by rw [hgr] at hb; cases hb), id, rfl, rfl, rfl⟩
  | send c' v k g z h1 =>
    obtain ⟨hne, s', tm', h2⟩ := hsend c' v k rfl
    rw [woken_send_open a a' ((hother c' hne).trans h2)]
    exact ⟨_, h', fun _ _ _ _ e => (by cases e), id, rfl, rfl, rfl⟩
  | recv c' ok z k g h1 h2 =>
    by_cases hcc : c' = c
    · subst hcc
      rw [woken_may hm hr, again_recv_closed hself]
      refine ⟨_, .run (.recv c' ok z k) .leaf _ ⟨by simp, by simp, by simp⟩ (fun w1 h3 => ⟨⟨rfl, ?_⟩, fun x w2 h4 => ?_⟩), fun _ _ _ _ _ hb => (by cases hb), fun hb => (by cases hb), rfl, rfl, rfl⟩
      · have := (h1 w1 (rlo_trans hrel h3)).2
        have e : stepG P (j == 0) { parked g #[rcase c' z] (.recv ok) with status := .running } w1 = stepG P (j == 0) (core g) w1 := stepG_same rfl rfl rfl w1
        rw [e]
        exact this
      · exact h2 x w2 (rlo_trans (rlo_trans hrel h3) h4)
    · obtain ⟨s', tm', h3⟩ := hrecv c' ok z k rfl rfl
      rw [woken_recv_open a a' ((hother c' hcc).trans h3)]
      exact ⟨_, h', fun _ _ _ _ e _ => (by cases e; exact ⟨rfl, hcc⟩), id, rfl, rfl, rfl⟩
end Go.Co
end
section
namespace Go.Co
open Go Go.Conc
open Go.ConcN (sumTo upd upd_same upd_ne)
variable {P : Program} {Final : Machine → Trace → Prop} {Cs : Nat → Prop} {N : Net} {γ : Nat → So} {rk : Nat → Tr} {tp : Nat} {gs : Array Goroutine} {w : World} {t : Trace}
open Classical in
theorem sit_shut (hP : Plain P) (h : Sit P Final Cs N γ rk tp gs w t) (hno : ∀ j, j < N.n → N.pr j ≠ .ret ∧ N.pr j ≠ .bad) (hsend : ∀ i c v k, i < N.n → N.pr i = .send c v k → N.cl c = none ∧ Cs c) (hrecv : ∀ j c ok z k, j < N.n → N.pr j = .recv c ok z k → Cs c)
    {i c : Nat} {k : Pc} {g g' : Goroutine} {d : Nat} {sl : Option (Nat × Nat)} (hi : gs[i]? = some g) (hs : N.pr i = .close c k) (hopen : N.cl c = none) (hcs : Cs c) (hmw : mayWake P g = true) (hr' : g'.status = .running)
    (hst : ∀ s r tm, (w.at d).heap[c]? = some (.chan 0 #[] false s r tm) → stepG P (i == 0) g (w.at d) = .go g' ((w.at d).setChan c 0 #[] true s r tm) (closeEvents c))
    (hk : ∀ w1, RlS (γ i) w w1 → Pr P Final (i == 0) k (γ i) g' w1) (hns : ∀ j v k', j < N.n → N.pr j ≠ .send c v k') (hwin : Win Cs (N.shut i c k)) :
    ∃ gs' w' ops rk', runT P (crowd gs (w.at d) sl) i = (.next (crowd gs' w' sl), ops) ∧ Sit P Final Cs (N.shut i c k) γ rk' tp gs' w' (t ++ ops) := by
  have hlt : i < gs.size := (Array.getElem?_eq_some_iff.1 hi).1
  have hin : i < N.n := by rw [← h.size]; exact hlt
  obtain ⟨⟨s, tm, hc⟩, hcn⟩ := h.chan c hcs
  rw [hopen] at hc
  have hst := hst s s tm hc
  have hrun := runT_crowd_go (P := P) (sl := sl) hi hst
  obtain ⟨hbad0, hbad⟩ := win_ok hwin
  have hpr : ∀ y, y ≠ i → (N.shut i c k).pr y = N.pr y := fun y h1 => upd_ne _ _ h1
  have hpi : (N.shut i c k).pr i = k := upd_same _ _ _
  have hli : N.pr i ≠ .stop := by rw [hs]; simp
  have hrel : ∀ y, RlS (γ y) w ((w.at d).setChan c 0 #[] true s s tm) := fun y => rlS_setChan (hcn y) _ _ _ _ _ _ _ _
  have hu : ∀ op ∈ MemOp.ofEvents i g.frame.fn g.frame.place (closeEvents c), op.g = i := fun op hop => by rw [ofEvents_eq] at hop; obtain ⟨e, _, rfl⟩ := Array.mem_map.1 hop; rfl
  obtain ⟨ri, hmi⟩ := mem_of_pr (P := P) (Final := Final) (j := i) (γ := γ i) (w := (w.at d).setChan c 0 #[] true s s tm) (p := k) (g := g') hr' (by rw [← hpi]; exact hbad i hin) (fun e h0 => hbad0 (by rw [← h0, hpi, e])) (hk _ (hrel i))
  have hall : ∀ (y : Nat) (x : Goroutine), y ≠ i → gs[y]? = some x → _ := fun y x hy hx => (h.mem y x hx).shut (a := g) (a' := g') (c := c) (s := s) (tm := tm) (dd := d) (hno y (by rw [← h.size]; exact (Array.getElem?_eq_some_iff.1 hx).1)).1 hmw hr' ⟨_, hc⟩ (hrel y)
    (fun c' v k' e => by
      have hyn : y < N.n := by rw [← h.size]; exact (Array.getElem?_eq_some_iff.1 hx).1
      obtain ⟨h1, h2⟩ := hsend y c' v k' hyn e
      obtain ⟨⟨s0, tm0, h3⟩, -⟩ := h.chan c' h2
      rw [h1] at h3
      exact ⟨fun e2 => hns y v k' hyn (e2 ▸ e), s0, tm0, h3⟩)
    (fun c' ok z k' e hb => by
      have hyn : y < N.n := by rw [← h.size]; exact (Array.getElem?_eq_some_iff.1 hx).1
      have h1 := h.open_ y c' ok z k' x hx hb e
      obtain ⟨⟨s0, tm0, h3⟩, -⟩ := h.chan c' (hrecv y c' ok z k' hyn e)
      rw [h1] at h3
      exact ⟨s0, tm0, h3⟩)
  have hex : ∀ y : Nat, ∃ r', ∀ x : Goroutine, y ≠ i → gs[y]? = some x → Mem P Final y (Deaf t y) (γ y) ((w.at d).setChan c 0 #[] true s s tm) (N.pr y) r' (Conc.woken P g g' ((w.at d).setChan c 0 #[] true s s tm) x) := by
    intro y
    by_cases hy : y ≠ i ∧ ∃ x, gs[y]? = some x
    · obtain ⟨hy, x, hx⟩ := hy
      obtain ⟨r', h1, -⟩ := hall y x hy hx
      exact ⟨r', fun x' _ hx' => by rw [hx] at hx'; cases hx'; exact h1⟩
    · exact ⟨.leaf, fun x h1 h2 => absurd ⟨h1, x, h2⟩ hy⟩
  have hget : ∀ (y : Nat) (x : Goroutine), ((gs.map (Conc.woken P g g' ((w.at d).setChan c 0 #[] true s s tm))).setIfInBounds i g')[y]? = some x → (y = i ∧ x = g') ∨ (y ≠ i ∧ ∃ x0, gs[y]? = some x0 ∧ x = Conc.woken P g g' ((w.at d).setChan c 0 #[] true s s tm) x0) := by grind
  have hsize : ((w.at d).setChan c 0 #[] true s s tm).heap.size = w.heap.size := by simp [World.setChan, World.at]
  refine ⟨_, _, _, upd (fun y => Classical.choose (hex y)) i ri, hrun, (by rw [Array.size_setIfInBounds, Array.size_map]; exact h.size), h.pos, fun y x hx => ?_, (by rw [hsize]; exact h.ti.shut hin hs _ _), fun c' hc' => ?_, fun y c' ok' z' k' x hx hb hp => ?_, fun y y' c' v' k' ok' z' kr' x x' hx hx' hb hb' hp hp' => ?_, fun x hx => ?_⟩
  · rcases hget y x hx with ⟨rfl, rfl⟩ | ⟨hy, x0, hx0, rfl⟩
    · rw [upd_same, hpi, Deaf_own, h.ti.hears y (.inl hli)]
      exact hmi
    · rw [upd_ne _ _ hy, hpr y hy, Deaf_other t (Ne.symm hy) _ hu]
      exact Classical.choose_spec (hex y) x0 hy hx0
  · obtain ⟨⟨s0, tm0, h3⟩, h4⟩ := h.chan c' hc'
    refine ⟨?_, h4⟩
    by_cases hcc : c' = c
    · subst hcc
      have hl : c' < w.heap.size := (Array.getElem?_eq_some_iff.1 h3).1
      refine ⟨s, tm, ?_⟩
      show _ = some (Obj.chan 0 #[] (upd N.cl c' _ c').isSome s s tm)
      rw [upd_same]
      simp [World.setChan, World.at, hl]
    · refine ⟨s0, tm0, ?_⟩
      show _ = some (Obj.chan 0 #[] (upd N.cl c _ c').isSome s0 s0 tm0)
      rw [upd_ne _ _ hcc]
      simp only [World.setChan, World.at]
      rw [Array.getElem?_setIfInBounds_ne (Ne.symm hcc)]
      exact h3
  · rcases hget y x hx with ⟨rfl, rfl⟩ | ⟨hy, x0, hx0, rfl⟩
    · grind
    · rw [hpr y hy] at hp
      obtain ⟨_, -, h2, -⟩ := hall y x0 hy hx0
      obtain ⟨h3, h4⟩ := h2 c' ok' z' k' hp hb
      show upd N.cl c _ c' = none
      rw [upd_ne _ _ h4]
      exact h.open_ y c' ok' z' k' x0 hx0 h3 hp
  · rcases hget y x hx with ⟨rfl, rfl⟩ | ⟨hy, x0, hx0, rfl⟩
    · grind
    · rcases hget y' x' hx' with ⟨rfl, rfl⟩ | ⟨hy', x1, hx1, rfl⟩
      · grind
      · rw [hpr y hy] at hp
        rw [hpr y' hy'] at hp'
        obtain ⟨_, -, -, h2, -⟩ := hall y x0 hy hx0
        obtain ⟨_, -, -, h2', -⟩ := hall y' x1 hy' hx1
        exact h.apart y y' c' v' k' ok' z' kr' x0 x1 hx0 hx1 (h2 hb) (h2' hb') hp hp'
  · rcases hget 0 x hx with ⟨h1, rfl⟩ | ⟨hy, x0, hx0, rfl⟩
    · have h1 : i = 0 := h1.symm
      subst h1
      have hok := stepG_ok (b := False) hP true g (h.frames g hi) (w.at d)
      rw [show stepG P true g (w.at d) = _ from hst] at hok
      exact hok.2.1
    · obtain ⟨_, -, -, -, h2, h3, h4⟩ := hall 0 x0 hy hx0
      have := h.frames x0 hx0
      unfold Fr at *
      rw [h2, h3, h4]
      exact this
end Go.Co
end
section
namespace Go.Co
open Go Go.Conc
open Go.ConcN (sumTo upd upd_same upd_ne)
variable {P : Program} {Final : Machine → Trace → Prop} {Cs : Nat → Prop}
def ranks (n : Nat) (rk : Nat → Tr) : List Tr := (List.range n).map rk
theorem ranks_set {n i : Nat} {rk : Nat → Tr} {r : Tr} (hi : i < n) : ranks n (upd rk i r) = (ranks n rk).set i r := by
  apply List.ext_getElem?
  intro j
  unfold ranks
  rw [List.getElem?_set]
  by_cases hj : i = j
  · subst hj
    simp [hi, upd_same]
  · by_cases hjn : j < n
    · simp [hj, hjn, upd_ne _ _ (Ne.symm hj)]
    · grind
theorem ranks_lt {n i : Nat} {rk : Nat → Tr} {r : Tr} (hi : i < n) (h : TLt r (rk i)) : LLt (ranks n (upd rk i r)) (ranks n rk) := by
  rw [ranks_set hi]
  exact .mk _ i (rk i) r (by simp [ranks, hi]) h
variable {N : Net} {γ : Nat → So} {rk : Nat → Tr} {tp : Nat} {gs : Array Goroutine} {w : World} {t : Trace}
theorem sit_get (h : Sit P Final Cs N γ rk tp gs w t) {i : Nat} (hi : i < N.n) : ∃ g, gs[i]? = some g := by
  have : i < gs.size := by rw [h.size]; exact hi
  exact ⟨gs[i], Array.getElem?_eq_getElem this⟩
theorem sit_some (h : Sit P Final Cs N γ rk tp gs w t)
    (hen : (∃ i j c v k ok z k', i < N.n ∧ j < N.n ∧ N.pr i = .send c v k ∧ N.pr j = .recv c ok z k') ∨ (∃ i c k, i < N.n ∧ N.pr i = .close c k) ∨ (∃ j c ok z k E, j < N.n ∧ N.pr j = .recv c ok z k ∧ N.cl c = some E) ∨ (∃ i ch k, i < N.n ∧ N.pr i = .go ch k)) :
    ∃ (i : Nat) (g : Goroutine), gs[i]? = some g ∧ g.status = .running := by
  rcases hen with ⟨i, j, c, v, k, ok, z, k', hi, hj, hpi, hpj⟩ | ⟨i, c, k, hi, hp⟩ | ⟨j, c, ok, z, k, E, hj, hp, hE⟩ | ⟨i, ch, k, hi, hp⟩
  · obtain ⟨g, hg⟩ := sit_get h hi
    obtain ⟨g', hg'⟩ := sit_get h hj
    have hm := h.mem i g hg
    have hm' := h.mem j g' hg'
    rw [hpi] at hm
    rw [hpj] at hm'
    rcases hm.awake with e | e | e
    · grind
    · rcases hm'.awake with e' | e' | e'
      · grind
      · exact (h.apart i j c v k ok z k' g g' hg hg' e e' hpi hpj).elim
      · generalize rk j = rj at hm'
        cases hm' with
        | run p r g h1 h2 => rw [gtR_running h2] at e'; cases e'
        | recv _ _ _ _ g h1 h2 => cases e'
    · generalize rk i = ri at hm
      cases hm with
      | run p r g h1 h2 => rw [gtR_running h2] at e; cases e
      | send _ _ _ g _ h1 => cases e
  · obtain ⟨g, hg⟩ := sit_get h hi
    have hm := h.mem i g hg
    rw [hp] at hm
    generalize rk i = ri at hm
    cases hm with
    | run p r g h1 h2 => exact ⟨i, _, hg, gtR_running h2⟩
  · obtain ⟨g, hg⟩ := sit_get h hj
    have hm := h.mem j g hg
    rw [hp] at hm
    generalize rk j = rj at hm
    cases hm with
    | run p r g h1 h2 => exact ⟨j, _, hg, gtR_running h2⟩
    | recv _ _ _ _ g h1 h2 =>
      rw [h.open_ j c ok z k _ hg rfl hp] at hE
      cases hE
  · obtain ⟨g, hg⟩ := sit_get h hi
    have hm := h.mem i g hg
    rw [hp] at hm
    generalize rk i = ri at hm
    cases hm with
    | run p r g h1 h2 => exact ⟨i, _, hg, gtR_running h2⟩
end Go.Co
end
section
namespace Go.Co
open Go Go.Conc
open Go.ConcN (sumTo upd upd_same upd_ne)
variable {P : Program} {Final : Machine → Trace → Prop} {Cs : Nat → Prop}
theorem net_reach (hP : Plain P) {N : Net} (hW : Win Cs N) : ∀ (γ : Nat → So) (rk : Nat → Tr) (tp : Nat) (gs : Array Goroutine) (w : World) (sl : Option (Nat × Nat)) (t : Trace), Sit P Final Cs N γ rk tp gs w t → Rch P Final (crowd gs w sl) t := by
  induction hW with
  | done N h0 hd => exact fun γ rk tp gs w sl t h => net_done h h0 hd
  | step N hno h0 hsend hrecv hen hmeet hclo hshut hhear hstart ihm ihs ihh ihg =>
    intro γ rk tp gs w sl t h
    have acc := llt_acc (ranks N.n rk)
    generalize hl : ranks N.n rk = l at acc
    induction acc generalizing γ rk tp gs w sl t with
    | intro l _ ih =>
      subst hl
      have haw : ∀ g ∈ gs, awake g := by
        intro x hx
        obtain ⟨i, hi, rfl⟩ := Array.mem_iff_getElem.1 hx
        exact awake_of ((h.mem i _ (Array.getElem?_eq_getElem hi)).awake)
      obtain ⟨i, g, d, sl', hi, hg, hst⟩ := crowd_pick (P := P) (w := w) (sl := sl) haw (sit_some h hen)
      have hin : i < N.n := by rw [← h.size]; exact (Array.getElem?_eq_some_iff.1 hi).1
      have hm := h.mem i g hi
      generalize hrk : rk i = r at hm
      generalize hpp : N.pr i = p at hm
      have h2 := sit_at h hno d
      cases hm with
      | stop n g h3 h4 =>
        cases n with
        | zero => rw [h4.1] at hg; cases hg
        | succ n =>
          rcases h4 with ⟨hf, _⟩ | ⟨_, g', es, hmu, hstp, hq⟩
          · grind
          obtain ⟨hrun, hsit⟩ := sit_slip (sl := sl') h2 hi hpp h3 hmu hstp hq hsend hrecv
          rw [hrun] at hst
          exact rch_step hst (ih _ (ranks_lt hin (by rw [hrk]; exact tlt_nat n)) _ _ _ _ _ sl' _ hsit rfl)
      | ret r g h3 h4 h5 => exact absurd hpp (hno i hin).1
      | send c v k g z h3 => cases hg
      | recv c ok z k g h3 h4 => cases hg
      | run p r0 g hlive hG =>
        subst hpp
        cases r0 with
        | node f =>
          obtain ⟨g', w', es, γ', e1, hS, hG'⟩ := hG.2 (w.at d) (rlS_at _ _ _)
          obtain ⟨hrun, hsit⟩ := sit_step (sl := sl') hP h hno hsend hrecv hi hlive e1 hS hG'
          rw [hrun] at hst
          exact rch_step hst (ih _ (ranks_lt hin (by rw [hrk]; exact tlt_up f (w.at d))) _ _ _ _ _ sl' _ hsit rfl)
        | leaf =>
          have hS := hG (w.at d) (rlS_at _ _ _)
          cases hp : N.pr i with
          | stop => exact absurd hp hlive.1
          | ret => exact absurd hp hlive.2.1
          | bad => exact absurd hp hlive.2.2
          | send c v k =>
            rw [hp] at hS
            obtain ⟨hc1, hc2⟩ := hsend i c v k hin hp
            rcases sit_send (sl := sl') h hno hi hp hc1 hc2 hS.1 hS.2 (fun j ok z kr hj hr => hmeet i j c v k ok z kr hin hj hp hr) with ⟨gs', hrun, hsit⟩ | ⟨N', gs', w', ops, rk', hrun, -, ⟨j, ok, z, kr, hj, hr, rfl⟩, hsit⟩
            · rw [hrun] at hst
              refine rch_step hst ?_
              rw [Array.append_empty]
              exact ih _ (ranks_lt hin (by rw [hrk]; exact tlt_leaf)) _ _ _ _ _ sl' _ (sit_at hsit hno d) rfl
            · rw [hrun] at hst
              exact rch_step hst (ihm i j c v k ok z kr hin hj hp hr _ _ _ _ _ sl' _ hsit)
          | recv c ok z kr =>
            rw [hp] at hS hG
            have hcs := hrecv i c ok z kr hin hp
            have hS0 := hG w (rlS_refl _ _)
            cases hcl : N.cl c with
            | none =>
              rcases sit_recv (sl := sl') h hno hi hp hcl hcs hS.1 (fun w1 h1 => (hG w1 h1).1) hS0.2 (fun j v k hj hs => hmeet j i c v k ok z kr hj hin hs hp) with ⟨gs', hrun, hsit⟩ | ⟨N', gs', w', ops, rk', hrun, -, ⟨j, v, k, hj, hs, rfl⟩, hsit⟩
              · rw [hrun] at hst
                refine rch_step hst ?_
                rw [Array.append_empty]
                exact ih _ (ranks_lt hin (by rw [hrk]; exact tlt_leaf)) _ _ _ _ _ sl' _ (sit_at hsit hno d) rfl
              · rw [hrun] at hst
                exact rch_step hst (ihm j i c v k ok z kr hj hin hs hp _ _ _ _ _ sl' _ hsit)
            | some E =>
              obtain ⟨gs', ops, rk', hrun, hsit⟩ := sit_hear (sl := sl') (d := d) h2 hsend hi hp hcl hcs hS.1 hS.2 (hhear i c ok z kr E hin hp hcl)
              have hrun : runT P (crowd gs (w.at d) sl') i = _ := hrun
              rw [hrun] at hst
              exact rch_step hst (ihh i c ok z kr E hin hp hcl _ _ _ _ _ sl' _ hsit)
          | close c k =>
            rw [hp] at hS
            obtain ⟨-, hmw, g', hr', hstep, hk⟩ := hS
            obtain ⟨hc1, hc2⟩ := hclo i c k hin hp
            have hw := hshut i c k hin hp
            have hns : ∀ j v k', j < N.n → N.pr j ≠ .send c v k' := by
              intro j v k' hj e
              have hji : j ≠ i := by rintro rfl; rw [hp] at e; cases e
              have e' : (N.shut i c k).pr j = .send c v k' := (upd_ne _ _ hji).trans e
              have hcl : (N.shut i c k).cl c ≠ none := by
                show upd N.cl c _ c ≠ none
                rw [upd_same]; simp
              cases hw with
              | done _ h3 h4 =>
                by_cases hj0 : j = 0
                · grind
                · rw [(h4 j (by omega) hj).1] at e'; cases e'
              | step _ _ _ h5 => exact hcl (h5 j c v k' hj e').1
            obtain ⟨gs', w', ops, rk', hrun, hsit⟩ := sit_shut (sl := sl') (d := d) hP h2 hno hsend hrecv hi hp hc1 hc2 hmw hr' hstep hk hns hw
            have hrun : runT P (crowd gs (w.at d) sl') i = _ := hrun
            rw [hrun] at hst
            exact rch_step hst (ihs i c k hin hp _ _ _ _ _ sl' _ hsit)
          | go ch k =>
            rw [hp] at hS
            obtain ⟨hr1, g', x0, hr', e1, hr0, hch, hk⟩ := hS
            obtain ⟨gs', ops, rk', hrun, hsit⟩ := sit_start (sl := sl') (d := d) hP h2 hi hp e1 hr' hr0 hch hk (hstart i ch k hin hp)
            have hrun : runT P (crowd gs (w.at d) sl') i = _ := hrun
            rw [hrun] at hst
            exact rch_step hst (ihg i ch k hin hp _ _ _ _ _ sl' _ hsit)
end Go.Co
end
section
namespace Go.Co
open Go Go.Conc
open Go.ConcN (sumTo upd upd_same upd_ne)
variable {P : Program} {Final : Machine → Trace → Prop} {Cs : Nat → Prop}
def entry (n : Nat) (p : Pc) : Net := ⟨n, fun j => if j = 0 then p else .stop, fun _ j => 0 < j ∧ j < n, fun _ => none⟩
theorem km_net (hP : Plain P) {p : Pc} {S O : Nat → Prop} {g : Goroutine} {w : World} (hp : p.live) (hpr : Pr P Final true p (S, O) g w)
    (hSO : ∀ b, O b → ¬ S b) (hbnd : ∀ b, S b ∨ O b → b < w.heap.size)
    (hc : ∀ c, Cs c → (∃ s tm, w.heap[c]? = some (.chan 0 #[] false s s tm)) ∧ ¬ S c ∧ ¬ O c)
    (hW : ∀ n, 0 < n → Win Cs (entry n p)) : KMu P Final () g w := by
  intro d hf hr hd gs sl t q h0 hL hpast
  have hlt : 0 < gs.size := (Array.getElem?_eq_some_iff.1 h0).1
  obtain ⟨r, hG⟩ := pr_live hp hpr
  have hG := gtR_rely tms_s hG (rlS_at (S, O) w d)
  have hno : ∀ i a, t.size ≤ i → touchAt t i = some a → False := by
    intro i a hi ha
    obtain ⟨x, hx, -⟩ := touch_of ha
    have := (Array.getElem?_eq_some_iff.1 hx).1
    omega
  have hlive : ∀ j, (entry gs.size p).pr j ≠ .stop → j = 0 := by
    intro j hj
    by_cases h : j = 0
    · exact h
    · exact absurd (by simp [entry, h]) hj
  have hpr0 : (entry gs.size p).pr 0 = p := rfl
  have hγ : ∀ j b, ((if j = 0 then ((S, O) : So) else (fun _ => False, fun _ => False)).1 b → j = 0 ∧ S b) ∧ ((if j = 0 then ((S, O) : So) else (fun _ => False, fun _ => False)).2 b → j = 0 ∧ O b) := by
    intro j b
    by_cases h : j = 0 <;> simp [h]
  refine net_reach hP (hW gs.size hlt) (fun j => if j = 0 then (S, O) else (fun _ => False, fun _ => False)) (fun j => if j = 0 then r.up else Tr.nat (q j)) t.size gs (w.at d) sl t
    ⟨rfl, hlt, fun j x hx => ?_, ⟨hpast.clean, fun j hj => ?_, fun i a j hi ha hm hj hjn => ?_, fun i a b j hi ha => (hno i a hi ha).elim, fun i a b j hi ha => (hno i a hi ha).elim, fun i a b hi ha => (hno i a hi ha).elim, fun i a hi ha => (hno i a hi ha).elim, fun i j hi hg => ?_, fun i a j x hi ha => (hno i a hi ha).elim, fun c E hE => (by cases hE), fun j j' b hb => ?_, fun j b hb => ?_, fun c E j hE => (by cases hE), fun x j hj => ?_, Nat.le_refl _⟩, fun c hcc => ?_, fun j c ok z k x hx hb hpj => rfl, fun i j c v k ok z k' x y hx hy hbx => ?_, fun x hx => ?_⟩
  · by_cases h : j = 0
    · subst h
      rw [h0] at hx
      cases hx
      have := Mem.run (P := P) (Final := Final) (j := 0) (d := Deaf t 0) (γ := (S, O)) (w := w.at d) p r g hp hG
      simpa [entry] using this
    · have := Mem.stop (P := P) (Final := Final) (j := j) (d := Deaf t j) (γ := ((fun _ => False, fun _ => False) : So)) (w := w.at d) (q j) x h (hL.old j x (by omega) hx)
      simpa [entry, h] using this
  · rcases hj with hj | hj
    · rw [hlive j hj]; exact hpast.hears
    · exact hL.above j hj
  · rw [hlive j hj]
    exact hpast.known i a ha hm
  · unfold Trace.g? at hg
    obtain ⟨z, hz, -⟩ := Option.map_eq_some_iff.1 hg
    have := (Array.getElem?_eq_some_iff.1 hz).1
    omega
  · obtain ⟨rfl, hO⟩ := (hγ j b).2 hb
    refine ⟨fun hS => hSO b hO ((hγ j' b).1 hS).2, fun hne hb' => hne ((hγ j' b).2 hb').1.symm⟩
  · rcases hb with hb | hb
    · exact hbnd b (.inl ((hγ j b).1 hb).2)
    · exact hbnd b (.inr ((hγ j b).2 hb).2)
  · refine ⟨hj.2, ?_⟩
    have : j ≠ 0 := by have := hj.1; omega
    simp [entry, this]
  · obtain ⟨h1, h2, h3⟩ := hc c hcc
    refine ⟨h1, fun j => ⟨fun h => h2 ((hγ j c).1 h).2, fun h => h3 ((hγ j c).2 h).2⟩⟩
  · grind
  · grind
variable {fn : FuncId} {γ : So} {c : Code} {a : Act} {w : World}
theorem kg_ret {g : Goroutine} (hd : g.dying = none) (h : KMu P Final () g w) : KG P Final true (.ret, γ) g w := fun _ _ => ⟨hd, h⟩
theorem kg_mu {g : Goroutine} (h : KG P Final true (.ret, γ) g w) : KMu P Final () g w := (h (fun h => by cases h) (by simp)).2
theorem aft_mu {b : Frame} {k : List Item} {cs : List Frame} {e : Exit} {a : Act} {w : World} (h : AftK (KG P Final true) b k cs (.ret, γ) e a w) : AftK (KMu P Final) b k cs () e a w := by
  cases e with
  | normal => exact kg_mu h
  | exit id =>
    obtain ⟨k', h1, h2⟩ := h
    exact ⟨k', h1, kg_mu h2⟩
  | ret => exact fun todo => kg_mu (h todo)
  | goto l => exact h
  | panic ch => exact h
  | outgrown => exact h
theorem aft_ret {b : Frame} {k : List Item} {cs : List Frame} {e : Exit} {a : Act} {w : World} (h : AftK (KMu P Final) b k cs () e a w) : AftK (KG P Final true) b k cs (.ret, γ) e a w := by
  cases e with
  | normal => exact kg_ret rfl h
  | exit id =>
    obtain ⟨k', h1, h2⟩ := h
    exact ⟨k', h1, kg_ret rfl h2⟩
  | ret => exact fun todo => kg_ret rfl (h todo)
  | goto l => exact h
  | panic ch => exact h
  | outgrown => exact h
theorem kj_alone {Q : Gm → Exit → Act → World → Prop} (h : KJ (KMu P Final) fn () c (fun _ => Q (.ret, γ)) a w) : KJ (KG P Final true) fn (.ret, γ) c Q a w :=
  fun b k cs hb hk hc => kg_ret rfl (h b k cs hb hk fun _ e a' w' q => aft_mu (hc _ e a' w' q))
theorem ko_alone {ops : Array Oper} {todo : List Nat} {Q : Gm → Exit → Act → World → Prop} (h : KO (KMu P Final) fn () ops todo (fun _ => Q (.ret, γ)) a w) : KO (KG P Final true) fn (.ret, γ) ops todo Q a w :=
  fun b k cs hb hk hc => kg_ret rfl (h b k cs hb hk fun _ e a' w' q => aft_mu (hc _ e a' w' q))
theorem kj_phase (hP : Plain P) {p : Pc} {S O : Nat → Prop} {Q : Exit → Act → World → Prop} (hp : p.live)
    (hSO : ∀ b, O b → ¬ S b) (hbnd : ∀ b, S b ∨ O b → b < w.heap.size)
    (hc : ∀ c, Cs c → (∃ s tm, w.heap[c]? = some (.chan 0 #[] false s s tm)) ∧ ¬ S c ∧ ¬ O c)
    (hW : ∀ n, 0 < n → Win Cs (entry n p))
    (h : KJ (KG P Final true) fn (p, (S, O)) c (fun γ' e a' w' => γ'.1 = .ret ∧ Q e a' w') a w) : KJ (KMu P Final) fn () c (fun _ => Q) a w := by
  intro b k cs hb hk haft
  refine km_net hP hp (h b k cs hb hk (fun γ' e a' w' q => ?_) (fun h => by cases h) hp.1) hSO hbnd hc hW
  obtain ⟨p', γ'⟩ := γ'
  obtain ⟨rfl, q⟩ := q
  exact aft_ret (haft () e a' w' q)
end Go.Co
end
section
namespace Go.Co
open Go Go.Conc
variable {P : Program} {Final : Machine → Trace → Prop} {main : Bool} {K : Gm → Goroutine → World → Prop} {fn : FuncId} {p : Pc} {γ : So} {Q : Gm → Exit → Act → World → Prop} {a : Act} {w : World} {ops : Array Oper} {i : Nat} {rest : List Nat} {o : Oper}
theorem rlg (hp : p ≠ .ret) {w1 : World} (h : RlG (p, γ) w w1) : RlS γ w w1 := by
  unfold RlG at h
  cases p <;> first | exact h | exact absurd rfl hp
theorem stg (hp : p ≠ .ret) {s : So} {w' : World} {es : Array Event} (h : StS γ w s w' es) : StG (p, γ) w (p, s) w' es := by
  refine ⟨rfl, ?_⟩
  cases p <;> first | exact h | exact absurd rfl hp
def KAll (P : Program) (Final : Machine → Trace → Prop) (γ : Gm) (g : Goroutine) (w : World) : Prop := γ.1 = .bad → ∀ w1, RlS γ.2 w w1 → KMu P Final () g w1
theorem kc_kall (hP : Plain P) : KC P true (KAll P Final) RlG StG where
  step := fun γ fr cs w h hb w0 r0 => by
    obtain ⟨p, γ⟩ := γ
    simp only at hb
    subst hb
    refine (kc_main hP).step () fr cs w0 fun w1 h1 => ?_
    obtain ⟨d, rfl⟩ := h1
    obtain ⟨fr', cs', w', es, γ', e, ⟨hp', -⟩, hk⟩ := h (w0.at d) (rlo_trans r0 (rlS_at γ w0 d))
    exact ⟨fr', cs', w', es, (), e, trivial, hk hp' w' (rlS_refl _ _)⟩
  idle := (kc_pr (Final := Final) (main := true) hP).idle
  rely := fun γ g w w1 r h hb w2 r2 => by
    obtain ⟨p, γ⟩ := γ
    exact h hb w2 (rlo_trans (rlg (by simp only at hb; subst hb; simp) r) r2)
theorem kj_kall {c : Code} {Q : Gm → Exit → Act → World → Prop} {Q' : Exit → Act → World → Prop} (hq : ∀ γ' e a w w1, Q γ' e a w → RlS γ'.2 w w1 → γ'.1 = .bad → Q' e a w1) (h : KJ (KAll P Final) fn (.bad, γ) c (fun γ' e a w => γ'.1 = .bad ∧ Q γ' e a w) a w) : KJ (KMu P Final) fn () c (fun _ => Q') a w := by
  intro b k cs hb hk hc
  refine h b k cs hb hk (fun γ' e a' w' q => ?_) rfl w (rlS_refl _ _)
  have hall : ∀ w1, RlS γ'.2 w' w1 → AftK (KMu P Final) b k cs () e a' w1 := fun w1 r => hc () e a' w1 (hq _ _ _ _ _ q.2 r q.1)
  cases e with
  | normal => exact fun _ w1 r => hall w1 r
  | exit id =>
    obtain ⟨k', h1, -⟩ := hall w' (rlS_refl _ _)
    refine ⟨k', h1, fun _ w1 r => ?_⟩
    obtain ⟨k2, h2, h3⟩ := hall w1 r
    rw [h1] at h2
    cases h2
    exact h3
  | ret => exact fun todo _ w1 r => hall w1 r todo
  | goto l => exact (hall w' (rlS_refl _ _)).elim
  | panic ch => exact (hall w' (rlS_refl _ _)).elim
  | outgrown => exact (hall w' (rlS_refl _ _)).elim
theorem events_max_int2 {es : Array Event} (ts : Array TypeId) (t : TypeId) (k k' : IntKind) (x y : Int) : (Builtin.max_ ts t #[.int k x, .int k' y]).events P w es = es := by
  simp [Builtin.max_, Builtin.max2]
theorem events_min_int2 {es : Array Event} (ts : Array TypeId) (t : TypeId) (k k' : IntKind) (x y : Int) : (Builtin.min_ ts t #[.int k x, .int k' y]).events P w es = es := by
  simp [Builtin.min_, Builtin.min2]
theorem ko_pure (C : KC P main K RlG StG) {γ : Gm} {v : Value} (ho : ops[i]? = some o) (hw : Region.wanted o (yielded ops a.tmps) = true) (hrun : ∀ w, (execOp a.eval o).run P w = .ok (.value v) w) (hev : ∀ w, (execOp a.eval o).events P w #[] = #[])
    (h : KO K fn γ ops rest Q (a.put o.dst v) w) : KO K fn γ ops (i :: rest) Q a w :=
  ko_cons C ho hw fun w₁ r => by rw [hrun w₁]; exact ⟨γ, by rw [listed_nil (hev w₁)]; exact C.idle _ _, ko_rely C r h⟩
theorem ko_pa (C : KC P main K RlG StG) {γ : Gm} {v : Value} (h : KO K fn γ ops rest Q (a.put o.dst v) w) (ho : ops[i]? = some o := by rfl) (hw : Region.wanted o (yielded ops a.tmps) = true := by rfl) (hrun : ∀ w, (execOp a.eval o).run P w = .ok (.value v) w := by exact fun w => run_eq_of fun K hK => (by go_simp; exact hK)) (hev : ∀ w, (execOp a.eval o).events P w #[] = #[] := by intro w; first | (simp [go_sem]; done) | (simp [go_sem, *]; done)) : KO K fn γ ops (i :: rest) Q a w := ko_pure C ho hw hrun hev h
theorem ko_gen (C : KC P main K RlG StG) (hp : p ≠ .ret) (ho : ops[i]? = some o) (hw : Region.wanted o (yielded ops a.tmps) = true)
    (h : ∀ w₁, RlS γ w w₁ → ∃ v w' s, (execOp a.eval o).run P w₁ = .ok (.value v) w' ∧ StS γ w₁ s w' (listed P fn a o w₁) ∧ KO K fn (p, s) ops rest Q (a.put o.dst v) w') : KO K fn (p, γ) ops (i :: rest) Q a w :=
  ko_cons C ho hw fun w₁ r => by
    obtain ⟨v, w', s, h1, h2, h3⟩ := h w₁ (rlg hp r)
    rw [h1]
    exact ⟨(p, s), stg hp h2, h3⟩
theorem ko_see (C : KC P main K RlG StG) (hp : p ≠ .ret) {v : Value} (ho : ops[i]? = some o) (hw : Region.wanted o (yielded ops a.tmps) = true)
    (hrun : ∀ w₁, RlS γ w w₁ → (execOp a.eval o).run P w₁ = .ok (.value v) w₁ ∧ ∀ e ∈ (execOp a.eval o).events P w₁ #[], Evo γ.1 γ.2 e) (h : KO K fn (p, γ) ops rest Q (a.put o.dst v) w) : KO K fn (p, γ) ops (i :: rest) Q a w :=
  ko_gen C hp ho hw fun w₁ r => ⟨v, w₁, γ, (hrun w₁ r).1, ⟨rfl, sto_read fun e he => (hrun w₁ r).2 e (mem_listed he)⟩, ko_rely C (by unfold RlG; cases p <;> first | exact r | exact absurd rfl hp) h⟩
def So.more (γ : So) (n : Nat) : So := (γ.1, fun b => γ.2 b ∨ b = n)
theorem sto_new (ob : Obj) : StS γ w (γ.more w.heap.size) (w.alloc ob) #[] := by
  have hsz : (w.alloc ob).heap.size = w.heap.size + 1 := by simp
  refine ⟨rfl, fun b => ?_, by omega, fun b hb _ => RowKit.Below.heap_alloc _ _ _ hb, rfl, rfl, rfl, by simp⟩
  show γ.2 b ∨ b = w.heap.size ↔ _
  rw [hsz]
  refine or_congr_right ?_
  omega
theorem ko_new (C : KC P main K RlG StG) (hp : p ≠ .ret) {f : Nat → Value} {ob : Obj} (ho : ops[i]? = some o) (hw : Region.wanted o (yielded ops a.tmps) = true)
    (hrun : ∀ w, (execOp a.eval o).run P w = .ok (.value (f w.heap.size)) (w.alloc ob)) (hev : ∀ w, (execOp a.eval o).events P w #[] = #[])
    (h : ∀ w₁, RlS γ w w₁ → KO K fn (p, γ.more w₁.heap.size) ops rest Q (a.put o.dst (f w₁.heap.size)) (w₁.alloc ob)) : KO K fn (p, γ) ops (i :: rest) Q a w :=
  ko_gen C hp ho hw fun w₁ r => ⟨_, _, _, hrun w₁, by rw [listed_nil (hev w₁)]; exact sto_new ob, h w₁ r⟩
theorem ko_box (C : KC P main K RlG StG) (hp : p ≠ .ret) {ob : Obj} (ho : ops[i]? = some o) (hw : Region.wanted o (yielded ops a.tmps) = true)
    (hrun : ∀ w, (execOp a.eval o).run P w = .ok (.value (.pointer (some ⟨w.heap.size, 0, none⟩))) (w.alloc ob)) (hev : ∀ w, (execOp a.eval o).events P w #[] = #[])
    (h : ∀ w₁, RlS γ w w₁ → KO K fn (p, γ.more w₁.heap.size) ops rest Q (a.put o.dst (.pointer (some ⟨w₁.heap.size, 0, none⟩))) (w₁.alloc ob)) : KO K fn (p, γ) ops (i :: rest) Q a w :=
  ko_new C hp (f := fun n => .pointer (some ⟨n, 0, none⟩)) ho hw hrun hev h
theorem ko_lit (C : KC P main K RlG StG) (hp : p ≠ .ret) {ob : Obj} {n : Nat} (ho : ops[i]? = some o) (hw : Region.wanted o (yielded ops a.tmps) = true)
    (hrun : ∀ w, (execOp a.eval o).run P w = .ok (.value (.slice (some ⟨w.heap.size, 0, none⟩) n n)) (w.alloc ob)) (hev : ∀ w, (execOp a.eval o).events P w #[] = #[])
    (h : ∀ w₁, RlS γ w w₁ → KO K fn (p, γ.more w₁.heap.size) ops rest Q (a.put o.dst (.slice (some ⟨w₁.heap.size, 0, none⟩) n n)) (w₁.alloc ob)) : KO K fn (p, γ) ops (i :: rest) Q a w :=
  ko_new C hp (f := fun m => .slice (some ⟨m, 0, none⟩) n n) ho hw hrun hev h
theorem sto_put {ad : Addr} {v : Value} {es : Array Event} (hO : γ.2 ad.block) (hes : ∀ e ∈ es, Evo γ.1 γ.2 e) : StS γ w γ (w.setCell ad v) es := by
  have hsz : (w.setCell ad v).heap.size = w.heap.size := World.size_setCell ..
  refine ⟨rfl, fun b => ⟨.inl, fun h => h.elim id fun h => absurd h.2 (by omega)⟩, by omega, fun b _ hn => ?_, rfl, rfl, rfl, hes⟩
  exact heap_setCell_other _ _ _ _ (fun e => hn (e ▸ hO))
theorem ko_put (C : KC P main K RlG StG) (hp : p ≠ .ret) {ad : Addr} {v : Value} (ho : ops[i]? = some o) (hw : Region.wanted o (yielded ops a.tmps) = true) (hO : γ.2 ad.block)
    (hrun : ∀ w₁, RlS γ w w₁ → (execOp a.eval o).run P w₁ = .ok .skip (w₁.setCell ad v) ∧ ∀ e ∈ (execOp a.eval o).events P w₁ #[], e = ⟨.cell ad, true, false⟩)
    (h : ∀ w₁, RlS γ w w₁ → KO K fn (p, γ) ops rest Q (a.put o.dst undef) (w₁.setCell ad v)) : KO K fn (p, γ) ops (i :: rest) Q a w :=
  ko_cons C ho hw fun w₁ r => by
    obtain ⟨h1, h2⟩ := hrun w₁ (rlg hp r)
    rw [h1]
    refine ⟨(p, γ), stg hp (sto_put hO fun e he => ?_), h w₁ (rlg hp r)⟩
    rw [h2 e (mem_listed he)]
    exact .inl ⟨ad, true, false, rfl, fun _ => hO, .inr hO⟩
theorem kj_loopN {Γ : Type} {K : Γ → Goroutine → World → Prop} {Rl : Γ → World → World → Prop} {St : Γ → World → Γ → World → Array Event → Prop} {γ : Γ} {Q : Γ → Exit → Act → World → Prop} (C : KC P main K Rl St) {c : Code} (I : Nat → Γ → Act → World → Prop) {n : Nat} (h₀ : I n γ a w)
    (round : ∀ n γ a w, I n γ a w → KJ K fn γ c (fun γ' => Exit.then (fun a' w' => ∃ m, m < n ∧ I m γ' a' w') (Q γ')) a w) : KJ K fn γ (.loop c) Q a w := by
  intro b k cs hb hk hc
  have key : ∀ n γ a w, I n γ a w → K γ (G (b.at a (.code c :: .inLoop c :: k)) cs) w := by
    intro n
    induction n using Nat.strongRecOn with
    | ind n ih =>
      intro γ a w hI
      refine round n γ a w hI b (.inLoop c :: k) cs hb hk fun γ' e a' w' q => ?_
      cases e with
      | normal =>
        obtain ⟨m, hm, q⟩ := q
        exact C.go (fun _ => stepG_inLoop) (ih m hm γ' a' w' q)
      | exit id => exact (hc _ _ _ _ q).push rfl (by simp)
      | ret => exact AftK.push (x := .inLoop c) rfl (by simp) (hc _ _ _ _ q)
      | goto l => exact hc _ _ _ _ q
      | panic ch => exact hc _ _ _ _ q
      | outgrown => exact hc _ _ _ _ q
  exact C.go (fun _ => stepG_loop) (key n γ a w h₀)
theorem ex_u {F : (Nat → Value) → Act} (h : a = F fun n => a.tmps.getD n undef) : ∃ u, a = F u := ⟨_, h⟩
theorem then_normal {N : Act → World → Prop} {R : Exit → Act → World → Prop} (h : N a w) : Exit.then N R .normal a w := h
def Sees (γ : So) (w : World) (ad : Addr) (v : Value) : Prop := γ.all ad.block ∧ w.cell? ad = some v
theorem Sees.rely {ad : Addr} {v : Value} {w1 : World} (h : Sees γ w ad v) (r : RlS γ w w1) : Sees γ w1 ad v :=
  ⟨h.1, (World.cell?_of_block (r.2.1 ad.block h.1)).trans h.2⟩
theorem Sees.lt {ad : Addr} {v : Value} (h : Sees γ w ad v) : ad.block < w.heap.size := World.block_lt_of_cell? w ad h.2
theorem Sees.alloc {ad : Addr} {v : Value} (h : Sees γ w ad v) (n : Nat) (ob : Obj) : Sees (γ.more n) (w.alloc ob) ad v :=
  ⟨h.1.imp id .inl, (World.cell?_alloc_lt w ob ad h.lt).trans h.2⟩
theorem Sees.put {ad ad' : Addr} {v v' : Value} (h : Sees γ w ad v) (hne : ad' ≠ ad) : Sees γ (w.setCell ad' v') ad v :=
  ⟨h.1, (World.cell?_setCell_other w ad' ad v' hne).trans h.2⟩
theorem Sees.evo {ad : Addr} {v : Value} (h : Sees γ w ad v) : Evo γ.1 γ.2 ⟨.cell ad, false, false⟩ := .inl ⟨ad, false, false, rfl, fun h => (by cases h), h.1⟩
theorem Sees.fresh {w : World} {n j : Nat} {cs : Array Value} {t : TypeId} {v : Value} (hn : n = w.heap.size) (h : cs[j]? = some v) : Sees (γ.more n) (w.alloc (.cells cs t)) ⟨n, j, none⟩ v := by
  subst hn
  exact ⟨.inr (.inr rfl), by rw [World.cell?_alloc_new, h]⟩
theorem ko_sa (C : KC P main K RlG StG) (hp : p ≠ .ret) {v : Value} {ad : Addr} {x : Value} (hs : Sees γ w ad x) (h : KO K fn (p, γ) ops rest Q (a.put o.dst v) w) (ho : ops[i]? = some o := by rfl) (hw : Region.wanted o (yielded ops a.tmps) = true := by rfl) (hrun : ∀ w₁ : World, w₁.cell? ad = some x → (execOp a.eval o).run P w₁ = .ok (.value v) w₁ := by exact fun w₁ hc => run_eq_of fun K hK => (by go_simp; exact hK)) (hev : ∀ w₁ : World, w₁.cell? ad = some x → Evo γ.1 γ.2 ⟨.cell ad, false, false⟩ → ∀ e ∈ (execOp a.eval o).events P w₁ #[], Evo γ.1 γ.2 e := by intro w₁ hc hv e he; simp [go_sem, hc] at he; subst he; exact hv) : KO K fn (p, γ) ops (i :: rest) Q a w :=
  ko_see C hp ho hw (fun w₁ r => ⟨hrun w₁ (hs.rely r).2, hev w₁ (hs.rely r).2 (hs.rely r).evo⟩) h
theorem kj_ra {Γ : Type} {K : Γ → Goroutine → World → Prop} {Rl : Γ → World → World → Prop} {St : Γ → World → Γ → World → Array Event → Prop} {γ : Γ} {Q : Γ → Exit → Act → World → Prop} (C : KC P main K Rl St) {id : Nat} {L : List Nat} (h : KO K fn γ ops L Q a w) (hL : List.range ops.size = L := by conv => lhs; simp only [List.size_toArray, List.length_cons, List.length_nil, Nat.reduceAdd, Nat.zero_add, List.range, List.range.loop]) : KJ K fn γ (.region id ops false) Q a w := kj_region C (hL ▸ h)
def Ils (γ : So) (w : World) (v : Value) (l : List Int) : Prop := ∃ A cap, v = .slice A l.length cap ∧ ∀ i x, l[i]? = some x → ∃ ad, A = some ad ∧ Sees γ w (ad.add i) (.int .i64 x)
theorem Ils.rely {v : Value} {l : List Int} {w1 : World} (h : Ils γ w v l) (r : RlS γ w w1) : Ils γ w1 v l := by
  obtain ⟨A, cap, rfl, h⟩ := h
  exact ⟨A, cap, rfl, fun i x hx => by obtain ⟨ad, h1, h2⟩ := h i x hx; exact ⟨ad, h1, h2.rely r⟩⟩
theorem Ils.alloc {v : Value} {l : List Int} (h : Ils γ w v l) (n : Nat) (ob : Obj) : Ils (γ.more n) (w.alloc ob) v l := by
  obtain ⟨A, cap, rfl, h⟩ := h
  exact ⟨A, cap, rfl, fun i x hx => by obtain ⟨ad, h1, h2⟩ := h i x hx; exact ⟨ad, h1, h2.alloc n ob⟩⟩
structure Kept (γ : So) (w : World) (γ' : So) (w' : World) : Prop where
  shr : γ'.1 = γ.1
  own : ∀ b, γ.2 b → γ'.2 b
  blk : ∀ b, γ.all b → b < w.heap.size → w'.heap[b]? = w.heap[b]?
  size : w.heap.size ≤ w'.heap.size
  env : w'.os = w.os ∧ w'.output = w.output
theorem Kept.all {γ' : So} {w' : World} (h : Kept γ w γ' w') {b : Nat} (hb : γ.all b) : γ'.all b := hb.imp (by rw [h.shr]; exact id) (h.own b)
theorem Kept.refl (γ : So) (w : World) : Kept γ w γ w := ⟨rfl, fun _ h => h, fun _ _ _ => rfl, Nat.le_refl _, rfl, rfl⟩
theorem Kept.trans {γ' γ'' : So} {w' w'' : World} (h : Kept γ w γ' w') (k : Kept γ' w' γ'' w'') : Kept γ w γ'' w'' :=
  ⟨k.shr.trans h.shr, fun b hb => k.own b (h.own b hb), fun b hb hlt => (k.blk b (h.all hb) (Nat.lt_of_lt_of_le hlt h.size)).trans (h.blk b hb hlt), Nat.le_trans h.size k.size, k.env.1.trans h.env.1, k.env.2.trans h.env.2⟩
theorem Kept.rely {w1 : World} (r : RlS γ w w1) : Kept γ w γ w1 := ⟨rfl, fun _ h => h, fun b hb _ => r.2.1 b hb, r.1, r.2.2.2⟩
theorem Kept.alloc (γ : So) (w : World) (n : Nat) (ob : Obj) : Kept γ w (γ.more n) (w.alloc ob) := ⟨rfl, fun _ h => .inl h, fun b _ hlt => RowKit.Below.heap_alloc _ _ _ hlt, by simp, rfl, rfl⟩
theorem Kept.sees {γ' : So} {w' : World} (h : Kept γ w γ' w') {ad : Addr} {v : Value} (s : Sees γ w ad v) : Sees γ' w' ad v :=
  ⟨h.all s.1, (World.cell?_of_block (h.blk ad.block s.1 s.lt)).trans s.2⟩
theorem Kept.ils {γ' : So} {w' : World} (h : Kept γ w γ' w') {v : Value} {l : List Int} (s : Ils γ w v l) : Ils γ' w' v l := by
  obtain ⟨A, cap, rfl, s⟩ := s
  exact ⟨A, cap, rfl, fun i x hx => by obtain ⟨ad, h1, h2⟩ := s i x hx; exact ⟨ad, h1, h.sees h2⟩⟩
end Go.Co
end
section
namespace Go.Co
open Go Go.Conc
variable {P : Program} {Final : Machine → Trace → Prop} {fn : FuncId} {γ : So} {a : Act} {w : World} {ops : Array Oper} {i : Nat} {rest : List Nat} {o : Oper}
theorem mu_call_raw (hP : Plain P) {b : Frame} {k : List Item} {cs : List Frame} (hk : b.kind ≠ .early) {f : FuncId} {args : Array Operand} {ats : Array TypeId} {R : Value → World → Prop}
    (ho : ops[i]? = some o) (hw : Region.wanted o (yielded ops a.tmps) = true) (hop : o.op = .call { callee := .value (.func f), args, argTypes := ats }) {fn' : Func} {c : Code} (hf : P.funcs[f]? = some fn') (hb : fn'.body = some c)
    (hcall : ∀ τ, Calls P f (args.map a.eval) (w.re τ 0) fun e w' => ∃ v, e = .returned v ∧ R v w') (hnext : ∀ v w', R v w' → ∀ τ d, KMu P Final () (G (b.at (a.put o.dst v) (.inRegion ops rest :: k)) cs) (w'.re τ d)) : KMu P Final () (G (b.at a (.inRegion ops (i :: rest) :: k)) cs) w := by
  refine km_lone hP fun _ τ => ?_
  obtain ⟨e, w', fr, ⟨v, rfl, hR⟩, hcomes, hfn, hleave⟩ := hcall τ (b.at a (.inRegion ops (i :: rest) :: k) :: cs)
  have hcont := hnext v w' hR
  have hname := hP.count f fn' hf
  have hstep : step P (lone (b.at a (.inRegion ops (i :: rest) :: k)) cs (w.re τ 0)) = .next (lone (Frame.enter P f (args.map a.eval) .normal) (b.at a (.inRegion ops (i :: rest) :: k) :: cs) (w.re τ 0)) := by
    refine step_lone_go ?_
    have := goes_call (P := P) (main := true) (b := b) (k := k) (cs := cs) (w := w.re τ 0) (K := fun g w' es => g = G ((base f).at { tmps := args.map a.eval ++ Array.replicate (fn'.ntmps - (args.map a.eval).size) undef, defers := [] } [.code c]) (b.at a (.inRegion ops (i :: rest) :: k) :: cs) ∧ w' = w.re τ 0 ∧ es = #[]) ho hw hk hop hf hname hb ⟨rfl, rfl, rfl⟩
    obtain ⟨g', w2, es, e1, e2, e3, e4⟩ := goes_elim this
    subst e2 e3 e4
    have henter : Frame.enter P f (args.map a.eval) .normal = (base f).at { tmps := args.map a.eval ++ Array.replicate (fn'.ntmps - (args.map a.eval).size) undef, defers := [] } [.code c] := by
      simp [Frame.enter, Frame.at, hf, hb, base]
    rw [henter]
    show (stepG P true (G (b.at a (.inRegion ops (i :: rest) :: k)) cs) (w.re τ 0)).bare = _
    rw [e1]
    rfl
  have hback : step P (lone fr (b.at a (.inRegion ops (i :: rest) :: k) :: cs) w') = .next (lone (b.at (a.put o.dst v) (.inRegion ops rest :: k)) cs w') := by
    rw [step_leave_returned hleave, Frame.finish_at, ho]
    rfl
  have hsteps : Steps P (lone (b.at a (.inRegion ops (i :: rest) :: k)) cs (w.re τ 0)) (lone (b.at (a.put o.dst v) (.inRegion ops rest :: k)) cs w') :=
    (Steps.one hstep).trans (Steps.trans hcomes (Steps.one hback))
  obtain ⟨n, hn⟩ := hsteps
  exact ⟨n, _, w', hn, rfl, rfl, fun τ d => hcont τ d⟩
theorem mu_call (hP : Plain P) {Q : Unit → Exit → Act → World → Prop} {f : FuncId} {args : Array Operand} {ats : Array TypeId} {R : Value → World → Prop}
    (ho : ops[i]? = some o) (hw : Region.wanted o (yielded ops a.tmps) = true) (hop : o.op = .call { callee := .value (.func f), args, argTypes := ats }) {fn' : Func} {c : Code} (hf : P.funcs[f]? = some fn') (hb : fn'.body = some c)
    (hcall : ∀ τ, Calls P f (args.map a.eval) (w.re τ 0) fun e w' => ∃ v, e = .returned v ∧ R v w') (hnext : ∀ v w', R v w' → ∀ τ d, KO (KMu P Final) fn () ops rest Q (a.put o.dst v) (w'.re τ d)) : KO (KMu P Final) fn () ops (i :: rest) Q a w :=
  fun b k cs hbf hk hc => mu_call_raw hP hk ho hw hop hf hb hcall fun v w' hR τ d => hnext v w' hR τ d b k cs hbf hk hc
theorem kall_call (hP : Plain P) {Q : Gm → Exit → Act → World → Prop} {f : FuncId} {args : Array Operand} {ats : Array TypeId} {R : World → Value → World → Prop}
    (ho : ops[i]? = some o) (hw : Region.wanted o (yielded ops a.tmps) = true) (hop : o.op = .call { callee := .value (.func f), args, argTypes := ats }) {fn' : Func} {c : Code} (hf : P.funcs[f]? = some fn') (hb : fn'.body = some c)
    (hcall : ∀ w1, RlS γ w w1 → ∀ τ, Calls P f (args.map a.eval) (w1.re τ 0) fun e w' => ∃ v, e = .returned v ∧ R w1 v w')
    (hnext : ∀ w1, RlS γ w w1 → ∀ v w', R w1 v w' → ∀ τ d, ∃ γ', KO (KAll P Final) fn (.bad, γ') ops rest Q (a.put o.dst v) (w'.re τ d)) : KO (KAll P Final) fn (.bad, γ) ops (i :: rest) Q a w := by
  intro b k cs hbf hk hc _ w1 r
  refine mu_call_raw hP hk ho hw hop hf hb (hcall w1 r) fun v w' hR τ d => ?_
  obtain ⟨γ', h⟩ := hnext w1 r v w' hR τ d
  exact h b k cs hbf hk hc rfl _ (rlS_refl _ _)
theorem kcall_down {f : FuncId} {args : Array Value} {Post : Gm → Value → World → Prop} {Post' : Value → World → Prop} (hq : ∀ γ' v w w1, Post γ' v w → γ'.1 = .bad → RlS γ'.2 w w1 → Post' v w1)
    (h : KCall (KAll P Final) P (.bad, γ) f args w (fun γ' v w => γ'.1 = .bad ∧ Post γ' v w)) : KCall (KMu P Final) P () f args w (fun _ => Post') := by
  obtain ⟨fn', c, h1, h2, h3, h4⟩ := h
  refine ⟨fn', c, h1, h2, h3, ?_⟩
  refine kj_kall (Q := fun γ' => bodyK P fn' Post γ') (fun γ' e a w w1 q r hb => ?_) (kj_mono h4 fun γ' e a w q => ?_)
  · cases e with
    | normal =>
      obtain ⟨hd, v, hr, hp⟩ := q
      exact ⟨hd, v, hr, hq _ _ _ _ hp hb r⟩
    | ret =>
      obtain ⟨hd, v, hr, hp⟩ := q
      exact ⟨hd, v, hr, hq _ _ _ _ hp hb r⟩
    | exit id => exact q
    | goto l => exact q
    | panic ch => exact q
    | outgrown => exact q
  · cases e with
    | normal =>
      obtain ⟨hd, v, hr, hb, hp⟩ := q
      exact ⟨hb, hd, v, hr, hp⟩
    | ret =>
      obtain ⟨hd, v, hr, hb, hp⟩ := q
      exact ⟨hb, hd, v, hr, hp⟩
    | exit id => exact q.elim
    | goto l => exact q.elim
    | panic ch => exact q.elim
    | outgrown => exact q.elim
end Go.Co
end
