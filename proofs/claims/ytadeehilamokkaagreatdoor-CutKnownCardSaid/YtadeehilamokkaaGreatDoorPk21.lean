/- The law CutKnown: part 21: Co6a Co6c. By an AI agent. -/
import Derived.Test.YtadeehilamokkaaGreatDoorPk15
import Derived.Test.YtadeehilamokkaaGreatDoorChecked
section
namespace Go.Co
open Go Go.Conc
open Go.ConcN (sumTo sumTo_upd sumTo_congr le_sumTo upd upd_same upd_ne)
open Classical
variable {cf cl : Nat} {tv z z2 : Value} {ok2 : Bool}
def wk (cf cl : Nat) (tv : Value) : List Value → Pc
  | [] => .send cl tv .stop
  | v :: vs => .send cf v (wk cf cl tv vs)
def clo (cf cl : Nat) (z2 : Value) (ok2 : Bool) : Nat → Pc
  | 0 => .close cf .stop
  | k + 1 => .recv cl ok2 z2 fun x => match x with | some _ => clo cf cl z2 ok2 k | none => .bad
noncomputable def colN (cf : Nat) (z : Value) : Nat → List Value → Pc
  | 0, _ => .recv cf true z fun x => match x with | some _ => .bad | none => .ret
  | n + 1, rem => .recv cf true z fun x => match x with | some v => if v ∈ rem then colN cf z n (rem.erase v) else .bad | none => .bad
noncomputable def col (cf : Nat) (z : Value) (rem : List Value) : Pc := colN cf z rem.length rem
def chain (cf cl : Nat) (tv z2 : Value) (ok2 : Bool) (K : Nat) (p : Pc) : List (List Value) → Pc
  | [] => .go (clo cf cl z2 ok2 K) p
  | vs :: todo => .go (wk cf cl tv vs) (chain cf cl tv z2 ok2 K p todo)
inductive Ro where
  | gone
  | work (vs : List Value)
def Ro.pc (cf cl : Nat) (tv : Value) : Ro → Pc
  | gone => .stop
  | work vs => wk cf cl tv vs
def Ro.vals : Ro → List Value
  | gone => []
  | work vs => vs
def Ro.one : Ro → Nat
  | gone => 0
  | work _ => 1
theorem meet_at (N : Net) (i j : Nat) (k k' : Pc) : (N.meet i j k k').pr j = k' := upd_same _ _ _
theorem start_at (N : Net) (i : Nat) (ch k : Pc) : (N.start i ch k).pr N.n = ch := upd_same _ _ _
theorem vals_gone : Ro.gone.vals = [] := rfl
theorem vals_work (vs : List Value) : (Ro.work vs).vals = vs := rfl
theorem one_gone : Ro.gone.one = 0 := rfl
theorem one_work (vs : List Value) : (Ro.work vs).one = 1 := rfl
theorem wk_shape (vs : List Value) : ∃ c v k, wk cf cl tv vs = .send c v k ∧ (c = cf ∨ c = cl) := by
  cases vs with
  | nil => exact ⟨_, _, _, rfl, .inr rfl⟩
  | cons v vs => exact ⟨_, _, _, rfl, .inl rfl⟩
theorem clo_shape (k : Nat) : (∃ p, clo cf cl z2 ok2 k = .recv cl ok2 z2 p) ∨ clo cf cl z2 ok2 k = .close cf .stop := by
  cases k with
  | zero => exact .inr rfl
  | succ k => exact .inl ⟨_, rfl⟩
theorem col_shape (rem : List Value) : ∃ p, col cf z rem = .recv cf true z p := by
  unfold col
  cases rem.length with
  | zero => exact ⟨_, rfl⟩
  | succ k => exact ⟨_, rfl⟩
theorem chain_shape (K : Nat) (p : Pc) (todo : List (List Value)) : ∃ a b, chain cf cl tv z2 ok2 K p todo = .go a b := by
  cases todo with
  | nil => exact ⟨_, _, rfl⟩
  | cons vs todo => exact ⟨_, _, rfl⟩
theorem pc_shape (r : Ro) : (r = .gone ∧ r.pc cf cl tv = .stop) ∨ ∃ vs, r = .work vs ∧ r.pc cf cl tv = wk cf cl tv vs := by
  cases r with
  | gone => exact .inl ⟨rfl, rfl⟩
  | work vs => exact .inr ⟨vs, rfl, rfl⟩
theorem win_c {N : Net} {E : Nat → Prop} (hn : 0 < N.n) (h0 : N.pr 0 = col cf z []) (hst : ∀ j, 0 < j → j < N.n → N.pr j = .stop) (hc : N.cl cf = some E) (hE : ∀ j, 0 < j → j < N.n → E j) : Win (fun c => c = cf ∨ c = cl) N := by
  have h0' : N.pr 0 = .recv cf true z fun x => match x with | some _ => .bad | none => .ret := h0
  have hcase : ∀ j, j < N.n → j = 0 ∨ N.pr j = .stop := fun j hj => (Nat.eq_zero_or_pos j).imp id fun h => hst j h hj
  refine .step N (fun j hj => ?_) (by rw [h0']; simp) (fun i c v k hi hp => ?_) (fun j c ok z k hj hp => ?_) (.inr (.inr (.inl ⟨0, _, _, _, _, E, hn, h0', hc⟩)))
    (fun i j c v k ok z k' hi hj hp _ => ?_) (fun i c k hi hp => ?_) (fun i c k hi hp => ?_) (fun j c ok z k E' hj hp hE' => ?_) (fun i ch k hi hp => ?_)
  · rcases hcase j hj with rfl | h
    · rw [h0']; simp
    · rw [h]; simp
  · rcases hcase i hi with rfl | h
    · rw [h0'] at hp; cases hp
    · rw [h] at hp; cases hp
  · rcases hcase j hj with rfl | h
    · rw [h0'] at hp; cases hp; exact .inl rfl
    · rw [h] at hp; cases hp
  · rcases hcase i hi with rfl | h
    · rw [h0'] at hp; cases hp
    · rw [h] at hp; cases hp
  · rcases hcase i hi with rfl | h
    · rw [h0'] at hp; cases hp
    · rw [h] at hp; cases hp
  · rcases hcase i hi with rfl | h
    · rw [h0'] at hp; cases hp
    · rw [h] at hp; cases hp
  · rcases hcase j hj with rfl | h
    · rw [h0'] at hp
      cases hp
      rw [hc] at hE'
      cases hE'
      refine .done _ (show upd N.pr 0 _ 0 = _ from upd_same _ _ _) fun j hj hjn => ⟨?_, .inr (hE j hj hjn)⟩
      show upd N.pr 0 _ j = .stop
      rw [upd_ne _ _ (by omega)]
      exact hst j hj hjn
    · rw [h] at hp; cases hp
  · rcases hcase i hi with rfl | h
    · rw [h0'] at hp; cases hp
    · rw [h] at hp; cases hp
structure InvB (cf cl : Nat) (tv z z2 : Value) (ok2 : Bool) (N : Net) (s : Nat → Ro) (jc k : Nat) (rem : List Value) : Prop where
  jc0 : 0 < jc
  jcn : jc < N.n
  main : N.pr 0 = col cf z rem
  clos : N.pr jc = clo cf cl z2 ok2 k
  gone : s jc = .gone
  other : ∀ j, 0 < j → j < N.n → j ≠ jc → N.pr j = (s j).pc cf cl tv
  zero : s 0 = .gone
  cnt : ∀ v, rem.count v = sumTo N.n fun j => (s j).vals.count v
  live : k = sumTo N.n fun j => (s j).one
  opn : ∀ c, N.cl c = none
  know : ∀ j, 0 < j → j < N.n → s j = .gone → j ≠ jc → N.D jc j
theorem sumTo_zero {f : Nat → Nat} {n : Nat} (h : ∀ i, i < n → f i = 0) : sumTo n f = 0 := by
  induction n with
  | zero => rfl
  | succ n ih => simp [sumTo, ih fun i hi => h i (by omega), h n (by omega)]
theorem sumTo_pos {f : Nat → Nat} {n : Nat} (h : sumTo n f ≠ 0) : ∃ i, i < n ∧ f i ≠ 0 := by
  by_cases hx : ∃ i, i < n ∧ f i ≠ 0
  · exact hx
  · exact absurd (sumTo_zero fun i hi => by
      by_cases h0 : f i = 0
      · exact h0
      · exact absurd ⟨i, hi, h0⟩ hx) h
theorem win_b (hne : cf ≠ cl) : ∀ (M : Nat) (N : Net) (s : Nat → Ro) (jc k : Nat) (rem : List Value), rem.length + k < M → InvB cf cl tv z z2 ok2 N s jc k rem → Win (fun c => c = cf ∨ c = cl) N := by
  intro M
  induction M with
  | zero => exact fun _ _ _ _ _ h => absurd h (Nat.not_lt_zero _)
  | succ M ih =>
    intro N s jc k rem hM I
    have hn : 0 < N.n := Nat.lt_of_lt_of_le I.jc0 (Nat.le_of_lt I.jcn)
    obtain ⟨pc, hpc⟩ := col_shape (cf := cf) (z := z) rem
    have hcase : ∀ j, j < N.n → j = 0 ∨ j = jc ∨ (0 < j ∧ j ≠ jc ∧ ((s j = .gone ∧ N.pr j = .stop) ∨ ∃ vs, s j = .work vs ∧ N.pr j = wk cf cl tv vs)) := by
      intro j hj
      rcases Nat.eq_zero_or_pos j with rfl | hp
      · exact .inl rfl
      by_cases hjc : j = jc
      · exact .inr (.inl hjc)
      refine .inr (.inr ⟨hp, hjc, ?_⟩)
      have := I.other j hp hj hjc
      rcases pc_shape (cf := cf) (cl := cl) (tv := tv) (s j) with ⟨h1, h2⟩ | ⟨vs, h1, h2⟩
      · exact .inl ⟨h1, this.trans h2⟩
      · exact .inr ⟨vs, h1, this.trans h2⟩
    have hsnd : ∀ i c v p, i < N.n → N.pr i = .send c v p → 0 < i ∧ i ≠ jc ∧ ((∃ vs, s i = .work (v :: vs) ∧ c = cf ∧ p = wk cf cl tv vs) ∨ (s i = .work [] ∧ c = cl ∧ p = .stop)) := by
      intro i c v p hi hp
      rcases hcase i hi with rfl | rfl | ⟨h1, h2, ⟨h3, h4⟩ | ⟨vs, h3, h4⟩⟩
      · rw [I.main, hpc] at hp; cases hp
      · rw [I.clos] at hp
        rcases clo_shape (cf := cf) (cl := cl) (z2 := z2) (ok2 := ok2) k with ⟨p', h⟩ | h <;> rw [h] at hp <;> cases hp
      · rw [h4] at hp; cases hp
      · refine ⟨h1, h2, ?_⟩
        rw [h4] at hp
        cases vs with
        | nil => cases hp; exact .inr ⟨h3, rfl, rfl⟩
        | cons v' vs => cases hp; exact .inl ⟨vs, h3, rfl, rfl⟩
    have hrcv : ∀ j c ok z' p, j < N.n → N.pr j = .recv c ok z' p → (j = 0 ∧ c = cf) ∨ (j = jc ∧ c = cl) := by
      intro j c ok z' p hj hp
      rcases hcase j hj with rfl | rfl | ⟨h1, h2, ⟨h3, h4⟩ | ⟨vs, h3, h4⟩⟩
      · rw [I.main, hpc] at hp; cases hp; exact .inl ⟨rfl, rfl⟩
      · rw [I.clos] at hp
        rcases clo_shape (cf := cf) (cl := cl) (z2 := z2) (ok2 := ok2) k with ⟨p', h⟩ | h <;> rw [h] at hp <;> cases hp
        exact .inr ⟨rfl, rfl⟩
      · rw [h4] at hp; cases hp
      · rw [h4] at hp
        obtain ⟨_, _, _, h, _⟩ := wk_shape (cf := cf) (cl := cl) (tv := tv) vs
        rw [h] at hp; cases hp
    have hcls : ∀ j c p, j < N.n → N.pr j = .close c p → j = jc ∧ c = cf ∧ p = .stop ∧ k = 0 := by
      intro j c p hj hp
      rcases hcase j hj with rfl | rfl | ⟨h1, h2, ⟨h3, h4⟩ | ⟨vs, h3, h4⟩⟩
      · rw [I.main, hpc] at hp; cases hp
      · rw [I.clos] at hp
        cases k with
        | zero => cases hp; exact ⟨rfl, rfl, rfl, rfl⟩
        | succ k => cases hp
      · rw [h4] at hp; cases hp
      · rw [h4] at hp
        obtain ⟨_, _, _, h, _⟩ := wk_shape (cf := cf) (cl := cl) (tv := tv) vs
        rw [h] at hp; cases hp
    have hgo : ∀ j a p, j < N.n → N.pr j ≠ .go a p := by
      intro j a p hj hp
      rcases hcase j hj with rfl | rfl | ⟨h1, h2, ⟨h3, h4⟩ | ⟨vs, h3, h4⟩⟩
      · rw [I.main, hpc] at hp; cases hp
      · rw [I.clos] at hp
        rcases clo_shape (cf := cf) (cl := cl) (z2 := z2) (ok2 := ok2) k with ⟨p', h⟩ | h <;> rw [h] at hp <;> cases hp
      · rw [h4] at hp; cases hp
      · rw [h4] at hp
        obtain ⟨_, _, _, h, _⟩ := wk_shape (cf := cf) (cl := cl) (tv := tv) vs
        rw [h] at hp; cases hp
    have hjc0 := I.jc0
    refine .step N (fun j hj => ?_) (by rw [I.main, hpc]; simp) (fun i c v p hi hp => ⟨I.opn c, ?_⟩) (fun j c ok z' p hj hp => ?_) ?_
      (fun i j c v p ok z' p' hi hj hp hq => ?_) (fun i c p hi hp => ⟨I.opn c, .inl (hcls i c p hi hp).2.1⟩) (fun i c p hi hp => ?_) (fun j c ok z' p E' hj hp hE' => ?_) (fun i ch p hi hp => absurd hp (hgo i ch p hi))
    · rcases hcase j hj with rfl | rfl | ⟨h1, h2, ⟨h3, h4⟩ | ⟨vs, h3, h4⟩⟩
      · rw [I.main, hpc]; simp
      · rw [I.clos]
        rcases clo_shape (cf := cf) (cl := cl) (z2 := z2) (ok2 := ok2) k with ⟨p', h⟩ | h <;> rw [h] <;> simp
      · rw [h4]; simp
      · rw [h4]
        obtain ⟨_, _, _, h, _⟩ := wk_shape (cf := cf) (cl := cl) (tv := tv) vs
        rw [h]; simp
    · rcases (hsnd i c v p hi hp).2.2 with ⟨_, _, h, _⟩ | ⟨_, h, _⟩
      · exact .inl h
      · exact .inr h
    · rcases hrcv j c ok z' p hj hp with ⟨_, h⟩ | ⟨_, h⟩
      · exact .inl h
      · exact .inr h
    ·
      by_cases hk : k = 0
      · exact .inr (.inl ⟨jc, cf, .stop, I.jcn, by rw [I.clos, hk]; rfl⟩)
      · obtain ⟨i, hi, hone⟩ := sumTo_pos (f := fun j => (s j).one) (n := N.n) (by rw [← I.live]; exact hk)
        obtain ⟨k', rfl⟩ := Nat.exists_eq_succ_of_ne_zero hk
        rcases hcase i hi with rfl | rfl | ⟨h1, h2, ⟨h3, h4⟩ | ⟨vs, h3, h4⟩⟩
        · simp [I.zero, Ro.one] at hone
        · simp [I.gone, Ro.one] at hone
        · simp [h3, Ro.one] at hone
        · cases vs with
          | nil => exact .inl ⟨i, jc, cl, _, _, _, _, _, hi, I.jcn, h4, I.clos⟩
          | cons v vs => exact .inl ⟨i, 0, cf, _, _, _, _, _, hi, hn, h4, by rw [I.main]; exact hpc⟩
    ·
      obtain ⟨hi0, hijc, hs⟩ := hsnd i c v p hi hp
      rcases hs with ⟨vs, hs, rfl, rfl⟩ | ⟨hs, rfl, rfl⟩
      ·
        obtain rfl : j = 0 := by
          rcases hrcv j _ ok z' p' hj hq with ⟨h, _⟩ | ⟨_, h⟩
          · exact h
          · exact absurd h hne
        have hv : v ∈ rem := by
          have h1 := I.cnt v
          have h2 := le_sumTo (f := fun j => (s j).vals.count v) hi
          simp only [hs, vals_work, List.count_cons_self] at h2
          exact List.count_pos_iff.1 (by omega)
        have hlen : rem.length = (rem.erase v).length + 1 := by
          rw [List.length_erase_of_mem hv]
          have := List.length_pos_of_mem hv
          omega
        have hp' : p' (some v) = col c z (rem.erase v) := by
          have hm := I.main
          rw [hq] at hm
          unfold col at hm
          rw [hlen] at hm
          cases hm
          show (if v ∈ rem then colN c z (rem.erase v).length (rem.erase v) else .bad) = _
          rw [if_pos hv]
          rfl
        rw [hp']
        refine ih _ (upd s i (.work vs)) jc k (rem.erase v) (by omega) ⟨I.jc0, I.jcn, meet_at _ _ _ _ _, ?_, ?_, fun j hj hjn hjj => ?_, ?_, fun v' => ?_, ?_, I.opn, fun j hj hjn hg hjj => ?_⟩
        · show upd (upd N.pr i _) 0 _ jc = _
          rw [upd_ne _ _ (by omega), upd_ne _ _ (Ne.symm hijc)]
          exact I.clos
        · rw [upd_ne _ _ (Ne.symm hijc)]; exact I.gone
        · show upd (upd N.pr i _) 0 _ j = _
          rw [upd_ne _ _ (by omega)]
          by_cases hji : j = i
          · subst hji
            rw [upd_same, upd_same]; rfl
          · rw [upd_ne _ _ hji, upd_ne _ _ hji]
            exact I.other j hj hjn hjj
        · rw [upd_ne _ _ (by omega)]; exact I.zero
        · have h1 := I.cnt v'
          have h2 := sumTo_upd s (.work vs) (fun r => r.vals.count v') hi
          show (rem.erase v).count v' = sumTo N.n _
          simp only [hs, vals_work, List.count_cons] at h2
          rw [List.count_erase]
          split at h2 <;> rename_i h3
          · rw [if_pos h3]; omega
          · rw [if_neg h3]; omega
        · have h2 := sumTo_upd s (.work vs) Ro.one hi
          have h1 := I.live
          simp only [hs, one_work] at h2
          show k = sumTo N.n _
          omega
        · by_cases hji : j = i
          · subst hji; rw [upd_same] at hg; cases hg
          · rw [upd_ne _ _ hji] at hg
            show if jc = i ∨ jc = 0 then _ else N.D jc j
            rw [if_neg (by omega)]
            exact I.know j hj hjn hg hjj
      ·
        obtain rfl : j = jc := by
          rcases hrcv j _ ok z' p' hj hq with ⟨_, h⟩ | ⟨h, _⟩
          · exact absurd h.symm hne
          · exact h
        obtain ⟨k', rfl⟩ : ∃ k', k = k' + 1 := by
          cases k with
          | zero => rw [I.clos] at hq; cases hq
          | succ k => exact ⟨k, rfl⟩
        have hp' : p' (some v) = clo cf c z2 ok2 k' := by
          have := I.clos
          rw [hq] at this
          cases this
          rfl
        rw [hp']
        refine ih _ (upd s i .gone) j k' rem (by omega) ⟨I.jc0, I.jcn, ?_, meet_at _ _ _ _ _, ?_, fun x hx hxn hxj => ?_, ?_, fun v' => ?_, ?_, I.opn, fun x hx hxn hg hxj => ?_⟩
        · show upd (upd N.pr i _) j _ 0 = _
          rw [upd_ne _ _ (by omega), upd_ne _ _ (by omega)]
          exact I.main
        · rw [upd_ne _ _ (Ne.symm hijc)]; exact I.gone
        · show upd (upd N.pr i _) j _ x = _
          rw [upd_ne _ _ hxj]
          by_cases hxi : x = i
          · subst hxi
            rw [upd_same, upd_same]; rfl
          · rw [upd_ne _ _ hxi, upd_ne _ _ hxi]
            exact I.other x hx hxn hxj
        · rw [upd_ne _ _ (by omega)]; exact I.zero
        · have h1 := I.cnt v'
          have h2 := sumTo_upd s .gone (fun r => r.vals.count v') hi
          show rem.count v' = sumTo N.n _
          simp only [hs, vals_work, vals_gone, List.count_nil] at h2
          omega
        · have h2 := sumTo_upd s .gone Ro.one hi
          have h1 := I.live
          simp only [hs, one_work, one_gone] at h2
          show k' = sumTo N.n _
          omega
        · show if j = i ∨ j = j then _ else _
          rw [if_pos (.inr rfl)]
          by_cases hxi : x = i
          · exact .inr (.inr (.inl ⟨hxi, rfl⟩))
          · rw [upd_ne _ _ hxi] at hg
            exact .inr (.inl (I.know x hx hxn hg hxj))
    ·
      obtain ⟨rfl, rfl, rfl, rfl⟩ := hcls i c p hi hp
      have hall : ∀ j, j < N.n → s j = .gone := by
        intro j hj
        have h1 := le_sumTo (f := fun j => (s j).one) hj
        rw [← I.live] at h1
        cases h : s j with
        | gone => rfl
        | work vs => simp [h, Ro.one] at h1
      have hrem : rem = [] := by
        cases hr : rem with
        | nil => rfl
        | cons v vs =>
          have h1 := I.cnt v
          rw [sumTo_zero fun j hj => by simp [hall j hj, Ro.vals], hr] at h1
          simp at h1
      subst hrem
      refine win_c (z := z) (E := fun y => N.D i y ∨ (y = i ∧ Pc.stop = Pc.stop)) hn ?_ (fun j hj hjn => ?_) (upd_same _ _ _) (fun j hj hjn => ?_)
      · show upd N.pr i _ 0 = _
        rw [upd_ne _ _ (by omega)]
        exact I.main
      · show upd N.pr i _ j = _
        by_cases hji : j = i
        · subst hji; rw [upd_same]
        · rw [upd_ne _ _ hji, I.other j hj hjn hji, hall j hjn]; rfl
      · by_cases hji : j = i
        · exact .inr ⟨hji, rfl⟩
        · exact .inl (I.know j hj hjn (hall j hjn) hji)
    · rw [I.opn c] at hE'; cases hE'
structure InvA (cf cl : Nat) (tv z z2 : Value) (ok2 : Bool) (K : Nat) (R : List Value) (N : Net) (s : Nat → Ro) (todo : List (List Value)) : Prop where
  n0 : 0 < N.n
  main : N.pr 0 = chain cf cl tv z2 ok2 K (col cf z R) todo
  other : ∀ j, 0 < j → j < N.n → N.pr j = (s j).pc cf cl tv
  zero : s 0 = .gone
  cnt : ∀ v, R.count v = todo.flatten.count v + sumTo N.n fun j => (s j).vals.count v
  live : K = todo.length + sumTo N.n fun j => (s j).one
  opn : ∀ c, N.cl c = none
  know : ∀ j, 0 < j → j < N.n → s j = .gone → N.D 0 j
theorem sumTo_grow {s : Nat → Ro} {r : Ro} {n : Nat} (φ : Ro → Nat) : sumTo (n + 1) (fun j => φ (upd s n r j)) = sumTo n (fun j => φ (s j)) + φ r := by
  simp only [sumTo, upd_same]
  rw [sumTo_congr (g := fun j => φ (s j)) fun j hj => by rw [upd_ne _ _ (by omega)]]
theorem win_a (hne : cf ≠ cl) {K : Nat} {R : List Value} : ∀ (todo : List (List Value)) (N : Net) (s : Nat → Ro), InvA cf cl tv z z2 ok2 K R N s todo → Win (fun c => c = cf ∨ c = cl) N := by
  intro todo
  induction todo with
  | nil =>
    intro N s I
    have hmain : N.pr 0 = .go (clo cf cl z2 ok2 K) (col cf z R) := I.main
    have hcase : ∀ j, j < N.n → j = 0 ∨ (0 < j ∧ ((s j = .gone ∧ N.pr j = .stop) ∨ ∃ vs c v k, s j = .work vs ∧ N.pr j = .send c v k ∧ (c = cf ∨ c = cl))) := by
      intro j hj
      refine (Nat.eq_zero_or_pos j).imp id fun hp => ⟨hp, ?_⟩
      have := I.other j hp hj
      rcases pc_shape (cf := cf) (cl := cl) (tv := tv) (s j) with ⟨h1, h2⟩ | ⟨vs, h1, h2⟩
      · exact .inl ⟨h1, this.trans h2⟩
      · obtain ⟨c, v, k, h3, h4⟩ := wk_shape (cf := cf) (cl := cl) (tv := tv) vs
        exact .inr ⟨vs, c, v, k, h1, (this.trans h2).trans h3, h4⟩
    refine .step N (fun j hj => ?_) (by rw [hmain]; simp) (fun i c v p hi hp => ⟨I.opn c, ?_⟩) (fun j c ok z' p hj hp => ?_) (.inr (.inr (.inr ⟨0, _, _, I.n0, hmain⟩)))
      (fun i j c v p ok z' p' hi hj hp hq => ?_) (fun i c p hi hp => ?_) (fun i c p hi hp => ?_) (fun j c ok z' p E' hj hp hE' => ?_) (fun i ch p hi hp => ?_)
    · rcases hcase j hj with rfl | ⟨_, ⟨_, h⟩ | ⟨_, _, _, _, _, h, _⟩⟩
      · rw [hmain]; simp
      · rw [h]; simp
      · rw [h]; simp
    · rcases hcase i hi with rfl | ⟨_, ⟨_, h⟩ | ⟨_, _, _, _, _, h, h'⟩⟩
      · rw [hmain] at hp; cases hp
      · rw [h] at hp; cases hp
      · rw [h] at hp; cases hp; exact h'
    · rcases hcase j hj with rfl | ⟨_, ⟨_, h⟩ | ⟨_, _, _, _, _, h, _⟩⟩
      · rw [hmain] at hp; cases hp
      · rw [h] at hp; cases hp
      · rw [h] at hp; cases hp
    · rcases hcase j hj with rfl | ⟨_, ⟨_, h⟩ | ⟨_, _, _, _, _, h, _⟩⟩
      · rw [hmain] at hq; cases hq
      · rw [h] at hq; cases hq
      · rw [h] at hq; cases hq
    · rcases hcase i hi with rfl | ⟨_, ⟨_, h⟩ | ⟨_, _, _, _, _, h, _⟩⟩
      · rw [hmain] at hp; cases hp
      · rw [h] at hp; cases hp
      · rw [h] at hp; cases hp
    · rcases hcase i hi with rfl | ⟨_, ⟨_, h⟩ | ⟨_, _, _, _, _, h, _⟩⟩
      · rw [hmain] at hp; cases hp
      · rw [h] at hp; cases hp
      · rw [h] at hp; cases hp
    · rw [I.opn c] at hE'; cases hE'
    · rcases hcase i hi with rfl | ⟨_, ⟨_, h⟩ | ⟨_, _, _, _, _, h, _⟩⟩
      · rw [hmain] at hp
        cases hp
        have hn := I.n0
        refine win_b (tv := tv) (z := z) (z2 := z2) (ok2 := ok2) hne (R.length + K + 1) _ (upd s N.n .gone) N.n K R (Nat.lt_succ_self _) ⟨hn, Nat.lt_succ_self _, ?_, start_at _ _ _ _, upd_same _ _ _, fun j hj hjn hjj => ?_, ?_, fun v => ?_, ?_, I.opn, fun j hj hjn hg hjj => ?_⟩
        · show upd (upd N.pr 0 _) N.n _ 0 = _
          rw [upd_ne _ _ (by omega), upd_same]
        · show upd (upd N.pr 0 _) N.n _ j = _
          have hjn' : j < N.n := by
            have : j < N.n + 1 := hjn
            omega
          rw [upd_ne _ _ hjj, upd_ne _ _ (by omega), upd_ne _ _ hjj]
          exact I.other j hj hjn'
        · rw [upd_ne _ _ (by omega)]; exact I.zero
        · show R.count v = sumTo (N.n + 1) _
          rw [sumTo_grow (s := s) (r := .gone) fun r => r.vals.count v]
          have := I.cnt v
          simpa [Ro.vals] using this
        · show K = sumTo (N.n + 1) _
          rw [sumTo_grow (s := s) (r := .gone) Ro.one]
          have := I.live
          simpa [Ro.one] using this
        · show if N.n = N.n then N.D 0 j else _
          rw [if_pos rfl]
          have hjn' : j < N.n := by
            have : j < N.n + 1 := hjn
            omega
          rw [upd_ne _ _ hjj] at hg
          exact I.know j hj hjn' hg
      · rw [h] at hp; cases hp
      · rw [h] at hp; cases hp
  | cons vs todo ih =>
    intro N s I
    have hmain : N.pr 0 = .go (wk cf cl tv vs) (chain cf cl tv z2 ok2 K (col cf z R) todo) := I.main
    have hcase : ∀ j, j < N.n → j = 0 ∨ (0 < j ∧ ((s j = .gone ∧ N.pr j = .stop) ∨ ∃ vs c v k, s j = .work vs ∧ N.pr j = .send c v k ∧ (c = cf ∨ c = cl))) := by
      intro j hj
      refine (Nat.eq_zero_or_pos j).imp id fun hp => ⟨hp, ?_⟩
      have := I.other j hp hj
      rcases pc_shape (cf := cf) (cl := cl) (tv := tv) (s j) with ⟨h1, h2⟩ | ⟨vs, h1, h2⟩
      · exact .inl ⟨h1, this.trans h2⟩
      · obtain ⟨c, v, k, h3, h4⟩ := wk_shape (cf := cf) (cl := cl) (tv := tv) vs
        exact .inr ⟨vs, c, v, k, h1, (this.trans h2).trans h3, h4⟩
    refine .step N (fun j hj => ?_) (by rw [hmain]; simp) (fun i c v p hi hp => ⟨I.opn c, ?_⟩) (fun j c ok z' p hj hp => ?_) (.inr (.inr (.inr ⟨0, _, _, I.n0, hmain⟩)))
      (fun i j c v p ok z' p' hi hj hp hq => ?_) (fun i c p hi hp => ?_) (fun i c p hi hp => ?_) (fun j c ok z' p E' hj hp hE' => ?_) (fun i ch p hi hp => ?_)
    · rcases hcase j hj with rfl | ⟨_, ⟨_, h⟩ | ⟨_, _, _, _, _, h, _⟩⟩
      · rw [hmain]; simp
      · rw [h]; simp
      · rw [h]; simp
    · rcases hcase i hi with rfl | ⟨_, ⟨_, h⟩ | ⟨_, _, _, _, _, h, h'⟩⟩
      · rw [hmain] at hp; cases hp
      · rw [h] at hp; cases hp
      · rw [h] at hp; cases hp; exact h'
    · rcases hcase j hj with rfl | ⟨_, ⟨_, h⟩ | ⟨_, _, _, _, _, h, _⟩⟩
      · rw [hmain] at hp; cases hp
      · rw [h] at hp; cases hp
      · rw [h] at hp; cases hp
    · rcases hcase j hj with rfl | ⟨_, ⟨_, h⟩ | ⟨_, _, _, _, _, h, _⟩⟩
      · rw [hmain] at hq; cases hq
      · rw [h] at hq; cases hq
      · rw [h] at hq; cases hq
    · rcases hcase i hi with rfl | ⟨_, ⟨_, h⟩ | ⟨_, _, _, _, _, h, _⟩⟩
      · rw [hmain] at hp; cases hp
      · rw [h] at hp; cases hp
      · rw [h] at hp; cases hp
    · rcases hcase i hi with rfl | ⟨_, ⟨_, h⟩ | ⟨_, _, _, _, _, h, _⟩⟩
      · rw [hmain] at hp; cases hp
      · rw [h] at hp; cases hp
      · rw [h] at hp; cases hp
    · rw [I.opn c] at hE'; cases hE'
    · rcases hcase i hi with rfl | ⟨_, ⟨_, h⟩ | ⟨_, _, _, _, _, h, _⟩⟩
      · rw [hmain] at hp
        cases hp
        have hn := I.n0
        refine ih _ (upd s N.n (.work vs)) ⟨Nat.succ_pos _, ?_, fun j hj hjn => ?_, ?_, fun v => ?_, ?_, I.opn, fun j hj hjn hg => ?_⟩
        · show upd (upd N.pr 0 _) N.n _ 0 = _
          rw [upd_ne _ _ (by omega), upd_same]
        · show upd (upd N.pr 0 _) N.n _ j = _
          by_cases hjj : j = N.n
          · rw [hjj, upd_same, upd_same]; rfl
          · have hjn' : j < N.n := by
              have : j < N.n + 1 := hjn
              omega
            rw [upd_ne _ _ hjj, upd_ne _ _ (by omega), upd_ne _ _ hjj]
            exact I.other j hj hjn'
        · rw [upd_ne _ _ (by omega)]; exact I.zero
        · show R.count v = _ + sumTo (N.n + 1) _
          rw [sumTo_grow (s := s) (r := .work vs) fun r => r.vals.count v]
          have := I.cnt v
          simp only [List.flatten_cons, List.count_append] at this
          show _ = _ + (_ + vs.count v)
          omega
        · show K = _ + sumTo (N.n + 1) _
          rw [sumTo_grow (s := s) (r := .work vs) Ro.one]
          have := I.live
          simp only [List.length_cons] at this
          show _ = _ + (_ + 1)
          omega
        · by_cases hjj : j = N.n
          · subst hjj; rw [upd_same] at hg; cases hg
          · have hjn' : j < N.n := by
              have : j < N.n + 1 := hjn
              omega
            rw [upd_ne _ _ hjj] at hg
            show if 0 = N.n then _ else N.D 0 j
            rw [if_neg (by omega)]
            exact I.know j hj hjn' hg
      · rw [h] at hp; cases hp
      · rw [h] at hp; cases hp
theorem win_collect (hne : cf ≠ cl) (todo : List (List Value)) {n : Nat} (hn : 0 < n) : Win (fun c => c = cf ∨ c = cl) (entry n (chain cf cl tv z2 ok2 todo.length (col cf z todo.flatten) todo)) := by
  refine win_a (tv := tv) (z := z) (z2 := z2) (ok2 := ok2) hne todo _ (fun _ => .gone) ⟨hn, rfl, fun j hj hjn => ?_, rfl, fun v => ?_, ?_, fun _ => rfl, fun j hj hjn _ => ⟨hj, hjn⟩⟩
  · have : j ≠ 0 := by omega
    simp [entry, this, Ro.pc]
  · rw [sumTo_zero fun j hj => by simp [Ro.vals]]; simp
  · rw [sumTo_zero fun j hj => by simp [Ro.one]]; simp
end Go.Co
end
section
namespace Go.Co
open Go Go.Conc Go.Proofs
variable {Final : Machine → Trace → Prop} {main : Bool} {K : Gm → Goroutine → World → Prop} {p : Pc} {γ : So} {w : World}
def smS (low up : List Int) (s : Int) (st : Int × Int × Int) (i : Nat) : Int × Int × Int :=
  if (i : Int) + s < 0 ∨ (low.length : Int) ≤ i + s then st
  else if st.2.2 = 0 then (up.getD i 0 + low.getD (i + s).toNat 0, up.getD i 0 + low.getD (i + s).toNat 0, 1)
  else (if up.getD i 0 + low.getD (i + s).toNat 0 < st.1 then up.getD i 0 + low.getD (i + s).toNat 0 else st.1, if st.2.1 < up.getD i 0 + low.getD (i + s).toNat 0 then up.getD i 0 + low.getD (i + s).toNat 0 else st.2.1, st.2.2 + 1)
def smN (low up : List Int) (s : Int) (k : Nat) : Int × Int × Int := (List.range k).foldl (smS low up s) (0, 0, 0)
def sumsM (low up : List Int) (s : Int) : Int × Int × Int := smN low up s up.length
theorem smN_succ (low up : List Int) (s : Int) (k : Nat) : smN low up s (k + 1) = smS low up s (smN low up s k) k := by simp [smN, List.range_succ]
def Hts (l : List Int) : Prop := l.length ≤ 1000 ∧ ∀ (i : Nat) (x : Int), l[i]? = some x → 0 ≤ x ∧ x ≤ 9
theorem smN_num (low up : List Int) (s : Int) (k : Nat) : 0 ≤ (smN low up s k).2.2 ∧ (smN low up s k).2.2 ≤ k := by
  induction k with
  | zero => simp [smN]
  | succ k ih =>
    rw [smN_succ]
    unfold smS
    split
    · omega
    · grind
theorem smN_out (low up : List Int) (s : Int) (h : s ≤ -(up.length : Int) ∨ (low.length : Int) ≤ s) : ∀ k, k ≤ up.length → smN low up s k = (0, 0, 0) := by
  intro k
  induction k with
  | zero => intro _; rfl
  | succ k ih =>
    intro hk
    rw [smN_succ, ih (by omega)]
    unfold smS
    rw [if_pos (by omega)]
theorem wr64 {n : Int} (h : -9223372036854775808 ≤ n) (h' : n ≤ 9223372036854775807) : IntKind.i64.wrap n = n := by rw [IntKind.wrap_i64]; omega
def fr60 (ua lb : Value) (A B : Option Addr) (ca cb : Nat) (low up : List Int) (s : Int) (bA bB : Nat) (st : Int × Int × Int) (k : Nat) (u : Nat → Value) : Act :=
  ⟨#[.agg #[ua, .slice A low.length ca], .agg #[.slice B up.length cb, lb], .int .i64 s, .pointer (some ⟨bA, 0, none⟩), .pointer (some ⟨bB, 0, none⟩), u 5, .int .i64 st.1, .int .i64 st.2.1, .int .i64 st.2.2, u 9, u 10, u 11, u 12, u 13, u 14, u 15, u 16, u 17, u 18, u 19, u 20, u 21, u 22, u 23, u 24, u 25, u 26, .slice B up.length cb, .int .i64 up.length, .int .i64 k, u 30, u 31, u 32, u 33, u 34, u 35, u 36, u 37, u 38, u 39, u 40, u 41, u 42, u 43, u 44, u 45, u 46, u 47, u 48, u 49, u 50, u 51, u 52, u 53, u 54, u 55, u 56, u 57, u 58, u 59, u 60, u 61, u 62, u 63, u 64, u 65, u 66, u 67, u 68], []⟩
def Tri (r : Int × Int × Int) : Value := .tuple #[.int .i64 r.1, .int .i64 r.2.1, .int .i64 r.2.2]
set_option maxRecDepth 100000 in
set_option maxHeartbeats 2000000 in
theorem sums_k (C : KC Tryz.prog main K RlG StG) (hp : p ≠ .ret) {ua ub la lb : Value} {low up : List Int} (s : Int) (hl : Ils γ w la low) (hu : Ils γ w ub up) (hlo : Hts low) (hup : Hts up) :
    KCall K Tryz.prog (p, γ) 61 #[.agg #[ua, la], .agg #[ub, lb], .int .i64 s] w fun γ' v w' => γ'.1 = p ∧ v = Tri (sumsM low up s) ∧ Kept γ w γ'.2 w' := by
  refine kcall_of Tryz.func61 (by rfl) rfl ?_
  simp only [Tryz.ntmps61, List.size_toArray, List.length_cons, List.length_nil, Nat.reduceAdd, Nat.reduceSub, Array.replicate_succ, Array.replicate_zero, List.push_toArray, List.append_toArray, List.nil_append, List.cons_append]
  refine kj_seq C (kj_ra C ?_)
  refine ko_box C hp (ob := ?ob1) rfl (by rfl) (fun w => run_eq_of fun K hK => ?r1) (fun w => ?e1) ?h1
  case r1 => go_simp; exact hK
  case e1 => simp [go_sem]
  intro w1 rw1
  try walk_nrm
  have hl1 := (hl.rely rw1).alloc w1.heap.size (.cells #[ua, la] 111)
  have hu1 := (hu.rely rw1).alloc w1.heap.size (.cells #[ua, la] 111)
  have ha1 : Sees _ _ ⟨w1.heap.size, 1, none⟩ la := Sees.fresh (γ := γ) (w := w1) (cs := #[ua, la]) (t := 111) rfl rfl
  have hk1 := (Kept.rely rw1).trans (Kept.alloc γ w1 w1.heap.size (.cells #[ua, la] 111))
  refine ko_box C hp (ob := ?ob2) rfl (by rfl) (fun w => run_eq_of fun K hK => ?r2) (fun w => ?e2) ?h2
  case r2 => go_simp; exact hK
  case e2 => simp [go_sem]
  intro w2 rw2
  try walk_nrm
  have hl2 := (hl1.rely rw2).alloc w2.heap.size (.cells #[ub, lb] 111)
  have hu2 := (hu1.rely rw2).alloc w2.heap.size (.cells #[ub, lb] 111)
  have ha2 := (ha1.rely rw2).alloc w2.heap.size (.cells #[ub, lb] 111)
  have hb2 : Sees _ _ ⟨w2.heap.size, 0, none⟩ ub := Sees.fresh (γ := γ.more w1.heap.size) (w := w2) (cs := #[ub, lb]) (t := 111) rfl rfl
  have hk2 := hk1.trans ((Kept.rely rw2).trans (Kept.alloc _ w2 w2.heap.size (.cells #[ub, lb] 111)))
  refine ko_pa C ?_
  try walk_nrm
  refine ko_pa C ?_
  try walk_nrm
  refine ko_pa C ?_
  try walk_nrm
  refine ko_nil C ?_
  refine kj_seq C ?_
  clear hl hu hl1 hu1 ha1 hk1 rw2 rw1
  generalize (γ.more w1.heap.size).more w2.heap.size = γ2 at *
  generalize w2.alloc (.cells #[ub, lb] 111) = W at *
  generalize w2.heap.size = bB at *
  generalize w1.heap.size = bA at *
  obtain ⟨A, ca, rfl, hA⟩ := hl2
  obtain ⟨B, cb, rfl, hB⟩ := hu2
  have hlen1 := hlo.1
  have hlen2 := hup.1
  have hwa : IntKind.i64.wrap (0 - (up.length : Int)) = -(up.length : Int) := by rw [wr64] <;> omega
  have hwb : IntKind.i64.wrap (-(up.length : Int)) = -(up.length : Int) := by rw [wr64] <;> omega
  have hpost : ∀ (a : Act) (st : Int × Int × Int), a.defers = [] → a.tmps.getD 6 undef = .int .i64 st.1 → a.tmps.getD 7 undef = .int .i64 st.2.1 → a.tmps.getD 8 undef = .int .i64 st.2.2 → st = sumsM low up s → bodyK Tryz.prog Tryz.f61 (fun (γ' : Gm) (v : Value) (w' : World) => γ'.1 = p ∧ v = Tri (sumsM low up s) ∧ Kept γ w γ'.2 w') (p, γ2) .ret a W := by
    intro a st hd h6 h7 h8 hst
    refine ⟨hd, Tri st, ?_, rfl, by rw [hst], hk2⟩
    intro w'
    constructor
    · simp at h6 h7 h8
      simp [results, Tryz.results61, h6, h7, h8, Tri, go_sem]
    · simp [results, Tryz.results61, go_sem]
  by_cases hs1 : s ≤ -(up.length : Int)
  · have hd1 : decide (s ≤ -(up.length : Int)) = true := by simpa using hs1
    refine kj_seq C (kj_ra C ?_)
    refine ko_pa C ?_
    try walk_nrm
    refine ko_pa C ?_
    try walk_nrm
    refine ko_sa C hp hb2 ?_
    try walk_nrm
    refine ko_pa C ?_
    try walk_nrm
    refine ko_pure C (v := ?v10) rfl (by rfl) (fun w => run_eq_of fun K hK => ?r10) (fun w => ?e10) ?h10
    case r10 => go_simp; exact hK
    case e10 => simp [go_sem, Op.unary]
    try walk_nrm
    refine ko_pa C ?_
    try walk_nrm
    refine ko_pa C ?_
    try walk_nrm
    refine ko_unwanted C rfl (by rfl) ?_
    try walk_nrm
    refine ko_unwanted C rfl (by rfl) ?_
    try walk_nrm
    refine ko_unwanted C rfl (by rfl) ?_
    try walk_nrm
    refine ko_unwanted C rfl (by rfl) ?_
    try walk_nrm
    refine ko_unwanted C rfl (by rfl) ?_
    try walk_nrm
    refine ko_pa C ?_
    try walk_nrm
    refine ko_nil C ?_
    co_then
    refine kj_cond C (t := true) rfl ?_
    simp only [if_true]
    refine kj_seq C (kj_ra C ?_)
    refine ko_pa C ?_
    try walk_nrm
    refine ko_pa C ?_
    try walk_nrm
    refine ko_pa C ?_
    try walk_nrm
    refine ko_nil C ?_
    co_then
    refine kj_ret C ?_
    co_then
    exact hpost _ (0, 0, 0) rfl rfl rfl rfl (smN_out low up s (by omega) _ (Nat.le_refl _)).symm
  · have hd1 : decide (s ≤ -(up.length : Int)) = false := by simpa using hs1
    by_cases hs2 : (low.length : Int) ≤ s
    · have hd2 : decide ((low.length : Int) ≤ s) = true := by simpa using hs2
      refine kj_seq C (kj_ra C ?_)
      refine ko_pa C ?_
      try walk_nrm
      refine ko_pa C ?_
      try walk_nrm
      refine ko_sa C hp hb2 ?_
      try walk_nrm
      refine ko_pa C ?_
      try walk_nrm
      refine ko_pure C (v := ?v21) rfl (by rfl) (fun w => run_eq_of fun K hK => ?r21) (fun w => ?e21) ?h21
      case r21 => go_simp; exact hK
      case e21 => simp [go_sem, Op.unary]
      try walk_nrm
      refine ko_pa C ?_
      try walk_nrm
      refine ko_pa C ?_
      try walk_nrm
      refine ko_pa C ?_
      try walk_nrm
      refine ko_pa C ?_
      try walk_nrm
      refine ko_sa C hp ha2 ?_
      try walk_nrm
      refine ko_pa C ?_
      try walk_nrm
      refine ko_pa C ?_
      try walk_nrm
      refine ko_pa C ?_
      try walk_nrm
      refine ko_nil C ?_
      co_then
      refine kj_cond C (t := true) rfl ?_
      simp only [if_true]
      refine kj_seq C (kj_ra C ?_)
      refine ko_pa C ?_
      try walk_nrm
      refine ko_pa C ?_
      try walk_nrm
      refine ko_pa C ?_
      try walk_nrm
      refine ko_nil C ?_
      co_then
      refine kj_ret C ?_
      co_then
      exact hpost _ (0, 0, 0) rfl rfl rfl rfl (smN_out low up s (by omega) _ (Nat.le_refl _)).symm
    · have hd2 : decide ((low.length : Int) ≤ s) = false := by simpa using hs2
      refine kj_seq C (kj_ra C ?_)
      refine ko_pa C ?_
      try walk_nrm
      refine ko_pa C ?_
      try walk_nrm
      refine ko_sa C hp hb2 ?_
      try walk_nrm
      refine ko_pa C ?_
      try walk_nrm
      refine ko_pure C (v := ?v37) rfl (by rfl) (fun w => run_eq_of fun K hK => ?r37) (fun w => ?e37) ?h37
      case r37 => go_simp; exact hK
      case e37 => simp [go_sem, Op.unary]
      try walk_nrm
      refine ko_pa C ?_
      try walk_nrm
      refine ko_pa C ?_
      try walk_nrm
      refine ko_pa C ?_
      try walk_nrm
      refine ko_pa C ?_
      try walk_nrm
      refine ko_sa C hp ha2 ?_
      try walk_nrm
      refine ko_pa C ?_
      try walk_nrm
      refine ko_pa C ?_
      try walk_nrm
      refine ko_pa C ?_
      try walk_nrm
      refine ko_nil C ?_
      co_then
      refine kj_cond C (t := false) rfl ?_
      simp only [Bool.false_eq_true, if_false]
      refine kj_skip C ?_
      co_then
      refine kj_seq C (kj_seq C (kj_ra C ?_))
      refine ko_pa C ?_
      try walk_nrm
      refine ko_sa C hp hb2 ?_
      try walk_nrm
      refine ko_pa C ?_
      try walk_nrm
      refine ko_pa C ?_
      try walk_nrm
      refine ko_nil C ?_
      co_then
      refine kj_block C ?_
      refine kj_loopN C (fun n γ' a w' => γ' = (p, γ2) ∧ w' = W ∧ ∃ k, k ≤ up.length ∧ n = up.length - k ∧ ∃ u, a = fr60 ua lb A B ca cb low up s bA bB (smN low up s k) k u) (n := up.length) ⟨rfl, rfl, 0, by omega, by omega, ex_u rfl⟩ ?_
      rintro n γ' a w' ⟨hγ, hw', k, hk, hn, u, ha⟩
      subst hγ hw'
      have hN := smN_num low up s k
      have hS := smN_succ low up s k
      have hSk : ∀ r, smS low up s (smN low up s k) k = r → smN low up s (k + 1) = r := fun r h => hS.trans h
      clear hS
      have hst9 : k = up.length → sumsM low up s = smN low up s k := fun h => by rw [h]; rfl
      generalize smN low up s k = st at *
      unfold fr60 at ha
      subst ha
      refine kj_seq C (kj_ra C ?_)
      by_cases hlt : k < up.length
      · have hd3 : decide ((k : Int) < (up.length : Int)) = true := by simpa using hlt
        obtain ⟨x, hx⟩ : ∃ x, up[k]? = some x := ⟨_, List.getElem?_eq_getElem hlt⟩
        obtain ⟨bd, hBe, hsB⟩ := hB k x hx
        subst hBe
        have hxb := hup.2 k x hx
        have hw3 : IntKind.i64.wrap ((k : Int) + s) = (k : Int) + s := by rw [wr64] <;> omega
        have hw5 : IntKind.i64.wrap ((k : Int) + 1) = (k : Int) + 1 := by rw [wr64] <;> omega
        have hgx : up.getD k 0 = x := by simp [List.getD, hx]
        refine ko_pa C ?_
        try walk_nrm
        refine ko_nil C ?_
        co_then
        refine kj_seq C (kj_cond C (t := true) rfl ?_)
        simp only [if_true]
        refine kj_skip C ?_
        co_then
        refine kj_seq C (kj_block C (kj_seq C (kj_ra C ?_)))
        refine ko_pa C ?_
        try walk_nrm
        refine ko_pa C ?_
        try walk_nrm
        refine ko_sa C hp hsB ?_
        try walk_nrm
        refine ko_pa C ?_
        try walk_nrm
        refine ko_pa C ?_
        try walk_nrm
        refine ko_nil C ?_
        co_then
        refine kj_seq C (kj_ra C ?_)
        refine ko_pa C ?_
        try walk_nrm
        refine ko_pa C ?_
        try walk_nrm
        refine ko_pa C ?_
        try walk_nrm
        refine ko_pa C ?_
        try walk_nrm
        refine ko_nil C ?_
        co_then
        refine kj_seq C (kj_seq C (kj_ra C ?_))
        by_cases hc1 : (k : Int) + s < 0
        · have hd4 : decide ((k : Int) + s < 0) = true := by simpa using hc1
          refine ko_pa C ?_
          try walk_nrm
          refine ko_pa C ?_
          try walk_nrm
          refine ko_pa C ?_
          try walk_nrm
          refine ko_unwanted C rfl (by rfl) ?_
          try walk_nrm
          refine ko_unwanted C rfl (by rfl) ?_
          try walk_nrm
          refine ko_unwanted C rfl (by rfl) ?_
          try walk_nrm
          refine ko_unwanted C rfl (by rfl) ?_
          try walk_nrm
          refine ko_unwanted C rfl (by rfl) ?_
          try walk_nrm
          refine ko_pa C ?_
          try walk_nrm
          refine ko_nil C ?_
          co_then
          refine kj_cond C (t := true) rfl ?_
          simp only [if_true]
          refine kj_exit C ?_
          co_then
          have hst : smS low up s st k = st := by unfold smS; rw [if_pos (.inl hc1)]
          refine kj_ra C ?_
          refine ko_pa C ?_
          try walk_nrm
          refine ko_pa C ?_
          try walk_nrm
          refine ko_nil C (then_normal ?_)
          refine ⟨up.length - (k + 1), by omega, rfl, rfl, k + 1, by omega, rfl, ex_u ?_⟩
          rw [hSk _ hst]
          rfl
        · have hd4 : decide ((k : Int) + s < 0) = false := by simpa using hc1
          by_cases hc2 : (low.length : Int) ≤ (k : Int) + s
          · have hd5 : decide ((low.length : Int) ≤ (k : Int) + s) = true := by simpa using hc2
            refine ko_pa C ?_
            try walk_nrm
            refine ko_pa C ?_
            try walk_nrm
            refine ko_pa C ?_
            try walk_nrm
            refine ko_pa C ?_
            try walk_nrm
            refine ko_pa C ?_
            try walk_nrm
            refine ko_sa C hp ha2 ?_
            try walk_nrm
            refine ko_pa C ?_
            try walk_nrm
            refine ko_pa C ?_
            try walk_nrm
            refine ko_pa C ?_
            try walk_nrm
            refine ko_nil C ?_
            co_then
            refine kj_cond C (t := true) rfl ?_
            simp only [if_true]
            refine kj_exit C ?_
            co_then
            have hst : smS low up s st k = st := by unfold smS; rw [if_pos (.inr hc2)]
            refine kj_ra C ?_
            refine ko_pa C ?_
            try walk_nrm
            refine ko_pa C ?_
            try walk_nrm
            refine ko_nil C (then_normal ?_)
            refine ⟨up.length - (k + 1), by omega, rfl, rfl, k + 1, by omega, rfl, ex_u ?_⟩
            rw [hSk _ hst]
            rfl
          · have hd5 : decide ((low.length : Int) ≤ (k : Int) + s) = false := by simpa using hc2
            refine ko_pa C ?_
            try walk_nrm
            refine ko_pa C ?_
            try walk_nrm
            refine ko_pa C ?_
            try walk_nrm
            refine ko_pa C ?_
            try walk_nrm
            refine ko_pa C ?_
            try walk_nrm
            refine ko_sa C hp ha2 ?_
            try walk_nrm
            refine ko_pa C ?_
            try walk_nrm
            refine ko_pa C ?_
            try walk_nrm
            refine ko_pa C ?_
            try walk_nrm
            refine ko_nil C ?_
            co_then
            refine kj_cond C (t := false) rfl ?_
            simp only [Bool.false_eq_true, if_false]
            refine kj_skip C ?_
            co_then
            obtain ⟨y, hy⟩ : ∃ y, low[((k : Int) + s).toNat]? = some y := ⟨_, List.getElem?_eq_getElem (by omega)⟩
            obtain ⟨al, hAe, hsA⟩ := hA _ y hy
            subst hAe
            have hyb := hlo.2 _ y hy
            have hw4 : IntKind.i64.wrap (x + y) = x + y := by rw [wr64] <;> omega
            have hw6 : IntKind.i64.wrap (st.2.2 + 1) = st.2.2 + 1 := by rw [wr64] <;> omega
            have hgy : low.getD ((k : Int) + s).toNat 0 = y := by simp [List.getD, hy]
            have hi0 : 0 ≤ (k : Int) + s := by omega
            have hi1 : (k : Int) + s < (low.length : Int) := by omega
            refine kj_seq C (kj_ra C ?_)
            refine ko_pa C ?_
            try walk_nrm
            refine ko_pa C ?_
            try walk_nrm
            refine ko_sa C hp ha2 ?_
            try walk_nrm
            refine ko_pa C ?_
            try walk_nrm
            refine ko_pa C ?_
            try walk_nrm
            refine ko_sa C hp hsA ?_
            try walk_nrm
            refine ko_pa C ?_
            try walk_nrm
            refine ko_pa C ?_
            try walk_nrm
            refine ko_nil C ?_
            co_then
            refine kj_seq C (kj_seq C (kj_ra C ?_))
            have hst0 : st.2.2 = 0 → smS low up s st k = (x + y, x + y, 1) := by
              intro h0
              unfold smS
              rw [if_neg (by omega), if_pos h0, hgx, hgy]
            have hst1 : st.2.2 ≠ 0 → smS low up s st k = (if x + y < st.1 then x + y else st.1, if st.2.1 < x + y then x + y else st.2.1, st.2.2 + 1) := by
              intro h0
              unfold smS
              rw [if_neg (by omega), if_neg h0, hgx, hgy]
            clear hst9
            obtain ⟨s1, s2, s3⟩ := st
            simp only at *
            by_cases hc3 : s3 = 0
            · subst hc3
              have hst := hst0 rfl
              clear hst0 hst1
              refine ko_pa C ?_
              try walk_nrm
              refine ko_pa C ?_
              try walk_nrm
              refine ko_nil C ?_
              co_then
              refine kj_cond C (t := true) rfl ?_
              simp only [if_true]
              refine kj_ra C ?_
              refine ko_pa C ?_
              try walk_nrm
              refine ko_pa C ?_
              try walk_nrm
              refine ko_pa C ?_
              try walk_nrm
              refine ko_pa C ?_
              try walk_nrm
              refine ko_nil C ?_
              co_then
              refine kj_ra C ?_
              refine ko_pa C ?_
              try walk_nrm
              refine ko_pa C ?_
              try walk_nrm
              refine ko_pure C (v := ?v102) rfl (by rfl) (fun w => run_eq_of fun K hK => ?r102) (fun w => ?e102) ?h102
              case r102 => go_simp; exact hK
              case e102 => simp [go_sem, events_min_int2]
              try walk_nrm
              refine ko_pa C ?_
              try walk_nrm
              refine ko_pa C ?_
              try walk_nrm
              refine ko_pure C (v := ?v105) rfl (by rfl) (fun w => run_eq_of fun K hK => ?r105) (fun w => ?e105) ?h105
              case r105 => go_simp; exact hK
              case e105 => simp [go_sem, events_max_int2]
              try walk_nrm
              refine ko_pa C ?_
              try walk_nrm
              refine ko_pa C ?_
              try walk_nrm
              refine ko_pa C ?_
              try walk_nrm
              refine ko_pa C ?_
              try walk_nrm
              refine ko_pa C ?_
              try walk_nrm
              refine ko_nil C ?_
              co_then
              refine kj_ra C ?_
              refine ko_pa C ?_
              try walk_nrm
              refine ko_pa C ?_
              try walk_nrm
              refine ko_nil C (then_normal ?_)
              refine ⟨up.length - (k + 1), by omega, rfl, rfl, k + 1, by omega, rfl, ex_u ?_⟩
              rw [hSk _ hst]
              rfl
            · have hd6 : decide (s3 = 0) = false := by simpa using hc3
              have hd6' : (s3 == 0) = false := by simpa using hc3
              have hst := hst1 hc3
              clear hst0 hst1
              refine ko_pa C ?_
              try walk_nrm
              refine ko_pa C ?_
              try walk_nrm
              refine ko_nil C ?_
              co_then
              refine kj_cond C (t := false) rfl ?_
              simp only [Bool.false_eq_true, if_false]
              refine kj_skip C ?_
              co_then
              refine kj_ra C ?_
              refine ko_pa C ?_
              try walk_nrm
              refine ko_pa C ?_
              try walk_nrm
              refine ko_pure C (v := ?v117) rfl (by rfl) (fun w => run_eq_of fun K hK => ?r117) (fun w => ?e117) ?h117
              case r117 => go_simp; exact hK
              case e117 => simp [go_sem, events_min_int2]
              try walk_nrm
              refine ko_pa C ?_
              try walk_nrm
              refine ko_pa C ?_
              try walk_nrm
              refine ko_pure C (v := ?v120) rfl (by rfl) (fun w => run_eq_of fun K hK => ?r120) (fun w => ?e120) ?h120
              case r120 => go_simp; exact hK
              case e120 => simp [go_sem, events_max_int2]
              try walk_nrm
              refine ko_pa C ?_
              try walk_nrm
              refine ko_pa C ?_
              try walk_nrm
              refine ko_pa C ?_
              try walk_nrm
              refine ko_pa C ?_
              try walk_nrm
              refine ko_pa C ?_
              try walk_nrm
              refine ko_nil C ?_
              co_then
              refine kj_ra C ?_
              refine ko_pa C ?_
              try walk_nrm
              refine ko_pa C ?_
              try walk_nrm
              refine ko_nil C (then_normal ?_)
              refine ⟨up.length - (k + 1), by omega, rfl, rfl, k + 1, by omega, rfl, ex_u ?_⟩
              rw [hSk _ hst]
              rfl
      · have hke : k = up.length := by omega
        subst hke
        have hd3 : decide ((up.length : Int) < (up.length : Int)) = false := by simp
        refine ko_pa C ?_
        try walk_nrm
        refine ko_nil C ?_
        co_then
        refine kj_seq C (kj_cond C (t := false) rfl ?_)
        simp only [Bool.false_eq_true, if_false]
        refine kj_exit C ?_
        co_then
        refine kj_seq C (kj_ra C ?_)
        refine ko_pa C ?_
        try walk_nrm
        refine ko_pa C ?_
        try walk_nrm
        refine ko_pa C ?_
        try walk_nrm
        refine ko_pa C ?_
        try walk_nrm
        refine ko_pa C ?_
        try walk_nrm
        refine ko_pa C ?_
        try walk_nrm
        refine ko_nil C ?_
        co_then
        refine kj_ret C ?_
        exact hpost _ st rfl rfl rfl rfl (hst9 rfl).symm
end Go.Co
end
