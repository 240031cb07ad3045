/- The law CutKnown: part 2: Cd4. By an AI agent. -/
import Derived.Test.YtadeehilamokkaaGreatDoorPk01
section
namespace Go.Di
open Go
variable {P : Program} {ty : Tys} {x : Cx} {w' : World}
def Cx.froze (x : Cx) (w' : World) (F : Nat → Prop) : Cx := ⟨w', x.μ, x.κ, fun c o => x.Fz c o ∨ (c = x.w.heap.size ∧ F o), x.S⟩
theorem mono_froze {F : Nat → Prop} {ob : Obj} (hR : Rel x) (hp : Push x.w w' ob) : Mono x (x.froze w' F) where
  size := by show _ ≤ w'.heap.size; rw [hp.heap]; simp
  env := hp.env
  fz := fun c o h => ⟨.inl h, cell_of_block (hp.lt (hR.fz_lt h)) o⟩
  nfz := fun c o h => by
    rcases h with h | h
    · grind
    · grind
  old := fun c hc _ => hp.lt hc
  len := Nat.le_refl _
  cells := fun id l hl => ⟨rfl, l, hl⟩
  objs := fun id c hl hc => ⟨rfl, ⟨c, hl, like_refl hc⟩, fun _ => by
    obtain ⟨o, h1, -⟩ := hR.objs id c hl hc
    exact hp.lt (heap_lt h1)⟩
  tails := fun t e s n ht => ⟨n, ht, Nat.le_refl _, fun _ => ⟨rfl, rfl⟩⟩
  live := fun i hi => .inl ⟨hi, rfl⟩
  ops := fun _ _ _ l z h => ⟨l, z, h, Nat.le_refl _, fun e => ⟨rfl, e⟩, fun _ => ⟨rfl, rfl⟩⟩
theorem rel_froze {F : Nat → Prop} {ob : Obj} (hR : Rel x) (hp : Push x.w w' ob) (hF : ∀ o, F o → ∃ v, w'.cell? ⟨x.w.heap.size, o, none⟩ = some v) : Rel (x.froze w' F) where
  cells := fun id l hl => by
    obtain ⟨arr, e, h1, h2, h3⟩ := hR.cells id l hl
    exact ⟨arr, e, (hp.lt (heap_lt h1)).trans h1, h2, fun j c hc => (h3 j c hc).mono (mono_froze hR hp)⟩
  tails := fun id e s n hl => by
    obtain ⟨arr, h1, h2⟩ := hR.tails id e s n hl
    exact ⟨arr, (hp.lt (heap_lt h1)).trans h1, h2⟩
  objs := fun id c hl hc => by
    obtain ⟨o, h1, h2⟩ := hR.objs id c hl hc
    exact ⟨o, (hp.lt (heap_lt h1)).trans h1, h2.mono (mono_froze hR hp)⟩
  inj := hR.inj
  frz := fun c o h => by
    rcases h with h | ⟨rfl, h⟩
    · obtain ⟨v, hv⟩ := hR.frz c o h
      exact ⟨v, (cell_of_block (hp.lt (hR.fz_lt h)) o).trans hv⟩
    · exact hF o h
  sep := fun id ⟨l, hl⟩ o ho => by
    rcases ho with ho | ⟨ho, -⟩
    · exact hR.sep id ⟨l, hl⟩ o ho
    · have : x.μ id < x.w.heap.size := hR.live_lt (live_of hl (by simp))
      have ho : x.μ id = x.w.heap.size := ho
      omega
  sept := fun id e s n hl o ho => by
    rcases ho with ho | ⟨ho, -⟩
    · exact hR.sept id e s n hl o ho
    · have : x.μ id < x.w.heap.size := hR.live_lt (live_of hl (by simp))
      have ho : x.μ id = x.w.heap.size := ho
      omega
  ops := fun id e s l z hl => by
    obtain ⟨arr, h1, h2, h3, h4, h5, h6, h7⟩ := hR.ops id e s l z hl
    refine ⟨arr, (hp.lt (heap_lt h1)).trans h1, h2, h3, h4, fun j c hc => ⟨(h5 j c hc).1, (h5 j c hc).2.mono (mono_froze hR hp)⟩, fun hz j hj => .inl (h6 hz j hj), fun hz o ho => ?_⟩
    rcases ho with ho | ⟨ho, -⟩
    · exact h7 hz o ho
    · have : x.μ id < x.w.heap.size := hR.live_lt (live_of hl (by simp))
      have ho : x.μ id = x.w.heap.size := ho
      omega
  glob := hR.glob.keep (mono_froze hR hp).fz
def Cx.upd (x : Cx) (id : Nat) (arr : Array Value) (F : Nat → Prop) (b : DB) : Cx := ⟨x.w.setRow (x.μ id) arr, x.μ, x.κ, fun c o => x.Fz c o ∨ (c = x.μ id ∧ F o), x.S.set id b⟩
theorem set_get {S : Store} {id : Nat} {b0 : DB} (h : S[id]? = some b0) (b : DB) (j : Nat) : (S.set id b)[j]? = if j = id then some b else S[j]? := by grind
theorem mono_upd {id : Nat} {arr : Array Value} {F : Nat → Prop} {b0 b : DB} (hR : Rel x) (h0 : x.S[id]? = some b0)
    (hb : (∃ l l', b0 = .cells l ∧ b = .cells l') ∨ (∃ e s n n', b0 = .tail e s n ∧ b = .tail e s n' ∧ n ≤ n' ∧ ∀ o, o < n → (x.w.setRow (x.μ id) arr).cell? ⟨x.μ id, o, none⟩ = x.w.cell? ⟨x.μ id, o, none⟩) ∨ (∃ e s l l', b0 = .op e s l false ∧ b = .op e s l' false ∧ l.length ≤ l'.length)) : Mono x (x.upd id arr F b) := by
  have hne0 : b0 ≠ .none := by rcases hb with ⟨l, l', rfl, -⟩ | ⟨e, s, n, n', rfl, -⟩ | ⟨e, s, l, l', rfl, -⟩ <;> simp
  have hne : b ≠ .none := by rcases hb with ⟨l, l', -, rfl⟩ | ⟨e, s, n, n', -, rfl, -⟩ | ⟨e, s, l, l', -, rfl, -⟩ <;> simp
  have hget : ∀ j, (x.upd id arr F b).S[j]? = if j = id then some b else x.S[j]? := fun j => set_get h0 b j
  refine ⟨by show _ ≤ (x.w.setRow _ _).heap.size; rw [setRow_size]; exact Nat.le_refl _, ⟨rfl, rfl⟩, fun c o h => ⟨.inl h, ?_⟩, fun c o h => ?_, fun c hc hn => ?_, by show _ ≤ (x.S.set _ _).length; simp, fun i l hl => ⟨rfl, ?_⟩, fun i c hl hc => ⟨rfl, ?_, ?_⟩, fun t e s n ht => ?_, fun i hi => .inl ⟨?_, rfl⟩, fun t e s l z ht => ?_⟩
  · show (x.w.setRow _ _).cell? _ = _
    by_cases hc : c = x.μ id
    · subst hc
      rcases hb with ⟨l, l', rfl, -⟩ | ⟨e, s, n, n', rfl, -, -, hk⟩ | ⟨e, s, l, l', rfl, -⟩
      · exact absurd h (hR.sep id ⟨l, h0⟩ o)
      · exact hk o (hR.sept id e s n h0 o h)
      · obtain ⟨-, -, -, -, -, -, -, k⟩ := hR.ops id e s l false h0
        exact absurd h (k rfl o)
    · exact cell_setRow_other _ _ _ _ hc
  · rcases h with h | ⟨rfl, -⟩
    · grind
    · exact .inr (.inr ⟨id, live_of h0 hne0, rfl⟩)
  · exact setRow_other _ _ _ _ fun e => hn id (live_of h0 hne0) e.symm
  · grind
  · rw [hget]
    split
    · rename_i e
      subst e
      rw [h0] at hl
      cases hl
      rcases hb with ⟨l, l', h1, -⟩ | ⟨e, s, n, n', h1, -⟩ | ⟨e, s, l, l', h1, -⟩ <;> (subst h1; cases hc)
    · exact ⟨c, hl, like_refl hc⟩
  · rintro rfl
    refine setRow_other _ _ _ _ fun e => ?_
    have := hR.inj i id (live_of hl (by simp)) (live_of h0 hne0) e
    subst this
    rw [h0] at hl
    cases hl
    rcases hb with ⟨l, l', h1, -⟩ | ⟨e, s, n, n', h1, -⟩ | ⟨e, s, l, l', h1, -⟩ <;> cases h1
  · by_cases e1 : t = id
    · subst e1
      rw [h0] at ht
      cases ht
      rcases hb with ⟨l, l', h1, -⟩ | ⟨e, s, n, n', h1, rfl, h3, -⟩ | ⟨e, s, l, l', h1, -⟩
      · cases h1
      · cases h1
        exact ⟨n', by rw [hget, if_pos rfl], h3, fun _ => ⟨rfl, rfl⟩⟩
      · cases h1
    · exact ⟨n, by rw [hget, if_neg e1]; exact ht, Nat.le_refl _, fun _ => ⟨rfl, rfl⟩⟩
  · obtain ⟨c, hc, hcn⟩ := hi
    rw [hget] at hc
    split at hc
    · rename_i e; subst e; exact live_of h0 hne0
    · exact ⟨c, hc, hcn⟩
  · by_cases e1 : t = id
    · subst e1
      rw [h0] at ht
      cases ht
      rcases hb with ⟨l, l', h1, -⟩ | ⟨e, s, n, n', h1, -⟩ | ⟨e, s, l, l', h1, rfl, h3⟩
      · cases h1
      · cases h1
      · cases h1
        exact ⟨l', false, by rw [hget, if_pos rfl], h3, by simp, fun _ => ⟨rfl, rfl⟩⟩
    · exact ⟨l, z, by rw [hget, if_neg e1]; exact ht, Nat.le_refl _, fun e => ⟨rfl, e⟩, fun _ => ⟨rfl, rfl⟩⟩
theorem rel_upd {id : Nat} {arr : Array Value} {F : Nat → Prop} {b0 b : DB} (hR : Rel x) (h0 : x.S[id]? = some b0)
    (hb : (∃ l l', b0 = .cells l ∧ b = .cells l' ∧ (∀ o, ¬ F o) ∧ arr.size = l'.length ∧ ∀ j c, l'[j]? = some c → RV x c (arr.getD j undef)) ∨
      (∃ e s n n', b0 = .tail e s n ∧ b = .tail e s n' ∧ n ≤ n' ∧ (∀ o, o < n → (x.w.setRow (x.μ id) arr).cell? ⟨x.μ id, o, none⟩ = x.w.cell? ⟨x.μ id, o, none⟩) ∧ arr.size = x.κ id * s ∧ n' ≤ arr.size ∧ ∀ o, F o → o < n') ∨
      (∃ e s l l', b0 = .op e s l false ∧ b = .op e s l' false ∧ l.length ≤ l'.length ∧ (∀ o, ¬ F o) ∧ arr.size = x.κ id * s ∧ l'.length ≤ arr.size ∧ ∀ j c, l'[j]? = some c → c.pure1 = true ∧ RV x c (arr.getD j undef))) : Rel (x.upd id arr F b) := by
  have hb' : (∃ l l', b0 = .cells l ∧ b = .cells l') ∨ (∃ e s n n', b0 = .tail e s n ∧ b = .tail e s n' ∧ n ≤ n' ∧ ∀ o, o < n → (x.w.setRow (x.μ id) arr).cell? ⟨x.μ id, o, none⟩ = x.w.cell? ⟨x.μ id, o, none⟩) ∨ (∃ e s l l', b0 = .op e s l false ∧ b = .op e s l' false ∧ l.length ≤ l'.length) := by grind
  have M := mono_upd (F := F) hR h0 hb'
  have hne0 : b0 ≠ .none := by rcases hb with ⟨l, l', rfl, -⟩ | ⟨e, s, n, n', rfl, -⟩ | ⟨e, s, l, l', rfl, -⟩ <;> simp
  have hget : ∀ j, (x.upd id arr F b).S[j]? = if j = id then some b else x.S[j]? := fun j => set_get h0 b j
  have hold : ∃ old e, x.w.heap[x.μ id]? = some (.cells old e (0, 0)) ∧ (∀ e' s n, b0 = .tail e' s n → e = e' ∧ x.κ id ≤ maxLen) ∧ ∀ e' s l z, b0 = .op e' s l z → e = e' ∧ x.κ id ≤ maxLen := by
    rcases hb with ⟨l, l', rfl, -⟩ | ⟨e, s, n, n', rfl, -⟩ | ⟨e, s, l, l', rfl, -⟩
    · obtain ⟨a, e, h1, -⟩ := hR.cells id l h0
      exact ⟨a, e, h1, by simp, by simp⟩
    · obtain ⟨a, h1, -, -, h4⟩ := hR.tails id e s n h0
      exact ⟨a, e, h1, fun e' s' n' h => by cases h; exact ⟨rfl, h4⟩, by simp⟩
    · obtain ⟨a, h1, -, -, h4, -⟩ := hR.ops id e s l false h0
      exact ⟨a, e, h1, by simp, fun e' s' l' z h => by cases h; exact ⟨rfl, h4⟩⟩
  obtain ⟨old, e0, hh, he0, he1⟩ := hold
  have hnew : (x.w.setRow (x.μ id) arr).heap[x.μ id]? = some (.cells arr e0 (0, 0)) := setRow_heap _ _ _ _ _ _ hh
  have hliv : ∀ i, Live (x.upd id arr F b).S i → Live x.S i := fun i hi => by
    rcases M.live i hi with ⟨h, -⟩ | h
    · exact h
    · obtain ⟨c, hc, hcn⟩ := hi
      rw [hget] at hc
      split at hc
      · rename_i e; subst e; exact live_of h0 hne0
      · exact ⟨c, hc, hcn⟩
  have hoth : ∀ i, i ≠ id → Live x.S i → (x.w.setRow (x.μ id) arr).heap[x.μ i]? = x.w.heap[x.μ i]? := fun i hi hl => setRow_other _ _ _ _ fun e => hi (hR.inj i id hl (live_of h0 hne0) e)
  constructor
  case glob => exact hR.glob.keep M.fz
  · intro i l hl
    rw [hget] at hl
    by_cases h : i = id
    · subst h
      rw [if_pos rfl] at hl
      cases hl
      rcases hb with ⟨l0, l', h1, h2, h3, h4, h5⟩ | ⟨e, s, n, n', h1, h2, -⟩ | ⟨e, s, l, l', h1, h2, -⟩
      · cases h2
        exact ⟨arr, e0, hnew, h4, fun j c hc => (h5 j c hc).mono M⟩
      · cases h2
      · cases h2
    · rw [if_neg h] at hl
      obtain ⟨a, e, h1, h2, h3⟩ := hR.cells i l hl
      exact ⟨a, e, (hoth i h (live_of hl (by simp))).trans h1, h2, fun j c hc => (h3 j c hc).mono M⟩
  · intro i e s n hl
    rw [hget] at hl
    by_cases h : i = id
    · subst h
      rw [if_pos rfl] at hl
      cases hl
      rcases hb with ⟨l0, l', h1, h2, -⟩ | ⟨e', s', m, m', h1, h2, h3, h4, h5, h6, h7⟩ | ⟨e, s, l, l', h1, h2, -⟩
      · cases h2
      · cases h2
        obtain ⟨k1, k2⟩ := he0 _ _ _ h1
        subst k1
        exact ⟨arr, hnew, h5, h6, k2⟩
      · cases h2
    · rw [if_neg h] at hl
      obtain ⟨a, h1, h2⟩ := hR.tails i e s n hl
      exact ⟨a, (hoth i h (live_of hl (by simp))).trans h1, h2⟩
  · intro i c hl hc
    rw [hget] at hl
    by_cases h : i = id
    · subst h
      rw [if_pos rfl] at hl
      cases hl
      rcases hb with ⟨l0, l', h1, h2, -⟩ | ⟨e', s', m, m', h1, h2, -⟩ | ⟨e, s, l, l', h1, h2, -⟩ <;> (subst h2; cases hc)
    · rw [if_neg h] at hl
      obtain ⟨o, h1, h2⟩ := hR.objs i c hl hc
      exact ⟨o, (hoth i h (live_of hl (obj_live hc))).trans h1, h2.mono M⟩
  · exact fun i j hi hj he => hR.inj i j (hliv i hi) (hliv j hj) he
  · intro c o h
    rcases h with h | ⟨rfl, h⟩
    · obtain ⟨v, hv⟩ := hR.frz c o h
      exact ⟨v, (M.fz c o h).2.trans hv⟩
    · rcases hb with ⟨l0, l', -, -, h3, -⟩ | ⟨e', s', m, m', -, -, -, -, h5, h6, h7⟩ | ⟨e, s, l, l', -, -, -, h3, -⟩
      · grind
      · have := h7 o h
        refine ⟨arr[o]'(by omega), ?_⟩
        show (x.w.setRow _ _).cell? _ = _
        rw [cell_setRow_same _ _ _ _ _ _ _ hh]
        exact Array.getElem?_eq_getElem _
      · grind
  · rintro i ⟨l, hl⟩ o ho
    rw [hget] at hl
    by_cases h : i = id
    · subst h
      rw [if_pos rfl] at hl
      cases hl
      rcases hb with ⟨l0, l', h1, h2, h3, -⟩ | ⟨e', s', m, m', h1, h2, -⟩ | ⟨e, s, l, l', h1, h2, -⟩
      · subst h1
        rcases ho with ho | ⟨-, ho⟩
        · exact hR.sep i ⟨l0, h0⟩ o ho
        · grind
      · cases h2
      · cases h2
    · rw [if_neg h] at hl
      rcases ho with ho | ⟨ho, -⟩
      · exact hR.sep i ⟨l, hl⟩ o ho
      · exact h (hR.inj i id (live_of hl (by simp)) (live_of h0 hne0) ho)
  · intro i e s n hl o ho
    rw [hget] at hl
    by_cases h : i = id
    · subst h
      rw [if_pos rfl] at hl
      cases hl
      rcases hb with ⟨l0, l', h1, h2, -⟩ | ⟨e', s', m, m', h1, h2, h3, -, -, -, h7⟩ | ⟨e, s, l, l', h1, h2, -⟩
      · cases h2
      · cases h2
        subst h1
        rcases ho with ho | ⟨-, ho⟩
        · exact Nat.lt_of_lt_of_le (hR.sept i _ _ _ h0 o ho) h3
        · grind
      · cases h2
    · rw [if_neg h] at hl
      rcases ho with ho | ⟨ho, -⟩
      · exact hR.sept i e s n hl o ho
      · exact (h (hR.inj i id (live_of hl (by simp)) (live_of h0 hne0) ho)).elim
  · intro i e s l z hl
    rw [hget] at hl
    by_cases h : i = id
    · subst h
      rw [if_pos rfl] at hl
      cases hl
      rcases hb with ⟨l0, l', h1, h2, -⟩ | ⟨e', s', m, m', h1, h2, -⟩ | ⟨e', s', l0, l', h1, h2, h3, h4, h5, h6, h7⟩
      · cases h2
      · cases h2
      · cases h2
        obtain ⟨k1, k2⟩ := he1 _ _ _ _ h1
        subst k1
        refine ⟨arr, hnew, h5, h6, k2, fun j c hc => ⟨(h7 j c hc).1, (h7 j c hc).2.mono M⟩, by simp, fun _ o ho => ?_⟩
        rcases ho with ho | ⟨-, ho⟩
        · subst h1
          obtain ⟨-, -, -, -, -, -, -, k⟩ := hR.ops i _ _ _ _ h0
          exact k rfl o ho
        · grind
    · rw [if_neg h] at hl
      obtain ⟨a, h1, h2, h3, h4, h5, h6, h7⟩ := hR.ops i e s l z hl
      refine ⟨a, (hoth i h (live_of hl (by simp))).trans h1, h2, h3, h4, fun j c hc => ⟨(h5 j c hc).1, (h5 j c hc).2.mono M⟩, fun hz j hj => .inl (h6 hz j hj), fun hz o ho => ?_⟩
      rcases ho with ho | ⟨ho, -⟩
      · exact h7 hz o ho
      · exact h (hR.inj i id (live_of hl (by simp)) (live_of h0 hne0) ho)
def Cx.moved (x : Cx) (w' : World) (t k : Nat) (F : Nat → Prop) (b : DB) : Cx :=
  ⟨w', fun i => if i = t then x.w.heap.size else x.μ i, fun i => if i = t then k else x.κ i, fun c o => x.Fz c o ∨ (c = x.w.heap.size ∧ F o), x.S.set t b⟩
theorem mono_moved {t k : Nat} {F : Nat → Prop} {ob : Obj} {e : TypeId} {s n n' : Nat} (hR : Rel x) (h0 : x.S[t]? = some (.tail e s n)) (hp : Push x.w w' ob) (hlt : n < n') : Mono x (x.moved w' t k F (.tail e s n')) := by
  have hget : ∀ j, (x.moved w' t k F (.tail e s n')).S[j]? = if j = t then some (.tail e s n') else x.S[j]? := fun j => set_get h0 _ j
  refine ⟨by show _ ≤ w'.heap.size; rw [hp.heap]; simp, hp.env, fun c o h => ⟨.inl h, cell_of_block (hp.lt (hR.fz_lt h)) o⟩, fun c o h => ?_, fun c hc _ => hp.lt hc, by show _ ≤ (x.S.set _ _).length; simp, fun i l hl => ?_, fun i c hl hc => ?_, fun i e1 s1 n1 hl => ?_, fun i hi => ?_, fun i e1 s1 l z hl => ?_⟩
  · rcases h with h | h
    · grind
    · grind
  · have hne : i ≠ t := by rintro rfl; rw [h0] at hl; cases hl
    exact ⟨if_neg hne, l, by rw [hget, if_neg hne]; exact hl⟩
  · have hne : i ≠ t := by rintro rfl; rw [h0] at hl; cases hl; cases hc
    exact ⟨if_neg hne, ⟨c, by rw [hget, if_neg hne]; exact hl, like_refl hc⟩, fun _ => by
      obtain ⟨o, h1, -⟩ := hR.objs i c hl hc
      exact hp.lt (heap_lt h1)⟩
  · by_cases hne : i = t
    · grind
    · exact ⟨n1, by rw [hget, if_neg hne]; exact hl, Nat.le_refl _, fun _ => ⟨if_neg hne, if_neg hne⟩⟩
  · by_cases hne : i = t
    · right
      subst hne
      show _ ≤ (if _ then _ else _)
      rw [if_pos rfl]
      exact Nat.le_refl _
    · left
      obtain ⟨c, hc, hcn⟩ := hi
      rw [hget, if_neg hne] at hc
      exact ⟨⟨c, hc, hcn⟩, if_neg hne⟩
  · have hne : i ≠ t := by rintro rfl; rw [h0] at hl; cases hl
    exact ⟨l, z, by rw [hget, if_neg hne]; exact hl, Nat.le_refl _, fun e => ⟨rfl, e⟩, fun _ => ⟨if_neg hne, if_neg hne⟩⟩
theorem rel_moved {t k : Nat} {F : Nat → Prop} {e : TypeId} {s n n' : Nat} {arr : Array Value} (hR : Rel x) (h0 : x.S[t]? = some (.tail e s n)) (hp : Push x.w w' (.cells arr e (0, 0))) (hlt : n < n')
    (hs : arr.size = k * s) (hn : n' ≤ arr.size) (hk : k ≤ maxLen) (hF : ∀ o, F o → o < n') : Rel (x.moved w' t k F (.tail e s n')) := by
  have M := mono_moved (k := k) (F := F) hR h0 hp hlt
  have hget : ∀ j, (x.moved w' t k F (.tail e s n')).S[j]? = if j = t then some (.tail e s n') else x.S[j]? := fun j => set_get h0 _ j
  have hμ : ∀ i, i ≠ t → (x.moved w' t k F (.tail e s n')).μ i = x.μ i := fun i h => if_neg h
  have hκ : ∀ i, i ≠ t → (x.moved w' t k F (.tail e s n')).κ i = x.κ i := fun i h => if_neg h
  have hμn : (x.moved w' t k F (.tail e s n')).μ t = x.w.heap.size := if_pos rfl
  have hκn : (x.moved w' t k F (.tail e s n')).κ t = k := if_pos rfl
  have hliv : ∀ i, Live (x.moved w' t k F (.tail e s n')).S i → Live x.S i := by
    rintro i ⟨c, hc, hcn⟩
    rw [hget] at hc
    split at hc
    · rename_i h; subst h; exact live_of h0 (by simp)
    · exact ⟨c, hc, hcn⟩
  constructor
  case glob => exact hR.glob.keep M.fz
  · intro i l hl
    rw [hget] at hl
    by_cases h : i = t
    · grind
    · rw [if_neg h] at hl
      obtain ⟨a, e, h1, h2, h3⟩ := hR.cells i l hl
      rw [hμ i h]
      exact ⟨a, e, (hp.lt (heap_lt h1)).trans h1, h2, fun j c hc => (h3 j c hc).mono M⟩
  · intro i e1 s1 n1 hl
    rw [hget] at hl
    by_cases h : i = t
    · subst h
      rw [if_pos rfl] at hl
      cases hl
      rw [hμn, hκn]
      exact ⟨arr, hp.new, hs, hn, hk⟩
    · rw [if_neg h] at hl
      obtain ⟨a, h1, h2⟩ := hR.tails i e1 s1 n1 hl
      rw [hμ i h, hκ i h]
      exact ⟨a, (hp.lt (heap_lt h1)).trans h1, h2⟩
  · intro i c hl hc
    rw [hget] at hl
    by_cases h : i = t
    · rw [if_pos h] at hl; cases hl; cases hc
    · rw [if_neg h] at hl
      obtain ⟨o, h1, h2⟩ := hR.objs i c hl hc
      rw [hμ i h]
      exact ⟨o, (hp.lt (heap_lt h1)).trans h1, h2.mono M⟩
  · intro i j hi hj he
    by_cases h1 : i = t
    · by_cases h2 : j = t
      · grind
      · rw [h1, hμn, hμ j h2] at he
        have := hR.live_lt (hliv j hj)
        omega
    · by_cases h2 : j = t
      · rw [h2, hμn, hμ i h1] at he
        have := hR.live_lt (hliv i hi)
        omega
      · rw [hμ i h1, hμ j h2] at he
        exact hR.inj i j (hliv i hi) (hliv j hj) he
  · intro c o h
    rcases h with h | ⟨rfl, h⟩
    · obtain ⟨v, hv⟩ := hR.frz c o h
      exact ⟨v, (M.fz c o h).2.trans hv⟩
    · have := hF o h
      refine ⟨arr[o]'(by omega), ?_⟩
      show w'.cell? _ = _
      simp only [World.cell?, hp.new]
      exact Array.getElem?_eq_getElem _
  · rintro i ⟨l, hl⟩ o ho
    rw [hget] at hl
    by_cases h : i = t
    · grind
    · rw [if_neg h] at hl
      rw [hμ i h] at ho
      rcases ho with ho | ⟨ho, -⟩
      · exact hR.sep i ⟨l, hl⟩ o ho
      · have := hR.live_lt (live_of hl (by simp)); omega
  · intro i e1 s1 n1 hl o ho
    rw [hget] at hl
    by_cases h : i = t
    · subst h
      rw [if_pos rfl] at hl
      cases hl
      rw [hμn] at ho
      rcases ho with ho | ⟨-, ho⟩
      · have := hR.fz_lt ho; omega
      · grind
    · rw [if_neg h] at hl
      rw [hμ i h] at ho
      rcases ho with ho | ⟨ho, -⟩
      · exact hR.sept i e1 s1 n1 hl o ho
      · have := hR.live_lt (live_of hl (by simp)); omega
  · intro i e1 s1 l z hl
    rw [hget] at hl
    by_cases h : i = t
    · grind
    · rw [if_neg h] at hl
      obtain ⟨a, h1, h2, h3, h4, h5, h6, h7⟩ := hR.ops i e1 s1 l z hl
      rw [hμ i h, hκ i h]
      refine ⟨a, (hp.lt (heap_lt h1)).trans h1, h2, h3, h4, fun j c hc => ⟨(h5 j c hc).1, (h5 j c hc).2.mono M⟩, fun hz j hj => .inl (h6 hz j hj), fun hz o ho => ?_⟩
      rcases ho with ho | ⟨ho, -⟩
      · grind
      · grind
theorem mono_movo {t k : Nat} {ob : Obj} {e : TypeId} {s : Nat} {l l' : List DV} (hR : Rel x) (h0 : x.S[t]? = some (.op e s l false)) (hp : Push x.w w' ob) (hlt : l.length < l'.length) : Mono x (x.moved w' t k (fun _ => False) (.op e s l' false)) := by
  have hget : ∀ j, (x.moved w' t k (fun _ => False) (.op e s l' false)).S[j]? = if j = t then some (.op e s l' false) else x.S[j]? := fun j => set_get h0 _ j
  refine ⟨by show _ ≤ w'.heap.size; rw [hp.heap]; simp, hp.env, fun c o h => ⟨.inl h, cell_of_block (hp.lt (hR.fz_lt h)) o⟩, fun c o h => ?_, fun c hc _ => hp.lt hc, by show _ ≤ (x.S.set _ _).length; simp, fun i l hl => ?_, fun i c hl hc => ?_, fun i e1 s1 n1 hl => ?_, fun i hi => ?_, fun i e1 s1 l1 z hl => ?_⟩
  · rcases h with h | h
    · grind
    · grind
  · have hne : i ≠ t := by rintro rfl; rw [h0] at hl; cases hl
    exact ⟨if_neg hne, l, by rw [hget, if_neg hne]; exact hl⟩
  · have hne : i ≠ t := by rintro rfl; rw [h0] at hl; cases hl; cases hc
    exact ⟨if_neg hne, ⟨c, by rw [hget, if_neg hne]; exact hl, like_refl hc⟩, fun _ => by
      obtain ⟨o, h1, -⟩ := hR.objs i c hl hc
      exact hp.lt (heap_lt h1)⟩
  · have hne : i ≠ t := by rintro rfl; rw [h0] at hl; cases hl
    exact ⟨n1, by rw [hget, if_neg hne]; exact hl, Nat.le_refl _, fun _ => ⟨if_neg hne, if_neg hne⟩⟩
  · by_cases hne : i = t
    · right
      subst hne
      show _ ≤ (if _ then _ else _)
      rw [if_pos rfl]
      exact Nat.le_refl _
    · left
      obtain ⟨c, hc, hcn⟩ := hi
      rw [hget, if_neg hne] at hc
      exact ⟨⟨c, hc, hcn⟩, if_neg hne⟩
  · by_cases hne : i = t
    · grind
    · exact ⟨l1, z, by rw [hget, if_neg hne]; exact hl, Nat.le_refl _, fun e => ⟨rfl, e⟩, fun _ => ⟨if_neg hne, if_neg hne⟩⟩
theorem rel_movo {t k : Nat} {e : TypeId} {s : Nat} {l l' : List DV} {arr : Array Value} (hR : Rel x) (h0 : x.S[t]? = some (.op e s l false)) (hp : Push x.w w' (.cells arr e (0, 0))) (hlt : l.length < l'.length)
    (hs : arr.size = k * s) (hn : l'.length ≤ arr.size) (hk : k ≤ maxLen) (hc : ∀ j c, l'[j]? = some c → c.pure1 = true ∧ RV x c (arr.getD j undef)) : Rel (x.moved w' t k (fun _ => False) (.op e s l' false)) := by
  have M := mono_movo (k := k) hR h0 hp hlt
  have hget : ∀ j, (x.moved w' t k (fun _ => False) (.op e s l' false)).S[j]? = if j = t then some (.op e s l' false) else x.S[j]? := fun j => set_get h0 _ j
  have hμ : ∀ i, i ≠ t → (x.moved w' t k (fun _ => False) (.op e s l' false)).μ i = x.μ i := fun i h => if_neg h
  have hκ : ∀ i, i ≠ t → (x.moved w' t k (fun _ => False) (.op e s l' false)).κ i = x.κ i := fun i h => if_neg h
  have hμn : (x.moved w' t k (fun _ => False) (.op e s l' false)).μ t = x.w.heap.size := if_pos rfl
  have hκn : (x.moved w' t k (fun _ => False) (.op e s l' false)).κ t = k := if_pos rfl
  have hfz : ∀ c o, (x.moved w' t k (fun _ => False) (.op e s l' false)).Fz c o → x.Fz c o := fun c o h => h.elim id fun h => h.2.elim
  have hliv : ∀ i, Live (x.moved w' t k (fun _ => False) (.op e s l' false)).S i → Live x.S i := by
    rintro i ⟨c, hc, hcn⟩
    rw [hget] at hc
    split at hc
    · rename_i h; subst h; exact live_of h0 (by simp)
    · exact ⟨c, hc, hcn⟩
  constructor
  case glob => exact hR.glob.keep M.fz
  · intro i l1 hl
    rw [hget] at hl
    by_cases h : i = t
    · grind
    · rw [if_neg h] at hl
      obtain ⟨a, e, h1, h2, h3⟩ := hR.cells i l1 hl
      rw [hμ i h]
      exact ⟨a, e, (hp.lt (heap_lt h1)).trans h1, h2, fun j c hc => (h3 j c hc).mono M⟩
  · intro i e1 s1 n1 hl
    rw [hget] at hl
    by_cases h : i = t
    · grind
    · rw [if_neg h] at hl
      obtain ⟨a, h1, h2⟩ := hR.tails i e1 s1 n1 hl
      rw [hμ i h, hκ i h]
      exact ⟨a, (hp.lt (heap_lt h1)).trans h1, h2⟩
  · intro i c hl hc
    rw [hget] at hl
    by_cases h : i = t
    · rw [if_pos h] at hl; cases hl; cases hc
    · rw [if_neg h] at hl
      obtain ⟨o, h1, h2⟩ := hR.objs i c hl hc
      rw [hμ i h]
      exact ⟨o, (hp.lt (heap_lt h1)).trans h1, h2.mono M⟩
  · intro i j hi hj he
    by_cases h1 : i = t
    · by_cases h2 : j = t
      · grind
      · rw [h1, hμn, hμ j h2] at he
        have := hR.live_lt (hliv j hj)
        omega
    · by_cases h2 : j = t
      · rw [h2, hμn, hμ i h1] at he
        have := hR.live_lt (hliv i hi)
        omega
      · rw [hμ i h1, hμ j h2] at he
        exact hR.inj i j (hliv i hi) (hliv j hj) he
  · intro c o h
    have h := hfz c o h
    obtain ⟨v, hv⟩ := hR.frz c o h
    exact ⟨v, (M.fz c o h).2.trans hv⟩
  · rintro i ⟨l1, hl⟩ o ho
    rw [hget] at hl
    by_cases h : i = t
    · grind
    · rw [if_neg h] at hl
      rw [hμ i h] at ho
      exact hR.sep i ⟨l1, hl⟩ o (hfz _ _ ho)
  · intro i e1 s1 n1 hl o ho
    rw [hget] at hl
    by_cases h : i = t
    · grind
    · rw [if_neg h] at hl
      rw [hμ i h] at ho
      exact hR.sept i e1 s1 n1 hl o (hfz _ _ ho)
  · intro i e1 s1 l1 z hl
    rw [hget] at hl
    by_cases h : i = t
    · subst h
      rw [if_pos rfl] at hl
      cases hl
      rw [hμn, hκn]
      refine ⟨arr, hp.new, hs, hn, hk, fun j c h => ⟨(hc j c h).1, (hc j c h).2.mono M⟩, by simp, fun _ o ho => ?_⟩
      have := hR.fz_lt (hfz _ _ ho)
      omega
    · rw [if_neg h] at hl
      obtain ⟨a, h1, h2, h3, h4, h5, h6, h7⟩ := hR.ops i e1 s1 l1 z hl
      rw [hμ i h, hκ i h]
      exact ⟨a, (hp.lt (heap_lt h1)).trans h1, h2, h3, h4, fun j c hc => ⟨(h5 j c hc).1, (h5 j c hc).2.mono M⟩, fun hz j hj => .inl (h6 hz j hj), fun hz o ho => h7 hz o (hfz _ _ ho)⟩
def Cx.close (x : Cx) (id : Nat) (e : TypeId) (s : Nat) (l : List DV) : Cx := ⟨x.w, x.μ, x.κ, fun c o => x.Fz c o ∨ (c = x.μ id ∧ o < l.length), x.S.set id (.op e s l true)⟩
theorem mono_close {id : Nat} {e : TypeId} {s : Nat} {l : List DV} (h0 : x.S[id]? = some (.op e s l false)) : Mono x (x.close id e s l) := by
  have hget : ∀ j, (x.close id e s l).S[j]? = if j = id then some (.op e s l true) else x.S[j]? := fun j => set_get h0 _ j
  have hne : ∀ {i c}, x.S[i]? = some c → (∀ e s l z, c ≠ DB.op e s l z) → (x.close id e s l).S[i]? = some c := fun {i c} h hc => by
    rw [hget, if_neg]
    · exact h
    · grind
  refine ⟨Nat.le_refl _, ⟨rfl, rfl⟩, fun c o h => ⟨.inl h, rfl⟩, fun c o h => ?_, fun c hc _ => rfl, by show _ ≤ (x.S.set _ _).length; simp, fun i l hl => ⟨rfl, l, hne hl (by simp)⟩, fun i c hl hc => ⟨rfl, ⟨c, hne hl (by rintro _ _ _ _ rfl; cases hc), like_refl hc⟩, fun _ => rfl⟩, fun i e1 s1 n1 hl => ⟨n1, hne hl (by simp), Nat.le_refl _, fun _ => ⟨rfl, rfl⟩⟩, fun i hi => .inl ⟨?_, rfl⟩, fun i e1 s1 l1 z hl => ?_⟩
  · rcases h with h | ⟨rfl, -⟩
    · grind
    · exact .inr (.inr ⟨id, live_of h0 (by simp), rfl⟩)
  · obtain ⟨c, hc, hcn⟩ := hi
    rw [hget] at hc
    split at hc
    · rename_i e; subst e; exact live_of h0 (by simp)
    · exact ⟨c, hc, hcn⟩
  · by_cases h : i = id
    · subst h
      rw [h0] at hl
      cases hl
      exact ⟨l, true, by rw [hget, if_pos rfl], Nat.le_refl _, by simp, fun _ => ⟨rfl, rfl⟩⟩
    · exact ⟨l1, z, by rw [hget, if_neg h]; exact hl, Nat.le_refl _, fun e => ⟨rfl, e⟩, fun _ => ⟨rfl, rfl⟩⟩
theorem rel_close {id : Nat} {e : TypeId} {s : Nat} {l : List DV} (hR : Rel x) (h0 : x.S[id]? = some (.op e s l false)) : Rel (x.close id e s l) := by
  have M := mono_close (x := x) h0
  have hget : ∀ j, (x.close id e s l).S[j]? = if j = id then some (.op e s l true) else x.S[j]? := fun j => set_get h0 _ j
  have hgo : ∀ {i c}, (x.close id e s l).S[i]? = some c → (∀ e s l z, c ≠ DB.op e s l z) → x.S[i]? = some c ∧ i ≠ id := fun {i c} h hc => by
    rw [hget] at h
    split at h
    · grind
    · grind
  have hliv : ∀ i, Live (x.close id e s l).S i → Live x.S i := fun i hi => by
    obtain ⟨c, hc, hcn⟩ := hi
    rw [hget] at hc
    split at hc
    · rename_i e; subst e; exact live_of h0 (by simp)
    · exact ⟨c, hc, hcn⟩
  obtain ⟨arr, a1, a2, a3, a4, a5, -, -⟩ := hR.ops id e s l false h0
  constructor
  case glob => exact hR.glob.keep M.fz
  · intro i l1 hl
    obtain ⟨hl, -⟩ := hgo hl (by simp)
    obtain ⟨a, e, h1, h2, h3⟩ := hR.cells i l1 hl
    exact ⟨a, e, h1, h2, fun j c hc => (h3 j c hc).mono M⟩
  · intro i e1 s1 n1 hl
    obtain ⟨hl, -⟩ := hgo hl (by simp)
    exact hR.tails i e1 s1 n1 hl
  · intro i c hl hc
    obtain ⟨hl, -⟩ := hgo hl (by rintro _ _ _ _ rfl; cases hc)
    obtain ⟨o, h1, h2⟩ := hR.objs i c hl hc
    exact ⟨o, h1, h2.mono M⟩
  · exact fun i j hi hj he => hR.inj i j (hliv i hi) (hliv j hj) he
  · intro c o h
    rcases h with h | ⟨rfl, h⟩
    · exact hR.frz c o h
    · exact ⟨arr[o]'(by omega), by show x.w.cell? _ = _; simp only [World.cell?, a1]; exact Array.getElem?_eq_getElem _⟩
  · rintro i ⟨l1, hl⟩ o ho
    obtain ⟨hl, hi⟩ := hgo hl (by simp)
    rcases ho with ho | ⟨ho, -⟩
    · exact hR.sep i ⟨l1, hl⟩ o ho
    · exact hi (hR.inj i id (live_of hl (by simp)) (live_of h0 (by simp)) ho)
  · intro i e1 s1 n1 hl o ho
    obtain ⟨hl, hi⟩ := hgo hl (by simp)
    rcases ho with ho | ⟨ho, -⟩
    · exact hR.sept i e1 s1 n1 hl o ho
    · exact (hi (hR.inj i id (live_of hl (by simp)) (live_of h0 (by simp)) ho)).elim
  · intro i e1 s1 l1 z hl
    rw [hget] at hl
    by_cases h : i = id
    · subst h
      rw [if_pos rfl] at hl
      cases hl
      exact ⟨arr, a1, a2, a3, a4, fun j c hc => ⟨(a5 j c hc).1, (a5 j c hc).2.mono M⟩, fun _ j hj => .inr ⟨rfl, hj⟩, by simp⟩
    · rw [if_neg h] at hl
      obtain ⟨a, h1, h2, h3, h4, h5, h6, h7⟩ := hR.ops i e1 s1 l1 z hl
      refine ⟨a, h1, h2, h3, h4, fun j c hc => ⟨(h5 j c hc).1, (h5 j c hc).2.mono M⟩, fun hz j hj => .inl (h6 hz j hj), fun hz o ho => ?_⟩
      rcases ho with ho | ⟨ho, -⟩
      · exact h7 hz o ho
      · exact h (hR.inj i id (live_of hl (by simp)) (live_of h0 (by simp)) ho)
def setObjW (w : World) (r : Nat) (o : Obj) : World := { w with heap := w.heap.setIfInBounds r o }
theorem setObjW_other (w : World) (r : Nat) (o : Obj) {b : Nat} (h : b ≠ r) : (setObjW w r o).heap[b]? = w.heap[b]? := by
  simp [setObjW, Ne.symm h]
theorem setObjW_same (w : World) (r : Nat) (o o0 : Obj) (h : w.heap[r]? = some o0) : (setObjW w r o).heap[r]? = some o := by
  have := heap_lt h
  simp [setObjW, this]
theorem not_cells {b : DB} {o : Obj} (hb : b.isObj = true) (h : ObjOK x b o) : ∀ arr e fr, o ≠ .cells arr e fr := by
  rintro arr e fr rfl
  cases b <;> simp_all [DB.isObj, ObjOK]
theorem Rel.fz_obj (hR : Rel x) {id : Nat} {b : DB} (h0 : x.S[id]? = some b) (hb : b.isObj = true) (o : Nat) : ¬ x.Fz (x.μ id) o := by
  intro hf
  obtain ⟨ob, h1, h2⟩ := hR.objs id b h0 hb
  obtain ⟨v, hv⟩ := hR.frz _ _ hf
  have := not_cells hb h2
  unfold World.cell? at hv
  simp only [h1] at hv
  cases ob <;> first | (exact this _ _ _ rfl) | simp at hv
def Cx.updo (x : Cx) (id : Nat) (o : Obj) (b : DB) : Cx := ⟨setObjW x.w (x.μ id) o, x.μ, x.κ, x.Fz, x.S.set id b⟩
theorem mono_updo {id : Nat} {o : Obj} {b0 b : DB} (hR : Rel x) (h0 : x.S[id]? = some b0) (hl : b0.like b) (hd : b0 ≠ .defer) : Mono x (x.updo id o b) := by
  have hb0 := (like_obj hl).1
  have hget : ∀ j, (x.updo id o b).S[j]? = if j = id then some b else x.S[j]? := fun j => set_get h0 b j
  refine ⟨by show _ ≤ (setObjW _ _ _).heap.size; simp [setObjW], ⟨rfl, rfl⟩, fun c p h => ⟨h, cell_of_block (setObjW_other _ _ _ ?_) p⟩, fun c p h => .inl h, fun c hc hn => setObjW_other _ _ _ fun e => hn id (live_of h0 (obj_live hb0)) e.symm, by show _ ≤ (x.S.set _ _).length; simp, fun i l hl' => ⟨rfl, l, ?_⟩, fun i c hl' hc => ⟨rfl, ?_, fun hd' => ?_⟩, fun t e s n ht => ⟨n, ?_, Nat.le_refl _, fun _ => ⟨rfl, rfl⟩⟩, fun i hi => .inl ⟨?_, rfl⟩, fun t e s l z ht => ⟨l, z, ?_, Nat.le_refl _, fun e => ⟨rfl, e⟩, fun _ => ⟨rfl, rfl⟩⟩⟩
  · rintro rfl
    exact hR.fz_obj h0 hb0 p h
  · rw [hget, if_neg (by rintro rfl; rw [h0] at hl'; cases hl'; cases hb0)]
    exact hl'
  · rw [hget]
    split
    · grind
    · exact ⟨c, hl', like_refl hc⟩
  · subst hd'
    refine setObjW_other _ _ _ fun e => ?_
    have := hR.inj i id (live_of hl' (by simp)) (live_of h0 (obj_live hb0)) e
    subst this
    rw [h0] at hl'
    cases hl'
    exact hd rfl
  · rw [hget, if_neg (by rintro rfl; rw [h0] at ht; cases ht; cases hb0)]
    exact ht
  · obtain ⟨c, hc, hcn⟩ := hi
    rw [hget] at hc
    split at hc
    · rename_i e; subst e; exact live_of h0 (obj_live hb0)
    · exact ⟨c, hc, hcn⟩
  · rw [hget, if_neg (by rintro rfl; rw [h0] at ht; cases ht; cases hb0)]
    exact ht
theorem rel_updo {id : Nat} {o : Obj} {b0 b : DB} (hR : Rel x) (h0 : x.S[id]? = some b0) (hl : b0.like b) (hd : b0 ≠ .defer) (ho : ObjOK (x.updo id o b) b o) : Rel (x.updo id o b) := by
  have M := mono_updo (o := o) hR h0 hl hd
  have hb0 := (like_obj hl).1
  have hb := (like_obj hl).2
  have hget : ∀ j, (x.updo id o b).S[j]? = if j = id then some b else x.S[j]? := fun j => set_get h0 b j
  obtain ⟨ob, hob, -⟩ := hR.objs id b0 h0 hb0
  have hliv : ∀ i, Live (x.updo id o b).S i → Live x.S i := fun i ⟨c, hc, hcn⟩ => by
    rw [hget] at hc
    split at hc
    · rename_i e; subst e; exact live_of h0 (obj_live hb0)
    · exact ⟨c, hc, hcn⟩
  have hoth : ∀ i, i ≠ id → Live x.S i → (setObjW x.w (x.μ id) o).heap[x.μ i]? = x.w.heap[x.μ i]? := fun i hi hli => setObjW_other _ _ _ fun e => hi (hR.inj i id hli (live_of h0 (obj_live hb0)) e)
  constructor
  case glob => exact hR.glob.keep M.fz
  · intro i l hl'
    rw [hget] at hl'
    by_cases h : i = id
    · rw [if_pos h] at hl'; cases hl'; cases hb
    · rw [if_neg h] at hl'
      obtain ⟨a, e, h1, h2, h3⟩ := hR.cells i l hl'
      exact ⟨a, e, (hoth i h (live_of hl' (by simp))).trans h1, h2, fun j c hc => (h3 j c hc).mono M⟩
  · intro i e s n hl'
    rw [hget] at hl'
    by_cases h : i = id
    · rw [if_pos h] at hl'; cases hl'; cases hb
    · rw [if_neg h] at hl'
      obtain ⟨a, h1, h2⟩ := hR.tails i e s n hl'
      exact ⟨a, (hoth i h (live_of hl' (by simp))).trans h1, h2⟩
  · intro i c hl' hc
    rw [hget] at hl'
    by_cases h : i = id
    · subst h
      rw [if_pos rfl] at hl'
      cases hl'
      exact ⟨o, setObjW_same _ _ _ _ hob, ho⟩
    · rw [if_neg h] at hl'
      obtain ⟨o', h1, h2⟩ := hR.objs i c hl' hc
      exact ⟨o', (hoth i h (live_of hl' (obj_live hc))).trans h1, h2.mono M⟩
  · exact fun i j hi hj he => hR.inj i j (hliv i hi) (hliv j hj) he
  · intro c p h
    obtain ⟨v, hv⟩ := hR.frz c p h
    exact ⟨v, (M.fz c p h).2.trans hv⟩
  · rintro i ⟨l, hl'⟩ p hp
    rw [hget] at hl'
    by_cases h : i = id
    · rw [if_pos h] at hl'; cases hl'; cases hb
    · rw [if_neg h] at hl'
      exact hR.sep i ⟨l, hl'⟩ p hp
  · intro i e s n hl' p hp
    rw [hget] at hl'
    by_cases h : i = id
    · rw [if_pos h] at hl'; cases hl'; cases hb
    · rw [if_neg h] at hl'
      exact hR.sept i e s n hl' p hp
  · intro i e s l z hl'
    rw [hget] at hl'
    by_cases h : i = id
    · rw [if_pos h] at hl'; cases hl'; cases hb
    · rw [if_neg h] at hl'
      obtain ⟨a, h1, h2, h3, h4, h5, h6⟩ := hR.ops i e s l z hl'
      exact ⟨a, (hoth i h (live_of hl' (by simp))).trans h1, h2, h3, h4, fun j c hc => ⟨(h5 j c hc).1, (h5 j c hc).2.mono M⟩, h6⟩
theorem run_setObj {r : Nat} {o o0 : Obj} {w : World} (h : w.heap[r]? = some o0) (hn : ∀ arr e fr, o0 ≠ .cells arr e fr) : (setObj r o).run P w = .ok () (setObjW w r o) := by
  simp only [setObj, Sem.run, h]
  cases o0 <;> first | rfl | exact absurd rfl (hn _ _ _)
theorem run_getObj {r : Nat} {o0 : Obj} {w : World} (h : w.heap[r]? = some o0) (hn : ∀ arr e fr, o0 ≠ .cells arr e fr) : (getObj r).run P w = .ok o0 w := by
  unfold getObj Sem.run
  rw [h]
  cases o0 <;> first | rfl | exact absurd rfl (hn _ _ _)
end Go.Di
end
