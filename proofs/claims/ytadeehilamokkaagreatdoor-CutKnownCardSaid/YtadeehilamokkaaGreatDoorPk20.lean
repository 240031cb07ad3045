/- The law CutKnown: part 20: Cd26 Cd19. By an AI agent. -/
import Derived.Test.YtadeehilamokkaaGreatDoorPk18
import Derived.Test.YtadeehilamokkaaGreatDoorPk19
section
namespace Go.Di
open Go Go.Conc Go.Co
variable {P : Program} {Final : Machine → Trace → Prop} {x y : Cx} {i : Nat} {l l0 l' : List DV} {T : Store}
def Cx.only (x : Cx) (i : Nat) (l : List DV) : Cx := { x with μ := fun _ => x.μ i, κ := fun _ => 0, S := [.cells l] }
theorem rvs_strip1 {x y : Cx} (hF : ∀ b o, x.Fz b o → y.Fz b o ∧ y.w.cell? ⟨b, o, none⟩ = x.w.cell? ⟨b, o, none⟩) {l : List DV} {arr : Array Value} (hl : (l.map DV.strip1).all DV.pure1 = true) (h : RVs x l arr) : RVs y (l.map DV.strip1) arr := by
  refine ⟨by simpa using h.1, fun j c hj => ?_⟩
  have hm := List.all_eq_true.1 hl c (List.mem_of_getElem? hj)
  simp only [List.getElem?_map, Option.map_eq_some_iff] at hj
  obtain ⟨c', h2, rfl⟩ := hj
  exact (h.2 j c' h2).strip1.pure1_mono hF hm
theorem rvs_strip {x y : Cx} (hF : ∀ b o, x.Fz b o → y.Fz b o ∧ y.w.cell? ⟨b, o, none⟩ = x.w.cell? ⟨b, o, none⟩) {l : List DV} (hl : (l.map DV.strip).all DV.pure = true) {j : Nat} {c : DV} {v : Value} (hj : (l.map DV.strip)[j]? = some c) (h : ∀ c', l[j]? = some c' → RV x c' v) : RV y c v := by
  have hm := List.all_eq_true.1 hl c (List.mem_of_getElem? hj)
  simp only [List.getElem?_map, Option.map_eq_some_iff] at hj
  obtain ⟨c', h2, rfl⟩ := hj
  exact (h c' h2).strip.pure_mono hF hm
theorem only_get {l : List DV} {k : Nat} {b : DB} (h : ([.cells l] : Store)[k]? = some b) : k = 0 ∧ b = .cells l := by grind
theorem rel_only (hR : Rel x) (hi : x.S[i]? = some (.cells l)) (hl : (l.map DV.strip1).all DV.pure1 = true) : Rel (x.only i (l.map DV.strip1)) := by
  refine ⟨fun id l2 h => ?_, fun id e s n h => ?_, fun id b h hb => ?_, fun j k hj hk _ => ?_, hR.frz, fun id h o hF => ?_, fun id e s n h => ?_, fun id e s l z h => ?_, hR.glob⟩
  · obtain ⟨rfl, h2⟩ := only_get h
    cases h2
    obtain ⟨arr, e, h1, h2, h3⟩ := hR.cells i l hi
    refine ⟨arr, e, h1, ?_⟩
    exact rvs_strip1 (x := x) (y := x.only i (l.map DV.strip1)) (fun b o h => ⟨h, rfl⟩) hl ⟨h2, h3⟩
  · exact nomatch (only_get h).2
  · obtain ⟨-, rfl⟩ := only_get h
    cases hb
  · obtain ⟨b, hb, -⟩ := hj
    obtain ⟨c, hc, -⟩ := hk
    rw [(only_get hb).1, (only_get hc).1]
  · exact hR.sep i ⟨l, hi⟩ o hF
  · exact nomatch (only_get h).2
  · exact nomatch (only_get h).2
def Cx.back (x y : Cx) (i : Nat) (l' : List DV) : Cx := { w := y.w, μ := x.μ, κ := x.κ, Fz := y.Fz, S := x.S.set i (.cells l') }
theorem setk_get {S : Store} {i k : Nat} {b c d : DB} (hi : S[i]? = some d) (h : (S.set i c)[k]? = some b) : (k = i ∧ b = c) ∨ (k ≠ i ∧ S[k]? = some b) := by grind
theorem setk_same {S : Store} {i k : Nat} {c : DB} (h : k ≠ i) : (S.set i c)[k]? = S[k]? := by grind
theorem setk_here {S : Store} {i : Nat} {c d : DB} (hi : S[i]? = some d) : (S.set i c)[i]? = some c := by grind
theorem live_only {k : Nat} (h : Live (x.only i l).S k) : k = 0 := by
  obtain ⟨b, hb, -⟩ := h
  exact (only_get hb).1
theorem old_back (hR : Rel x) (hi : x.S[i]? = some (.cells l)) (M : Mono (x.only i l0) y) {id : Nat} {b : DB} {o : Obj} (hb : x.S[id]? = some b) (hne : b ≠ .none) (hid : id ≠ i) (ho : x.w.heap[x.μ id]? = some o) : y.w.heap[x.μ id]? = x.w.heap[x.μ id]? := by
  refine M.old _ (Array.getElem?_eq_some_iff.1 ho).1 fun k _ he => ?_
  exact hid (hR.inj i id ⟨_, hi, by simp⟩ ⟨b, hb, hne⟩ he).symm
theorem mono_back (hR : Rel x) (hi : x.S[i]? = some (.cells l)) (M : Mono (x.only i l0) y) : Mono x (x.back y i l') where
  size := M.size
  env := M.env
  fz := M.fz
  nfz := fun b o h => (M.nfz b o h).imp id fun h => h.imp id fun ⟨k, _, he⟩ => ⟨i, ⟨_, hi, by simp⟩, he⟩
  old := fun b hb hn => M.old b hb fun k _ he => hn i ⟨_, hi, by simp⟩ he
  len := by simp [Cx.back]
  cells := fun id l2 h => ⟨rfl, by
    by_cases he : id = i
    · subst he; exact ⟨l', setk_here hi⟩
    · exact ⟨l2, (setk_same he).trans h⟩⟩
  objs := fun id b h hb => by
    have he : id ≠ i := by rintro rfl; rw [hi] at h; cases h; cases hb
    obtain ⟨o, ho, -⟩ := hR.objs id b h hb
    exact ⟨rfl, ⟨b, (setk_same he).trans h, like_refl hb⟩, fun _ => old_back hR hi M h (obj_live hb) he ho⟩
  tails := fun t e s n h => by
    have he : t ≠ i := by rintro rfl; rw [hi] at h; cases h
    exact ⟨n, (setk_same he).trans h, Nat.le_refl _, fun _ => ⟨rfl, rfl⟩⟩
  live := fun k ⟨b, hb, hne⟩ => .inl ⟨by
    rcases setk_get hi hb with ⟨rfl, -⟩ | ⟨-, h⟩
    · exact ⟨_, hi, by simp⟩
    · exact ⟨b, h, hne⟩, rfl⟩
  ops := fun t e s l z h => by
    have he : t ≠ i := by rintro rfl; rw [hi] at h; cases h
    exact ⟨l, z, (setk_same he).trans h, Nat.le_refl _, fun e => ⟨rfl, e⟩, fun _ => ⟨rfl, rfl⟩⟩
theorem rel_back (hR : Rel x) (hi : x.S[i]? = some (.cells l)) (hRy : Rel y) (M : Mono (x.only i l0) y) (hy : y.S[0]? = some (.cells l')) (hl' : (l'.map DV.strip1).all DV.pure1 = true) : Rel (x.back y i (l'.map DV.strip1)) := by
  have MB := mono_back (l' := l'.map DV.strip1) hR hi M
  have hμ : y.μ 0 = x.μ i := (M.cells 0 l0 rfl).1
  have hF : ∀ b o, y.Fz b o → x.Fz b o ∨ x.w.heap.size ≤ b ∨ b = x.μ i := fun b o h => (M.nfz b o h).imp id fun h => h.imp id fun ⟨_, _, he⟩ => he.symm
  refine ⟨fun id l2 h => ?_, fun id e s n h => ?_, fun id b h hb => ?_, fun j k hj hk he => ?_, hRy.frz, fun id h o hf => ?_, fun id e s n h o hf => ?_, fun id e s l1 z h => ?_, hRy.glob⟩
  · rcases setk_get hi h with ⟨rfl, h2⟩ | ⟨he, h2⟩
    · cases h2
      obtain ⟨arr, e, h1, h2, h3⟩ := hRy.cells 0 l' hy
      exact ⟨arr, e, by rw [hμ] at h1; exact h1, rvs_strip1 (x := y) (y := x.back y id (l'.map DV.strip1)) (fun b o h => ⟨h, rfl⟩) hl' ⟨h2, h3⟩⟩
    · obtain ⟨arr, e, h1, h3, h4⟩ := hR.cells id l2 h2
      exact ⟨arr, e, (old_back hR hi M h2 (by simp) he h1).trans h1, h3, fun j c hc => (h4 j c hc).mono MB⟩
  · rcases setk_get hi h with ⟨rfl, h2⟩ | ⟨he, h2⟩
    · cases h2
    · obtain ⟨arr, h1, h3⟩ := hR.tails id e s n h2
      exact ⟨arr, (old_back hR hi M h2 (by simp) he h1).trans h1, h3⟩
  · rcases setk_get hi h with ⟨rfl, h2⟩ | ⟨he, h2⟩
    · subst h2; cases hb
    · obtain ⟨o, h1, h3⟩ := hR.objs id b h2 hb
      exact ⟨o, (old_back hR hi M h2 (obj_live hb) he h1).trans h1, h3.mono MB⟩
  · have lv : ∀ {k}, Live (x.back y i (l'.map DV.strip1)).S k → Live x.S k := fun {k} ⟨b, hb, hne⟩ => by
      rcases setk_get hi hb with ⟨rfl, -⟩ | ⟨-, h⟩
      · exact ⟨_, hi, by simp⟩
      · exact ⟨b, h, hne⟩
    exact hR.inj j k (lv hj) (lv hk) he
  · obtain ⟨l2, h⟩ := h
    obtain ⟨l3, h3⟩ : ∃ l3, x.S[id]? = some (.cells l3) := by
      rcases setk_get hi h with ⟨rfl, -⟩ | ⟨-, h2⟩
      · grind
      · grind
    obtain ⟨arr, e, h4, -⟩ := hR.cells id l3 h3
    rcases hF _ _ hf with h5 | h5 | h5
    · exact hR.sep id ⟨l3, h3⟩ o h5
    · have := (Array.getElem?_eq_some_iff.1 h4).1
      change x.w.heap.size ≤ x.μ id at h5
      omega
    · refine hRy.sep 0 ⟨l', hy⟩ o ?_
      rw [hμ, ← h5]
      exact hf
  · rcases setk_get hi h with ⟨rfl, h2⟩ | ⟨he, h2⟩
    · cases h2
    · obtain ⟨arr, h4, -⟩ := hR.tails id e s n h2
      rcases hF _ _ hf with h5 | h5 | h5
      · exact hR.sept id e s n h2 o h5
      · have := (Array.getElem?_eq_some_iff.1 h4).1
        change x.w.heap.size ≤ x.μ id at h5
        omega
      · exact absurd (hR.inj id i ⟨_, h2, by simp⟩ ⟨_, hi, by simp⟩ h5) he
  · rcases setk_get hi h with ⟨rfl, h2⟩ | ⟨he, h2⟩
    · cases h2
    · obtain ⟨arr, h4, h3, h6, h7, h8, h9, h10⟩ := hR.ops id e s l1 z h2
      refine ⟨arr, (old_back hR hi M h2 (by simp) he h4).trans h4, h3, h6, h7, fun j c hc => ⟨(h8 j c hc).1, (h8 j c hc).2.mono MB⟩, fun hz j hj => (M.fz _ _ (h9 hz j hj)).1, fun hz o hf => ?_⟩
      rcases hF _ _ hf with h5 | h5 | h5
      · exact h10 hz o h5
      · have := (Array.getElem?_eq_some_iff.1 h4).1
        change x.w.heap.size ≤ x.μ id at h5
        omega
      · exact absurd (hR.inj id i ⟨_, h2, by simp⟩ ⟨_, hi, by simp⟩ h5) he
theorem enter_only {f : FuncId} {off : Nat} {rest : List DV} {vals : Array Value} {v : DV} (hR : Rel x) (hi : x.S[i]? = some (.cells l)) (hp : (rest.map DV.strip).all DV.pure = true) (ha : RVs x (.ptr i off :: rest) vals)
    (h : RVs (x.only i l0) (.ptr 0 off :: rest.map DV.strip) vals → EnterOK P Final (x.only i l0) f vals fun y u => y.S = .cells l' :: T ∧ Rel y ∧ Mono (x.only i l0) y ∧ RV y v u) (hl' : (l'.map DV.strip1).all DV.pure1 = true) (hv : v.strip.pure = true) :
    EnterOK P Final x f vals fun z u => z.S = x.S.set i (.cells (l'.map DV.strip1)) ∧ Rel z ∧ Mono x z ∧ RV z v.strip u := by
  have ha' : RVs (x.only i l0) (.ptr 0 off :: rest.map DV.strip) vals := by
    refine ⟨by simpa using ha.1, fun j c hc => ?_⟩
    cases j with
    | zero =>
      simp only [List.getElem?_cons_zero, Option.some.injEq] at hc
      subst hc
      have := ha.2 0 _ rfl
      generalize vals.getD 0 undef = u at this
      cases this with
      | ptr _ => exact RV.ptr (x := x.only i l0) (id := 0) (l := l0) rfl
    | succ j =>
      exact rvs_strip (x := x) (y := x.only i l0) (fun b o h => ⟨h, rfl⟩) hp (by simpa using hc) fun c' h1 => ha.2 (j + 1) c' (by simpa using h1)
  obtain ⟨h1, h2⟩ := h ha'
  refine ⟨h1, fun fr cs hn => h2 fr cs fun y u ⟨q1, q2, q3, q4⟩ => ?_⟩
  have hy : y.S[0]? = some (.cells l') := by rw [q1]; rfl
  exact hn (x.back y i (l'.map DV.strip1)) u ⟨rfl, rel_back hR hi q2 q3 hy hl', mono_back hR hi q3, q4.strip.pure_mono (x := y) (y := x.back y i (l'.map DV.strip1)) (fun b o h => ⟨h, rfl⟩) hv⟩
theorem call1_ok {call : CallF} (hc : CallOK P Final call) : CallOK P Final (call1 call) := by
  intro f args S v S' h x vals hR hS ha
  subst hS
  unfold call1 at h
  split at h
  · rename_i i v1 l1 ho
    cases h
    unfold onlyD at ho
    split at ho
    · rename_i i off rest
      split at ho
      · rename_i l hi
        split at ho
        · rename_i hpp
          simp only [Bool.and_eq_true] at hpp
          split at ho
          · rename_i v2 l' T hcall
            split at ho
            · rename_i hq
              simp only [Bool.and_eq_true] at hq
              cases ho
              exact enter_only (l0 := l.map DV.strip1) hR hi hpp.1 ha (fun ha2 => hc _ _ _ _ _ hcall (x.only _ _) vals (rel_only hR hi hpp.2) rfl ha2) hq.2 hq.1
            · cases ho
          · cases ho
        · cases ho
      · cases ho
    · cases ho
  · exact callM_ok hc _ _ _ _ _ h x vals hR rfl ha
def Cx.opn (x y : Cx) (nid t : Nat) (b : DB) (F : Nat → Nat → Prop) : Cx := { w := y.w, μ := fun i => if i = nid then y.μ t else x.μ i, κ := fun i => if i = nid then y.κ t else x.κ i, Fz := F, S := x.S.set nid b }
section
variable {nid t n sz : Nat} {e : TypeId} {rows : List DV} {bl : DB} {F : Nat → Nat → Prop}
theorem opn_new (M : Mono x.bare y) (ht : y.S[t]? = some (.tail e sz n)) : x.w.heap.size ≤ y.μ t := by
  rcases M.live t ⟨_, ht, by simp⟩ with ⟨⟨b, hb, -⟩, -⟩ | h
  · simp [Cx.bare] at hb
  · exact h
theorem opn_old (M : Mono x.bare y) {b : Nat} (hb : b < x.w.heap.size) : y.w.heap[b]? = x.w.heap[b]? := M.old b hb fun i ⟨c, hc, _⟩ => by simp [Cx.bare] at hc
theorem opn_nfz (M : Mono x.bare y) {b o : Nat} (h : y.Fz b o) : x.Fz b o ∨ x.w.heap.size ≤ b := by
  rcases M.nfz b o h with h | h | ⟨i, ⟨c, hc, -⟩, -⟩
  · exact .inl h
  · exact .inr h
  · simp [Cx.bare] at hc
theorem mono_opn (hR : Rel x) (M : Mono x.bare y) (hn : x.S[nid]? = some .none) (ht : y.S[t]? = some (.tail e sz n)) (hF : (∀ b o, F b o → y.Fz b o) ∧ ∀ b o, y.Fz b o → b < x.w.heap.size → F b o) : Mono x (x.opn y nid t bl F) where
  size := M.size
  env := M.env
  fz := fun b o h => by
    obtain ⟨v, hv⟩ := hR.frz b o h
    have h1 := World.block_lt_of_cell? x.w ⟨b, o, none⟩ hv
    exact ⟨hF.2 _ _ (M.fz b o h).1 h1, (M.fz b o h).2⟩
  nfz := fun b o h => (opn_nfz M (hF.1 _ _ h)).imp id .inl
  old := fun b hb _ => opn_old M hb
  len := by simp [Cx.opn]
  cells := fun id l h => by
    have he : id ≠ nid := by rintro rfl; rw [hn] at h; cases h
    exact ⟨if_neg he, l, (setk_same he).trans h⟩
  objs := fun id b h hb => by
    have he : id ≠ nid := by rintro rfl; rw [hn] at h; cases h; cases hb
    obtain ⟨o, ho, -⟩ := hR.objs id b h hb
    exact ⟨if_neg he, ⟨b, (setk_same he).trans h, like_refl hb⟩, fun _ => opn_old M (Array.getElem?_eq_some_iff.1 ho).1⟩
  tails := fun k e s n h => by
    have he : k ≠ nid := by rintro rfl; rw [hn] at h; cases h
    exact ⟨n, (setk_same he).trans h, Nat.le_refl _, fun _ => ⟨if_neg he, if_neg he⟩⟩
  live := fun k ⟨b, hb, hne⟩ => by
    rcases setk_get hn hb with ⟨rfl, -⟩ | ⟨he, h⟩
    · exact .inr (by show _ ≤ (if k = k then _ else _); rw [if_pos rfl]; exact opn_new M ht)
    · exact .inl ⟨⟨b, h, hne⟩, if_neg he⟩
  ops := fun k e s l z h => by
    have he : k ≠ nid := by rintro rfl; rw [hn] at h; cases h
    exact ⟨l, z, (setk_same he).trans h, Nat.le_refl _, fun e => ⟨rfl, e⟩, fun _ => ⟨if_neg he, if_neg he⟩⟩
def NewOK (y : Cx) (t : Nat) (F : Nat → Nat → Prop) : DB → Prop
  | .tail e s m => (∃ arr, y.w.heap[y.μ t]? = some (.cells arr e (0, 0)) ∧ arr.size = y.κ t * s ∧ m ≤ arr.size ∧ y.κ t ≤ maxLen) ∧ ∀ o, F (y.μ t) o → o < m
  | _ => False
theorem rel_opn (hR : Rel x) (M : Mono x.bare y) (hRy : Rel y) (hn : x.S[nid]? = some .none) (ht : y.S[t]? = some (.tail e sz n)) (hF : (∀ b o, F b o → y.Fz b o) ∧ ∀ b o, y.Fz b o → b < x.w.heap.size → F b o) (hnw : NewOK y t F bl) : Rel (x.opn y nid t bl F) := by
  have MB := mono_opn (bl := bl) hR M hn ht hF
  have hnew := opn_new M ht
  have mu : ∀ {id}, id ≠ nid → (x.opn y nid t bl F).μ id = x.μ id := fun he => if_neg he
  have ka : ∀ {id}, id ≠ nid → (x.opn y nid t bl F).κ id = x.κ id := fun he => if_neg he
  have mun : (x.opn y nid t bl F).μ nid = y.μ t := if_pos rfl
  have kan : (x.opn y nid t bl F).κ nid = y.κ t := if_pos rfl
  have hF0 := hF
  have hF : ∀ {b o}, (x.opn y nid t bl F).Fz b o → b < x.w.heap.size → x.Fz b o := fun h hb => (opn_nfz M (hF.1 _ _ h)).elim id fun h => by omega
  have lv : ∀ {k}, Live (x.opn y nid t bl F).S k → k = nid ∨ (k ≠ nid ∧ Live x.S k) := fun {k} ⟨b, hb, hne⟩ => by
    rcases setk_get hn hb with ⟨rfl, -⟩ | ⟨he, h⟩
    · grind
    · exact .inr ⟨he, b, h, hne⟩
  have lt : ∀ {k}, Live x.S k → x.μ k < x.w.heap.size := fun {k} ⟨b, hb, hne⟩ => by
    cases b with
    | none => exact absurd rfl hne
    | cells l => obtain ⟨arr, e, h1, -⟩ := hR.cells k l hb; exact (Array.getElem?_eq_some_iff.1 h1).1
    | tail e s n => obtain ⟨arr, h1, -⟩ := hR.tails k e s n hb; exact (Array.getElem?_eq_some_iff.1 h1).1
    | map es => obtain ⟨o, h1, -⟩ := hR.objs k _ hb rfl; exact (Array.getElem?_eq_some_iff.1 h1).1
    | defer => obtain ⟨o, h1, -⟩ := hR.objs k _ hb rfl; exact (Array.getElem?_eq_some_iff.1 h1).1
    | loop r => obtain ⟨o, h1, -⟩ := hR.objs k _ hb rfl; exact (Array.getElem?_eq_some_iff.1 h1).1
    | op e s l z => obtain ⟨arr, h1, -⟩ := hR.ops k e s l z hb; exact (Array.getElem?_eq_some_iff.1 h1).1
  refine ⟨fun id l h => ?_, fun id e s m h => ?_, fun id b h hb => ?_, fun j k hj hk he => ?_, fun b o h => hRy.frz b o (hF0.1 _ _ h), fun id h o hf => ?_, fun id e s m h o hf => ?_, fun id e1 s l1 z h => ?_, hR.glob.keep MB.fz⟩
  · rcases setk_get hn h with ⟨rfl, h2⟩ | ⟨he, h2⟩
    · subst h2; exact hnw.elim
    · obtain ⟨arr, e1, h3, h4, h5⟩ := hR.cells id l h2
      exact ⟨arr, e1, by rw [mu he]; exact (opn_old M (Array.getElem?_eq_some_iff.1 h3).1).trans h3, h4, fun j c hj => (h5 j c hj).mono MB⟩
  · rcases setk_get hn h with ⟨rfl, h2⟩ | ⟨he, h2⟩
    · subst h2; rw [mun, kan]; exact hnw.1
    · obtain ⟨arr, h3, h4⟩ := hR.tails id e s m h2
      exact ⟨arr, by rw [mu he]; exact (opn_old M (Array.getElem?_eq_some_iff.1 h3).1).trans h3, by rw [ka he]; exact h4⟩
  · rcases setk_get hn h with ⟨rfl, h2⟩ | ⟨he, h2⟩
    · subst h2; cases b <;> first | exact False.elim hnw | cases hb
    · obtain ⟨o, h3, h4⟩ := hR.objs id b h2 hb
      exact ⟨o, by rw [mu he]; exact (opn_old M (Array.getElem?_eq_some_iff.1 h3).1).trans h3, h4.mono MB⟩
  · rcases lv hj with rfl | ⟨hj1, hj2⟩ <;> rcases lv hk with rfl | ⟨hk1, hk2⟩
    · rfl
    · grind
    · grind
    · rw [mu hj1, mu hk1] at he
      exact hR.inj j k hj2 hk2 he
  · obtain ⟨l, h⟩ := h
    rcases setk_get hn h with ⟨rfl, h2⟩ | ⟨he, h2⟩
    · subst h2; exact hnw.elim
    · rw [mu he] at hf
      exact hR.sep id ⟨l, h2⟩ o (hF hf (lt ⟨_, h2, by simp⟩))
  · rcases setk_get hn h with ⟨rfl, h2⟩ | ⟨he, h2⟩
    · subst h2; rw [mun] at hf; exact hnw.2 o hf
    · rw [mu he] at hf
      exact hR.sept id e s m h2 o (hF hf (lt ⟨_, h2, by simp⟩))
  · rcases setk_get hn h with ⟨rfl, h2⟩ | ⟨he, h2⟩
    · subst h2; exact hnw.elim
    · obtain ⟨arr, h3, h4, h5, h6, h7, h8, h9⟩ := hR.ops id e1 s l1 z h2
      have hlt : x.μ id < x.w.heap.size := lt ⟨_, h2, by simp⟩
      refine ⟨arr, by rw [mu he]; exact (opn_old M (Array.getElem?_eq_some_iff.1 h3).1).trans h3, by rw [ka he]; exact h4, h5, by rw [ka he]; exact h6, fun j c hj => ⟨(h7 j c hj).1, (h7 j c hj).2.mono MB⟩, fun hz j hj => by rw [mu he]; exact (MB.fz _ _ (h8 hz j hj)).1, fun hz o hf => ?_⟩
      rw [mu he] at hf
      exact h9 hz o (hF hf hlt)
end
theorem openC_ok {call : CallF} {nid : Nat} (hc : CallOK P Final call) : CallOK P Final (openC call nid) := by
  intro g args S v S' h x vals hR hS ha
  subst hS
  unfold openC at h
  split at h
  · rename_i rows e s hn ho
    cases h
    unfold slcD at ho
    split at ho
    · rename_i hp
      unfold slcR at ho
      split at ho
      · rename_i rs t ff S1 hcall
        split at ho
        · rename_i e1 s1 n ht
          split at ho
          · rename_i hq
            cases ho
            have ha' : RVs x.bare (args.map DV.strip) vals := ⟨by simpa using ha.1, fun j c hj => rvs_strip (x := x) (y := x.bare) (fun b o h => ⟨h, rfl⟩) hp hj fun c' h1 => ha.2 j c' h1⟩
            obtain ⟨h1, h2⟩ := hc _ _ _ _ _ hcall x.bare vals hR.bare rfl ha'
            refine ⟨h1, fun fr cs hx => h2 fr cs fun y u ⟨q1, q2, q3, q4⟩ => ?_⟩
            rw [← q1] at ht
            cases q4 with
            | @sl _ _ _ A cap s' vs hv hr k1 k2 k3 ksp k4 =>
              obtain ⟨e2, s2, n2, t1, t2, t3, t4⟩ := k4 t rfl
              rw [ht] at t1
              cases t1
              have hF : (∀ b o, y.Fz b o → y.Fz b o) ∧ ∀ b o, y.Fz b o → b < x.w.heap.size → y.Fz b o := ⟨fun _ _ h => h, fun _ _ h _ => h⟩
              have hS : (x.opn y nid t (.tail e s (rows.length * s)) y.Fz).S[nid]? = some (.tail e s (rows.length * s)) := setk_here hn
              obtain ⟨z1, z2, z3, z4, z5⟩ := q2.tails t e s n ht
              refine hx (x.opn y nid t (.tail e s (rows.length * s)) y.Fz) _ ⟨rfl, rel_opn hR q3 q2 hn ht hF ⟨⟨z1, z2, z3, by omega, z5⟩, fun o h => by have := q2.sept t e s n ht o h; omega⟩, mono_opn hR q3 hn ht hF, .sl (s := s') (vs := vs) ⟨hv.1, fun j c hj => hv.2 j c hj⟩ (fun j c hj => RV.pure1_mono (x := y) (y := x.opn y nid t (.tail e s (rows.length * s)) y.Fz) (fun b o h => ⟨h, rfl⟩) (hr j c hj) (hv.2 j c hj).1) k1 ⟨by simp, fun b hb => by cases hb⟩ k3 ksp fun k hk => ?_⟩
              cases hk
              refine ⟨e, s, _, hS, Nat.le_refl _, t3, fun _ => ?_⟩
              obtain ⟨hA, hcap⟩ := t4 hq.symm
              exact ⟨by rw [hA]; show _ = some (Addr.mk (if nid = nid then _ else _) _ _); rw [if_pos rfl], by rw [hcap]; show _ = (if nid = nid then _ else _); rw [if_pos rfl]⟩
          · cases ho
        · cases ho
      · grind
      · cases ho
    · cases ho
  · rename_i rows hn ho
    cases h
    rw [set_id hn]
    unfold slcD at ho
    split at ho
    · rename_i hp
      unfold slcR at ho
      split at ho
      · grind
      · rename_i f S1 hcall
        split at ho
        · rename_i hf
          have ha' : RVs x.bare (args.map DV.strip) vals := ⟨by simpa using ha.1, fun j c hj => rvs_strip (x := x) (y := x.bare) (fun b o h => ⟨h, rfl⟩) hp hj fun c' h1 => ha.2 j c' h1⟩
          obtain ⟨h1, h2⟩ := hc _ _ _ _ _ hcall x.bare vals hR.bare rfl ha'
          refine ⟨h1, fun fr cs hx => h2 fr cs fun y u ⟨q1, q2, q3, q4⟩ => hx (x.behind y) _ ⟨rfl, hR.behind q3 q2, mono_behind hR q3, ?_⟩⟩
          cases q4 with
          | @sl _ _ _ A cap s' vs hv hr k1 k2 k3 ksp k4 =>
            exact .sl (s := s') (vs := vs) ⟨hv.1, fun j c hj => (by simp [flat] at hj)⟩ (fun j c hj => (by simp [flat] at hj)) k1 ⟨fun _ => k2.1 hf, fun b hb => (by cases hb)⟩ k3 ksp fun k hk => (by cases hk)
        · cases ho
      · cases ho
    · cases ho
  · cases h
end Go.Di
end
section
namespace Go.Di
open Go Go.Conc Go.Co
open Go.ConcN (upd upd_same upd_ne)
variable {P : Program} {Final : Machine → Trace → Prop} {ty : Tys} {x : Cx} {iso : IsoF} {call : CallF} {yf : YldF}
structure StoIs (ops : Array Oper) (M : Nat → Store) (F : Nat → Foot) (L : Nat → Bool) (S : Store) : Prop where
  get : ∀ id, S[id]? = lastG (fun j => touch F j id) (fun j => (M (j + 1))[id]?) ((M 0)[id]?) L ops.size
  len : S.length = lastG (top F) (fun j => (M (j + 1)).length) (M 0).length L ops.size
theorem dr_agree {ops : Array Oper} {n0 : Nat} {E : Nat → List DV} {V : Nat → DV} {M : Nat → Store} {F : Nat → Foot} (h : RunIs P ty iso call yf ops n0 E V M F) (hord : OrdOk ops) (hmet : ∀ i j, i < ops.size → j < ops.size → i ≠ j → (F i).meets (F j) = true → ((Region.before ops).getD j 0).testBit i = true ∨ ((Region.before ops).getD i 0).testBit j = true)
    {L : Nat → Bool} (hL : Closed ops L) {i : Nat} {o : Oper} (ho : ops[i]? = some o) (hi : L i = false) (hpre : ∀ e ∈ o.after, Region.binds .any e = true → L e.on = true) {T : Store} (hT : StoIs ops M F L T) (hw : wantedD ops (E i) o = true) :
    ∃ T', stepDr P ty iso call yf (evD (E i)) o T (n0 + i) = some (V i, T', F i) ∧ StoIs ops M F (upd L i true) T' := by
  have hio : i < ops.size := (Array.getElem?_eq_some_iff.1 ho).1
  have hs := h.yes i o ho hw
  have iff1 : ∀ j, j < ops.size → j ≠ i → (F i).meets (F j) = true → (L j = true ↔ j < i) := fun j hj hne hm => ord_iff hord hL ho hi hpre (Ne.symm hne) (hmet i j hio hj (Ne.symm hne) hm)
  have up1 : ∀ j, j < ops.size → (j ≠ i → (F i).meets (F j) = true) → (upd L i true j = true ↔ j < i + 1) := by
    intro j hj hm
    by_cases hji : j = i
    · subst hji; simp [upd_same]
    · rw [upd_ne _ _ hji, iff1 j hj hji (hm hji)]; omega
  have at1 : ∀ id, (∀ j, j < ops.size → j ≠ i → touch F j id = true → (F i).meets (F j) = true) → T[id]? = (M i)[id]? := by
    intro id hm
    rw [hT.get id, (run_store h id i (by omega)).1]
    refine lastG_congr (by omega) fun j hj ht => ?_
    by_cases hji : j = i
    · grind
    · grind
  have len1 : (∀ j, j < ops.size → j ≠ i → top F j = true → (F i).meets (F j) = true) → T.length = (M i).length := by
    intro hm
    rw [hT.len, (run_store h 0 i (by omega)).2]
    refine lastG_congr (by omega) fun j hj ht => ?_
    by_cases hji : j = i
    · grind
    · grind
  have tch : ∀ j id, touch F j id = true → (F j).wr = true ∧ ((F j).ids = none ∨ ∃ l, (F j).ids = some l ∧ id ∈ l) := by
    intro j id ht
    unfold touch at ht
    simp only [Bool.and_eq_true] at ht
    refine ⟨ht.1, ?_⟩
    cases hids : (F j).ids with
    | none => exact .inl rfl
    | some l => rw [hids] at ht; exact .inr ⟨l, rfl, by simpa using ht.2⟩
  have tp : ∀ j, top F j = true → (F j).wr = true ∧ (F j).ids = none := by
    intro j ht
    unfold top at ht
    simpa using ht
  cases hids : (F i).ids with
  | none =>
    have hwr := dr_top hs hids
    have hall : ∀ j id, touch F j id = true → (F i).meets (F j) = true := by
      intro j id ht
      obtain ⟨h1, h2⟩ := tch j id ht
      unfold Foot.meets
      rw [hwr, hids]
      rcases h2 with h2 | ⟨l, h2, h3⟩
      · simp [h2]
      · grind
    have hTM : T = M i := List.ext_getElem? fun id => at1 id fun j _ _ ht => hall j id ht
    subst hTM
    refine ⟨M (i + 1), hs, ⟨fun id => ?_, ?_⟩⟩
    · have ht : touch F i id = true := by simp [touch, hwr, hids]
      rw [lastG_congr (i := i + 1) (by omega) fun j hj htj => up1 j hj fun _ => hall j id htj, lastG_last (W := fun j => touch F j id) ht]
    · have ht : top F i = true := by simp [top, hwr, hids]
      rw [lastG_congr (i := i + 1) (by omega) fun j hj htj => up1 j hj fun _ => by
        obtain ⟨h1, h2⟩ := tp j htj
        simp [Foot.meets, hwr, hids, h2], lastG_last (W := top F) ht]
  | some l =>
    obtain ⟨A, w⟩ := dr_eff hs hids
    have hme : ∀ j id, id ∈ l → touch F j id = true → (F i).meets (F j) = true := by
      intro j id hid ht
      obtain ⟨h1, h2⟩ := tch j id ht
      unfold Foot.meets
      rw [h1, hids]
      rcases h2 with h2 | ⟨l', h2, h3⟩
      · simp [h2]
        exact List.ne_nil_of_mem hid
      · simp [h2]
        exact ⟨id, hid, h3⟩
    have hlen : l ≠ [] → T.length = (M i).length := fun hne => len1 fun j hj hji ht => by
      obtain ⟨h1, h2⟩ := tp j ht
      simp [Foot.meets, h1, hids, h2, hne]
    have hrun := w.loc T hlen fun id hid => at1 id fun j _ _ ht => hme j id hid ht
    refine ⟨A T, hrun, ⟨fun id => ?_, ?_⟩⟩
    · cases ht : touch F i id with
      | true =>
        obtain ⟨h1, h2⟩ := tch i id ht
        have hid : id ∈ l := by
          rcases h2 with h2 | ⟨l', h2, h3⟩
          · rw [hids] at h2; cases h2
          · rw [hids] at h2; cases h2; exact h3
        rw [lastG_congr (i := i + 1) (by omega) fun j hj htj => up1 j hj fun _ => hme j id hid htj, lastG_last (W := fun j => touch F j id) ht, w.res]
        exact w.inn T id hid (hlen (List.ne_nil_of_mem hid)) (at1 id fun j _ _ htj => hme j id hid htj)
      | false =>
        rw [lastG_other (W := fun j => touch F j id) ht, ← hT.get id]
        exact w.out T id hlen fun ⟨q2, q1⟩ => by simp [touch, q2, hids, q1] at ht
    · have ht : top F i = false := by simp [top, hids]
      rw [lastG_other (W := top F) ht, w.len]
      exact hT.len
def Cx.pad (x : Cx) (n : Nat) : Cx := { x with S := x.S ++ List.replicate n .none }
theorem pad_get {S : Store} {n id : Nat} {b : DB} (h : (S ++ List.replicate n DB.none)[id]? = some b) (hb : b ≠ .none) : S[id]? = some b := by grind
theorem pad_get' {S : Store} {n id : Nat} {b : DB} (h : S[id]? = some b) : (S ++ List.replicate n DB.none)[id]? = some b := by grind
theorem mono_pad (x : Cx) (n : Nat) : Mono x (x.pad n) :=
  ⟨Nat.le_refl _, ⟨rfl, rfl⟩, fun _ _ h => ⟨h, rfl⟩, fun _ _ h => .inl h, fun _ _ _ => rfl, by simp [Cx.pad], fun _ l h => ⟨rfl, l, pad_get' h⟩, fun _ b h hb => ⟨rfl, ⟨b, pad_get' h, like_refl hb⟩, fun _ => rfl⟩, fun _ _ _ n h => ⟨n, pad_get' h, Nat.le_refl _, fun _ => ⟨rfl, rfl⟩⟩, fun _ ⟨b, h, hb⟩ => .inl ⟨⟨b, pad_get h hb, hb⟩, rfl⟩, fun _ _ _ l z h => ⟨l, z, pad_get' h, Nat.le_refl _, fun e => ⟨rfl, e⟩, fun _ => ⟨rfl, rfl⟩⟩⟩
theorem rel_pad (hR : Rel x) (n : Nat) : Rel (x.pad n) where
  cells := fun id l hl => by
    obtain ⟨arr, e, h1, h2, h3⟩ := hR.cells id l (pad_get hl (by simp))
    exact ⟨arr, e, h1, h2, fun j c hc => (h3 j c hc).mono (mono_pad x n)⟩
  tails := fun id e s m hl => hR.tails id e s m (pad_get hl (by simp))
  objs := fun id b hl hb => by
    obtain ⟨o, h1, h2⟩ := hR.objs id b (pad_get hl (obj_live hb)) hb
    exact ⟨o, h1, h2.mono (mono_pad x n)⟩
  inj := fun i j ⟨b, h, hb⟩ ⟨c, k, kb⟩ he => hR.inj i j ⟨b, pad_get h hb, hb⟩ ⟨c, pad_get k kb, kb⟩ he
  frz := hR.frz
  glob := hR.glob
  sep := fun id ⟨l, hl⟩ => hR.sep id ⟨l, pad_get hl (by simp)⟩
  sept := fun id e s m hl => hR.sept id e s m (pad_get hl (by simp))
  ops := fun id e s l z hl => by
    obtain ⟨arr, h1, h2, h3, h4, h5, h6⟩ := hR.ops id e s l z (pad_get hl (by simp))
    exact ⟨arr, h1, h2, h3, h4, fun j c hc => ⟨(h5 j c hc).1, (h5 j c hc).2.mono (mono_pad x n)⟩, h6⟩
theorem regionW_ok (hP : Plain P) (hty : TyOk P ty) (hc : CallOK P Final call) (hi : IsoOK P Final iso) (hyl : YldOK P Final yf) {ops : Array Oper} {b : Frame} {k : List Item} {cs : List Frame} (hk : b.kind ≠ .early) (hdr : drawOk ops (Region.before ops) = true)
    {env env' : List DV} {S' : Store} {fs : List Foot} {n0 : Nat} {a : Act} (h : runDr P ty iso call yf ops n0 ops.toList 0 env x.S = some (env', S', fs)) (hmt : metOk (Region.before ops) fs = true) (hR : Rel x) (he : RVs x env a.tmps)
    (hn : ∀ y a', y.S = S' → Rel y → Mono x y → RVs y env' a'.tmps → a'.defers = a.defers → KMu P Final () (G (b.atR a' k) cs) y.w) (t : Nat) : KMu P Final () (G (b.atR a (.inRegion ops (Region.linearise .any ops t) :: k)) cs) x.w := by
  have hord := ordOk_of hdr
  obtain ⟨E, V, M, F, hrun, e1, e2, e3, e4, e5⟩ := run_is h
  have hmet : ∀ i j, i < ops.size → j < ops.size → i ≠ j → (F i).meets (F j) = true → ((Region.before ops).getD j 0).testBit i = true ∨ ((Region.before ops).getD i 0).testBit j = true := fun i j hi hj hne hm => met_of hmt (e5 i hi) (e5 j hj) hne hm
  have hnone : ∀ {α : Type} (W : Nat → Bool) (R : Nat → α) (d : α) n, lastG W R d (fun _ => false) n = d := by
    intro α W R d n
    induction n with
    | zero => rfl
    | succ n ih => unfold lastG; simp [ih]
  refine linearise_ind hord (σ := Act × Cx) (fun todo s => Rel s.2 → Mono x s.2 → s.1.defers = a.defers → KMu P Final () (G (b.atR s.1 (.inRegion ops todo :: k)) cs) s.2.w)
    (fun L s => StoIs ops M F L s.2.S ∧ ∃ env1, RVs s.2 env1 s.1.tmps ∧ EnvIs ops V L ops.size (E 0) env1) ?_ ?_ t (a, x) ⟨⟨fun id => by rw [hnone, e3], by rw [hnone, e3]⟩, env, he, fun t => ?_⟩ hR (Mono.refl x) rfl
  · rintro L ⟨a1, y⟩ i o ⟨hSt, env1, hr1, hE1⟩ hcl ho hLi hpre rest hrest hRy hMy hdf
    simp only at hr1 hRy hMy hdf hSt ⊢
    obtain ⟨q1, q2⟩ := names_agree hord hdr hrun.env hcl hE1 ho hLi hpre
    have hw := wanted_agree q1
    have hwe := wanted_ok hr1 ops o
    have hE2 := envIs_put (V := V) ho hE1 q2
    by_cases hwt : wantedD ops (E i) o = true
    · obtain ⟨T', hT1, hT2⟩ := dr_agree hrun hord hmet hcl ho hLi hpre hSt hwt
      rw [← stepDr_congr (evD_agree q1)] at hT1
      obtain ⟨nid', cl, hcl, hnid, hstep⟩ := dr_step hT1
      have hcc : CallOK P Final cl := by
        rcases hcl with rfl | rfl
        · exact call1_ok hc
        · exact openC_ok hc
      refine mu_op hP hty hcc hi hyl hk ho (by rw [hwe, hw]; exact hwt) hRy hnid hr1 hstep fun z u zS zR zM zV => ?_
      have hput := put_ok (hr1.mono zM) (dst := o.dst) zV
      exact hrest (a1.put o.dst u, z) ⟨by rw [zS]; exact hT2, _, hput.1, hE2⟩ zR (hMy.trans zM) (hput.2.trans hdf)
    · have hwf : wantedD ops (E i) o = false := by simpa using hwt
      obtain ⟨hv, hM, hF⟩ := hrun.no i o ho hwf
      have hput := put_ok hr1 (dst := o.dst) (d := V i) (v := undef) (by rw [hv]; exact .val rfl)
      have hSt2 : StoIs ops M F (upd L i true) y.S := by
        refine ⟨fun id => ?_, ?_⟩
        · rw [lastG_other (W := fun j => touch F j id) (by simp [touch, hF])]; exact hSt.get id
        · rw [lastG_other (W := top F) (by simp [top, hF])]; exact hSt.len
      exact mu_ctl hP (fun w => ⟨_, rG_unwanted ho (by rw [hwe, hw]; exact hwf)⟩) (hrest (a1.put o.dst undef, y) ⟨hSt2, _, hput.1, hE2⟩ hRy hMy (hput.2.trans hdf))
  · rintro L ⟨a1, y⟩ ⟨hSt, env1, hr1, hE1⟩ hall hRy hMy hdf
    have henv : env1 = env' := by
      refine List.ext_getElem? fun t => ?_
      rw [hE1 t, ← e2, seq_env hrun.env ops.size (Nat.le_refl _) t]
      congr 1
      funext d
      rw [lastV_congr (i := ops.size) (Nat.le_refl _) fun j hj _ => by simp [hall j hj, hj]]
    have hsto : y.S = S' := by
      refine List.ext_getElem? fun id => ?_
      have := hSt.get id
      simp only at this
      rw [this, ← e4, (run_store hrun id ops.size (Nat.le_refl _)).1]
      exact lastG_congr (Nat.le_refl _) fun j hj _ => by simp [hall j hj, hj]
    subst henv
    exact mu_ctl hP (fun w => ⟨_, rG_end_region⟩) (hn y a1 hsto hRy hMy hr1 hdf)
  · rw [e1]
    have : ∀ n, lastV ops V (fun _ => false) t n = none := by
      intro n
      induction n with
      | zero => rfl
      | succ n ih => unfold lastV; simp [ih]
    rw [this]
    simp
theorem reg_ok (hP : Plain P) (hm : P.follows .mixedOrders = true) (hty : TyOk P ty) (hc : CallOK P Final call) (hi : IsoOK P Final iso) (hyl : YldOK P Final yf) (id : Nat) (ops : Array Oper) (draw : Bool) : RegOK P Final ty iso call yf id ops draw := by
  cases draw with
  | false => exact reg_plain hP hty hc hi hyl id ops
  | true =>
    intro env env' S' x0 a b k cs h hk hR he hn
    obtain ⟨x, env, ew, h, hR, M0, he⟩ : ∃ x env1, x.w = x0.w ∧ regionD0 P ty iso call yf ops true env1 x.S = some (env', S') ∧ Rel x ∧ Mono x0 x ∧ RVs x env1 a.tmps := by
      unfold regionD at h
      split at h
      · obtain ⟨y, y1, y2, y3, y4, y5⟩ := shut_ok hR he
        exact ⟨y, _, y1, by rw [y2]; exact h, y3, y4, y5⟩
      · exact ⟨x0, env, rfl, h, hR, Mono.refl _, he⟩
    rw [← ew]
    replace hn := fun y a' (q1 : y.S = S') q2 (q3 : Mono x y) q4 q5 => hn y a' q1 q2 (M0.trans q3) q4 q5
    simp only [regionD0, if_true] at h
    split at h
    · cases h
    · rename_i hd
      have hdr : drawOk ops (Region.before ops) = true := by simpa using hd
      refine mu_step hP fun n => ?_
      refine ⟨_, _, _, _, rG_regionD hm, ?_⟩
      split at h
      · rename_i env1 h1
        cases h
        split at h1
        · cases h1
        exact regionQ_ok (x := x.dr _) hP hty hc hi hyl hk hdr h1 (hR.dr _) (he.mono (mono_dr x _)) (fun y a' q1 q2 q3 q4 q5 => hn y a' q1 q2 ((mono_dr x _).trans q3) q4 q5) _
      · split at h
        · rename_i env1 S1 fs h1
          split at h
          · rename_i hmt
            cases h
            have M1 := (mono_dr x ((x.w.at n).drawn + 1)).trans (mono_pad _ ops.size)
            exact regionW_ok (x := (x.dr ((x.w.at n).drawn + 1)).pad ops.size) hP hty hc hi hyl hk hdr h1 hmt (rel_pad (hR.dr _) _) (he.mono M1) (fun y a' q1 q2 q3 q4 q5 => hn y a' q1 q2 (M1.trans q3) q4 q5) _
          · cases h
        · cases h
def TabOK (P : Program) (Final : Machine → Trace → Prop) (tab : IsoF) : Prop :=
  ∀ f args v, tab f args = some v → args.all DV.pure = true → v.pure = true → ∀ x vals, Rel x → RVs x args vals → EnterOK P Final x f vals fun y u => y.S = x.S ∧ Rel y ∧ Mono x y ∧ RV y v u
theorem iso_ok {tab : IsoF} (ht : TabOK P Final tab) (hc : CallOK P Final call) : IsoOK P Final (isoOf tab call) := by
  intro f args v h hp
  unfold isoOf at h
  split at h
  · rename_i v' h1
    split at h
    · rename_i hv
      cases h
      exact ⟨hv, ht f args v h1 hp hv⟩
    · cases h
  · split at h
    · rename_i v' S' h1
      split at h
      · rename_i hv
        cases h
        refine ⟨hv, fun x vals hR ha => ?_⟩
        have ha' : RVs x.bare args vals := ⟨ha.1, fun j c hj => (ha.2 j c hj).pure_mono (x := x) (y := x.bare) (fun b o h => ⟨h, rfl⟩) (List.all_eq_true.1 hp c (List.mem_of_getElem? hj))⟩
        obtain ⟨h2, h3⟩ := hc f args [] v' S' h1 x.bare vals hR.bare rfl ha'
        refine ⟨h2, fun fr cs hn => h3 fr cs fun y0 u ⟨p1, p2, p3, p4⟩ => ?_⟩
        obtain ⟨y, r1, r2, q2, r4⟩ := frzV_ok p2 v'
        have q3 := p3.trans r4
        have q4 : RV y (lookD (frzV S' v') v') u := by
          rw [← p1, ← r2]
          exact lookD_ok q2 (p4.mono r4)
        have hb := hR.behind q3 q2
        rw [← r1]
        exact hn (x.behind y) u ⟨rfl, hb, mono_behind hR q3, q4.strip.pure_mono (x := y) (y := x.behind y) (fun b o h => ⟨h, rfl⟩) hv⟩
      · cases h
    · cases h
theorem deepP_ok (hP : Plain P) (hm : P.follows .mixedOrders = true) (hty : TyOk P ty) {tab : IsoF} (ht : TabOK P Final tab) {L : Nat} : ∀ n, CallOK P Final (deepP P ty tab L n).1 ∧ YldOK P Final (deepP P ty tab L n).2
  | 0 => ⟨fun f args S v S' h => by simp [deepP] at h, fun id args S v S' h => by simp [deepP] at h⟩
  | n + 1 => by
    obtain ⟨ihc, ihy⟩ := deepP_ok hP hm hty ht (L := L) n
    have hi := iso_ok ht ihc
    have hreg : ∀ id ops draw, RegOK P Final ty (isoOf tab (deepP P ty tab L n).1) (deepP P ty tab L n).1 (deepP P ty tab L n).2 id ops draw := fun id ops draw => reg_ok hP hm hty ihc hi ihy id ops draw
    refine ⟨fun f args S v S' h x vals hR hS ha => ?_, roundD_ok hP ihc hreg⟩
    simp only [deepP] at h
    split at h
    · rename_i fn hf
      exact bodyD_ok hP hty ihc hreg hf h hR hS ha
    · cases h
end Go.Di
end
