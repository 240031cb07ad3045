/- The law CutKnown: part 3: Cd5 Cd6. By an AI agent. -/
import Derived.Test.YtadeehilamokkaaGreatDoorPk02
section
namespace Go.Di
open Go
variable {P : Program} {ty : Tys} {x : Cx} {w' : World}
theorem infoU_spec {t : TypeId} {i : TypeInfo} (h : infoU P t = some i) : P.info? t = some i ∧ ∃ d, P.underlying t = some d := by
  unfold infoU at h
  split at h
  · grind
  · cases h
theorem tyOf_info {t : TypeId} {k : TK} {sz : Nat} {z : Option (List DV)} (h : tyOf P t = some ⟨k, sz, z⟩) : tkOf P t = some k ∧ ∃ i, P.info? t = some i ∧ i.size = sz ∧ zeroOf i = z := by
  unfold tyOf at h
  split at h
  · grind
  · cases h
theorem zeroOf_spec {i : TypeInfo} {cs : List DV} (h : zeroOf i = some cs) : ∃ z, i.zero = some z ∧ ofCells z.cells.toList = some cs ∧ cs.length = i.size := by
  unfold zeroOf at h
  split at h
  · grind
  · cases h
theorem tk_slice {t : TypeId} {e s b : Nat} {agg : Bool} (h : tkOf P t = some (.slice e s b agg)) : P.underlying t = some (.slice e) ∧ ∃ i, P.info? e = some i ∧ i.size = s ∧ i.bytes = b ∧ aggOf P e = agg := by
  unfold tkOf at h
  split at h
  · simp only [Option.map_eq_some_iff] at h; obtain ⟨_, _, h⟩ := h; cases h
  · simp only [Option.map_eq_some_iff] at h; obtain ⟨_, _, h⟩ := h; cases h
  · rename_i e' he
    simp only [Option.map_eq_some_iff] at h
    obtain ⟨i, h1, h⟩ := h
    cases h
    exact ⟨he, i, (infoU_spec h1).1, rfl, rfl, rfl⟩
  · cases h
  · cases h
theorem tk_array {t : TypeId} {n s : Nat} {agg : Bool} (h : tkOf P t = some (.array n s agg)) : ∃ e, P.underlying t = some (.array n e) ∧ ∃ i, P.info? e = some i ∧ i.size = s ∧ aggOf P e = agg ∧ ∃ d0, P.underlying e = some d0 := by
  unfold tkOf at h
  split at h
  · simp only [Option.map_eq_some_iff] at h; obtain ⟨_, _, h⟩ := h; cases h
  · rename_i m e' he
    simp only [Option.map_eq_some_iff] at h
    obtain ⟨i, h1, h⟩ := h
    cases h
    exact ⟨e', he, i, (infoU_spec h1).1, rfl, rfl, (infoU_spec h1).2⟩
  · simp only [Option.map_eq_some_iff] at h; obtain ⟨_, _, h⟩ := h; cases h
  · cases h
  · cases h
def FieldOk (P : Program) (f : Field) (r : Nat × Nat × Bool) : Prop := f.offset = r.1 ∧ ∃ i, P.info? f.type = some i ∧ i.size = r.2.1 ∧ aggOf P f.type = r.2.2 ∧ ∃ d0, P.underlying f.type = some d0
theorem mapM_fields : ∀ {l : List Field} {fs : List (Nat × Nat × Bool)}, (l.mapM fun f => (infoU P f.type).map fun i => (f.offset, i.size, aggOf P f.type)) = some fs → l.length = fs.length ∧ ∀ (j : Nat) (r : Nat × Nat × Bool), fs[j]? = some r → ∃ f, l[j]? = some f ∧ FieldOk P f r
  | [], fs, h => by grind
  | f :: l, fs, h => by
    simp only [List.mapM_cons, Option.bind_eq_bind, Option.bind_eq_some_iff, Option.map_eq_some_iff, Option.pure_def, Option.some.injEq] at h
    obtain ⟨r, ⟨i, h1, rfl⟩, fs', h2, rfl⟩ := h
    obtain ⟨h3, h4⟩ := mapM_fields h2
    refine ⟨by simp [h3], fun j r hr => ?_⟩
    cases j with
    | zero => simp only [List.getElem?_cons_zero, Option.some.injEq] at hr; subst hr; exact ⟨f, rfl, rfl, i, (infoU_spec h1).1, rfl, rfl, (infoU_spec h1).2⟩
    | succ j => simpa using h4 j r (by simpa using hr)
theorem tk_struct {t : TypeId} {fs : List (Nat × Nat × Bool)} (h : tkOf P t = some (.struct fs)) : ∃ fields : Array Field, P.underlying t = some (.struct fields) ∧ fields.size = fs.length ∧ ∀ (j : Nat) (r : Nat × Nat × Bool), fs[j]? = some r → ∃ f, fields[j]? = some f ∧ FieldOk P f r := by
  unfold tkOf at h
  split at h
  · rename_i fields he
    simp only [Option.map_eq_some_iff] at h
    obtain ⟨fs', h1, h⟩ := h
    cases h
    obtain ⟨h2, h3⟩ := mapM_fields h1
    exact ⟨fields, he, by simpa using h2, fun j r hr => by simpa using h3 j r hr⟩
  · simp only [Option.map_eq_some_iff] at h; obtain ⟨_, _, h⟩ := h; cases h
  · simp only [Option.map_eq_some_iff] at h; obtain ⟨_, _, h⟩ := h; cases h
  · cases h
  · cases h
theorem tk_agg {t : TypeId} {k : TK} (h : tkOf P t = some k) : k.isAgg = aggOf P t ∧ ∃ d, P.underlying t = some d := by
  unfold tkOf at h
  unfold aggOf
  split at h
  · rename_i fields he
    simp only [Option.map_eq_some_iff] at h; obtain ⟨_, _, rfl⟩ := h; rw [he]; exact ⟨rfl, _, rfl⟩
  · rename_i n e he
    simp only [Option.map_eq_some_iff] at h; obtain ⟨_, _, rfl⟩ := h; rw [he]; exact ⟨rfl, _, rfl⟩
  · rename_i e he
    simp only [Option.map_eq_some_iff] at h; obtain ⟨_, _, rfl⟩ := h; rw [he]; exact ⟨rfl, _, rfl⟩
  · rename_i d h1 h2 h3 he
    cases h
    rw [he]
    refine ⟨?_, _, rfl⟩
    cases d with
    | struct fs => exact (h1 fs rfl).elim
    | array n e => exact (h2 n e rfl).elim
    | _ => rfl
  · cases h
theorem run_isAgg {t : TypeId} {d : TypeDesc} (h : P.underlying t = some d) (w : World) : (isAgg t).run P w = .ok (aggOf P t) w := by
  unfold isAgg aggOf
  simp only [Sem.run_bind, run_underlying h, Result.andThen_ok, h]
  cases d <;> rfl
theorem run_sizeOf {t : TypeId} {i : TypeInfo} (h : P.info? t = some i) (w : World) : (sizeOf t).run P w = .ok i.size w := by
  simp [sizeOf, typeInfo, h]
theorem rvs_agg {l : List DV} {v : Value} (h : RV x (.agg l) v) : ∃ vs, v = .agg vs ∧ RVs x l vs := by cases h with | agg h hl => exact ⟨_, rfl, h, hl⟩
theorem flat_get {s : Nat} : ∀ {rows : List DV}, (∀ r ∈ rows, r.cells.length = s) → ∀ {i : Nat} {r : DV}, rows[i]? = some r → ∀ {j : Nat}, j < s → (flat rows)[i * s + j]? = r.cells[j]?
  | [], _, i, r, h, _, _ => by simp at h
  | r0 :: rows, hs, i, r, h, j, hj => by
    have h0 : r0.cells.length = s := hs r0 (by simp)
    simp only [flat, List.flatMap_cons]
    cases i with
    | zero => grind
    | succ i =>
      have he : (i + 1) * s + j = s + (i * s + j) := by rw [Nat.succ_mul]; omega
      rw [he, List.getElem?_append_right (by omega), h0, Nat.add_sub_cancel_left]
      exact flat_get (rows := rows) (fun r hr => hs r (by simp [hr])) (by simpa using h) hj
theorem flat_len {s : Nat} : ∀ {rows : List DV}, (∀ r ∈ rows, r.cells.length = s) → (flat rows).length = rows.length * s
  | [], _ => by simp [flat]
  | r :: rows, h => by
    have := flat_len (rows := rows) fun r hr => h r (by simp [hr])
    have h0 := h r (by simp)
    simp only [flat] at this
    simp only [flat, List.flatMap_cons, List.length_append, this, h0, List.length_cons, Nat.succ_mul]
    omega
theorem addr_add (b o n : Nat) : (⟨b, o, none⟩ : Addr).add n = ⟨b, o + n, none⟩ := by unfold Addr.add; split <;> simp_all
theorem cutR_spec {l cs : List DV} {off n : Nat} (h : cutR l off n = some cs) : cs.length = n ∧ off + n ≤ l.length ∧ ∀ j, j < n → cs[j]? = l[off + j]? := by
  unfold cutR at h
  split at h
  · grind
  · cases h
theorem load_part {t : TypeId} {i : TypeInfo} {d0 : TypeDesc} {b o off size : Nat} {agg : Bool} {l : List DV} {d : DV} (hi : P.info? t = some i) (hu : P.underlying t = some d0) (hs : i.size = size) (ha : aggOf P t = agg)
    (hc : ∀ j c, l[j]? = some c → ∃ v, x.w.cell? ⟨b, o + j, none⟩ = some v ∧ RV x c v) (h : partD agg size l off = some d) : ∃ v, (loadVar t ⟨b, o + off, none⟩).run P x.w = .ok v x.w ∧ RV x d v := by
  unfold partD at h
  subst ha
  cases hag : aggOf P t with
  | true =>
    rw [hag, if_pos rfl, Option.map_eq_some_iff] at h
    obtain ⟨cs, h1, rfl⟩ := h
    obtain ⟨h2, h3, h4⟩ := cutR_spec h1
    have hf : ∀ j, j < size → ∃ v, x.w.cell? ⟨b, o + off + j, none⟩ = some v ∧ ∀ c, cs[j]? = some c → RV x c v := by grind
    let f : Nat → Value := fun j => if hj : j < size then (hf j hj).choose else undef
    have hf1 : ∀ j, j < size → x.w.cell? ⟨b, o + off + j, none⟩ = some (f j) := fun j hj => by
      simp only [f, dif_pos hj]; exact (hf j hj).choose_spec.1
    have hf2 : ∀ j, j < size → ∀ c, cs[j]? = some c → RV x c (f j) := fun j hj => by
      simp only [f, dif_pos hj]; exact (hf j hj).choose_spec.2
    refine ⟨.agg ((List.range size).map f).toArray, ?_, .agg (by simp [h2]) fun j c hcs => ?_⟩
    · unfold loadVar
      simp only [Sem.run_bind, run_isAgg hu, hag, Result.andThen_ok, if_true, run_sizeOf hi, hs]
      rw [run_loadCells (P := P) x.w ⟨b, o + off, none⟩ size f fun j hj => by rw [addr_add]; exact hf1 j hj]
      rfl
    · have hj : j < size := by have := (List.getElem?_eq_some_iff.1 hcs).1; omega
      have := hf2 j hj c hcs
      simpa [Array.getD_eq_getD_getElem?, hj] using this
  | false =>
    rw [hag] at h
    simp only [Bool.false_eq_true, if_false] at h
    obtain ⟨v, k1, k2⟩ := hc off d h
    refine ⟨v, ?_, k2⟩
    unfold loadVar
    simp only [Sem.run_bind, run_isAgg hu, hag, Result.andThen_ok, Bool.false_eq_true, if_false, run_load, k1]
theorem part_ok {t : TypeId} {i : TypeInfo} {d0 : TypeDesc} {off size : Nat} {agg : Bool} {l : List DV} {arr : Array Value} {d : DV} (hi : P.info? t = some i) (hu : P.underlying t = some d0) (hs : i.size = size) (ha : aggOf P t = agg)
    (hc : RVs x l arr) (h : partD agg size l off = some d) (w : World) : ∃ v, (part t arr off).run P w = .ok v w ∧ RV x d v := by
  unfold partD at h
  subst ha
  cases hag : aggOf P t with
  | true =>
    rw [hag, if_pos rfl, Option.map_eq_some_iff] at h
    obtain ⟨cs, h1, rfl⟩ := h
    obtain ⟨h2, h3, h4⟩ := cutR_spec h1
    refine ⟨.agg (arr.extract off (off + size)), ?_, .agg (by simp [h2, hc.1]; omega) fun j c hcs => ?_⟩
    · unfold part
      simp only [Sem.run_bind, run_isAgg hu, hag, Result.andThen_ok, if_true, run_sizeOf hi, hs]
      rfl
    · have hj : j < size := by have := (List.getElem?_eq_some_iff.1 hcs).1; omega
      rw [h4 j hj] at hcs
      have := hc.2 _ _ hcs
      have hlt : off + j < arr.size := by rw [hc.1]; omega
      simp only [Array.getD_eq_getD_getElem?, Array.getElem?_extract] at this ⊢
      rw [if_pos (by omega)]
      exact this
  | false =>
    rw [hag] at h
    simp only [Bool.false_eq_true, if_false] at h
    have hlt : off < arr.size := by rw [hc.1]; exact (List.getElem?_eq_some_iff.1 h).1
    refine ⟨arr[off], ?_, by simpa [Array.getD_eq_getD_getElem?, hlt] using hc.2 _ _ h⟩
    unfold part
    simp only [Sem.run_bind, run_isAgg hu, hag, Result.andThen_ok, Bool.false_eq_true, if_false, Array.getElem?_eq_getElem hlt, Sem.run_pure]
theorem one_cell {d : DV} {v : Value} (h : RV x d v) (h1 : d.one = true) : v.oneCell' = true ∧ d.cells = [d] ∧ v.cells = #[v] := by
  cases h with
  | @val v h =>
    cases v with
    | tuple vs => simp [DV.one] at h1
    | agg vs => simp [plainV] at h
    | _ => exact ⟨rfl, rfl, rfl⟩
  | agg h hl => simp [DV.one] at h1
  | tup h hl => simp [DV.one] at h1
  | sl hv hr h1 h2 h3 hsp h4 => exact ⟨rfl, rfl, rfl⟩
  | ptr h => exact ⟨rfl, rfl, rfl⟩
  | eptr hv hr => exact ⟨rfl, rfl, rfl⟩
  | fn h1 h2 h3 h4 => exact ⟨rfl, rfl, rfl⟩
  | map h => exact ⟨rfl, rfl, rfl⟩
  | yld h => exact ⟨rfl, rfl, rfl⟩
  | slo h h1 h2 => exact ⟨rfl, rfl, rfl⟩
  | optr h h1 h2 => exact ⟨rfl, rfl, rfl⟩
theorem rv_cells {d : DV} {v : Value} (h : RV x d v) : RVs x d.cells v.cells := by
  have key : d.cells = [d] → v.cells = #[v] → RVs x d.cells v.cells := fun h1 h2 => by
    rw [h1, h2]
    refine ⟨rfl, fun j c hc => ?_⟩
    cases j with
    | zero => simp only [List.getElem?_cons_zero, Option.some.injEq] at hc; subst hc; exact h
    | succ j => simp at hc
  cases h with
  | agg h hl => exact ⟨h, hl⟩
  | @val v h =>
    cases v with
    | agg vs => simp [plainV] at h
    | _ => exact key rfl rfl
  | _ => exact key rfl rfl
theorem cells_one {d : DV} {v : Value} (h : RV x d v) (h1 : d.cells.all DV.one = true) : ∀ u ∈ v.cells.toList, u.oneCell' = true := by
  intro u hu
  have hc := rv_cells h
  obtain ⟨j, hj, rfl⟩ := List.mem_iff_getElem.1 hu
  have hj' : j < d.cells.length := by rw [← hc.1]; simpa using hj
  have h2 := hc.2 j d.cells[j] (List.getElem?_eq_getElem hj')
  have h3 : d.cells[j].one = true := List.all_eq_true.1 h1 _ (List.getElem_mem hj')
  have h4 := (one_cell h2 h3).1
  have hj2 : j < v.cells.size := by simpa using hj
  simpa [Array.getD_eq_getD_getElem?, hj2] using h4
theorem putR_spec {l cs l' : List DV} {off : Nat} (h : putR l off cs = some l') : off + cs.length ≤ l.length ∧ l' = l.take off ++ cs ++ l.drop (off + cs.length) := by
  unfold putR at h
  split at h
  · grind
  · cases h
theorem pre_put {l cs : List DV} {arr vs : Array Value} {off : Nat} (hle : l.length ≤ arr.size) (ha : ∀ j c, l[j]? = some c → RV x c (arr.getD j undef)) (hv : RVs x cs vs) (h1 : off ≤ l.length) (h2 : off + cs.length ≤ arr.size) :
    ∀ j c, (l.take off ++ cs ++ l.drop (off + cs.length))[j]? = some c → RV x c ((arr.toList.take off ++ vs.toList ++ arr.toList.drop (off + vs.size)).toArray.getD j undef) := by
  intro j c hc
  have e2 := hv.1
  simp only [Array.getD_eq_getD_getElem?, List.getElem?_toArray]
  by_cases c1 : j < off
  · rw [List.append_assoc, List.getElem?_append_left (by simp; omega), List.getElem?_take, if_pos c1] at hc ⊢
    have := ha j c hc
    simpa [Array.getD_eq_getD_getElem?] using this
  · by_cases c2 : j < off + cs.length
    · rw [List.getElem?_append_left (by simp; omega), List.getElem?_append_right (by simp; omega)] at hc ⊢
      have e3 : (l.take off).length = off := by simp; omega
      have e4 : (arr.toList.take off).length = off := by simp; omega
      rw [e3] at hc
      rw [e4]
      have := hv.2 _ _ hc
      simpa [Array.getD_eq_getD_getElem?] using this
    · have e3 : (l.take off ++ cs).length = off + cs.length := by simp; omega
      have e4 : (arr.toList.take off ++ vs.toList).length = off + cs.length := by simp; omega
      rw [List.getElem?_append_right (by omega), e3, List.getElem?_drop] at hc
      rw [List.getElem?_append_right (by omega), e4, List.getElem?_drop]
      have e5 : off + vs.size + (j - (off + cs.length)) = off + cs.length + (j - (off + cs.length)) := by omega
      rw [e5]
      have := ha _ c hc
      simpa [Array.getD_eq_getD_getElem?] using this
theorem rvs_put {l cs l' : List DV} {arr vs : Array Value} {off : Nat} (hl : RVs x l arr) (hv : RVs x cs vs) (h : putR l off cs = some l') : RVs x l' (arr.toList.take off ++ vs.toList ++ arr.toList.drop (off + vs.size)).toArray := by
  obtain ⟨h1, rfl⟩ := putR_spec h
  have e1 := hl.1
  have e2 := hv.1
  exact ⟨by simp; omega, pre_put (by omega) hl.2 hv (by omega) (by omega)⟩
theorem opD_spec {S : Store} {id n e s : Nat} {l : List DV} {z : Bool} (h : opD S id n = some (e, s, l, z)) : S[id]? = some (.op e s l z) ∧ n * s = l.length := by
  unfold opD at h
  split at h
  · grind
  · cases h
theorem pure1_one {c : DV} (h : c.pure1 = true) : c.one = true := by cases c <;> simp_all [DV.pure1, DV.one]
end Go.Di
end
section
namespace Go.Di
open Go
variable {P : Program} {ty : Tys} {x : Cx} {w' : World} {iso : IsoF} {call : CallF}
def Yields (x : Cx) (r : Result Next) (d : DV) (S' : Store) : Prop := ∃ v y, (r = .ok (.value v) y.w ∨ (r = .ok .skip y.w ∧ v = undef)) ∧ y.S = S' ∧ Rel y ∧ Mono x y ∧ RV y d v
theorem yields_v {s : Sem Value} {d : DV} {S' : Store} {v : Value} {y : Cx} (h : s.run P x.w = .ok v y.w) (h1 : y.S = S') (h2 : Rel y) (h3 : Mono x y) (h4 : RV y d v) : Yields x ((do pure (.value (← s)) : Sem Next).run P x.w) d S' :=
  ⟨v, y, .inl (by simp [h]), h1, h2, h3, h4⟩
theorem yields_here {s : Sem Value} {d : DV} {v : Value} (hR : Rel x) (h : s.run P x.w = .ok v x.w) (h4 : RV x d v) : Yields x ((do pure (.value (← s)) : Sem Next).run P x.w) d x.S := yields_v h rfl hR (Mono.refl x) h4
theorem yields_u {s : Sem Unit} {S' : Store} {y : Cx} (h : s.run P x.w = .ok () y.w) (h1 : y.S = S') (h2 : Rel y) (h3 : Mono x y) : Yields x ((do s; pure .skip : Sem Next).run P x.w) dundef S' :=
  ⟨undef, y, .inr ⟨by simp [h], rfl⟩, h1, h2, h3, .val rfl⟩
theorem pureD_run {s : Sem Value} {d : DV} (h : pureD P s = some d) (w : World) : ∃ v, s.run P w = .ok v w ∧ RV x d v := by
  unfold pureD at h
  simp only [Option.bind_eq_some_iff] at h
  obtain ⟨v, h1, h2⟩ := h
  exact ⟨v, pureS_run h1 w, rv_ofVal h2⟩
def TyOk (P : Program) (ty : Tys) : Prop := ∀ t d, ty t = some d → tyOf P t = some d
variable {ρd : Operand → Option DV} {ρ : Operand → Value} {o : Oper} {nid : Nat}
def Opds (x : Cx) (ρd : Operand → Option DV) (ρ : Operand → Value) : Prop := ∀ a d, ρd a = some d → RV x d (ρ a)
theorem valOf_ok (hρ : Opds x ρd ρ) {a : Operand} {v : Value} (h : valOf ρd a = some v) : ρ a = v := by
  unfold valOf at h
  simp only [Option.bind_eq_some_iff] at h
  obtain ⟨d, h1, h2⟩ := h
  exact rv_toVal (hρ a d h1) h2
theorem intOf_ok (hρ : Opds x ρd ρ) {a : Operand} {n : Int} (h : intOf ρd a = some n) : ∃ k, ρ a = .int k n := by
  unfold intOf at h
  split at h
  · rename_i k m h1
    cases h
    exact ⟨k, rv_val (hρ a _ h1)⟩
  · cases h
theorem evs_ok (hρ : Opds x ρd ρ) : ∀ {l : List Operand} {r : List DV}, evs ρd l = some r → RVs x r (l.map ρ).toArray
  | [], r, h => by simp only [evs, Option.some.injEq] at h; subst h; exact ⟨rfl, by simp⟩
  | a :: l, r, h => by
    unfold evs at h
    split at h
    · rename_i d r' h1 h2
      cases h
      obtain ⟨h3, h4⟩ := evs_ok hρ h2
      refine ⟨by simpa using h3, fun j c hc => ?_⟩
      cases j with
      | zero => simp only [List.getElem?_cons_zero, Option.some.injEq] at hc; subst hc; exact hρ a _ h1
      | succ j => simpa [Array.getD_eq_getD_getElem?] using h4 j c (by simpa using hc)
    · cases h
theorem op_alloc (hty : TyOk P ty) (hR : Rel x) (hn : Nid x.S nid) {e : TypeId} {k : TK} {sz : Nat} {z : List DV} (h : ty e = some ⟨k, sz, some z⟩) :
    Yields x ((do pure (.value (← Instr.alloc e true (.tuple #[]))) : Sem Next).run P x.w) (.ptr nid 0) (setS x.S nid (.cells z)) := by
  obtain ⟨-, i, hi, -, hz⟩ := tyOf_info (hty e _ h)
  obtain ⟨zv, h1, h2, -⟩ := zeroOf_spec hz
  obtain ⟨h3, h4⟩ := rv_ofCells (x := x) h2
  have hp : Push x.w (x.w.alloc (.cells zv.cells e)) (.cells zv.cells e (0, 0)) := push_alloc _ _
  have hR' := rel_fresh (k := 0) (F := fun _ => False) (b := .cells z) hR hn hp (by simp) (.inl ⟨z, zv.cells, e, rfl, rfl, by simpa using h3, by simp, fun j c hc => by simpa [Array.getD_eq_getD_getElem?, List.getD_eq_getElem?_getD] using h4 j c hc⟩)
  refine yields_v (y := x.fresh _ nid 0 (fun _ => False) (.cells z)) (v := .pointer (some ⟨x.w.heap.size, 0, none⟩)) ?_ rfl hR' (mono_fresh hR hn hp) ?_
  · simp [Instr.alloc, zeroValue, typeInfo, hi, h1, newVar, newRow, Cx.fresh]
  · have : (x.fresh (x.w.alloc (.cells zv.cells e)) nid 0 (fun _ => False) (.cells z)).μ nid = x.w.heap.size := if_pos rfl
    rw [← this]
    exact .ptr (l := z) (by show (setS _ _ _)[_]? = _; rw [setS_get hn.le, if_pos rfl])
theorem op_box (hR : Rel x) (hn : Nid x.S nid) {e : TypeId} {d : DV} {v : Value} (h : RV x d v) :
    Yields x ((do pure (.value (← Instr.box e v)) : Sem Next).run P x.w) (.ptr nid 0) (setS x.S nid (.cells d.cells)) := by
  obtain ⟨h3, h4⟩ := rv_cells h
  have hp : Push x.w (x.w.alloc (.cells v.cells e)) (.cells v.cells e (0, 0)) := push_alloc _ _
  have hR' := rel_fresh (k := 0) (F := fun _ => False) (b := .cells d.cells) hR hn hp (by simp) (.inl ⟨d.cells, v.cells, e, rfl, rfl, h3, by simp, h4⟩)
  refine yields_v (y := x.fresh _ nid 0 (fun _ => False) (.cells d.cells)) (v := .pointer (some ⟨x.w.heap.size, 0, none⟩)) ?_ rfl hR' (mono_fresh hR hn hp) ?_
  · simp [Instr.box, newVar, newRow, Cx.fresh]
  · have : (x.fresh (x.w.alloc (.cells v.cells e)) nid 0 (fun _ => False) (.cells d.cells)).μ nid = x.w.heap.size := if_pos rfl
    rw [← this]
    exact .ptr (l := d.cells) (by show (setS _ _ _)[_]? = _; rw [setS_get hn.le, if_pos rfl])
theorem view_cell {rows : List DV} {b o s : Nat} {vs : Nat → Value} (hv : View x rows (some ⟨b, o, none⟩) s vs) (hr : ∀ j c, (flat rows)[j]? = some c → RV x c (vs j)) {i : Nat} {r : DV} (h : rows[i]? = some r) :
    ∀ j c, r.cells[j]? = some c → ∃ v, x.w.cell? ⟨b, o + i * s + j, none⟩ = some v ∧ RV x c v := by
  intro j c hc
  have hj : j < s := by rw [← hv.1 r (List.mem_of_getElem? h)]; exact (List.getElem?_eq_some_iff.1 hc).1
  have hf := flat_get hv.1 h hj
  rw [hc] at hf
  obtain ⟨-, b', o', h1, -, h2⟩ := hv.2 _ _ hf
  cases h1
  exact ⟨_, by rw [Nat.add_assoc]; exact h2, hr _ _ hf⟩
theorem loadD_ok (hty : TyOk P ty) (hR : Rel x) {t : TypeId} {a d : DV} {va : Value} (ha : RV x a va) (h : loadD ty x.S t a = some d) : ∃ v, (Instr.loadAt t va).run P x.w = .ok v x.w ∧ RV x d v := by
  unfold loadD at h
  split at h
  · rename_i td id off hk
    obtain ⟨k, sz, z⟩ := td
    obtain ⟨hk1, i, hi, hs, -⟩ := tyOf_info (hty t _ hk)
    obtain ⟨hag, d0, hu⟩ := tk_agg hk1
    split at h
    · rename_i l hl
      obtain ⟨arr, e, h1, h2, h3⟩ := hR.cells id l hl
      cases ha with
      | ptr _ =>
        have := load_part (x := x) (b := x.μ id) (o := 0) (l := l) hi hu hs hag.symm (fun j c hc => ?_) h
        · obtain ⟨v, h4, h5⟩ := this
          refine ⟨v, ?_, h5⟩
          simpa [Instr.loadAt, Instr.sureAddr] using h4
        · have hj : j < arr.size := by rw [h2]; exact (List.getElem?_eq_some_iff.1 hc).1
          refine ⟨arr[j], ?_, by simpa [Array.getD_eq_getD_getElem?, hj] using h3 j c hc⟩
          simp [World.cell?, h1, hj]
    · cases h
  · rename_i td rows i off hk
    obtain ⟨k, sz, z⟩ := td
    obtain ⟨hk1, inf, hi, hs, -⟩ := tyOf_info (hty t _ hk)
    obtain ⟨hag, d0, hu⟩ := tk_agg hk1
    split at h
    · rename_i r hr
      cases ha with
      | @eptr _ _ _ b o s vs hv hrv =>
        obtain ⟨v, h4, h5⟩ := load_part (x := x) (b := b) (o := o + i * s) (l := r.cells) hi hu hs hag.symm (view_cell hv hrv hr) h
        refine ⟨v, ?_, h5⟩
        rw [Nat.add_assoc] at h4
        simpa [Instr.loadAt, Instr.sureAddr] using h4
    · cases h
  · rename_i td id n off hk
    obtain ⟨k, sz, z⟩ := td
    obtain ⟨hk1, i, hi, hs, -⟩ := tyOf_info (hty t _ hk)
    obtain ⟨hag, d0, hu⟩ := tk_agg hk1
    split at h
    · rename_i e s l zz hop
      obtain ⟨hS, hns⟩ := opD_spec hop
      obtain ⟨arr, h1, -, h2, -, h3, -⟩ := hR.ops id e s l zz hS
      cases ha with
      | optr hS' hn' hA =>
        rw [hS] at hS'
        cases hS'
        rw [hA hns]
        obtain ⟨v, h4, h5⟩ := load_part (x := x) (b := x.μ id) (o := 0) (l := l) hi hu hs hag.symm (fun j c hc => by
          have hj : j < arr.size := Nat.lt_of_lt_of_le (List.getElem?_eq_some_iff.1 hc).1 h2
          refine ⟨arr[j], ?_, by simpa [Array.getD_eq_getD_getElem?, hj] using (h3 j c hc).2⟩
          simp [World.cell?, h1, hj]) h
        exact ⟨v, by simpa [Instr.loadAt, Instr.sureAddr] using h4, h5⟩
    · cases h
  · cases h
theorem storeD_ok (hty : TyOk P ty) (hR : Rel x) {t : TypeId} {a d : DV} {va vd : Value} {S' : Store} (ha : RV x a va) (hd : RV x d vd) (h : storeD ty x.S t a d = some S') :
    ∃ y, (Instr.storeAt t va vd).run P x.w = .ok () y.w ∧ y.S = S' ∧ Rel y ∧ Mono x y := by
  unfold storeD at h
  split at h
  · rename_i td id off hk
    obtain ⟨k, sz, z⟩ := td
    obtain ⟨hk1, i, hi, hs, -⟩ := tyOf_info (hty t _ hk)
    split at h
    · rename_i l hl
      split at h
      · rename_i hc
        simp only [Bool.and_eq_true, decide_eq_true_eq] at hc
        simp only [Option.map_eq_some_iff] at h
        obtain ⟨l', h6, rfl⟩ := h
        obtain ⟨arr, e, h1, h2, h3⟩ := hR.cells id l hl
        have hcells := rv_cells hd
        cases ha with
        | ptr _ =>
          have hp := rvs_put ⟨h2, h3⟩ hcells h6
          obtain ⟨h7, h8⟩ := putR_spec h6
          refine ⟨x.upd id (arr.toList.take off ++ vd.cells.toList ++ arr.toList.drop (off + vd.cells.size)).toArray (fun _ => False) (.cells l'), ?_, rfl, rel_upd hR hl (.inl ⟨l, l', rfl, rfl, by simp, hp.1, hp.2⟩), mono_upd hR hl (.inl ⟨l, l', rfl, rfl⟩)⟩
          have hst := run_storeCells_at P (x.μ id) off e vd.cells.toList 0 arr x.w h1 (by simp only [Nat.add_zero, Array.length_toList]; rw [hcells.1, h2]; exact h7) (cells_one hd hc.2)
          simp only [Nat.add_zero, Array.length_toList] at hst
          have hsz : ¬ (vd.cells.size ≠ i.size) := by rw [hcells.1, hc.1, hs]; simp
          simp only [Instr.storeAt, Instr.sureAddr, Sem.run_bind, Sem.run_pure, Result.andThen_ok, storeVar, run_sizeOf hi, if_neg hsz]
          exact hst
      · cases h
    · cases h
  · rename_i td id n off hk
    obtain ⟨k, sz, z⟩ := td
    obtain ⟨hk1, i, hi, hs, -⟩ := tyOf_info (hty t _ hk)
    split at h
    · rename_i e s l hop
      obtain ⟨hS, hns⟩ := opD_spec hop
      split at h
      · rename_i hc
        simp only [Bool.and_eq_true, decide_eq_true_eq] at hc
        simp only [Option.map_eq_some_iff] at h
        obtain ⟨l', h6, rfl⟩ := h
        obtain ⟨arr, h1, h0, h2, hκ, h3, -, -⟩ := hR.ops id e s l false hS
        have hd' := hd.strip
        have hcells := rv_cells hd'
        cases ha with
        | optr hS' hn' hA =>
          rw [hS] at hS'
          cases hS'
          rw [hA hns]
          obtain ⟨h7, h8⟩ := putR_spec h6
          have hp := pre_put (off := off) h2 (fun j c hc => (h3 j c hc).2) hcells (by omega) (by omega)
          rw [← h8] at hp
          have hpu : ∀ c ∈ l', c.pure1 = true := fun c hm => by
            rw [h8] at hm
            rcases List.mem_append.1 hm with hm | hm
            · rcases List.mem_append.1 hm with hm | hm
              · obtain ⟨j, hj⟩ := List.mem_iff_getElem?.1 (List.mem_of_mem_take hm)
                exact (h3 j c hj).1
              · grind
            · obtain ⟨j, hj⟩ := List.mem_iff_getElem?.1 (List.mem_of_mem_drop hm)
              exact (h3 j c hj).1
          have hll : l'.length = l.length := by rw [h8]; simp; omega
          have hsz2 : (arr.toList.take off ++ vd.cells.toList ++ arr.toList.drop (off + vd.cells.size)).toArray.size = arr.size := by
            have := hcells.1
            simp
            omega
          refine ⟨x.upd id (arr.toList.take off ++ vd.cells.toList ++ arr.toList.drop (off + vd.cells.size)).toArray (fun _ => False) (.op e s l' false), ?_, rfl, rel_upd hR hS (.inr (.inr ⟨e, s, l, l', rfl, rfl, by omega, by simp, by rw [hsz2]; exact h0, by rw [hsz2]; omega, fun j c hj => ⟨hpu c (List.mem_of_getElem? hj), hp j c hj⟩⟩)), mono_upd hR hS (.inr (.inr ⟨e, s, l, l', rfl, rfl, by omega⟩))⟩
          have hst := run_storeCells_at P (x.μ id) off e vd.cells.toList 0 arr x.w h1 (by simp only [Nat.add_zero, Array.length_toList]; rw [hcells.1]; omega) (cells_one hd' (List.all_eq_true.2 fun c hm => pure1_one (List.all_eq_true.1 hc.2 c hm)))
          simp only [Nat.add_zero, Array.length_toList] at hst
          have hsz : ¬ (vd.cells.size ≠ i.size) := by rw [hcells.1, hc.1, hs]; simp
          simp only [Instr.storeAt, Instr.sureAddr, Sem.run_bind, Sem.run_pure, Result.andThen_ok, storeVar, run_sizeOf hi, if_neg hsz]
          exact hst
      · cases h
    · cases h
  · cases h
end Go.Di
end
