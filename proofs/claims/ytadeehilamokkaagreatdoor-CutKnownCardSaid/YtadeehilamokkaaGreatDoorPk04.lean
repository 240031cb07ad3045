/- The law CutKnown: part 4: Cd7. By an AI agent. -/
import Derived.Test.YtadeehilamokkaaGreatDoorPk03
import Derived.Lib.ConvBytes
import Derived.Laws.AppendOwn
section
namespace Go.Di
open Go
variable {P : Program} {ty : Tys} {x : Cx} {w' : World} {ρd : Operand → Option DV} {ρ : Operand → Value} {o : Oper} {nid : Nat}
theorem foldl_set_get (off : Nat) : ∀ (cs : List Value) (i : Nat) (arr : Array Value), off + i + cs.length ≤ arr.size →
    ((cs.zipIdx i).foldl (fun a (p : Value × Nat) => a.setIfInBounds (off + p.2) p.1) arr) = (arr.toList.take (off + i) ++ cs ++ arr.toList.drop (off + i + cs.length)).toArray
  | [], i, arr, _ => by simp
  | c :: cs, i, arr, h => by
    simp only [List.length_cons] at h
    simp only [List.zipIdx_cons, List.foldl_cons]
    rw [foldl_set_get off cs (i + 1) _ (by simp; omega)]
    have e := list_seg_step arr.toList (off + i) c cs (by simp; omega)
    congr 1
    simpa [Array.toList_setIfInBounds, Nat.add_assoc] using e
theorem fold_eq (off : Nat) (cs arr : Array Value) (h : off + cs.size ≤ arr.size) :
    cs.zipIdx.foldl (fun a (p : Value × Nat) => a.setIfInBounds (off + p.2) p.1) arr = (arr.toList.take off ++ cs.toList ++ arr.toList.drop (off + cs.size)).toArray := by
  have := foldl_set_get off cs.toList 0 arr (by simpa using h)
  rw [← Array.foldl_toList]
  simpa using this
def Prts (x : Cx) (r : List (Nat × DV)) (vs : List (Nat × Value)) : Prop := vs.length = r.length ∧ ∀ (j : Nat) (p : Nat × DV), r[j]? = some p → ∃ v, vs[j]? = some (p.1, v) ∧ RV x p.2 v
def vparts (ρ : Operand → Value) (l : List (Nat × Operand)) : List (Nat × Value) := l.map fun p => (p.1, ρ p.2)
theorem partsD_ok (hρ : Opds x ρd ρ) : ∀ {l : List (Nat × Operand)} {r : List (Nat × DV)}, partsD ρd l = some r → Prts x r (vparts ρ l)
  | [], r, h => by simp only [partsD, Option.some.injEq] at h; subst h; exact ⟨rfl, by simp⟩
  | (i, a) :: l, r, h => by
    unfold partsD at h
    split at h
    · rename_i d r' h1 h2
      cases h
      obtain ⟨h3, h4⟩ := partsD_ok hρ h2
      refine ⟨by simpa [vparts] using h3, fun j p hp => ?_⟩
      cases j with
      | zero => simp only [List.getElem?_cons_zero, Option.some.injEq] at hp; subst hp; exact ⟨ρ a, rfl, hρ a d h1⟩
      | succ j => simpa [vparts] using h4 j p (by simpa using hp)
    · cases h
theorem fill_ok {pd pl : Nat → Option (Nat × Nat)} (hpl : ∀ i p, pd i = some p → pl i = some p) : ∀ {r : List (Nat × DV)} {vs : List (Nat × Value)} {l l' : List DV} {arr : Array Value}, Prts x r vs → RVs x l arr → fillD pd l r = some l' → ∃ arr', Instr.fill pl arr vs = some arr' ∧ RVs x l' arr'
  | [], vs, l, l', arr, hv, hl, h => by
    have : vs = [] := List.eq_nil_of_length_eq_zero (by simpa using hv.1)
    subst this
    simp only [fillD, Option.some.injEq] at h
    subst h
    exact ⟨arr, rfl, hl⟩
  | (i, d) :: r, vs, l, l', arr, hv, hl, h => by
    obtain ⟨v, hv0, hd⟩ := hv.2 0 (i, d) rfl
    have hd : RV x d v := hd
    cases vs with
    | nil => simp at hv0
    | cons v0 vs =>
      simp only [List.getElem?_cons_zero, Option.some.injEq] at hv0
      subst hv0
      unfold fillD at h
      split at h
      · cases h
      · rename_i off size hp
        split at h
        · rename_i hsz
          split at h
          · rename_i l1 h1
            have hc := rv_cells hd
            obtain ⟨h2, h3⟩ := putR_spec h1
            have hpu := rvs_put hl hc h1
            obtain ⟨arr', h4, h5⟩ := fill_ok hpl (r := r) (vs := vs) ⟨by simpa using hv.1, fun j p hj => by simpa using hv.2 (j + 1) p (by simpa using hj)⟩ hpu h
            refine ⟨arr', ?_, h5⟩
            unfold Instr.fill
            simp only [hpl i _ hp]
            have c1 : v.cells.size = size := by rw [hc.1, ← hsz]
            have c2 : ¬ (v.cells.size ≠ size ∨ off + v.cells.size > arr.size) := by rw [hl.1, hc.1]; omega
            simp only [gt_iff_lt, Bool.or_eq_true, decide_eq_true_eq, c2, if_false]
            rw [fold_eq off v.cells arr (by rw [hl.1, hc.1]; exact h2)]
            exact h4
          · cases h
        · cases h
theorem op_build_struct (hty : TyOk P ty) (hR : Rel x) (hρ : Opds x ρd ρ) {t : TypeId} {fs : List (Nat × Nat × Bool)} {sz : Nat} {z cs : List DV} {ps : Array (Nat × Operand)} {l : List (Nat × DV)} (h : ty t = some ⟨.struct fs, sz, some z⟩) (hl : partsD ρd ps.toList = some l)
    (hf : fillD (fun i => (fs[i]?).map fun f => (f.1, f.2.1)) z l = some cs) : Yields x ((do pure (.value (← Instr.build t (ps.map fun p => (p.1, ρ p.2)))) : Sem Next).run P x.w) (.agg cs) x.S := by
  obtain ⟨hk, i, hi, -, hz⟩ := tyOf_info (hty t _ h)
  obtain ⟨fields, hu, hfs, hff⟩ := tk_struct hk
  obtain ⟨zv, h1, h2, -⟩ := zeroOf_spec hz
  obtain ⟨h3, h4⟩ := rv_ofCells (x := x) h2
  have hz' : RVs x z zv.cells := ⟨by simpa using h3, fun j c hc => by simpa [Array.getD_eq_getD_getElem?, List.getD_eq_getElem?_getD] using h4 j c hc⟩
  have hpl : ∀ w : World, (fields.mapM (fun f => do pure (f.offset, ← sizeOf f.type) : Field → Sem (Nat × Nat))).run P w = .ok ((fs.map fun f => (f.1, f.2.1)).toArray) w := by
    intro w
    have key : ∀ (l : List Field) (fs : List (Nat × Nat × Bool)), l.length = fs.length → (∀ (j : Nat) (r : Nat × Nat × Bool), fs[j]? = some r → ∃ f, l[j]? = some f ∧ FieldOk P f r) → (l.mapM (fun f => do pure (f.offset, ← sizeOf f.type) : Field → Sem (Nat × Nat))).run P w = .ok (fs.map fun f => (f.1, f.2.1)) w := by
      intro l
      induction l with
      | nil => intro fs h _; have : fs = [] := List.eq_nil_of_length_eq_zero (by simpa using h.symm); subst this; rfl
      | cons f l ih =>
        intro fs h hj
        cases fs with
        | nil => simp at h
        | cons r fs =>
          obtain ⟨f', h1, h2, inf, h3, h4, -, -⟩ := hj 0 r rfl
          simp only [List.getElem?_cons_zero, Option.some.injEq] at h1
          subst h1
          have := ih fs (by simpa using h) fun j r hr => by simpa using hj (j + 1) r (by simpa using hr)
          simp only [List.mapM_cons, Sem.run_bind, run_sizeOf h3, Result.andThen_ok, Sem.run_pure, this, List.map_cons]
          rw [h2, h4]
    rw [Array.mapM_eq_mapM_toList]
    simp only [Sem.run_map, key fields.toList fs (by simpa using hfs) (fun j r hr => by simpa using hff j r hr), Result.andThen_ok]
  have hpr := partsD_ok hρ hl
  obtain ⟨arr, h5, h6⟩ := fill_ok (x := x) (pl := fun i => ((fs.map fun f => (f.1, f.2.1)).toArray)[i]?) (fun i p hp => by simpa using hp) (vs := vparts ρ ps.toList) hpr hz' hf
  unfold vparts at h5
  refine yields_here hR (v := .agg arr) ?_ (.agg h6.1 h6.2)
  simp only [Instr.build, Sem.run_bind, zeroValue, typeInfo, run_program, Result.andThen_ok, hi, Sem.run_pure, h1, run_underlying hu, hpl, Array.toList_map, h5]
theorem op_build_array (hty : TyOk P ty) (hR : Rel x) (hρ : Opds x ρd ρ) {t : TypeId} {n s sz : Nat} {agg : Bool} {z cs : List DV} {ps : Array (Nat × Operand)} {l : List (Nat × DV)} (h : ty t = some ⟨.array n s agg, sz, some z⟩) (hl : partsD ρd ps.toList = some l)
    (hf : fillD (fun i => some (i * s, s)) z l = some cs) : Yields x ((do pure (.value (← Instr.build t (ps.map fun p => (p.1, ρ p.2)))) : Sem Next).run P x.w) (.agg cs) x.S := by
  obtain ⟨hk, i, hi, -, hz⟩ := tyOf_info (hty t _ h)
  obtain ⟨e, hu, ie, hie, hse, -, -⟩ := tk_array hk
  obtain ⟨zv, h1, h2, -⟩ := zeroOf_spec hz
  obtain ⟨h3, h4⟩ := rv_ofCells (x := x) h2
  have hz' : RVs x z zv.cells := ⟨by simpa using h3, fun j c hc => by simpa [Array.getD_eq_getD_getElem?, List.getD_eq_getElem?_getD] using h4 j c hc⟩
  have hpr := partsD_ok hρ hl
  obtain ⟨arr, h5, h6⟩ := fill_ok (x := x) (pl := fun i => some (i * s, s)) (fun i p hp => hp) (vs := vparts ρ ps.toList) hpr hz' hf
  unfold vparts at h5
  refine yields_here hR (v := .agg arr) ?_ (.agg h6.1 h6.2)
  subst hse
  simp only [Instr.build, Sem.run_bind, zeroValue, typeInfo, run_program, Result.andThen_ok, hi, Sem.run_pure, h1, run_underlying hu, run_sizeOf hie, Array.toList_map, h5]
theorem flatten_rep {z : List DV} {s : Nat} (hs : z.length = s) : ∀ (n j : Nat), j < n * s → ((List.replicate n z).flatten)[j]? = z[j % s]?
  | 0, j, h => by simp at h
  | n + 1, j, h => by
    have hpos : 0 < s := by grind
    simp only [List.replicate_succ, List.flatten_cons]
    by_cases hj : j < s
    · rw [List.getElem?_append_left (by omega), Nat.mod_eq_of_lt hj]
    · rw [List.getElem?_append_right (by omega), hs, flatten_rep hs n (j - s) (by rw [Nat.succ_mul] at h; omega), ← Nat.mod_eq_sub_mod (by omega)]
theorem rows_cells {s : Nat} {agg : Bool} {l : List DV} {n : Nat} (hl : l.length = n * s) (hs : 0 < s) (ha : agg = true ∨ s = 1) (hp : ∀ c ∈ l, c.pure1 = true) : ∀ i, i < n → (rowOf s agg l i).cells = (l.drop (i * s)).take s := by
  intro i hi
  have h1 : i * s + s ≤ l.length := by rw [hl, ← Nat.succ_mul]; exact Nat.mul_le_mul_right _ hi
  unfold rowOf
  cases agg with
  | true => rfl
  | false =>
    have hs1 : s = 1 := by simpa using ha
    subst hs1
    have hlt : i * 1 < l.length := by omega
    have e : l.getD (i * 1) dundef = l[i * 1] := by rw [List.getD_eq_getElem?_getD, List.getElem?_eq_getElem hlt]; rfl
    have hpu := hp l[i * 1] (List.getElem_mem hlt)
    simp only [Bool.false_eq_true, if_false, e]
    have hc : (l[i * 1]).cells = [l[i * 1]] := by
      revert hpu
      generalize l[i * 1] = c
      cases c <;> simp [DV.pure1, DV.cells]
    rw [hc, List.drop_eq_getElem_cons hlt, List.take_succ_cons, List.take_zero]
theorem flat_rows {s : Nat} {agg : Bool} {l : List DV} (hs : 0 < s) (ha : agg = true ∨ s = 1) (hp : ∀ c ∈ l, c.pure1 = true) : ∀ n, l.length = n * s → flat (rowsOf s agg l n) = l ∧ ∀ r ∈ rowsOf s agg l n, r.cells.length = s := by
  intro n hl
  have hc := rows_cells hl hs ha hp
  have hlen : ∀ r ∈ rowsOf s agg l n, r.cells.length = s := by
    intro r hr
    unfold rowsOf at hr
    simp only [List.mem_map, List.mem_range] at hr
    obtain ⟨i, hi, rfl⟩ := hr
    rw [hc i hi, List.length_take, List.length_drop]
    have h1 : i * s + s ≤ l.length := by rw [hl, ← Nat.succ_mul]; exact Nat.mul_le_mul_right _ hi
    omega
  refine ⟨?_, hlen⟩
  have hfl := flat_len hlen
  have hrl : (rowsOf s agg l n).length = n := by simp [rowsOf]
  refine List.ext_getElem? fun j => ?_
  by_cases hj : j < n * s
  · have hdiv : j / s < n := by rw [Nat.div_lt_iff_lt_mul hs]; exact hj
    have hmod : j % s < s := Nat.mod_lt _ hs
    have hje : j = (j / s) * s + j % s := by rw [Nat.mul_comm]; exact (Nat.div_add_mod j s).symm
    have hr : (rowsOf s agg l n)[j / s]? = some (rowOf s agg l (j / s)) := by simp [rowsOf, hdiv]
    rw [hje, flat_get hlen hr hmod, hc _ hdiv, List.getElem?_take, if_pos hmod, List.getElem?_drop]
  · grind
theorem view_new {rows : List DV} {arr : Array Value} {s b : Nat} {y : Cx} {e : TypeId} (h1 : ∀ r ∈ rows, r.cells.length = s) (h2 : ∀ c ∈ flat rows, c.pure1 = true) (h3 : (flat rows).length ≤ arr.size) (hb : y.w.heap[b]? = some (.cells arr e (0, 0))) (hF : ∀ j, j < (flat rows).length → y.Fz b j) :
    View y rows (some ⟨b, 0, none⟩) s (fun j => arr.getD j undef) := by
  refine ⟨h1, fun j c hc => ⟨h2 c (List.mem_of_getElem? hc), b, 0, rfl, ?_, ?_⟩⟩
  · grind
  · have hj : j < arr.size := Nat.lt_of_lt_of_le (List.getElem?_eq_some_iff.1 hc).1 h3
    simp [World.cell?, hb, hj, Array.getD_eq_getD_getElem?]
theorem zero_rows {z : List DV} {zv : Value} {s n : Nat} (hs : 0 < s) (hzl' : z.length = s) (hzs : zv.cells.size = s) (h4 : ∀ j c, z[j]? = some c → RV x c (zv.cells.toList.getD j undef)) : RVs x ((List.replicate n z).flatten) ((Array.range (n * s)).map (zv.cells[· % zv.cells.size]!)) := by
  refine ⟨by simp [hzl'], fun j c hc => ?_⟩
  have hj : j < n * s := by have := (List.getElem?_eq_some_iff.1 hc).1; simpa [hzl'] using this
  rw [flatten_rep hzl' n j hj] at hc
  have hm : j % s < s := Nat.mod_lt _ hs
  have := h4 _ c hc
  have hm' : j % zv.cells.size < zv.cells.size := by rw [hzs]; exact hm
  have e1 : ((Array.range (n * s)).map (zv.cells[· % zv.cells.size]!)).getD j undef = zv.cells[j % zv.cells.size]! := by simp [Array.getD_eq_getD_getElem?, hj]
  rw [e1, getElem!_pos zv.cells (j % zv.cells.size) hm']
  have e2 : zv.cells.toList.getD (j % s) undef = zv.cells[j % zv.cells.size] := by simp [List.getD_eq_getElem?_getD, ← hzs, hm']
  rw [← e2]
  exact this
theorem build_run (hty : TyOk P ty) (hR : Rel x) (hρ : Opds x ρd ρ) {t e : TypeId} {n s by_ sz sz' : Nat} {agg : Bool} {k : TK} {z0 : Option (List DV)} {z cs : List DV} {ps : Array (Nat × Operand)} {l : List (Nat × DV)} (h : ty t = some ⟨.slice e s by_ agg, sz, z0⟩) (hl : partsD ρd ps.toList = some l) (he : ty e = some ⟨k, sz', some z⟩)
    (hs : 0 < s) (hn : n * s ≤ 16777216) (hf : fillD (fun i => some (i * s, s)) ((List.replicate n z).flatten) (l.map fun (i, v) => (i, v.strip)) = some cs) :
    ∃ arr, RVs x cs arr ∧ cs.length = n * s ∧ (Instr.buildSlice t n (ps.map fun p => (p.1, ρ p.2))).run P x.w = .ok (.slice (some ⟨x.w.heap.size, 0, none⟩) n n) (x.w.alloc (.cells arr e)) := by
  obtain ⟨hk, i, hi, -, -⟩ := tyOf_info (hty t _ h)
  obtain ⟨hu, ie, hie, hse, -, hag⟩ := tk_slice hk
  obtain ⟨-, ie', hie', -, hz⟩ := tyOf_info (hty e _ he)
  rw [hie] at hie'
  cases hie'
  obtain ⟨zv, h1, h2, hzl⟩ := zeroOf_spec hz
  obtain ⟨h3, h4⟩ := rv_ofCells (x := x) h2
  have hzs : zv.cells.size = s := by rw [← hse, ← hzl]; simpa using h3
  have hzl' : z.length = s := by rw [hzl, hse]
  have hz' := zero_rows (n := n) hs hzl' hzs h4
  have hpr : Prts x (l.map fun (i, v) => (i, v.strip)) (vparts ρ ps.toList) := by
    have := partsD_ok hρ hl
    refine ⟨by simpa using this.1, fun j p hp => ?_⟩
    simp only [List.getElem?_map, Option.map_eq_some_iff] at hp
    obtain ⟨q, hq, rfl⟩ := hp
    obtain ⟨v, hv1, hv2⟩ := this.2 j q hq
    exact ⟨v, by simpa using hv1, hv2.strip⟩
  obtain ⟨arr, h5, h6⟩ := fill_ok (x := x) (pl := fun i => some (i * s, s)) (fun i p hp => hp) hpr hz' hf
  have hcs : cs.length = n * s := by
    have key : ∀ (r : List (Nat × DV)) (l l' : List DV), fillD (fun i => some (i * s, s)) l r = some l' → l'.length = l.length := by
      intro r
      induction r with
      | nil => intro l l' h; simp only [fillD, Option.some.injEq] at h; rw [h]
      | cons p r ih =>
        intro l l' h
        obtain ⟨i, d⟩ := p
        unfold fillD at h
        simp only at h
        split at h
        · split at h
          · rename_i l1 h1
            rw [ih _ _ h]
            obtain ⟨h2, rfl⟩ := putR_spec h1
            simp; omega
          · cases h
        · cases h
    rw [key _ _ _ hf]; simp [hzl']
  refine ⟨arr, h6, hcs, ?_⟩
  · subst hse
    have c1 : ¬ (n * ie.size > 2 ^ 24) := by rw [show (2 : Nat) ^ 24 = 16777216 from by decide]; omega
    have h5' : Instr.fill (fun i => some (i * ie.size, ie.size)) ((Array.range (n * ie.size)).map (zv.cells[· % zv.cells.size]!)) (ps.toList.map fun p => (p.1, ρ p.2)) = some arr := h5
    by_cases h0 : n * ie.size = 0
    · have e0 : (Array.range (n * ie.size)).map ((#[] : Array Value)[· % (#[] : Array Value).size]!) = (Array.range (n * ie.size)).map (zv.cells[· % zv.cells.size]!) := by rw [h0]; simp
      simp only [Instr.buildSlice, Sem.run_bind, run_underlying hu, Result.andThen_ok, run_sizeOf hie, if_neg c1, if_pos h0, Sem.run_pure, e0, Array.toList_map, h5', newRow, run_newObj]
      rfl
    · simp only [Instr.buildSlice, Sem.run_bind, run_underlying hu, Result.andThen_ok, run_sizeOf hie, if_neg c1, if_neg h0, Sem.run_pure, zeroValue, typeInfo, run_program, hie, h1, Array.toList_map, h5', newRow, run_newObj]
      rfl
theorem op_buildSlice (hty : TyOk P ty) (hR : Rel x) (hρ : Opds x ρd ρ) {t e : TypeId} {n s by_ sz sz' : Nat} {agg : Bool} {k : TK} {z0 : Option (List DV)} {z cs : List DV} {ps : Array (Nat × Operand)} {l : List (Nat × DV)} (h : ty t = some ⟨.slice e s by_ agg, sz, z0⟩) (hl : partsD ρd ps.toList = some l) (he : ty e = some ⟨k, sz', some z⟩)
    (hs : 0 < s) (hn : n * s ≤ 16777216) (hf : fillD (fun i => some (i * s, s)) ((List.replicate n z).flatten) (l.map fun (i, v) => (i, v.strip)) = some cs) (hp : cs.all DV.pure1 = true) (ha : agg = true ∨ s = 1) :
    Yields x ((do pure (.value (← Instr.buildSlice t n (ps.map fun p => (p.1, ρ p.2)))) : Sem Next).run P x.w) (.sl (rowsOf s agg cs n) none ⟨true, some false⟩) x.S := by
  obtain ⟨arr, h6, hcs, hrun⟩ := build_run hty hR hρ h hl he hs hn hf
  have hpp : ∀ c ∈ cs, c.pure1 = true := fun c hc => List.all_eq_true.1 hp c hc
  obtain ⟨hfl, hrl⟩ := flat_rows hs ha hpp n hcs
  have hpu : Push x.w (x.w.alloc (.cells arr e)) (.cells arr e (0, 0)) := push_alloc _ _
  have hR' := rel_froze (F := fun o => o < arr.size) hR hpu fun o ho => ⟨arr[o], by simp [ho]⟩
  have hrn : (rowsOf s agg cs n).length = n := by simp [rowsOf]
  have hnew : (x.w.alloc (.cells arr e)).heap[x.w.heap.size]? = some (.cells arr e (0, 0)) := hpu.new
  have hsize : arr.size = cs.length := h6.1
  have M := mono_froze (F := fun o => o < arr.size) hR hpu
  refine yields_v (y := x.froze _ (fun o => o < arr.size)) (v := .slice (some ⟨x.w.heap.size, 0, none⟩) n n) hrun rfl hR' M ?_
  · suffices hk : RV (x.froze (x.w.alloc (.cells arr e)) (fun o => o < arr.size)) (.sl (rowsOf s agg cs n) none ⟨true, some false⟩) (.slice (some ⟨x.w.heap.size, 0, none⟩) (rowsOf s agg cs n).length (rowsOf s agg cs n).length) by rw [hrn] at hk; exact hk
    have hv : View (x.froze (x.w.alloc (.cells arr e)) (fun o => o < arr.size)) (rowsOf s agg cs n) (some ⟨x.w.heap.size, 0, none⟩) s (fun j => arr.getD j undef) :=
      view_new hrl (by rw [hfl]; exact hpp) (by rw [hfl]; omega) hnew fun j hj => .inr ⟨rfl, by rw [hfl] at hj; omega⟩
    refine RV.sl (tok := none) hv (fun j c hc => ?_) (Nat.le_refl _) ⟨fun _ => rfl, fun b h => by cases h; rfl⟩ (by simp) (fun ad h _ => by cases h; rfl) (fun t ht => nomatch ht)
    rw [hfl] at hc
    exact (h6.2 j c hc).mono M
theorem push_bytes (w : World) (e : TypeId) (b : ByteArray) : Push w (Lib.bytesWorld w e b) (.cells (Lib.bytesCells w e b) e ((Lib.bytesCells w e b).size, (Lib.bytesCells w e b).size + 1)) where
  heap := by
    refine Array.ext_getElem? fun j => ?_
    rcases Nat.lt_trichotomy j w.heap.size with h | rfl | h
    · rw [Lib.bytesWorld_at_old w e b j h, Array.getElem?_push_lt h, Array.getElem?_eq_getElem h]
    · rw [Lib.bytesWorld_at_new, Array.getElem?_push_size]
    · rw [Array.getElem?_eq_none (by rw [Lib.bytesWorld_size]; omega), Array.getElem?_eq_none (by simp; omega)]
  env := ⟨rfl, rfl⟩
theorem op_bytes (hR : Rel x) {t d : TypeId} {a : Value} {r : DV} (h : bytesD P t d a = some r) : Yields x ((do pure (.value (← Go.convert t d a)) : Sem Next).run P x.w) r x.S := by
  unfold bytesD at h
  split at h
  · rename_i b
    split at h
    · rename_i u e hs hd
      split at h
      · rename_i he
        cases h
        have hrun := Lib.run_convert_string_bytes x.w t d e b hs hd he
        have hlen : (b.data.toList.map fun c => DV.val (.int .u8 c.toNat)).length = b.size := by rw [List.length_map, Array.length_toList]; rfl
        have hcell : ∀ j, j < b.size → (Lib.bytesWorld x.w e b).cell? ⟨x.w.heap.size, j, none⟩ = some (.int .u8 (b.data.toList.getD j 0).toNat) := fun j hj => Lib.bytesWorld_cell x.w e b j hj
        have hpu := push_bytes x.w e b
        have hR' := rel_froze (F := fun o => o < b.size) hR hpu fun o ho => ⟨_, hcell o ho⟩
        have M := mono_froze (F := fun o => o < b.size) hR hpu
        refine yields_v (y := x.froze _ (fun o => o < b.size)) hrun rfl hR' M ?_
        have hfl : flat (b.data.toList.map fun c => DV.val (.int .u8 c.toNat)) = b.data.toList.map fun c => DV.val (.int .u8 c.toNat) := by
          generalize b.data.toList = l
          induction l with
          | nil => rfl
          | cons c l ih => simpa [flat, DV.cells] using ih
        have hget : ∀ j c, (b.data.toList.map fun c => DV.val (.int .u8 c.toNat))[j]? = some c → j < b.size ∧ c = .val (.int .u8 (b.data.toList.getD j 0).toNat) := fun j c hc => by
          have hj := (List.getElem?_eq_some_iff.1 hc).1
          rw [hlen] at hj
          simp only [List.getElem?_map, Option.map_eq_some_iff] at hc
          obtain ⟨u, hu, rfl⟩ := hc
          exact ⟨hj, by simp [List.getD_eq_getElem?_getD, hu]⟩
        rw [← hlen]
        refine RV.sl (s := 1) (vs := fun j => .int .u8 (b.data.toList.getD j 0).toNat) ⟨fun r hr => ?_, fun j c hc => ?_⟩ (fun j c hc => ?_) ?_ ⟨(nofun), fun b h => by cases h; rfl⟩ (nofun) (fun ad h _ => by cases h; rfl) (fun t ht => nomatch ht)
        · obtain ⟨c, -, rfl⟩ := List.mem_map.1 hr; rfl
        · rw [hfl] at hc
          obtain ⟨h1, rfl⟩ := hget j c hc
          exact ⟨rfl, x.w.heap.size, 0, rfl, .inr ⟨rfl, by simpa using h1⟩, (by rw [Nat.zero_add]; exact hcell j h1)⟩
        · rw [hfl] at hc
          obtain ⟨h1, rfl⟩ := hget j c hc
          exact .val rfl
        · rw [hlen]; exact grownCap_ge _ _ _ _
      · cases h
    · cases h
  · cases h
theorem op_fieldAddr (hty : TyOk P ty) {t : TypeId} {fs : List (Nat × Nat × Bool)} {sz f off s : Nat} {agg : Bool} {z : Option (List DV)} (h : ty t = some ⟨.struct fs, sz, z⟩) (hf : fs[f]? = some (off, s, agg)) (hs : 0 < s) (b o0 : Nat) (w : World) :
    (Instr.fieldAt t (.pointer (some ⟨b, o0, none⟩)) f).run P w = .ok (.pointer (some ⟨b, o0 + off, none⟩)) w := by
  obtain ⟨hk, i, hi, -, -⟩ := tyOf_info (hty t _ h)
  obtain ⟨fields, hu, hfs, hff⟩ := tk_struct hk
  obtain ⟨fd, h1, h2, inf, h3, h4, -, -⟩ := hff f _ hf
  simp only at h2 h4
  have hne : ¬ (inf.size = 0) := by omega
  simp only [Instr.fieldAt, Sem.run_bind, run_underlying hu, Result.andThen_ok, h1, Instr.sureAddr, Sem.run_pure, fieldPlace, run_sizeOf h3, if_neg hne, addr_add, h2]
theorem op_indexArr (hty : TyOk P ty) {t : TypeId} {k s sz : Nat} {agg : Bool} {z : Option (List DV)} (h : ty t = some ⟨.array k s agg, sz, z⟩) {kd : IntKind} {n : Int} (h0 : 0 ≤ n) (hlt : n.toNat < k) (b o0 : Nat) (w : World) :
    (Instr.indexAt t (.pointer (some ⟨b, o0, none⟩)) (.int kd n)).run P w = .ok (.pointer (some ⟨b, o0 + n.toNat * s, none⟩)) w := by
  obtain ⟨hk, i, hi, -, -⟩ := tyOf_info (hty t _ h)
  obtain ⟨e, hu, ie, hie, hse, -, -⟩ := tk_array hk
  have hc : 0 ≤ n ∧ n < (k : Int) := ⟨h0, by omega⟩
  subst hse
  simp only [Instr.indexAt, asIntOf, Sem.run_bind, Sem.run_pure, Result.andThen_ok, run_underlying hu, Instr.sureAddr, hc, and_self, if_true, run_sizeOf hie, addr_add]
theorem op_indexSl (hty : TyOk P ty) {t e : TypeId} {s by_ sz : Nat} {agg : Bool} {z : Option (List DV)} (h : ty t = some ⟨.slice e s by_ agg, sz, z⟩) {kd : IntKind} {n : Int} {len cap : Nat} (h0 : 0 ≤ n) (hlt : n.toNat < len) (b o0 : Nat) (w : World) :
    (Instr.indexAt t (.slice (some ⟨b, o0, none⟩) len cap) (.int kd n)).run P w = .ok (.pointer (some ⟨b, o0 + n.toNat * s, none⟩)) w := by
  obtain ⟨hk, i, hi, -, -⟩ := tyOf_info (hty t _ h)
  obtain ⟨hu, ie, hie, hse, -, -⟩ := tk_slice hk
  have hc : 0 ≤ n ∧ n < (len : Int) := ⟨h0, by omega⟩
  subst hse
  simp only [Instr.indexAt, asIntOf, Sem.run_bind, Sem.run_pure, Result.andThen_ok, run_underlying hu, hc, and_self, if_true, run_sizeOf hie, addr_add]
end Go.Di
end
