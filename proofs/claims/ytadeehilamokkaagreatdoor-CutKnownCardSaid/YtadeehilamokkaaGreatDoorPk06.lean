/- The law CutKnown: part 6: Cd8b. By an AI agent. -/
import Derived.Test.YtadeehilamokkaaGreatDoorPk05
import Derived.Laws.BitsLemmas
section
namespace Go.Di
open Go
variable {P : Program} {ty : Tys} {x : Cx} {w' : World} {ρd : Operand → Option DV} {ρ : Operand → Value} {o : Oper} {nid : Nat}
theorem fresh_slo (hR : Rel x) (hn : Nid x.S nid) {k s n : Nat} {e : TypeId} {l : List DV} {arr : Array Value} {agg : Bool} (hp : Push x.w w' (.cells arr e (0, 0))) (hsz : arr.size = k * s) (hl : l.length ≤ arr.size) (hk : k ≤ maxLen) (hc : ∀ j c, l[j]? = some c → c.pure1 = true ∧ RV x c (arr.getD j undef)) (hnl : n * s = l.length) :
    ∃ y, y.w = w' ∧ y.S = setS x.S nid (.op e s l false) ∧ Rel y ∧ Mono x y ∧ RV y (.slo nid n agg) (.slice (some ⟨x.w.heap.size, 0, none⟩) n k) := by
  have hR' := rel_fresh (k := k) (F := fun _ => False) (b := .op e s l false) hR hn hp (by simp) (.inr (.inr (.inr ⟨e, s, l, arr, rfl, rfl, hsz, hl, hk, by simp, hc⟩)))
  refine ⟨_, rfl, rfl, hR', mono_fresh hR hn hp, ?_⟩
  refine RV.slo (e := e) (s := s) (l := l) (z := false) (by show (setS _ _ _)[_]? = _; rw [setS_get hn.le, if_pos rfl]) (by omega) fun _ => ?_
  exact ⟨by rw [show (x.fresh w' nid k (fun _ => False) (.op e s l false)).μ nid = x.w.heap.size from if_pos rfl], (if_pos rfl : (if nid = nid then k else _) = k).symm⟩
theorem op_buildO (hty : TyOk P ty) (hR : Rel x) (hn : Nid x.S nid) (hρ : Opds x ρd ρ) {t e : TypeId} {n s by_ sz sz' : Nat} {agg : Bool} {k : TK} {z0 : Option (List DV)} {z cs : List DV} {ps : Array (Nat × Operand)} {l : List (Nat × DV)} (h : ty t = some ⟨.slice e s by_ agg, sz, z0⟩) (hl : partsD ρd ps.toList = some l) (he : ty e = some ⟨k, sz', some z⟩)
    (hs : 0 < s) (hn' : n * s ≤ 16777216) (hf : fillD (fun i => some (i * s, s)) ((List.replicate n z).flatten) (l.map fun (i, v) => (i, v.strip)) = some cs) (hp : cs.all DV.pure1 = true) :
    Yields x ((do pure (.value (← Instr.buildSlice t n (ps.map fun p => (p.1, ρ p.2)))) : Sem Next).run P x.w) (.slo nid n agg) (setS x.S nid (.op e s cs false)) := by
  obtain ⟨arr, h6, hcs, hrun⟩ := build_run hty hR hρ h hl he hs hn' hf
  have hnn : n ≤ n * s := Nat.le_mul_of_pos_right n hs
  obtain ⟨y, y1, y2, y3, y4, y5⟩ := fresh_slo (n := n) (agg := agg) hR hn (push_alloc x.w (.cells arr e)) (k := n) (s := s) (by rw [h6.1, hcs]) (by rw [h6.1]; exact Nat.le_refl _) (by unfold maxLen; omega) (fun j c hc => ⟨List.all_eq_true.1 hp c (List.mem_of_getElem? hc), h6.2 j c hc⟩) hcs.symm
  exact yields_v (by rw [y1]; exact hrun) y2 y3 y4 y5
set_option maxRecDepth 8000 in
theorem op_makeSlice (hty : TyOk P ty) (hR : Rel x) (hn : Nid x.S nid) {t e : TypeId} {s by_ sz sz' : Nat} {agg : Bool} {k : TK} {z0 : Option (List DV)} {z : List DV} {kd kd' : IntKind} {n : Int} (h : ty t = some ⟨.slice e s by_ agg, sz, z0⟩) (he : ty e = some ⟨k, sz', some z⟩)
    (h0 : 0 ≤ n) (hs : 0 < s) (hn' : n ≤ 140737488355328 - 4096) (hb : n.toNat * by_ ≤ maxBytes) (hp : (z.map DV.strip1).all DV.pure1 = true) :
    Yields x ((do pure (.value (← Instr.makeSlice t (.int kd n) (.int kd' n))) : Sem Next).run P x.w) (.slo nid n.toNat agg) (setS x.S nid (.op e s (List.replicate n.toNat (z.map DV.strip1)).flatten false)) := by
  obtain ⟨hk, i, hi, -, -⟩ := tyOf_info (hty t _ h)
  obtain ⟨hu, ie, hie, hse, hby, hag⟩ := tk_slice hk
  obtain ⟨-, ie', hie', -, hz⟩ := tyOf_info (hty e _ he)
  rw [hie] at hie'
  cases hie'
  obtain ⟨zv, h1, h2, hzl⟩ := zeroOf_spec hz
  obtain ⟨h3, h4⟩ := rv_ofCells (x := x) h2
  have hzs : zv.cells.size = s := by rw [← hse, ← hzl]; simpa using h3
  have hzl' : z.length = s := by rw [hzl, hse]
  have h4' : ∀ j c, (z.map DV.strip1)[j]? = some c → RV x c (zv.cells.toList.getD j undef) := fun j c hc => by
    simp only [List.getElem?_map, Option.map_eq_some_iff] at hc
    obtain ⟨c', h1, rfl⟩ := hc
    exact (h4 j c' h1).strip1
  have hz' := zero_rows (n := n.toNat) (z := z.map DV.strip1) hs (by rw [List.length_map]; exact hzl') hzs h4'
  generalize harr : (Array.range (n.toNat * s)).map (zv.cells[· % zv.cells.size]!) = arr at *
  have hlen : (List.replicate n.toNat (z.map DV.strip1)).flatten.length = n.toNat * s := by simp [hzl']
  obtain ⟨y, y1, y2, y3, y4, y5⟩ := fresh_slo (n := n.toNat) (agg := agg) hR hn (push_alloc x.w (.cells arr e)) (k := n.toNat) (s := s) (by rw [hz'.1, hlen]) (by rw [hz'.1]; exact Nat.le_refl _) (by unfold maxLen; omega) (fun j c hc => ⟨by
    have hm := List.mem_of_getElem? hc
    simp only [List.mem_flatten, List.mem_replicate] at hm
    obtain ⟨l, ⟨-, rfl⟩, hm⟩ := hm
    exact List.all_eq_true.1 hp c hm, hz'.2 j c hc⟩) hlen.symm
  refine yields_v (v := .slice (some ⟨x.w.heap.size, 0, none⟩) n.toNat n.toNat) ?_ y2 y3 y4 y5
  rw [y1]
  have hw : IntKind.i64.wrap n = n := by rw [IntKind.wrap_i64]; omega
  have hbz : ((ie.bytes : Int) * n) ≤ 140737488355328 := by
    have e1 : n = (n.toNat : Int) := by omega
    rw [e1, hby, ← Int.natCast_mul, Nat.mul_comm]
    unfold maxBytes at hb
    omega
  have e48 : (2 : Int) ^ 48 = 281474976710656 := by decide
  have c1 : ¬ (n < 0) := by omega
  have c2 : ¬ (281474976710656 < (ie.bytes : Int) * n) := by omega
  subst hse
  have hnw : (newRow e arr).run P x.w = .ok ⟨x.w.heap.size, 0, none⟩ (x.w.alloc (.cells arr e)) := by simp [newRow]
  have c3 : ¬ (2 ^ 48 < (ie.bytes : Int) * n) := by rw [e48]; exact c2
  have hrow : ∀ z0 : Array Value, (Array.range (n.toNat * ie.size)).map (z0[· % z0.size]!) = arr → (do let a ← newRow e ((Array.range (n.toNat * ie.size)).map (z0[· % z0.size]!)); pure (Value.slice (some a) n.toNat n.toNat) : Sem Value).run P x.w = .ok (.slice (some ⟨x.w.heap.size, 0, none⟩) n.toNat n.toNat) (x.w.alloc (.cells arr e)) := fun z0 h => by
    rw [h, Sem.run_bind, hnw, Result.andThen_ok, Sem.run_pure]
  unfold Instr.makeSlice
  simp only [Sem.run_bind, run_underlying hu, Result.andThen_ok, asInt, asIntOf, Sem.run_pure, typeInfo, run_program, hie, hw, decide_eq_false c1, decide_eq_false c3, Bool.or_false, gt_iff_lt, decide_eq_false (Int.lt_irrefl n), Bool.false_eq_true, if_false, run_askRoom, run_sizeOf hie]
  by_cases hz0 : n.toNat * ie.size = 0
  · have := hrow #[] (by rw [← harr, hz0]; simp)
    simpa only [if_pos hz0, Sem.run_bind, Sem.run_pure, Result.andThen_ok] using this
  · have := hrow zv.cells harr
    simpa only [if_neg hz0, zeroValue, typeInfo, run_program, hie, h1, Sem.run_bind, Sem.run_pure, Result.andThen_ok] using this
theorem op_appendO (hty : TyOk P ty) (hR : Rel x) (hn : Nid x.S nid) {t u : TypeId} {a b d : DV} {va vb : Value} {S' : Store} (ha : RV x a va) (hb : RV x b vb) (h : appendO ty x.S nid t a b = some (d, S')) :
    Yields x ((do pure (.value (← Builtin.append_ #[t, t] u #[va, vb])) : Sem Next).run P x.w) d S' := by
  unfold appendO at h
  split at h
  rotate_left
  · cases h
  rename_i e s by_ agg sz z0 news tok2 full2 htt
  obtain ⟨hk, it, -, -, -⟩ := tyOf_info (hty t _ htt)
  obtain ⟨hu, ie, hie, hse, hbe, -⟩ := tk_slice hk
  have hb0 := hb
  cases hb with
  | @sl _ _ _ A2 cap2 s2 vs2 hv2 hr2 m1 m2 m3 m4 m5 =>
    split at h
    rotate_left
    · cases h
    rename_i hte
    obtain ⟨z, hiz, hzs⟩ : ∃ z, ie.zero = some z ∧ z.cells.size = s := by
      obtain ⟨-, ie', hie', hs', hz'⟩ := tyOf_info (hty e _ hte)
      rw [hie] at hie'
      cases hie'
      obtain ⟨z, q1, q2, q3⟩ := zeroOf_spec hz'
      have := (rv_ofCells (x := x) q2).1
      exact ⟨z, q1, by rw [← hse, ← q3]; simpa using this⟩
    have emp : ∀ (A : Option Addr) (n cap : Nat), n ≤ cap → news = [] → (Builtin.append_ #[t, t] u #[.slice A n cap, .slice A2 news.length cap2]).run P x.w = .ok (.slice A n cap) x.w := by
      rintro A n cap k1 rfl
      subst hse
      cases A <;> cases A2 <;> simp [Builtin.append_, run_underlying hu, run_sizeOf hie, Builtin.lenOf, Builtin.firstCells, loadCells, loadCellsFrom, storeCells, k1]
    have grown : ∀ (n cap : Nat), n + news.length ≤ 140737488355328 - 4096 → ∀ (w1 : List Value), w1.length = n * s → ∀ (ws2 : List Value), ws2.length = news.length * s → ∀ (k : Nat), k = grownCap x.w (n + news.length) cap e → k ≤ maxLen ∧ n + news.length ≤ k ∧
        (w1.toArray ++ ws2.toArray ++ Builtin.zeroCells z.cells (k - (n + news.length))).size = k * s := by
      intro n cap hlen w1 hw1 ws2 hl2 k hk
      have hge := grownCap_ge x.w (n + news.length) cap e
      have hle := grownCap_le_maxLen x.w (n + news.length) cap e (by simp only [maxLen]; omega)
      subst hk
      refine ⟨hle, hge, ?_⟩
      simp only [Array.size_append, List.size_toArray, size_zeroCells, hzs, hw1, hl2, ← Nat.add_mul]
      congr 1
      omega
    have newsP : news ≠ [] → (∀ r ∈ news, r.cells.length = s) → 0 < news.length ∧ ∃ (b2 o2 : Nat) (ws2 : List Value), A2 = some ⟨b2, o2, none⟩ ∧ ws2.length = news.length * s ∧ (flat news).length = news.length * s ∧ (∀ c ∈ flat news, c.pure1 = true) ∧ (∀ j c, (flat news)[j]? = some c → RV x c (ws2.getD j undef)) ∧
        (∀ j v, ws2[j]? = some v → x.w.cell? ((⟨b2, o2, none⟩ : Addr).add j) = some v) ∧ ∀ u ∈ ws2, u.oneCell' = true := by
      intro hne hnews
      have hm : 0 < news.length := List.length_pos_iff.2 hne
      obtain ⟨-, -, -, -, -, hsp2, hpN, ws2, hl2, hrv2, hc2, hone2⟩ := sl_cells hb0 hnews
      obtain ⟨ad2, rfl⟩ : ∃ ad2, A2 = some ad2 := by
        cases A2 with
        | none => have := m3 rfl; omega
        | some ad => exact ⟨ad, rfl⟩
      have hflN := flat_len hnews
      obtain ⟨b2, o2, sp2⟩ := ad2
      have hspn : sp2 = none := hsp2 _ rfl (by omega)
      subst hspn
      refine ⟨hm, b2, o2, ws2, rfl, hl2, hflN, hpN, hrv2, fun j v hv => ?_, hone2⟩
      have hj : j < (flat news).length := by rw [hflN, ← hl2]; exact (List.getElem?_eq_some_iff.1 hv).1
      obtain ⟨b', o', q1, -, q2⟩ := hc2 j _ (List.getElem?_eq_getElem hj)
      cases q1
      rw [addr_add, q2]
      simp [List.getD_eq_getElem?_getD, hv]
    split at h
    ·
      rename_i id n ag
      cases ha with
      | @slo _ _ _ e1 s1 l1 z1 A cap hS1 hn1 hA1 =>
        split at h
        rotate_left
        · cases h
        rename_i hcond
        simp only [Bool.and_eq_true, decide_eq_true_eq, List.all_eq_true] at hcond
        obtain ⟨⟨⟨⟨hs, -⟩, hbytes⟩, hlen⟩, hnews⟩ := hcond
        split at h
        rotate_left
        · cases h
        rename_i e' s' l hop
        split at h
        rotate_left
        · cases h
        rename_i hc2
        simp only [Bool.and_eq_true, decide_eq_true_eq] at hc2
        obtain ⟨c1, c2⟩ := hc2
        rw [c1, c2] at hop
        obtain ⟨hS, hns⟩ := opD_spec hop
        obtain ⟨rfl, rfl, rfl, rfl⟩ : e = e1 ∧ s = s1 ∧ l = l1 ∧ false = z1 := by rw [hS] at hS1; cases hS1; exact ⟨rfl, rfl, rfl, rfl⟩
        obtain ⟨rfl, rfl⟩ := hA1 hns
        obtain ⟨cur, t1, t2, t3, t4, t5, -, -⟩ := hR.ops id _ _ _ _ hS
        have hnκ : n ≤ x.κ id := Nat.le_of_mul_le_mul_right (show n * s ≤ x.κ id * s by omega) hs
        split at h
        · rename_i hemp
          cases h
          exact yields_here hR (emp _ _ _ hnκ (by simpa using hemp)) (.slo hS hn1 fun _ => ⟨rfl, rfl⟩)
        rename_i hemp
        cases h
        obtain ⟨hm, b2, o2, ws2, rfl, hl2, hflN, hpN, hrv2, hnews2, hone2⟩ := newsP (by simpa using hemp) hnews
        have hlen' : (l ++ flat news).length = (n + news.length) * s := by rw [List.length_append, hflN, Nat.add_mul]; omega
        have hpl : ∀ c ∈ l ++ flat news, c.pure1 = true := fun c hc => by
          rcases List.mem_append.1 hc with hc | hc
          · obtain ⟨j, hj⟩ := List.mem_iff_getElem?.1 hc
            exact (t5 j c hj).1
          · grind
        have hlt : l.length < (l ++ flat news).length := by rw [List.length_append, hflN]; have := Nat.mul_pos hm hs; omega
        have hrvn : RVs x (flat news) ws2.toArray := ⟨by simp [hl2, hflN], fun j c hc => by simpa [Array.getD_eq_getD_getElem?, List.getD_eq_getElem?_getD] using hrv2 j c hc⟩
        by_cases hroom : n + news.length ≤ x.κ id
        · have hfit : n * s + ws2.length ≤ cur.size := by rw [hl2, t2, ← Nat.add_mul]; exact Nat.mul_le_mul_right _ hroom
          have hrun := run_append_room (P := P) x.w t u e ie hu hie (x.μ id) n (x.κ id) cur t1 ⟨b2, o2, none⟩ news.length cap2 ws2 (by rw [hl2, hse]) hnews2 hone2 hroom (by rw [hse]; exact hfit)
          rw [hse, hns] at hrun
          have hp := pre_put (off := l.length) t3 (fun j c hc => (t5 j c hc).2) hrvn (Nat.le_refl _) (by rw [hflN]; omega)
          have hsz : (cur.toList.take l.length ++ ws2 ++ cur.toList.drop (l.length + ws2.length)).toArray.size = cur.size := by simp; omega
          rw [List.drop_of_length_le (show l.length ≤ l.length + (flat news).length by omega), List.append_nil, List.take_length, List.size_toArray] at hp
          generalize harr : (cur.toList.take l.length ++ ws2 ++ cur.toList.drop (l.length + ws2.length)).toArray = arr at *
          have hR' := rel_upd (F := fun _ => False) (arr := arr) (b := .op e s (l ++ flat news) false) hR hS (.inr (.inr ⟨e, s, _, _, rfl, rfl, by omega, by simp, by rw [hsz]; exact t2, by rw [hsz, hlen', t2]; exact Nat.mul_le_mul_right _ hroom, fun j c hc => ⟨hpl c (List.mem_of_getElem? hc), hp j c hc⟩⟩))
          have M := mono_upd (F := fun _ => False) (arr := arr) (b := .op e s (l ++ flat news) false) hR hS (.inr (.inr ⟨e, s, _, _, rfl, rfl, by omega⟩))
          refine yields_v hrun (y := x.upd id arr (fun _ => False) (.op e s (l ++ flat news) false)) rfl hR' M (.slo (e := e) (s := s) (l := l ++ flat news) (z := false) (by show (x.S.set _ _)[_]? = _; rw [set_get hS, if_pos rfl]) (by omega) fun _ => ⟨rfl, rfl⟩)
        · have hcells : ∀ j, j < n * s → ∃ v, cur[j]? = some v := fun j hj => ⟨cur[j]'(by omega), Array.getElem?_eq_getElem _⟩
          have hw1 : (cur.toList.take (n * s)).length = n * s := by simp; omega
          obtain ⟨g1, g2, g3⟩ := grown n (x.κ id) hlen _ hw1 _ hl2 _ rfl
          have hrun := run_append_grow (P := P) x.w t u e ie z hu hie hiz ⟨x.μ id, 0, none⟩ n (x.κ id) (cur.toList.take (n * s)) (by rw [hw1, hse]) (fun j v hv => by
              have hj : j < n * s := by rw [← hw1]; exact (List.getElem?_eq_some_iff.1 hv).1
              rw [List.getElem?_take, if_pos hj] at hv
              rw [addr_add]
              simp only [World.cell?, t1, Nat.zero_add]
              simpa using hv) ⟨b2, o2, none⟩ news.length cap2 ws2 (by rw [hl2, hse]) hnews2 (by omega) (by omega) (growslice_fits (by omega) (by rw [hbe]; exact hbytes))
          generalize hk0 : grownCap x.w (n + news.length) (x.κ id) e = k at *
          obtain ⟨v1, v2⟩ := grown_get (Z := Builtin.zeroCells z.cells (k - (n + news.length))) hw1 hl2
          generalize harr : (cur.toList.take (n * s)).toArray ++ ws2.toArray ++ Builtin.zeroCells z.cells (k - (n + news.length)) = arr at *
          have hp : Push x.w (x.w.drew.alloc (.cells arr e)) (.cells arr e (0, 0)) := ⟨rfl, rfl, rfl⟩
          have hcc : ∀ j c, (l ++ flat news)[j]? = some c → c.pure1 = true ∧ RV x c (arr.getD j undef) := fun j c hc => by
            refine ⟨hpl c (List.mem_of_getElem? hc), ?_⟩
            by_cases hj : j < l.length
            · rw [List.getElem?_append_left hj] at hc
              rw [v1 j (by omega)]
              have := (t5 j c hc).2
              simpa [Array.getD_eq_getD_getElem?, List.getD_eq_getElem?_getD, List.getElem?_take, show j < n * s by omega] using this
            · grind
          have hR' := rel_movo (k := k) hR hS hp hlt g3 (by rw [g3, hlen']; exact Nat.mul_le_mul_right _ g2) g1 hcc
          have M := mono_movo (k := k) hR hS hp hlt
          refine yields_v hrun (y := x.moved (x.w.drew.alloc (.cells arr e)) id k (fun _ => False) (.op e s (l ++ flat news) false)) rfl hR' M (.slo (e := e) (s := s) (l := l ++ flat news) (z := false) (by show (x.S.set _ _)[_]? = _; rw [set_get hS, if_pos rfl]) (by omega) fun _ => ?_)
          exact ⟨congrArg (fun b => some (⟨b, 0, none⟩ : Addr)) (if_pos rfl : (if id = id then _ else _) = _).symm, (if_pos rfl : (if id = id then k else _) = k).symm⟩
    ·
      rename_i f
      cases ha with
      | @sl _ _ _ A cap s1 vs1 hv1 hr1 k1 k2 k3 k4 k5 =>
        split at h
        · rename_i hemp
          cases h
          exact yields_here hR (emp _ _ _ k1 (by simpa using hemp)) (.sl hv1 hr1 k1 k2 k3 k4 k5)
        rename_i hemp
        split at h
        rotate_left
        · cases h
        rename_i hcond
        simp only [Bool.and_eq_true, decide_eq_true_eq, List.all_eq_true] at hcond
        obtain ⟨⟨⟨⟨⟨hful, hs⟩, -⟩, hbytes⟩, hlen⟩, hnews⟩ := hcond
        cases h
        obtain ⟨hm, b2, o2, ws2, rfl, hl2, hflN, hpN, hrv2, hnews2, hone2⟩ := newsP (by simpa using hemp) hnews
        have hcap : cap = 0 := k2.1 hful
        subst hcap
        obtain ⟨g1, g2, g3⟩ := grown 0 0 (by omega) [] (by simp) _ hl2 _ rfl
        have hrun : (Builtin.append_ #[t, t] u #[.slice A ([] : List DV).length 0, .slice (some ⟨b2, o2, none⟩) news.length cap2]).run P x.w =
            .ok (.slice (some ⟨x.w.heap.size, 0, none⟩) news.length (grownCap x.w news.length 0 e)) (x.w.drew.alloc (.cells (ws2.toArray ++ Builtin.zeroCells z.cells (grownCap x.w news.length 0 e - news.length)) e)) := by
          cases A with
          | none => exact run_append_nil (P := P) x.w t u e ie z hu hie hiz ⟨b2, o2, none⟩ news.length cap2 ws2 (by rw [hl2, hse]) hnews2 hm (by omega) (by rw [hbe]; unfold maxBytes at hbytes; omega)
          | some ad =>
            have := run_append_grow (P := P) x.w t u e ie z hu hie hiz ad 0 0 [] (by simp) (by simp) ⟨b2, o2, none⟩ news.length cap2 ws2 (by rw [hl2, hse]) hnews2 (by omega) (by omega) (growslice_fits (by omega) (by rw [hbe, Nat.zero_add]; exact hbytes))
            simpa using this
        simp only [Nat.zero_add] at g1 g2 g3
        generalize hk0 : grownCap x.w news.length 0 e = k at *
        have v2 : ∀ j, j < news.length * s → (ws2.toArray ++ Builtin.zeroCells z.cells (k - news.length)).getD j undef = ws2.getD j undef := fun j hj => by
          rw [Array.getD_eq_getD_getElem?, Array.getElem?_append_left (by simp; omega)]
          simp [List.getD_eq_getElem?_getD]
        have g3' : (ws2.toArray ++ Builtin.zeroCells z.cells (k - news.length)).size = k * s := by simpa using g3
        obtain ⟨y, y1, y2, y3, y4, y5⟩ := fresh_slo (n := news.length) (agg := agg) hR hn (w' := x.w.drew.alloc (.cells (ws2.toArray ++ Builtin.zeroCells z.cells (k - news.length)) e)) (e := e) (l := flat news) (k := k) (s := s) ⟨rfl, rfl, rfl⟩ g3' (by rw [g3', hflN]; exact Nat.mul_le_mul_right _ g2) g1 (fun j c hc => ⟨hpN c (List.mem_of_getElem? hc), by
          have hj : j < (flat news).length := (List.getElem?_eq_some_iff.1 hc).1
          rw [v2 j (by omega)]
          exact hrv2 j c hc⟩) hflN.symm
        exact yields_v (by rw [y1]; exact hrun) y2 y3 y4 y5
    · cases h
theorem look_ok (hR : Rel x) {d : DV} {v : Value} (h : RV x d v) : RV x (lookV x.S d) v := by
  cases h with
  | @slo id n agg e1 s1 l1 z1 A cap hS hn hA =>
    unfold lookV
    dsimp only
    split
    · rename_i e s l hop
      obtain ⟨hS', hns⟩ := opD_spec hop
      obtain ⟨rfl, rfl, rfl, rfl⟩ : e = e1 ∧ s = s1 ∧ l = l1 ∧ true = z1 := by rw [hS'] at hS; cases hS; exact ⟨rfl, rfl, rfl, rfl⟩
      split
      · rename_i hc
        simp only [Bool.and_eq_true, Bool.or_eq_true, beq_iff_eq, decide_eq_true_eq] at hc
        obtain ⟨rfl, rfl⟩ := hA hns
        obtain ⟨arr, h1, h2, h3, -, h4, h5, -⟩ := hR.ops id e s l true hS
        obtain ⟨hfl, hrl⟩ := flat_rows hc.1 hc.2 (fun c hm => by
          obtain ⟨j, hj⟩ := List.mem_iff_getElem?.1 hm
          exact (h4 j c hj).1) n hns.symm
        have hrn : (rowsOf s agg l n).length = n := by simp [rowsOf]
        suffices hk : RV x (.sl (rowsOf s agg l n) none ⟨false, some false⟩) (.slice (some ⟨x.μ id, 0, none⟩) (rowsOf s agg l n).length (x.κ id)) by rw [hrn] at hk; exact hk
        refine RV.sl (tok := none) (view_new hrl (fun c hm => ?_) (by rw [hfl]; exact h3) h1 fun j hj => h5 rfl j (by rw [hfl] at hj; exact hj)) (fun j c hc => ?_) ?_ ⟨by simp, fun b h => by cases h; rfl⟩ (by simp) (fun ad h _ => by cases h; rfl) (fun t ht => nomatch ht)
        · rw [hfl] at hm
          obtain ⟨j, hj⟩ := List.mem_iff_getElem?.1 hm
          exact (h4 j c hj).1
        · grind
        · rw [hrn]
          exact Nat.le_of_mul_le_mul_right (show n * s ≤ x.κ id * s by omega) hc.1
      · exact .slo hS hn hA
    · exact .slo hS hn hA
  | val h => exact .val h
  | agg h hl => exact .agg h hl
  | tup h hl => exact .tup h hl
  | sl hv hr h1 h2 h3 hsp h4 => exact .sl hv hr h1 h2 h3 hsp h4
  | ptr h => exact .ptr h
  | eptr hv hr => exact .eptr hv hr
  | fn h1 h2 h3 h4 => exact .fn h1 h2 h3 h4
  | map h => exact .map h
  | yld h => exact .yld h
  | optr h h1 h2 => exact .optr h h1 h2
theorem frz_ok (hR : Rel x) (d : DV) : ∃ y, y.w = x.w ∧ y.S = frzS x.S d ∧ Rel y ∧ Mono x y := by
  unfold frzS
  split
  · rename_i id n ag
    split
    · rename_i e s l hop
      obtain ⟨hS, -⟩ := opD_spec hop
      exact ⟨x.close id e s l, rfl, rfl, rel_close hR hS, mono_close hS⟩
    · exact ⟨x, rfl, rfl, hR, Mono.refl x⟩
  · exact ⟨x, rfl, rfl, hR, Mono.refl x⟩
theorem frzL_ok : ∀ (l : List DV) {x : Cx}, Rel x → ∃ y, y.w = x.w ∧ y.S = l.foldl frzS x.S ∧ Rel y ∧ Mono x y
  | [], x, hR => ⟨x, rfl, rfl, hR, Mono.refl x⟩
  | d :: l, x, hR => by
    obtain ⟨y, y1, y2, y3, y4⟩ := frz_ok hR d
    obtain ⟨z, z1, z2, z3, z4⟩ := frzL_ok l y3
    exact ⟨z, z1.trans y1, by rw [z2, y2, List.foldl_cons], z3, y4.trans z4⟩
theorem frz1_ok (hR : Rel x) (d : DV) : ∃ y, y.w = x.w ∧ y.S = frz1 x.S d ∧ Rel y ∧ Mono x y := by
  have o : frz1 x.S d = frzS x.S d → ∃ y, y.w = x.w ∧ y.S = frz1 x.S d ∧ Rel y ∧ Mono x y := fun e => by rw [e]; exact frz_ok hR d
  cases d
  case agg l => exact frzL_ok _ hR
  all_goals exact o rfl
theorem frzT_ok : ∀ (l : List DV) {x : Cx}, Rel x → ∃ y, y.w = x.w ∧ y.S = l.foldl frz1 x.S ∧ Rel y ∧ Mono x y
  | [], x, hR => ⟨x, rfl, rfl, hR, Mono.refl x⟩
  | d :: l, x, hR => by
    obtain ⟨y, y1, y2, y3, y4⟩ := frz1_ok hR d
    obtain ⟨z, z1, z2, z3, z4⟩ := frzT_ok l y3
    exact ⟨z, z1.trans y1, by rw [z2, y2, List.foldl_cons], z3, y4.trans z4⟩
theorem frzV_ok (hR : Rel x) (d : DV) : ∃ y, y.w = x.w ∧ y.S = frzV x.S d ∧ Rel y ∧ Mono x y := by
  have o : frzV x.S d = frz1 x.S d → ∃ y, y.w = x.w ∧ y.S = frzV x.S d ∧ Rel y ∧ Mono x y := fun e => by rw [e]; exact frz1_ok hR d
  cases d
  case tup l => exact frzT_ok _ hR
  all_goals exact o rfl
theorem lookL_ok (hR : Rel x) {l : List DV} {vs : Array Value} (h : ∀ j c, l[j]? = some c → RV x c (vs.getD j undef)) (j : Nat) (c : DV) (hj : (l.map (lookV x.S))[j]? = some c) : RV x c (vs.getD j undef) := by
  simp only [List.getElem?_map, Option.map_eq_some_iff] at hj
  obtain ⟨c', h2, rfl⟩ := hj
  exact look_ok hR (h j c' h2)
theorem lookA_ok (hR : Rel x) {d : DV} {v : Value} (h : RV x d v) : RV x (look1 x.S d) v := by
  cases h with
  | agg h1 h2 => exact .agg (by simpa using h1) (lookL_ok hR h2)
  | val h => exact look_ok hR (.val h)
  | tup h1 h2 => exact look_ok hR (.tup h1 h2)
  | sl hv hr h1 h2 h3 hsp h4 => exact look_ok hR (.sl hv hr h1 h2 h3 hsp h4)
  | ptr h => exact look_ok hR (.ptr h)
  | eptr hv hr => exact look_ok hR (.eptr hv hr)
  | fn h1 h2 h3 h4 => exact look_ok hR (.fn h1 h2 h3 h4)
  | map h => exact look_ok hR (.map h)
  | yld h => exact look_ok hR (.yld h)
  | slo h h1 h2 => exact look_ok hR (.slo h h1 h2)
  | optr h h1 h2 => exact look_ok hR (.optr h h1 h2)
theorem lookD_ok (hR : Rel x) {d : DV} {v : Value} (h : RV x d v) : RV x (lookD x.S d) v := by
  cases d
  case tup l =>
    cases h with
    | tup h1 h2 =>
      refine .tup (by simpa using h1) fun j c hj => ?_
      simp only [List.getElem?_map, Option.map_eq_some_iff] at hj
      obtain ⟨c', h3, rfl⟩ := hj
      exact lookA_ok hR (h2 j c' h3)
  all_goals exact lookA_ok hR h
theorem frzs_ok {env : List DV} : ∀ (l : List Operand) {x : Cx}, Rel x → ∃ y, y.w = x.w ∧ y.S = l.foldl (frzE env) x.S ∧ Rel y ∧ Mono x y
  | [], x, hR => ⟨x, rfl, rfl, hR, Mono.refl x⟩
  | a :: l, x, hR => by
    rw [List.foldl_cons]
    cases he : evD env a with
    | none => rw [show frzE env x.S a = x.S by unfold frzE; rw [he]]; exact frzs_ok l hR
    | some d =>
      rw [show frzE env x.S a = frzS x.S d by unfold frzE; rw [he]]
      obtain ⟨y, y1, y2, y3, y4⟩ := frz_ok hR d
      obtain ⟨z, z1, z2, z3, z4⟩ := frzs_ok (env := env) l y3
      exact ⟨z, z1.trans y1, by rw [z2, y2], z3, y4.trans z4⟩
theorem pre_ok {env : List DV} {arr : Array Value} (o : Oper) (hR : Rel x) (he : RVs x env arr) : ∃ y, y.w = x.w ∧ y.S = (preD ty o env x.S).2 ∧ Rel y ∧ Mono x y ∧ RVs y (preD ty o env x.S).1 arr := by
  unfold preD
  split
  · obtain ⟨y, y1, y2, y3, y4⟩ := frzs_ok (env := env) o.op.operands.toList hR
    refine ⟨y, y1, y2, y3, y4, by simpa using he.1, fun j c hc => ?_⟩
    simp only [List.getElem?_map, Option.map_eq_some_iff] at hc
    obtain ⟨c', h1, rfl⟩ := hc
    rw [← y2]
    exact look_ok y3 ((he.2 j c' h1).mono y4)
  · exact ⟨x, rfl, rfl, hR, Mono.refl x, he⟩
theorem frzI_ok : ∀ (l : List Nat) {x : Cx}, Rel x → ∃ y, y.w = x.w ∧ y.S = l.foldl frzI x.S ∧ Rel y ∧ Mono x y
  | [], x, hR => ⟨x, rfl, rfl, hR, Mono.refl x⟩
  | i :: l, x, hR => by
    have key : ∃ y, y.w = x.w ∧ y.S = frzI x.S i ∧ Rel y ∧ Mono x y := by
      unfold frzI
      split
      · rename_i e s l' hS
        exact ⟨x.close i e s l', rfl, rfl, rel_close hR hS, mono_close hS⟩
      · exact ⟨x, rfl, rfl, hR, Mono.refl x⟩
    obtain ⟨y, y1, y2, y3, y4⟩ := key
    obtain ⟨z, z1, z2, z3, z4⟩ := frzI_ok l y3
    exact ⟨z, z1.trans y1, by rw [z2, y2, List.foldl_cons], z3, y4.trans z4⟩
theorem lookB_id {S : Store} {b : DB} (h : ∀ l, b ≠ .cells l) : lookB S b = b := by
  cases b with
  | cells l => exact absurd rfl (h l)
  | _ => rfl
theorem lookS_ok (hR : Rel x) : ∃ y, y.w = x.w ∧ y.S = x.S.map (lookB x.S) ∧ Rel y ∧ Mono x y := by
  have hg : ∀ (i : Nat) (b : DB), (x.S.map (lookB x.S))[i]? = some b → ∃ b0, x.S[i]? = some b0 ∧ lookB x.S b0 = b := fun i b h => by simpa [List.getElem?_map] using h
  have hs : ∀ (i : Nat) (b : DB), x.S[i]? = some b → (x.S.map (lookB x.S))[i]? = some (lookB x.S b) := fun i b h => by simp [List.getElem?_map, h]
  have hq : ∀ (i : Nat) (b : DB), (∀ l, b ≠ .cells l) → (x.S.map (lookB x.S))[i]? = some b → x.S[i]? = some b := fun i b hb h => by
    obtain ⟨b0, h1, h2⟩ := hg i b h
    cases b0 with
    | cells l => exact absurd h2.symm (hb _)
    | _ => rw [h1, ← h2]; rfl
  have hlv : ∀ i, Live (x.S.map (lookB x.S)) i ↔ Live x.S i := fun i => ⟨fun ⟨b, h1, h2⟩ => by
    obtain ⟨b0, h3, rfl⟩ := hg i b h1
    exact ⟨b0, h3, fun e => h2 (by rw [e]; rfl)⟩, fun ⟨b, h1, h2⟩ => ⟨_, hs i b h1, by cases b <;> simp [lookB] at h2 ⊢⟩⟩
  have M : Mono x { x with S := x.S.map (lookB x.S) } :=
    ⟨Nat.le_refl _, ⟨rfl, rfl⟩, fun _ _ h => ⟨h, rfl⟩, fun _ _ h => .inl h, fun _ _ _ => rfl, by simp, fun _ l h => ⟨rfl, _, hs _ _ h⟩, fun _ b h hb => ⟨rfl, ⟨b, by rw [hs _ _ h, lookB_id (fun l e => by subst e; cases hb)], like_refl hb⟩, fun _ => rfl⟩, fun _ _ _ n h => ⟨n, hs _ _ h, Nat.le_refl _, fun _ => ⟨rfl, rfl⟩⟩, fun i h => .inl ⟨(hlv i).1 h, rfl⟩, fun _ _ _ l z h => ⟨l, z, hs _ _ h, Nat.le_refl _, fun e => ⟨rfl, e⟩, fun _ => ⟨rfl, rfl⟩⟩⟩
  refine ⟨{ x with S := x.S.map (lookB x.S) }, rfl, rfl, ?_, M⟩
  refine ⟨fun id l hl => ?_, fun id e s n hl => hR.tails id e s n (hq _ _ (by simp) hl), fun id b hl hb => ?_, fun i j hi hj => hR.inj i j ((hlv i).1 hi) ((hlv j).1 hj), hR.frz, fun id ⟨l, hl⟩ => ?_, fun id e s n hl => hR.sept id e s n (hq _ _ (by simp) hl), fun id e s l z hl => ?_, hR.glob⟩
  · obtain ⟨b0, h1, h2⟩ := hg id _ hl
    cases b0 with
    | cells l0 =>
      simp only [lookB, DB.cells.injEq] at h2
      subst h2
      obtain ⟨arr, e, h3, h4, h5⟩ := hR.cells id l0 h1
      exact ⟨arr, e, h3, by simpa using h4, fun j c hc => (lookL_ok hR h5 j c hc).mono M⟩
    | _ => simp [lookB] at h2
  · obtain ⟨o, h1, h2⟩ := hR.objs id b (hq _ _ (fun l e => by subst e; cases hb) hl) hb
    exact ⟨o, h1, h2.mono M⟩
  · obtain ⟨b0, h1, h2⟩ := hg id _ hl
    cases b0 with
    | cells l0 => exact hR.sep id ⟨l0, h1⟩
    | _ => simp [lookB] at h2
  · obtain ⟨arr, h1, h2, h3, h4, h5, h6⟩ := hR.ops id e s l z (hq _ _ (by simp) hl)
    exact ⟨arr, h1, h2, h3, h4, fun j c hc => ⟨(h5 j c hc).1, (h5 j c hc).2.mono M⟩, h6⟩
theorem shut_ok {env : List DV} {arr : Array Value} (hR : Rel x) (he : RVs x env arr) : ∃ y, y.w = x.w ∧ y.S = (shutL x.S).map (lookB (shutL x.S)) ∧ Rel y ∧ Mono x y ∧ RVs y (env.map (lookV (shutL x.S))) arr := by
  obtain ⟨y, y1, y2, y3, y4⟩ := frzI_ok (List.range x.S.length) hR
  obtain ⟨z, z1, z2, z3, z4⟩ := lookS_ok y3
  have e : y.S = shutL x.S := y2
  refine ⟨z, z1.trans y1, by rw [z2, e], z3, y4.trans z4, by simpa using he.1, fun j c hc => ?_⟩
  simp only [List.getElem?_map, Option.map_eq_some_iff] at hc
  obtain ⟨c', h1, rfl⟩ := hc
  rw [← e]
  exact (look_ok y3 ((he.2 j c' h1).mono y4)).mono z4
end Go.Di
end
