/- The law CutKnown: part 5: Cd8. By an AI agent. -/
import Derived.Test.YtadeehilamokkaaGreatDoorPk04
section
namespace Go.Di
open Go
variable {P : Program} {ty : Tys} {x : Cx} {w' : World} {ρd : Operand → Option DV} {ρ : Operand → Value} {o : Oper} {nid : Nat}
theorem sl_cells {rows : List DV} {tok : Option Nat} {full : SF} {A : Option Addr} {n cap s : Nat} (h : RV x (.sl rows tok full) (.slice A n cap)) (hs : ∀ r ∈ rows, r.cells.length = s) :
    n = rows.length ∧ n ≤ cap ∧ ((full.full = true → cap = n) ∧ NilOf full A) ∧ (A = none → cap = 0) ∧ TokOf x tok rows A cap ∧ (∀ ad, A = some ad → 0 < cap → ad.spot = none) ∧
    (∀ c ∈ flat rows, c.pure1 = true) ∧ ∃ vs : List Value, vs.length = n * s ∧ (∀ j c, (flat rows)[j]? = some c → RV x c (vs.getD j undef)) ∧
      (∀ j c, (flat rows)[j]? = some c → ∃ b o, A = some ⟨b, o, none⟩ ∧ x.Fz b (o + j) ∧ x.w.cell? ⟨b, o + j, none⟩ = some (vs.getD j undef)) ∧ ∀ u ∈ vs, u.oneCell' = true := by
  cases h with
  | @sl _ _ _ _ _ s' vs hv hr h1 h2 h3 hsp h4 =>
    have hfl := flat_len hs
    refine ⟨rfl, h1, h2, h3, h4, hsp, fun c hc => ?_, (List.range (rows.length * s)).map vs, by simp, fun j c hc => ?_, fun j c hc => ?_, fun u hu => ?_⟩
    · obtain ⟨j, hj, rfl⟩ := List.mem_iff_getElem.1 hc
      exact (hv.2 j _ (List.getElem?_eq_getElem hj)).1
    · grind
    · have hj : j < rows.length * s := by rw [← hfl]; exact (List.getElem?_eq_some_iff.1 hc).1
      obtain ⟨-, b, o, k1, k2, k3⟩ := hv.2 j c hc
      exact ⟨b, o, k1, k2, by simpa [List.getD_eq_getElem?_getD, hj] using k3⟩
    · simp only [List.mem_map, List.mem_range] at hu
      obtain ⟨j, hj, rfl⟩ := hu
      have hj' : j < (flat rows).length := by omega
      have k := List.getElem?_eq_getElem hj'
      have hp := (hv.2 j _ k).1
      have h1 : ((flat rows)[j]).one = true := by
        revert hp
        generalize (flat rows)[j] = c
        cases c <;> simp [DV.pure1, DV.one]
      exact (one_cell (hr j _ k) h1).1
theorem rv_row {y : Cx} {R : List DV} {t s N cap : Nat} {e : TypeId} {arr : Array Value} (hR : ∀ r ∈ R, r.cells.length = s) (hp : ∀ c ∈ flat R, c.pure1 = true) (hS : y.S[t]? = some (.tail e s N)) (hN : N = R.length * s)
    (hh : y.w.heap[y.μ t]? = some (.cells arr e (0, 0))) (hF : ∀ o, o < N → y.Fz (y.μ t) o) (hsz : N ≤ arr.size) (hc : ∀ j c, (flat R)[j]? = some c → RV y c (arr.getD j undef)) (hk : cap = y.κ t) (hcap : R.length ≤ cap) :
    RV y (.sl R (some t) ⟨false, none⟩) (.slice (some ⟨y.μ t, 0, none⟩) R.length cap) := by
  have hfl := flat_len hR
  refine RV.sl (view_new hR hp (by omega) hh fun j hj => hF j (by omega)) hc hcap ⟨by simp, fun _ h => nomatch h⟩ (by simp) (fun ad h _ => by cases h; rfl) fun t' ht => ?_
  cases ht
  exact ⟨e, s, N, hS, by omega, hR, fun _ => ⟨rfl, hk⟩⟩
theorem flat_append (a b : List DV) : flat (a ++ b) = flat a ++ flat b := by simp [flat]
theorem rv_append {y : Cx} {rows news : List DV} {ws1 ws2 : List Value} {t s b cap : Nat} {e : TypeId} {arr : Array Value} (M : Mono x y) (h1 : ∀ r ∈ rows, r.cells.length = s) (h2 : ∀ r ∈ news, r.cells.length = s) (hp1 : ∀ c ∈ flat rows, c.pure1 = true) (hp2 : ∀ c ∈ flat news, c.pure1 = true)
    (hr1 : ∀ (j : Nat) (c : DV), (flat rows)[j]? = some c → RV x c (ws1.getD j undef)) (hr2 : ∀ (j : Nat) (c : DV), (flat news)[j]? = some c → RV x c (ws2.getD j undef)) (hS : y.S[t]? = some (.tail e s ((rows.length + news.length) * s))) (hμ : y.μ t = b) (hκ : y.κ t = cap)
    (hh : y.w.heap[b]? = some (.cells arr e (0, 0))) (hF : ∀ o, o < (rows.length + news.length) * s → y.Fz b o) (hsz : (rows.length + news.length) * s ≤ arr.size) (ha1 : ∀ j, j < rows.length * s → arr.getD j undef = ws1.getD j undef) (ha2 : ∀ j, j < news.length * s → arr.getD (rows.length * s + j) undef = ws2.getD j undef)
    (hcap : rows.length + news.length ≤ cap) : RV y (.sl (rows ++ news) (some t) ⟨false, none⟩) (.slice (some ⟨b, 0, none⟩) (rows.length + news.length) cap) := by
  have hf1 := flat_len h1
  have hf2 := flat_len h2
  subst hμ hκ
  have key := rv_row (y := y) (R := rows ++ news) (t := t) (s := s) (arr := arr) (cap := y.κ t) (N := (rows.length + news.length) * s) (fun r hr => (List.mem_append.1 hr).elim (h1 r) (h2 r)) (fun c hc => ?_) hS (by rw [List.length_append]) hh hF hsz (fun j c hc => ?_) rfl (by rw [List.length_append]; exact hcap)
  · grind
  · rw [flat_append] at hc; exact (List.mem_append.1 hc).elim (hp1 c) (hp2 c)
  · rw [flat_append] at hc
    by_cases hj : j < (flat rows).length
    · rw [List.getElem?_append_left hj] at hc
      rw [ha1 j (by omega)]
      exact (hr1 j c hc).mono M
    · rw [List.getElem?_append_right (by omega)] at hc
      have hj2 : j - (flat rows).length < (flat news).length := (List.getElem?_eq_some_iff.1 hc).1
      have e1 : j = rows.length * s + (j - (flat rows).length) := by omega
      rw [e1, ha2 _ (by omega)]
      exact (hr2 _ c hc).mono M
theorem grown_get {ws1 ws2 : List Value} {Z : Array Value} {n m : Nat} (h1 : ws1.length = n) (h2 : ws2.length = m) : (∀ j, j < n → (ws1.toArray ++ ws2.toArray ++ Z).getD j undef = ws1.getD j undef) ∧ ∀ j, j < m → (ws1.toArray ++ ws2.toArray ++ Z).getD (n + j) undef = ws2.getD j undef := by
  constructor
  · intro j hj
    rw [Array.getD_eq_getD_getElem?, Array.getElem?_append_left (by simp; omega), Array.getElem?_append_left (by simp; omega)]
    simp [List.getD_eq_getElem?_getD]
  · intro j hj
    rw [Array.getD_eq_getD_getElem?, Array.getElem?_append_left (by simp; omega), Array.getElem?_append_right (by simp; omega)]
    simp [List.getD_eq_getElem?_getD, h1]
theorem op_append (hty : TyOk P ty) (hR : Rel x) (hn : Nid x.S nid) {t u : TypeId} {a b d : DV} {va vb : Value} {S' : Store} (ha : RV x a va) (hb : RV x b vb) (h : appendD ty x.S nid t a b = some (d, S')) :
    Yields x ((do pure (.value (← Builtin.append_ #[t, t] u #[va, vb])) : Sem Next).run P x.w) d S' := by
  unfold appendD at h
  split at h
  · rename_i e s by_ agg sz z0 rows tok full news tok2 full2 htt
    obtain ⟨hk, it, -, -, -⟩ := tyOf_info (hty t _ htt)
    obtain ⟨hu, ie, hie, hse, hbe, -⟩ := tk_slice hk
    have ha0 := ha
    have hb0 := hb
    cases ha with
    | @sl _ _ _ A cap s1 vs1 hv1 hr1 k1 k2 k3 k4 k5 =>
      cases hb with
      | @sl _ _ _ A2 cap2 s2 vs2 hv2 hr2 m1 m2 m3 m4 m5 =>
        split at h
        · rename_i hemp
          cases h
          have hnil : news = [] := by simpa using hemp
          subst hnil
          refine yields_here hR (v := .slice A rows.length cap) ?_ ha0
          subst hse
          cases A with
          | none => cases A2 <;> simp [Builtin.append_, run_underlying hu, run_sizeOf hie, Builtin.lenOf, Builtin.firstCells, loadCells, loadCellsFrom, k1]
          | some ad => cases A2 <;> simp [Builtin.append_, run_underlying hu, run_sizeOf hie, Builtin.lenOf, Builtin.firstCells, loadCells, loadCellsFrom, storeCells, k1]
        · rename_i hemp
          split at h
          · rename_i hte
            split at h
            rotate_left
            · cases h
            rename_i hcond
            simp only [Bool.and_eq_true, decide_eq_true_eq, List.all_eq_true] at hcond
            obtain ⟨⟨⟨hs, hbytes⟩, hlen⟩, hnews⟩ := hcond
            have hm : 0 < news.length := List.length_pos_iff.2 (by simpa using hemp)
            obtain ⟨z, hiz, hzs⟩ : ∃ z, ie.zero = some z ∧ z.cells.size = s := by
              obtain ⟨-, ie', hie', hs', hz'⟩ := tyOf_info (hty e _ hte)
              rw [hie] at hie'
              cases hie'
              obtain ⟨z, q1, q2, q3⟩ := zeroOf_spec hz'
              have := (rv_ofCells (x := x) q2).1
              exact ⟨z, q1, by rw [← hse, ← q3]; simpa using this⟩
            obtain ⟨-, -, -, -, -, hsp2, hpN, ws2, hl2, hrv2, hc2, hone2⟩ := sl_cells hb0 hnews
            obtain ⟨ad2, rfl⟩ : ∃ ad2, A2 = some ad2 := by
              cases A2 with
              | none => have := m3 rfl; omega
              | some ad => exact ⟨ad, rfl⟩
            have hflN := flat_len hnews
            obtain ⟨b2, o2, sp2⟩ := ad2
            have hspn : sp2 = none := hsp2 _ rfl (by omega)
            subst hspn
            have hnews2 : ∀ j v, ws2[j]? = some v → x.w.cell? ((⟨b2, o2, none⟩ : Addr).add j) = some v := by
              intro j v hv
              have hj : j < (flat news).length := by rw [hflN, ← hl2]; exact (List.getElem?_eq_some_iff.1 hv).1
              obtain ⟨b', o', q1, -, q2⟩ := hc2 j _ (List.getElem?_eq_getElem hj)
              cases q1
              rw [addr_add, q2]
              simp [List.getD_eq_getElem?_getD, hv]
            have hb63 : rows.length + news.length ≤ 9223372036854775807 := by omega
            have grown : ∀ (w1 : List Value), w1.length = rows.length * s → ∀ (k : Nat), k = grownCap x.w (rows.length + news.length) cap e → k ≤ maxLen ∧ rows.length + news.length ≤ k ∧
                (w1.toArray ++ ws2.toArray ++ Builtin.zeroCells z.cells (k - (rows.length + news.length))).size = k * s := by
              intro w1 hw1 k hk
              have hge := grownCap_ge x.w (rows.length + news.length) cap e
              have hle := grownCap_le_maxLen x.w (rows.length + news.length) cap e (by simp only [maxLen]; omega)
              subst hk
              refine ⟨hle, hge, ?_⟩
              simp only [Array.size_append, List.size_toArray, size_zeroCells, hzs, hw1, hl2, ← Nat.add_mul]
              congr 1
              omega
            have fullCase : ∀ (hf : full.full = true) (hrows : ∀ r ∈ rows, r.cells.length = s), d = .sl (rows ++ news) (some nid) ⟨false, none⟩ → S' = setS x.S nid (.tail e s ((rows.length + news.length) * s)) →
                Yields x ((do pure (.value (← Builtin.append_ #[t, t] u #[.slice A rows.length cap, .slice (some ⟨b2, o2, none⟩) news.length cap2])) : Sem Next).run P x.w) d S' := by
              intro hf hrows hd hS
              subst hd hS
              have hcap : cap = rows.length := k2.1 hf
              obtain ⟨-, -, -, -, -, hsp1, hpR, ws1, hl1, hrv1, hc1, hone1⟩ := sl_cells ha0 hrows
              have hflR := flat_len hrows
              obtain ⟨g1, g2, g3⟩ := grown ws1 hl1 _ rfl
              have hrun : (Builtin.append_ #[t, t] u #[.slice A rows.length cap, .slice (some ⟨b2, o2, none⟩) news.length cap2]).run P x.w =
                  .ok (.slice (some ⟨x.w.heap.size, 0, none⟩) (rows.length + news.length) (grownCap x.w (rows.length + news.length) cap e)) (x.w.drew.alloc (.cells (ws1.toArray ++ ws2.toArray ++ Builtin.zeroCells z.cells (grownCap x.w (rows.length + news.length) cap e - (rows.length + news.length))) e)) := by
                cases A with
                | none =>
                  have h0 := k3 rfl
                  have hr0 : rows.length = 0 := by omega
                  have hw0 : ws1 = [] := List.eq_nil_of_length_eq_zero (by rw [hl1, hr0]; simp)
                  subst hw0
                  rw [hr0, h0]
                  have := run_append_nil (P := P) x.w t u e ie z hu hie hiz ⟨b2, o2, none⟩ news.length cap2 ws2 (by rw [hl2, hse]) hnews2 hm (by omega) (by rw [hbe]; unfold maxBytes at hbytes; have : news.length * by_ ≤ (rows.length + news.length) * by_ := Nat.mul_le_mul_right _ (by omega); omega)
                  simpa using this
                | some ad =>
                  obtain ⟨b1, o1, sp1⟩ := ad
                  have hs1 : 0 < rows.length → sp1 = none := fun h => hsp1 _ rfl (by omega)
                  refine run_append_grow (P := P) x.w t u e ie z hu hie hiz ⟨b1, o1, sp1⟩ rows.length cap ws1 (by rw [hl1, hse]) (fun j v hv => ?_) ⟨b2, o2, none⟩ news.length cap2 ws2 (by rw [hl2, hse]) hnews2 (by omega) (by omega) (growslice_fits (by omega) (by rw [hbe]; exact hbytes))
                  have hj : j < (flat rows).length := by rw [hflR, ← hl1]; exact (List.getElem?_eq_some_iff.1 hv).1
                  obtain rfl := hs1 (Nat.pos_of_ne_zero fun e => by rw [hflR, e] at hj; simp at hj)
                  obtain ⟨b', o', q1, -, q2⟩ := hc1 j _ (List.getElem?_eq_getElem hj)
                  cases q1
                  rw [addr_add, q2]
                  simp [List.getD_eq_getElem?_getD, hv]
              generalize hk0 : grownCap x.w (rows.length + news.length) cap e = k at *
              obtain ⟨v1, v2⟩ := grown_get (Z := Builtin.zeroCells z.cells (k - (rows.length + news.length))) hl1 hl2
              generalize harr : ws1.toArray ++ ws2.toArray ++ Builtin.zeroCells z.cells (k - (rows.length + news.length)) = arr at *
              have hp : Push x.w (x.w.drew.alloc (.cells arr e)) (.cells arr e (0, 0)) := ⟨rfl, rfl, rfl⟩
              have hNs : (rows.length + news.length) * s ≤ arr.size := by rw [g3]; exact Nat.mul_le_mul_right _ g2
              have hR' := rel_fresh (k := k) (F := fun o => o < (rows.length + news.length) * s) (b := .tail e s ((rows.length + news.length) * s)) hR hn hp (fun o ho => ⟨arr[o]'(by omega), by simp only [World.cell?, hp.new]; exact Array.getElem?_eq_getElem _⟩) (.inr (.inl ⟨e, s, _, arr, rfl, rfl, g3, hNs, g1, fun o ho => ho⟩))
              have M := mono_fresh (k := k) (F := fun o => o < (rows.length + news.length) * s) (b := .tail e s ((rows.length + news.length) * s)) hR hn hp
              exact yields_v hrun (y := x.fresh (x.w.drew.alloc (.cells arr e)) nid k (fun o => o < (rows.length + news.length) * s) (.tail e s ((rows.length + news.length) * s))) rfl hR' M
                (rv_append M hrows hnews hpR hpN hrv1 hrv2 (by show (setS _ _ _)[_]? = _; rw [setS_get hn.le, if_pos rfl]) (if_pos rfl) (if_pos rfl) hp.new (fun o ho => .inr ⟨rfl, ho⟩) hNs v1 v2 g2)
            cases tok with
            | none => grind
            | some tk =>
              simp only at h
              split at h
              · rename_i e' s' n' hSt
                split at h
                · rename_i hcond2
                  simp only [Bool.and_eq_true, decide_eq_true_eq] at hcond2
                  obtain ⟨⟨w1, w2⟩, w3⟩ := hcond2
                  rw [w1, w2, w3] at hSt
                  cases h
                  obtain ⟨e2, s2', n2, q1, q2, q3, q4⟩ := k5 tk rfl
                  rw [hSt] at q1
                  cases q1
                  obtain ⟨rfl, rfl⟩ := q4 rfl
                  obtain ⟨-, -, -, -, -, -, hpR, ws1, hl1, hrv1, hc1, hone1⟩ := sl_cells ha0 q3
                  have hflR := flat_len q3
                  obtain ⟨cur, t1, t2, t3, t4⟩ := hR.tails tk _ _ _ hSt
                  have hcur : ∀ j, j < rows.length * s → cur[j]? = some (ws1.getD j undef) := by
                    intro j hj
                    have hj' : j < (flat rows).length := by omega
                    obtain ⟨b', o', r1, -, r2⟩ := hc1 j _ (List.getElem?_eq_getElem hj')
                    cases r1
                    simpa [World.cell?, t1] using r2
                  by_cases hroom : rows.length + news.length ≤ x.κ tk
                  ·
                    have hfit : rows.length * s + ws2.length ≤ cur.size := by rw [hl2, t2, ← Nat.add_mul]; exact Nat.mul_le_mul_right _ hroom
                    have hrun := run_append_room (P := P) x.w t u e ie hu hie (x.μ tk) rows.length (x.κ tk) cur t1 ⟨b2, o2, none⟩ news.length cap2 ws2 (by rw [hl2, hse]) hnews2 hone2 hroom (by rw [hse]; exact hfit)
                    rw [hse] at hrun
                    generalize harr : (cur.toList.take (rows.length * s) ++ ws2 ++ cur.toList.drop (rows.length * s + ws2.length)).toArray = arr at *
                    have hasz : arr.size = cur.size := by rw [← harr]; simp; omega
                    have hget1 : ∀ j, j < rows.length * s → arr[j]? = some (ws1.getD j undef) := by grind
                    have hget2 : ∀ j, j < news.length * s → arr[rows.length * s + j]? = some (ws2.getD j undef) := by
                      intro j hj
                      have e1 : (cur.toList.take (rows.length * s)).length = rows.length * s := by simp; omega
                      rw [← harr, List.getElem?_toArray, List.append_assoc, List.getElem?_append_right (by omega), e1, Nat.add_sub_cancel_left, List.getElem?_append_left (by omega)]
                      simp [List.getD_eq_getElem?_getD, List.getElem?_eq_getElem (show j < ws2.length by omega)]
                    have hkeep : ∀ o, o < rows.length * s → (x.w.setRow (x.μ tk) arr).cell? ⟨x.μ tk, o, none⟩ = x.w.cell? ⟨x.μ tk, o, none⟩ := by
                      intro o ho
                      rw [cell_setRow_same _ _ _ _ _ _ _ t1, hget1 o ho]
                      simp [World.cell?, t1, hcur o ho]
                    have hNs : (rows.length + news.length) * s ≤ arr.size := by rw [hasz, t2]; exact Nat.mul_le_mul_right _ hroom
                    have hle : rows.length * s ≤ (rows.length + news.length) * s := Nat.mul_le_mul_right _ (by omega)
                    have hR' := rel_upd (F := fun o => o < (rows.length + news.length) * s) (arr := arr) (b := .tail e s ((rows.length + news.length) * s)) hR hSt (.inr (.inl ⟨e, s, _, _, rfl, rfl, hle, hkeep, by rw [hasz]; exact t2, hNs, fun o ho => ho⟩))
                    have M := mono_upd (F := fun o => o < (rows.length + news.length) * s) (arr := arr) (b := .tail e s ((rows.length + news.length) * s)) hR hSt (.inr (.inl ⟨e, s, _, _, rfl, rfl, hle, hkeep⟩))
                    exact yields_v hrun (y := x.upd tk arr (fun o => o < (rows.length + news.length) * s) (.tail e s ((rows.length + news.length) * s))) rfl hR' M
                      (rv_append M q3 hnews hpR hpN hrv1 hrv2 (by show (x.S.set _ _)[_]? = _; rw [set_get hSt, if_pos rfl]) rfl rfl (setRow_heap _ _ _ _ _ _ t1) (fun o ho => .inr ⟨rfl, ho⟩) hNs (fun j hj => by rw [Array.getD_eq_getD_getElem?, hget1 j hj]; rfl) (fun j hj => by rw [Array.getD_eq_getD_getElem?, hget2 j hj]; rfl) hroom)
                  ·
                    obtain ⟨g1, g2, g3⟩ := grown ws1 hl1 _ rfl
                    have hrun := run_append_grow (P := P) x.w t u e ie z hu hie hiz ⟨x.μ tk, 0, none⟩ rows.length (x.κ tk) ws1 (by rw [hl1, hse]) (fun j v hv => by
                        have hj : j < (flat rows).length := by rw [hflR, ← hl1]; exact (List.getElem?_eq_some_iff.1 hv).1
                        obtain ⟨b', o', r1, -, r2⟩ := hc1 j _ (List.getElem?_eq_getElem hj)
                        cases r1
                        rw [addr_add, r2]
                        simp [List.getD_eq_getElem?_getD, hv]) ⟨b2, o2, none⟩ news.length cap2 ws2 (by rw [hl2, hse]) hnews2 (by omega) (by omega) (growslice_fits (by omega) (by rw [hbe]; exact hbytes))
                    generalize hk0 : grownCap x.w (rows.length + news.length) (x.κ tk) e = k at *
                    obtain ⟨v1, v2⟩ := grown_get (Z := Builtin.zeroCells z.cells (k - (rows.length + news.length))) hl1 hl2
                    generalize harr : ws1.toArray ++ ws2.toArray ++ Builtin.zeroCells z.cells (k - (rows.length + news.length)) = arr at *
                    have hp : Push x.w (x.w.drew.alloc (.cells arr e)) (.cells arr e (0, 0)) := ⟨rfl, rfl, rfl⟩
                    have hNs : (rows.length + news.length) * s ≤ arr.size := by rw [g3]; exact Nat.mul_le_mul_right _ g2
                    have hlt : rows.length * s < (rows.length + news.length) * s := Nat.mul_lt_mul_of_pos_right (by omega) hs
                    have hR' := rel_moved (k := k) (F := fun o => o < (rows.length + news.length) * s) hR hSt hp hlt g3 hNs g1 fun o ho => ho
                    have M := mono_moved (k := k) (F := fun o => o < (rows.length + news.length) * s) (n' := (rows.length + news.length) * s) hR hSt hp hlt
                    exact yields_v hrun (y := x.moved (x.w.drew.alloc (.cells arr e)) tk k (fun o => o < (rows.length + news.length) * s) (.tail e s ((rows.length + news.length) * s))) rfl hR' M
                      (rv_append M q3 hnews hpR hpN hrv1 hrv2 (by show (x.S.set _ _)[_]? = _; rw [set_get hSt, if_pos rfl]) (if_pos rfl) (if_pos rfl) hp.new (fun o ho => .inr ⟨rfl, ho⟩) hNs v1 v2 g2)
                · cases h
              · cases h
          · cases h
  · cases h
theorem find_congr (kt : TypeId) (k : Value) : ∀ (l m : List MapEntry) (i : Nat), l.map (fun e => (e.key, e.val)) = m.map (fun e => (e.key, e.val)) → Instr.findAsking kt k l i = Instr.findAsking kt k m i
  | [], [], _, _ => rfl
  | [], _ :: _, _, h => by simp at h
  | _ :: _, [], _, h => by simp at h
  | e :: l, f :: m, i, h => by
    simp only [List.map_cons, List.cons.injEq, Prod.mk.injEq] at h
    unfold Instr.findAsking
    rw [h.1.1, h.1.2, find_congr kt k l m (i + 1) h.2]
theorem now_congr (kd : TypeDesc) (k : Value) : ∀ (l m : List MapEntry) (i : Nat), l.map (fun e => (e.key, e.val)) = m.map (fun e => (e.key, e.val)) → Instr.findNow kd k l i = Instr.findNow kd k m i
  | [], [], _, _ => rfl
  | [], _ :: _, _, h => by simp at h
  | _ :: _, [], _, h => by simp at h
  | e :: l, f :: m, i, h => by
    simp only [List.map_cons, List.cons.injEq, Prod.mk.injEq] at h
    unfold Instr.findNow
    rw [h.1.1, h.1.2, now_congr kd k l m (i + 1) h.2]
theorem key_congr (kt : TypeId) (k : Value) {l m : List MapEntry} (h : l.map (fun e => (e.key, e.val)) = m.map (fun e => (e.key, e.val))) : Instr.findKey kt k l = Instr.findKey kt k m := by
  unfold Instr.findKey
  have h1 : ∀ kd, Instr.findNow kd k l 0 = Instr.findNow kd k m 0 := fun kd => now_congr kd k l m 0 h
  have h2 := find_congr kt k l m 0 h
  simp only [h1, h2]
theorem mkE_map (es : List (Value × Value)) : (es.map mkE).map (fun e => (e.key, e.val)) = es := by
  rw [List.map_map]
  conv => rhs; rw [← List.map_id es]
  congr 1
theorem rv_ofRes {v : Value} {d : DV} (h : ofRes v = some d) : RV x d v := by
  unfold ofRes at h
  split at h
  · rename_i vs
    split at h
    · rename_i v b hvs
      simp only [Option.map_eq_some_iff] at h
      obtain ⟨d', h1, rfl⟩ := h
      have e : vs = #[v, .bool b] := by rw [← Array.toArray_toList (xs := vs), hvs]
      subst e
      refine .tup rfl fun j c hc => ?_
      match j with
      | 0 => simp only [List.getElem?_cons_zero, Option.some.injEq] at hc; subst hc; exact rv_ofVal h1
      | 1 => simp only [List.getElem?_cons_succ, List.getElem?_cons_zero, Option.some.injEq] at hc; subst hc; exact .val rfl
      | j + 2 => simp at hc
    · cases h
  · exact rv_ofVal h
theorem op_makeMap (hR : Rel x) (hn : Nid x.S nid) {t : TypeId} : Yields x ((do pure (.value (← Instr.makeMap t none)) : Sem Next).run P x.w) (.map nid) (setS x.S nid (.map [])) := by
  have hp : Push x.w (x.w.alloc (.map #[] 0)) (.map #[] 0) := push_alloc _ _
  have hR' := rel_fresh (k := 0) (F := fun _ => False) (b := .map []) hR hn hp (by simp) (.inr (.inr (.inl ⟨rfl, by simp, rfl⟩)))
  refine yields_v (y := x.fresh _ nid 0 (fun _ => False) (.map [])) (v := .map (some x.w.heap.size)) ?_ rfl hR' (mono_fresh hR hn hp) ?_
  · simp [Instr.makeMap, Cx.fresh]
  · have : (x.fresh (x.w.alloc (.map #[] 0)) nid 0 (fun _ => False) (.map [])).μ nid = x.w.heap.size := if_pos rfl
    rw [← this]
    exact .map (es := []) (by show (setS _ _ _)[_]? = _; rw [setS_get hn.le, if_pos rfl])
theorem map_obj (hR : Rel x) {id : Nat} {es : List (Value × Value)} (h : x.S[id]? = some (.map es)) : ∃ ents clk, x.w.heap[x.μ id]? = some (.map ents clk) ∧ ents.toList.map (fun e => (e.key, e.val)) = es := by
  obtain ⟨o, h1, h2⟩ := hR.objs id _ h rfl
  cases o <;> simp only [ObjOK] at h2
  exact ⟨_, _, h1, h2⟩
theorem pureS_bind {α β : Type} {s : Sem α} {f : α → Sem β} {b : β} (h : pureS P (s >>= f) = some b) : ∃ a, pureS P s = some a ∧ pureS P (f a) = some b := by
  change pureS P (s.bind f) = some b at h
  induction s with
  | pure a => exact ⟨a, rfl, h⟩
  | program k ih => exact ih P h
  | _ => simp [Sem.bind, pureS] at h
theorem op_lookup (hR : Rel x) {t : TypeId} {id : Nat} {es : List (Value × Value)} {k v : Value} {ok : Bool} {d : DV} (h : x.S[id]? = some (.map es)) (hp : pureS P (lookM t (es.map mkE) k ok) = some v) (hd : ofRes v = some d) :
    Yields x ((do pure (.value (← Instr.lookup t (.map (some (x.μ id))) k ok)) : Sem Next).run P x.w) d x.S := by
  obtain ⟨ents, clk, h1, h2⟩ := map_obj hR h
  refine yields_here hR (v := v) ?_ (rv_ofRes hd)
  have hk : ∀ kt, Instr.findKey kt k (es.map mkE) = Instr.findKey kt k ents.toList := fun kt => key_congr kt k (by rw [mkE_map, h2])
  have he : (es.map mkE).isEmpty = ents.isEmpty := by
    rw [← h2, Bool.eq_iff_iff]
    simp
  have hg := run_getObj (P := P) h1 (by simp)
  unfold lookM at hp
  obtain ⟨td, p1, p2⟩ := pureS_bind hp
  have r1 := pureS_run p1 x.w
  cases td with
  | map key elem =>
    simp only at p2
    have r2 := pureS_run p2 x.w
    unfold Instr.lookup
    simp only [Sem.run_bind, r1, Result.andThen_ok, hg, Sem.run_pure, hk, he] at r2 ⊢
    exact r2
  | _ => simp [stuck, pureS] at p2
theorem op_mapUpdate (hR : Rel x) {t : TypeId} {id : Nat} {es es' : List (Value × Value)} {k v : Value} {r : Option (Nat × Value)} (h : x.S[id]? = some (.map es)) (hp : pureS P (findM t (es.map mkE) k) = some r) (hs : setM es k v r = some es') :
    Yields x ((do Instr.mapUpdate t (.map (some (x.μ id))) k v; pure .skip : Sem Next).run P x.w) dundef (x.S.set id (.map es')) := by
  obtain ⟨ents, clk, h1, h2⟩ := map_obj hR h
  have hk : ∀ kt, Instr.findKey kt k (es.map mkE) = Instr.findKey kt k ents.toList := fun kt => key_congr kt k (by rw [mkE_map, h2])
  have hg := run_getObj (P := P) h1 (by simp)
  suffices hm : ∃ ents' clk', (Instr.mapUpdate t (.map (some (x.μ id))) k v).run P x.w = .ok () (setObjW x.w (x.μ id) (.map ents' clk')) ∧ ents'.toList.map (fun e => (e.key, e.val)) = es' by
    obtain ⟨ents', clk', q1, q2⟩ := hm
    exact yields_u (y := x.updo id (.map ents' clk') (.map es')) q1 rfl (rel_updo hR h trivial (by simp) q2) (mono_updo hR h trivial (by simp))
  unfold findM at hp
  obtain ⟨td, p1, p2⟩ := pureS_bind hp
  have r1 := pureS_run p1 x.w
  cases td with
  | map key elem =>
    simp only at p2
    obtain ⟨u, p3, p4⟩ := pureS_bind p2
    have r2 := pureS_run p3 x.w
    have r3 := pureS_run p4 x.w
    rw [hk] at r3
    unfold Instr.mapUpdate
    simp only [Sem.run_bind, r1, Result.andThen_ok, hg, r2, r3]
    cases r with
    | none =>
      simp only [setM, Option.some.injEq] at hs
      subst hs
      exact ⟨_, _, run_setObj h1 (by simp), by simp [h2]⟩
    | some q =>
      obtain ⟨i, v0⟩ := q
      simp only [setM] at hs
      split at hs
      · rename_i k' v' hi
        split at hs
        · rename_i hsb
          cases hs
          have hlt : i < ents.size := by grind
          have hek : ((ents[i]?).map (·.key)).getD k = k' := by grind
          simp only [hek, Instr.keyThatStays, hsb, if_true]
          refine ⟨_, _, run_setObj h1 (by simp), ?_⟩
          rw [Array.toList_modify]
          refine List.ext_getElem? fun j => ?_
          rw [← h2]
          simp only [List.getElem?_map, List.getElem?_modify, List.getElem?_set, List.length_map]
          by_cases hj : i = j
          · grind
          · simp [hj]
        · cases hs
      · cases hs
  | _ => simp [stuck, pureS] at p2
end Go.Di
end
