/- The law CutKnown: part 7: Cd9. By an AI agent. -/
import Derived.Test.YtadeehilamokkaaGreatDoorPk06
section
namespace Go.Di
open Go
variable {P : Program} {ty : Tys} {x : Cx} {w' : World} {iso : IsoF} {call : CallF} {yf : YldF} {ρd : Operand → Option DV} {ρ : Operand → Value} {o : Oper} {nid : Nat}
theorem flat_take {s : Nat} : ∀ {rows : List DV} (_ : ∀ r ∈ rows, r.cells.length = s) (h : Nat), flat (rows.take h) = (flat rows).take (h * s)
  | [], _, h => by simp [flat]
  | r :: rows, hs, 0 => by simp [flat]
  | r :: rows, hs, h + 1 => by
    have h0 := hs r (by simp)
    have ih := flat_take (rows := rows) (fun r hr => hs r (by simp [hr])) h
    simp only [flat] at ih
    simp only [List.take_succ_cons, flat, List.flatMap_cons, ih]
    have e1 : r.cells.take ((h + 1) * s) = r.cells := List.take_of_length_le (by rw [h0, Nat.succ_mul]; omega)
    have e2 : (h + 1) * s - s = h * s := by rw [Nat.succ_mul]; omega
    rw [List.take_append, h0, e1, e2]
theorem flat_drop {s : Nat} : ∀ {rows : List DV} (_ : ∀ r ∈ rows, r.cells.length = s) (l : Nat), flat (rows.drop l) = (flat rows).drop (l * s)
  | [], _, l => by simp [flat]
  | r :: rows, hs, 0 => by simp
  | r :: rows, hs, l + 1 => by
    have h0 := hs r (by simp)
    have ih := flat_drop (rows := rows) (fun r hr => hs r (by simp [hr])) l
    simp only [flat] at ih
    simp only [List.drop_succ_cons, flat, List.flatMap_cons, ih]
    have e1 : r.cells.drop ((l + 1) * s) = [] := List.drop_of_length_le (by rw [h0, Nat.succ_mul]; omega)
    have e2 : (l + 1) * s - s = l * s := by rw [Nat.succ_mul]; omega
    rw [List.drop_append, h0, e1, e2, List.nil_append]
theorem bound_run {ρd : Operand → Option DV} {ρ : Operand → Value} (hρ : Opds x ρd ρ) {a : Operand} {most n : Nat} {d : Nat} (h : boundD ρd (some a) d most = some n) (y : Nat) (hy : most ≤ y) (code : BoundsCode) (w : World) : n ≤ most ∧ (Instr.sliceBound (ρ a) y code).run P w = .ok n w := by
  unfold boundD at h
  simp only at h
  split at h
  · rename_i i hi
    split at h
    · rename_i hc
      cases h
      obtain ⟨k, hk⟩ := intOf_ok hρ hi
      refine ⟨hc.2, ?_⟩
      have hc2 : 0 ≤ i ∧ i ≤ (y : Int) := ⟨hc.1, by omega⟩
      simp only [Instr.sliceBound, hk, asIntOf, Sem.run_bind, Sem.run_pure, Result.andThen_ok, hc2, and_self, if_true]
    · cases h
  · cases h
theorem nil_ok {rows : List DV} {tok : Option Nat} {f : SF} {A : Option Addr} {n cap : Nat} (h : RV x (.sl rows tok f) (.slice A n cap)) : ∀ b, nilD rows f = some b → A.isNone = b := by
  intro b hb
  cases h with
  | sl hv hr h1 h2 h3 hsp h4 =>
    unfold nilD at hb
    split at hb
    · exact h2.2 b hb
    · rename_i hne
      cases hb
      cases A with
      | none =>
        have := h3 rfl
        have h0 : rows = [] := List.eq_nil_of_length_eq_zero (by omega)
        exact absurd (by simp [h0]) hne
      | some ad => rfl
theorem nilEq_run (hty : TyOk P ty) {op : BinOp} {t : TypeId} {a b : Operand} {d : DV} (hρ : Opds x ρd ρ) (h : nilEqD ty op t (ρd a) (ρd b) = some d) :
    ∃ v, (do eqGuard op t a b (ρ a) (ρ b); binOp op t (ρ a) (ρ b) : Sem Value).run P x.w = .ok v x.w ∧ RV x d v := by
  unfold nilEqD at h
  split at h
  · rename_i rows tok f tok2 f2 ha hb
    have ra := hρ a _ ha
    have rb := hρ b _ hb
    generalize ρ a = va at ra ⊢
    generalize ρ b = vb at rb ⊢
    split at h
    · rename_i e s by_ agg sz z c htt hn
      obtain ⟨hk, it, -, -, -⟩ := tyOf_info (hty t _ htt)
      obtain ⟨hu, -⟩ := tk_slice hk
      have ra0 := ra
      have rb0 := rb
      cases ra with
      | @sl _ _ _ A cap s1 vs1 hv1 hr1 k1 k2 k3 k4 k5 =>
        cases rb with
        | @sl _ _ _ A2 cap2 s2 vs2 hv2 hr2 m1 m2 m3 m4 m5 =>
          have hA := nil_ok ra0 c hn
          have hA2 := m2.2 true rfl
          have : A2 = none := by simpa using hA2
          subst this
          have heq : (Op.equal t (.slice A rows.length cap) (.slice none 0 cap2)).run P x.w = .ok c x.w := by
            subst hA
            obtain ⟨n, hmd⟩ : ∃ n, Op.maxDepth = n + 1 := ⟨9999, rfl⟩
            cases A <;> simp only [Op.equal, hmd, Op.equalIn, Sem.run_bind, run_underlying hu, Result.andThen_ok, Sem.run_pure, Option.isNone_none, Option.isNone_some]
          split at h
          · cases h
            exact ⟨.bool c, by simp [eqGuard, binOp, heq], .val rfl⟩
          · cases h
            exact ⟨.bool (!c), by simp [eqGuard, binOp, heq], .val rfl⟩
          · cases h
    · cases h
  · cases h
theorem op_slice (hty : TyOk P ty) (hR : Rel x) (hρ : Opds x ρd ρ) {t e : TypeId} {s by_ sz : Nat} {agg : Bool} {z : Option (List DV)} (htt : ty t = some ⟨.slice e s by_ agg, sz, z⟩) {rows : List DV} {tok : Option Nat} {full : SF} {va : Value} (ha : RV x (.sl rows tok full) va) (hrows : ∀ r ∈ rows, r.cells.length = s)
    {lo hi mx : Option Operand} {m h l : Nat} {d : DV} (hm : boundD ρd mx rows.length rows.length = some m) (hh : boundD ρd hi rows.length m = some h) (hl : boundD ρd lo 0 h = some l) (hhm : (hi.isNone && mx.isSome) = false) (hd : sliceD rows full l h (mx.map fun _ => m) = some d) :
    Yields x ((do pure (.value (← Instr.sliceAt t va (lo.map ρ) (hi.map ρ) (mx.map ρ))) : Sem Next).run P x.w) d x.S := by
  obtain ⟨hk, it, -, -, -⟩ := tyOf_info (hty t _ htt)
  obtain ⟨hu, ie, hie, hse, -, -⟩ := tk_slice hk
  have hfl := flat_len hrows
  have ha0 := ha
  cases ha with
  | @sl _ _ _ A cap s1 vs1 hv1 hr1 k1 k2 k3 k4 k5 =>
    obtain ⟨-, -, -, -, -, hsp, hpR, ws, hwl, hrv, hc, -⟩ := sl_cells ha0 hrows
    have hNil := nil_ok ha0
    have hbm : m ≤ rows.length ∧ ∃ M, (∀ w : World, (match mx.map ρ with | some v => Instr.sliceBound v cap .slice3Acap | none => pure cap : Sem Nat).run P w = .ok M w) ∧ m ≤ M ∧ M ≤ cap ∧ (mx.isSome = true → M = m) ∧ (mx = none → M = cap ∧ m = rows.length) := by
      cases mx with
      | none =>
        simp only [boundD, Option.some.injEq] at hm
        subst hm
        exact ⟨Nat.le_refl _, cap, fun w => rfl, k1, Nat.le_refl _, by simp, fun _ => ⟨rfl, rfl⟩⟩
      | some a =>
        have := fun w => bound_run (P := P) hρ hm cap k1 .slice3Acap w
        exact ⟨(this default).1, m, fun w => (this w).2, Nat.le_refl _, Nat.le_trans (this default).1 k1, fun _ => rfl, by simp⟩
    obtain ⟨hmr, M, hM, hmM, hMc, hMs, hMn⟩ := hbm
    have hbh : h ≤ rows.length ∧ h ≤ M ∧ ∀ w : World, (match hi.map ρ, mx.map ρ with | some v, some _ => Instr.sliceBound v M .slice3B | some v, none => Instr.sliceBound v M .sliceAcap | none, none => pure rows.length | none, some _ => stuck "Slice: max without high" : Sem Nat).run P w = .ok h w := by
      cases hi with
      | none =>
        cases mx with
        | none =>
          simp only [boundD, Option.some.injEq] at hh
          subst hh
          exact ⟨Nat.le_refl _, by rw [(hMn rfl).1]; exact k1, fun w => rfl⟩
        | some a => simp at hhm
      | some b =>
        have q1 := fun c w => bound_run (P := P) hρ hh M hmM c w
        have q2 := (q1 .slice3B default).1
        refine ⟨Nat.le_trans q2 hmr, Nat.le_trans q2 hmM, fun w => ?_⟩
        cases mx with
        | none => exact (q1 .sliceAcap w).2
        | some a => exact (q1 .slice3B w).2
    obtain ⟨hhr, hhM, hH⟩ := hbh
    have hbl : l ≤ h ∧ ∀ w : World, (match lo.map ρ with | some v => Instr.sliceBound v h (if (mx.map ρ).isSome then .slice3C else .sliceB) | none => pure 0 : Sem Nat).run P w = .ok l w := by
      cases lo with
      | none =>
        simp only [boundD, Option.some.injEq] at hl
        subst hl
        exact ⟨Nat.zero_le _, fun w => rfl⟩
      | some a =>
        have q1 := fun c w => bound_run (P := P) hρ hl h (Nat.le_refl _) c w
        exact ⟨(q1 .slice3C default).1, fun w => (q1 _ w).2⟩
    obtain ⟨hlh, hL⟩ := hbl
    have hA' : ∀ A', A' = (if M = l then A else A.map (·.add (l * s))) → (A' = none → M - l = 0) ∧ (∀ ad, A' = some ad → 0 < M - l → ad.spot = none) := by
      intro A' hA
      subst hA
      split
      · grind
      · cases A with
        | none => have := k3 rfl; exact ⟨fun _ => by omega, by simp⟩
        | some ad =>
          refine ⟨by simp, fun ad' h hp => ?_⟩
          simp only [Option.map_some, Option.some.injEq] at h
          subst h
          have := k4 ad rfl (by omega)
          obtain ⟨b, o, sp⟩ := ad
          simp only at this
          subst this
          rw [addr_add]
    have hRes : ∀ (tokd : Option Nat) (fulld : SF), (fulld.full = true → M - l = h - l) ∧ NilOf fulld A → tokd = none → RV x (.sl ((rows.take h).drop l) tokd fulld) (.slice (if M = l then A else A.map (·.add (l * s))) (h - l) (M - l)) := by
      intro tokd fulld hfull htok
      subst htok
      obtain ⟨hA1, hA2⟩ := hA' _ rfl
      have hlen : ((rows.take h).drop l).length = h - l := by simp; omega
      have hrows' : ∀ r ∈ (rows.take h).drop l, r.cells.length = s := fun r hr => hrows r (List.mem_of_mem_take (List.mem_of_mem_drop hr))
      have hflat : flat ((rows.take h).drop l) = ((flat rows).take (h * s)).drop (l * s) := by
        rw [flat_drop (fun r hr => hrows r (List.mem_of_mem_take hr)), flat_take hrows]
      have hcell : ∀ j c, (flat ((rows.take h).drop l))[j]? = some c → (flat rows)[l * s + j]? = some c ∧ l * s + j < h * s := by grind
      have hv : View x ((rows.take h).drop l) (if M = l then A else A.map (·.add (l * s))) s (fun j => ws.getD (l * s + j) undef) := by
        refine ⟨hrows', fun j c hcj => ?_⟩
        obtain ⟨q1, q2⟩ := hcell j c hcj
        obtain ⟨b, o, r1, r2, r3⟩ := hc _ _ q1
        refine ⟨hpR c (List.mem_of_getElem? q1), b, o + l * s, ?_, by rw [Nat.add_assoc]; exact r2, by rw [Nat.add_assoc]; exact r3⟩
        have hlt : l < h := by grind
        rw [if_neg (by omega), r1]
        simp only [Option.map_some, addr_add]
      have := RV.sl (tok := none) (full := fulld) (cap := M - l) hv (fun j c hcj => hrv _ _ (hcell j c hcj).1) (by rw [hlen]; omega) ⟨fun hf => by rw [hlen]; exact hfull.1 hf, fun b hb => by rw [← hfull.2 b hb]; split <;> simp⟩ hA1 hA2 (fun t ht => nomatch ht)
      rw [hlen] at this
      exact this
    have hrun : (Instr.sliceAt t (.slice A rows.length cap) (lo.map ρ) (hi.map ρ) (mx.map ρ)).run P x.w = .ok (.slice (if M = l then A else A.map (·.add (l * s))) (h - l) (M - l)) x.w := by
      have hb : (Instr.sliceBounds true rows.length cap (lo.map ρ) (hi.map ρ) (mx.map ρ)).run P x.w = .ok (l, h, M) x.w := by
        have hM' := hM x.w
        have hH' := hH x.w
        have hL' := hL x.w
        unfold Instr.sliceBounds
        revert hM' hH' hL' hhm
        cases mx <;> cases hi <;> cases lo <;> intro hM' hH' hL' hhm <;>
          simp only [Option.map_none, Option.map_some, Sem.run_pure, Result.ok.injEq, and_true, Option.isSome_some, Option.isSome_none, Option.isNone_none, Bool.and_self, Bool.true_eq_false, if_true, Bool.false_eq_true, if_false] at hM' hH' hL' hhm ⊢ <;>
          (try subst hM') <;> (try subst hH') <;> (try subst hL') <;> simp only [Sem.run_bind, Result.andThen_ok, Sem.run_pure, *]
      unfold Instr.sliceAt
      simp only [Sem.run_bind, run_underlying hu, Result.andThen_ok, Instr.slice, hb, run_sizeOf hie, Sem.run_pure, hse]
    unfold sliceD at hd
    rw [if_pos hlh] at hd
    cases mx with
    | none =>
      simp only [Option.map_none, Option.some.injEq] at hd
      subst hd
      refine yields_here hR hrun (hRes _ _ ⟨fun hf => ?_, hNil⟩ rfl)
      simp only [Bool.and_eq_true, beq_iff_eq] at hf
      rw [(hMn rfl).1, k2.1 hf.1, hf.2]
    | some a =>
      simp only [Option.map_some] at hd
      by_cases hc : h ≤ m
      · rw [if_pos hc] at hd
        simp only [Option.some.injEq] at hd
        subst hd
        refine yields_here hR hrun (hRes _ _ ⟨fun hf => ?_, hNil⟩ rfl)
        simp only [beq_iff_eq] at hf
        rw [hMs rfl, hf]
      · grind
theorem strIx_ok (hρ : Opds x ρd ρ) : ∀ {a : Option Operand} {v : Option Value}, strIx ρd a = some v → a.map ρ = v
  | none, v, h => by simp only [strIx, Option.some.injEq] at h; subst h; rfl
  | some a, v, h => by
    simp only [strIx, Option.map_eq_some_iff] at h
    obtain ⟨u, h1, rfl⟩ := h
    simp [valOf_ok hρ h1]
theorem execOp_op {o1 o2 : Oper} (h : o1.op = o2.op) (ht : o1.type = o2.type) : execOp ρ o1 = execOp ρ o2 := by
  unfold execOp
  rw [h, ht]
def Op.lone : Op → Bool
  | .call { callee := .builtin _, .. } => true
  | .call _ => false
  | _ => true
set_option maxHeartbeats 1000000 in
theorem stepOp_ok (hty : TyOk P ty) (hR : Rel x) (hn : Nid x.S nid) (hρ : Opds x ρd ρ) (hop : Op.lone o.op = true) {d : DV} {S' : Store} (h : stepOp P ty iso call yf ρd o x.S nid = some (d, S')) : Yields x ((execOp ρ o).run P x.w) d S' := by
  obtain ⟨dst, op, type, pos, after, guard⟩ := o
  cases op with
  | move a =>
    simp only [stepOp, Option.map_eq_some_iff, Prod.mk.injEq] at h
    obtain ⟨d', h1, rfl, rfl⟩ := h
    exact ⟨ρ a, x, .inl rfl, rfl, hR, Mono.refl x, hρ a _ h1⟩
  | assign a =>
    simp only [stepOp, Option.map_eq_some_iff, Prod.mk.injEq] at h
    obtain ⟨d', h1, rfl, rfl⟩ := h
    exact ⟨ρ a, x, .inl rfl, rfl, hR, Mono.refl x, hρ a _ h1⟩
  | pick c a b =>
    simp only [stepOp] at h
    split at h
    · rename_i t hc
      have hcv := rv_val (hρ c _ hc)
      simp only [Option.map_eq_some_iff, Prod.mk.injEq] at h
      obtain ⟨d', h1, rfl, rfl⟩ := h
      cases t with
      | true => exact ⟨ρ a, x, .inl (by simp [execOp, hcv, asBool]), rfl, hR, Mono.refl x, hρ a _ h1⟩
      | false => exact ⟨ρ b, x, .inl (by simp [execOp, hcv, asBool]), rfl, hR, Mono.refl x, hρ b _ h1⟩
    · cases h
  | alloc e =>
    simp only [stepOp] at h
    split at h
    · rename_i hk
      cases h
      exact op_alloc hty hR hn hk
    · cases h
  | box e a =>
    simp only [stepOp] at h
    split at h
    · rename_i d' h1
      cases h
      exact op_box hR hn (hρ a _ h1)
    · cases h
  | build t ps =>
    simp only [stepOp] at h
    split at h
    · rename_i hk hl
      simp only [Option.map_eq_some_iff, Prod.mk.injEq] at h
      obtain ⟨cs, h1, rfl, rfl⟩ := h
      exact op_build_struct hty hR hρ hk hl h1
    · rename_i hk hl
      simp only [Option.map_eq_some_iff, Prod.mk.injEq] at h
      obtain ⟨cs, h1, rfl, rfl⟩ := h
      exact op_build_array hty hR hρ hk hl h1
    · cases h
  | buildSlice t n ps =>
    simp only [stepOp] at h
    split at h
    · rename_i e s by_ agg sz z0 l hk hl
      split at h
      · rename_i k sz' z he
        split at h
        · rename_i hc
          simp only [Bool.and_eq_true, decide_eq_true_eq] at hc
          split at h
          · rename_i cs hf
            split at h
            · rename_i hp
              simp only [Bool.and_eq_true, Bool.or_eq_true, beq_iff_eq] at hp
              split at h
              · cases h
                exact op_buildO hty hR hn hρ hk hl he hc.1 hc.2 hf hp.1
              · cases h
                exact op_buildSlice hty hR hρ hk hl he hc.1 hc.2 hf hp.1 hp.2
            · cases h
          · cases h
        · cases h
      · cases h
    · cases h
  | makeSlice t a b =>
    simp only [stepOp] at h
    split at h
    · rename_i e s by_ agg sz z0 n m hk ha hb
      split at h
      · rename_i k sz' z he
        split at h
        · rename_i hc
          simp only [Bool.and_eq_true, Bool.or_eq_true, beq_iff_eq, decide_eq_true_eq] at hc
          obtain ⟨⟨⟨⟨⟨⟨h0, rfl⟩, hs⟩, -⟩, h1⟩, h2⟩, h3⟩ := hc
          cases h
          obtain ⟨kd, hka⟩ := intOf_ok hρ ha
          obtain ⟨kd', hkb⟩ := intOf_ok hρ hb
          have h4 := op_makeSlice (kd := kd) (kd' := kd') hty hR hn hk he h0 hs h1 h2 h3
          rw [← hka, ← hkb] at h4
          exact h4
        · cases h
      · cases h
    · cases h
  | load t a =>
    simp only [stepOp] at h
    split at h
    · rename_i a' h1
      simp only [Option.map_eq_some_iff, Prod.mk.injEq] at h
      obtain ⟨d', h2, rfl, rfl⟩ := h
      obtain ⟨v, h3, h4⟩ := loadD_ok hty hR (hρ a _ h1) h2
      exact yields_here hR h3 h4
    · cases h
  | store t a v =>
    simp only [stepOp] at h
    split at h
    · rename_i a' v' h1 h2
      simp only [Option.map_eq_some_iff, Prod.mk.injEq] at h
      obtain ⟨S2, h3, rfl, rfl⟩ := h
      obtain ⟨y, h4, h5, h6, h7⟩ := storeD_ok hty hR (hρ a _ h1) (hρ v _ h2) h3
      exact yields_u h4 h5 h6 h7
    · cases h
  | nilCheck a =>
    simp only [stepOp] at h
    split at h
    · rename_i id off h1
      cases h
      have := hρ a _ h1
      generalize hv : ρ a = v at this
      cases this with
      | ptr hS => exact ⟨_, x, .inl (by simp only [execOp, hv]; rfl), rfl, hR, Mono.refl x, .ptr hS⟩
    · cases h
  | binOp op t a b u =>
    simp only [stepOp] at h
    split at h
    · rename_i va vb h1 h2
      simp only [Option.map_eq_some_iff, Prod.mk.injEq] at h
      obtain ⟨d', h3, rfl, rfl⟩ := h
      obtain ⟨v, h4, h5⟩ := pureD_run (x := x) h3 x.w
      rw [← valOf_ok hρ h1, ← valOf_ok hρ h2] at h4
      exact yields_here hR h4 h5
    · simp only [Option.map_eq_some_iff, Prod.mk.injEq] at h
      obtain ⟨d', h3, rfl, rfl⟩ := h
      obtain ⟨v, h4, h5⟩ := nilEq_run hty hρ h3
      exact yields_here hR h4 h5
  | unOp op t a =>
    simp only [stepOp] at h
    split at h
    · rename_i va h1
      simp only [Option.map_eq_some_iff, Prod.mk.injEq] at h
      obtain ⟨d', h3, rfl, rfl⟩ := h
      obtain ⟨v, h4, h5⟩ := pureD_run (x := x) h3 x.w
      rw [← valOf_ok hρ h1] at h4
      exact yields_here hR h4 h5
    · cases h
  | convert s t a =>
    simp only [stepOp] at h
    split at h
    · rename_i va h1
      split at h
      · rename_i d' h3
        cases h
        obtain ⟨v, h4, h5⟩ := pureD_run (x := x) h3 x.w
        rw [← valOf_ok hρ h1] at h4
        exact yields_here hR h4 h5
      · simp only [Option.map_eq_some_iff, Prod.mk.injEq] at h
        obtain ⟨d', h3, rfl, rfl⟩ := h
        have h4 := op_bytes hR h3
        rw [← valOf_ok hρ h1] at h4
        exact h4
    · cases h
  | makeInterface t a =>
    simp only [stepOp] at h
    split at h
    · rename_i va h1
      simp only [Option.map_eq_some_iff, Prod.mk.injEq] at h
      obtain ⟨d', h3, rfl, rfl⟩ := h
      obtain ⟨v, h4, h5⟩ := pureD_run (x := x) h3 x.w
      rw [← valOf_ok hρ h1] at h4
      exact yields_here hR h4 h5
    · cases h
  | makeFunc fn fs cs =>
    cases fn with
    | func f =>
      simp only [stepOp] at h
      split at h
      · rename_i a b h1 h2
        cases h
        have e1 := evs_ok hρ h1
        have e2 := evs_ok hρ h2
        refine yields_here hR (v := .func (.func f) (fs.map ρ) (cs.map ρ)) rfl (.fn (by simpa using e1.1) (by simpa using e2.1) (fun j c hc => ?_) (fun j c hc => ?_))
        · have := e1.2 j c hc
          simpa [Array.getD_eq_getD_getElem?] using this
        · have := e2.2 j c hc
          simpa [Array.getD_eq_getD_getElem?] using this
      · cases h
    | _ => simp [stepOp] at h
  | slice t a lo hi mx =>
    simp only [stepOp] at h
    split at h
    · rename_i s sz z rows tok full hk ha
      split at h
      · cases h
      · rename_i hrows
        simp only [Bool.not_eq_true', Bool.not_eq_false, List.all_eq_true, decide_eq_true_eq] at hrows
        split at h
        · rename_i m hm
          split at h
          · rename_i h' hh
            split at h
            · rename_i l hl
              split at h
              · cases h
              · rename_i hhm
                simp only [Option.map_eq_some_iff, Prod.mk.injEq] at h
                obtain ⟨d', h3, rfl, rfl⟩ := h
                exact op_slice hty hR hρ hk (hρ a _ ha) hrows hm hh hl (by simpa using hhm) h3
            · cases h
          · cases h
        · cases h
    · rename_i b hk ha
      split at h
      · rename_i l hh hl hhi
        simp only [Option.map_eq_some_iff, Prod.mk.injEq] at h
        obtain ⟨d', h3, rfl, rfl⟩ := h
        obtain ⟨v, h4, h5⟩ := pureD_run (x := x) h3 x.w
        rw [← rv_val (hρ a _ ha), ← strIx_ok hρ hl, ← strIx_ok hρ hhi] at h4
        exact yields_here hR h4 h5
      · cases h
    · cases h
  | fieldAddr t a f =>
    simp only [stepOp] at h
    split at h
    · rename_i fs sz z id off hk ha
      split at h
      · rename_i o s agg hf
        split at h
        · rename_i hs
          cases h
          have := hρ a _ ha
          generalize hv : ρ a = v at this
          cases this with
          | ptr hS => exact yields_here hR (by rw [hv]; exact op_fieldAddr hty hk hf hs _ _ _) (.ptr hS)
        · cases h
      · cases h
    · rename_i fs sz z rows i off hk ha
      split at h
      · rename_i o s agg hf
        split at h
        · rename_i hs
          cases h
          have := hρ a _ ha
          generalize hv : ρ a = v at this
          cases this with
          | eptr hv1 hv2 =>
            refine yields_here hR (by rw [hv]; exact op_fieldAddr hty hk hf hs _ _ _) ?_
            rw [Nat.add_assoc, Nat.add_assoc]
            exact .eptr hv1 hv2
        · cases h
      · cases h
    · rename_i fs sz z id n off hk ha
      split at h
      · rename_i o s agg q hf hop
        obtain ⟨e, s', l, zz⟩ := q
        obtain ⟨hS, hns⟩ := opD_spec hop
        split at h
        · rename_i hs
          cases h
          have := hρ a _ ha
          generalize hv : ρ a = v at this
          cases this with
          | @optr _ _ _ e1 s1 l1 z1 _ hS' hn' hA =>
            obtain ⟨rfl, rfl, rfl, rfl⟩ : e = e1 ∧ s' = s1 ∧ l = l1 ∧ zz = z1 := by rw [hS] at hS'; cases hS'; exact ⟨rfl, rfl, rfl, rfl⟩
            have hA := hA hns
            subst hA
            exact yields_here hR (by rw [hv]; exact op_fieldAddr hty hk hf hs _ _ _) (.optr hS hn' fun _ => rfl)
        · cases h
      · cases h
    · cases h
  | field t a f =>
    simp only [stepOp] at h
    split at h
    · rename_i fs sz z l hk ha
      split at h
      · rename_i off s agg hf
        simp only [Option.map_eq_some_iff, Prod.mk.injEq] at h
        obtain ⟨d', h3, rfl, rfl⟩ := h
        obtain ⟨arr, hv, hrv⟩ := rvs_agg (hρ a _ ha)
        obtain ⟨hk1, i, hi, -, -⟩ := tyOf_info (hty t _ hk)
        obtain ⟨fields, hu, hfs, hff⟩ := tk_struct hk1
        obtain ⟨fd, h4, h5, inf, h6, h7, h8, d0, h9⟩ := hff f _ hf
        simp only at h5 h7 h8
        obtain ⟨v, h10, h11⟩ := part_ok (x := x) h6 h9 h7 h8 hrv h3 x.w
        refine yields_here hR (v := v) ?_ h11
        simp only [Instr.field, hv, Sem.run_bind, run_underlying hu, Result.andThen_ok, h4, asAgg, Sem.run_pure, h5, h10]
      · cases h
    · cases h
  | indexAddr t a i =>
    simp only [stepOp] at h
    split at h
    · rename_i e s by_ agg sz z rows tok full n hk ha hi
      split at h
      · rename_i h0
        split at h
        · rename_i r hr
          split at h
          · rename_i hs
            cases h
            obtain ⟨kd, hki⟩ := intOf_ok hρ hi
            have := hρ a _ ha
            generalize hv : ρ a = v at this
            cases this with
            | @sl _ _ _ A cap s1 vs hv1 hv2 k1 k2 k3 k4 k5 =>
              have hlt : n.toNat < rows.length := (List.getElem?_eq_some_iff.1 hr).1
              cases A with
              | none => have := k3 rfl; omega
              | some ad =>
                obtain ⟨b, o, sp⟩ := ad
                have : sp = none := k4 _ rfl (by omega)
                subst this
                have hs1 : s1 = s := by rw [← hs]; exact (hv1.1 r (List.mem_of_getElem? hr)).symm
                subst hs1
                refine yields_here hR (by rw [hv, hki]; exact op_indexSl hty hk h0 hlt _ _ _) ?_
                have := RV.eptr (i := n.toNat) (off := 0) hv1 hv2
                simpa using this
          · cases h
        · cases h
      · cases h
    · rename_i k s agg sz z id off n hk ha hi
      split at h
      · rename_i h0
        cases h
        obtain ⟨kd, hki⟩ := intOf_ok hρ hi
        have := hρ a _ ha
        generalize hv : ρ a = v at this
        cases this with
        | ptr hS => exact yields_here hR (by rw [hv, hki]; exact op_indexArr hty hk h0.1 h0.2 _ _ _) (.ptr hS)
      · cases h
    · rename_i k s agg sz z rows j off n hk ha hi
      split at h
      · rename_i h0
        cases h
        obtain ⟨kd, hki⟩ := intOf_ok hρ hi
        have := hρ a _ ha
        generalize hv : ρ a = v at this
        cases this with
        | eptr hv1 hv2 =>
          refine yields_here hR (by rw [hv, hki]; exact op_indexArr hty hk h0.1 h0.2 _ _ _) ?_
          rw [Nat.add_assoc, Nat.add_assoc]
          exact .eptr hv1 hv2
      · cases h
    · rename_i e s by_ agg sz z id m ag n hk ha hi
      split at h
      · rename_i q1 s' l zz hop
        obtain ⟨hS, hns⟩ := opD_spec hop
        split at h
        · rename_i h0
          obtain ⟨h0, h1, rfl⟩ := h0
          cases h
          obtain ⟨kd, hki⟩ := intOf_ok hρ hi
          have := hρ a _ ha
          generalize hv : ρ a = v at this
          cases this with
          | @slo _ _ _ e1 s1 l1 z1 _ _ hS' hn' hA =>
            obtain ⟨rfl, rfl, rfl, rfl⟩ : q1 = e1 ∧ s' = s1 ∧ l = l1 ∧ zz = z1 := by rw [hS] at hS'; cases hS'; exact ⟨rfl, rfl, rfl, rfl⟩
            obtain ⟨rfl, rfl⟩ := hA hns
            exact yields_here hR (by rw [hv, hki]; exact op_indexSl hty hk h0 h1 _ _ _) (.optr hS (by omega) fun _ => by rw [Nat.zero_add])
        · cases h
      · cases h
    · cases h
  | index t a i =>
    simp only [stepOp] at h
    split at h
    · rename_i k s agg sz z l n hk ha hi
      split at h
      · rename_i h0
        simp only [Option.map_eq_some_iff, Prod.mk.injEq] at h
        obtain ⟨d', h3, rfl, rfl⟩ := h
        obtain ⟨kd, hki⟩ := intOf_ok hρ hi
        obtain ⟨arr, hv, hrv⟩ := rvs_agg (hρ a _ ha)
        obtain ⟨hk1, it, hit, -, -⟩ := tyOf_info (hty t _ hk)
        obtain ⟨e, hu, ie, hie, hse, hag, d0, hu2⟩ := tk_array hk1
        obtain ⟨v, h10, h11⟩ := part_ok (x := x) hie hu2 hse hag hrv h3 x.w
        refine yields_here hR (v := v) ?_ h11
        have hc : 0 ≤ n ∧ n < (k : Int) := ⟨h0.1, by omega⟩
        simp only [Instr.index, hv, hki, asIntOf, Sem.run_bind, Sem.run_pure, run_underlying hu, Result.andThen_ok, hc, and_self, if_true, run_sizeOf hie, hse, h10]
      · cases h
    · rename_i b n hk ha hi
      split at h
      · rename_i iv h1
        simp only [Option.map_eq_some_iff, Prod.mk.injEq] at h
        obtain ⟨d', h3, rfl, rfl⟩ := h
        obtain ⟨v, h4, h5⟩ := pureD_run (x := x) h3 x.w
        rw [← rv_val (hρ a _ ha), ← valOf_ok hρ h1] at h4
        exact yields_here hR h4 h5
      · cases h
    · cases h
  | makeMap t r =>
    cases r with
    | none =>
      simp only [stepOp, Option.some.injEq, Prod.mk.injEq] at h
      obtain ⟨rfl, rfl⟩ := h
      exact op_makeMap hR hn
    | some a => simp [stepOp] at h
  | lookup t m k ok =>
    simp only [stepOp] at h
    split at h
    · rename_i id kv hm hk
      split at h
      · rename_i es hS
        simp only [Option.map_eq_some_iff, Option.bind_eq_some_iff, Prod.mk.injEq] at h
        obtain ⟨d', ⟨v, h1, h2⟩, rfl, rfl⟩ := h
        have := hρ m _ hm
        generalize hv : ρ m = vm at this
        cases this with
        | map _ =>
          have h3 := op_lookup hR hS h1 h2
          rw [← hv, ← valOf_ok hρ hk] at h3
          exact h3
      · cases h
    · cases h
  | mapUpdate t m k a =>
    simp only [stepOp] at h
    split at h
    · rename_i id kv vv hm hk ha
      split at h
      · rename_i es hS
        split at h
        · rename_i r hr
          simp only [Option.map_eq_some_iff, Prod.mk.injEq] at h
          obtain ⟨es', h1, rfl, rfl⟩ := h
          have := hρ m _ hm
          generalize hv : ρ m = vm at this
          cases this with
          | map _ =>
            have h3 := op_mapUpdate hR hS hr h1
            rw [← hv, ← valOf_ok hρ hk, ← valOf_ok hρ ha] at h3
            exact h3
        · cases h
      · cases h
    · cases h
  | extract a i =>
    simp only [stepOp] at h
    split at h
    · rename_i l ha
      simp only [Option.map_eq_some_iff, Prod.mk.injEq] at h
      obtain ⟨d', h3, rfl, rfl⟩ := h
      have := hρ a _ ha
      generalize hv : ρ a = v at this
      cases this with
      | @tup _ vs hs hr =>
        have hlt : i < vs.size := by rw [hs]; exact (List.getElem?_eq_some_iff.1 h3).1
        refine yields_here hR (v := vs[i]) (by rw [hv]; simp [Instr.extract, hlt]) ?_
        simpa [Array.getD_eq_getD_getElem?, hlt] using hr i _ h3
    · cases h
  | call c =>
    obtain ⟨callee, args, ats⟩ := c
    cases callee with
    | builtin b =>
      simp only [stepOp] at h
      have hex : ∀ w : World, (execOp ρ ⟨dst, .call ⟨.builtin b, args, ats⟩, type, pos, after, guard⟩).run P w = (Go.builtin b ats type (args.map fun | .const _ => true | _ => false) (args.map ρ)).run P w := fun w => by
        simp only [execOp, resolve, Sem.run_bind, Sem.run_pure, Result.andThen_ok, invoke]
        rfl
      rw [hex]
      split at h
      · rename_i a t hargs hats
        have ea : args = #[a] := by rw [← Array.toArray_toList (xs := args), hargs]
        have et : ats = #[t] := by rw [← Array.toArray_toList (xs := ats), hats]
        subst ea et
        split at h
        · rename_i e s by_ agg sz z rows tok full hk ha
          cases h
          obtain ⟨hk1, it, hit, -, -⟩ := tyOf_info (hty t _ hk)
          obtain ⟨hu, -⟩ := tk_slice hk1
          have := hρ a _ ha
          generalize hv : ρ a = v at this
          cases this with
          | sl _ _ _ _ _ _ _ => exact yields_here hR (v := .int .i64 rows.length) (by simp [Builtin.len_, hv, run_underlying hu, goInt]) (.val rfl)
        · rename_i e s by_ agg sz z id n ag hk ha
          cases h
          obtain ⟨hk1, it, hit, -, -⟩ := tyOf_info (hty t _ hk)
          obtain ⟨hu, -⟩ := tk_slice hk1
          have := hρ a _ ha
          generalize hv : ρ a = v at this
          cases this with
          | slo _ _ _ => exact yields_here hR (v := .int .i64 n) (by simp [Builtin.len_, hv, run_underlying hu, goInt]) (.val rfl)
        · rename_i n s agg sz z hk
          cases h
          obtain ⟨hk1, it, hit, -, -⟩ := tyOf_info (hty t _ hk)
          obtain ⟨e, hu, -⟩ := tk_array hk1
          exact yields_here hR (v := .int .i64 n) (by simp [Builtin.len_, run_underlying hu, goInt]) (.val rfl)
        · rename_i v ha hno
          simp only [Option.map_eq_some_iff, Prod.mk.injEq] at h
          obtain ⟨d', h3, rfl, rfl⟩ := h
          obtain ⟨v', h4, h5⟩ := pureD_run (x := x) h3 x.w
          have := rv_val (hρ a _ ha)
          refine yields_here hR (v := v') ?_ h5
          simpa [this] using h4
        · cases h
      · rename_i a b t u hargs hats
        have ea : args = #[a, b] := by rw [← Array.toArray_toList (xs := args), hargs]
        have et : ats = #[t, u] := by rw [← Array.toArray_toList (xs := ats), hats]
        subst ea et
        split at h
        · rename_i htu
          subst htu
          split at h
          · rename_i da db ha hb
            have e2 : Array.map ρ #[a, b] = #[ρ a, ρ b] := by simp
            rw [e2]
            split at h
            · exact op_appendO (u := type) hty hR hn (hρ a _ ha) (hρ b _ hb) h
            · split at h
              · exact op_appendO (u := type) hty hR hn (hρ a _ ha) (hρ b _ hb) h
              · exact op_append (u := type) hty hR hn (hρ a _ ha) (hρ b _ hb) h
          · cases h
        · cases h
      · rename_i xs hargs
        split at h
        · rename_i vs h1
          simp only [Option.map_eq_some_iff, Prod.mk.injEq] at h
          obtain ⟨d', h3, rfl, rfl⟩ := h
          simp only [Option.bind_eq_some_iff] at h1
          obtain ⟨ds, h4, h5⟩ := h1
          have h6 := evs_ok hρ h4
          have h7 := rv_toVals (x := x) (vs := args.toList.map ρ) h5 (by simpa using h6.1) fun j c hc => by simpa [Array.getD_eq_getD_getElem?, List.getD_eq_getElem?_getD] using h6.2 j c hc
          obtain ⟨v', h8, h9⟩ := pureD_run (x := x) h3 x.w
          refine yields_here hR (v := v') ?_ h9
          have e2 : (List.map ρ args.toList).toArray = Array.map ρ args := Array.toList_inj.1 (by simp)
          rw [← h7, e2] at h8
          exact h8
        · cases h
      · rename_i xs hargs
        split at h
        · rename_i vs h1
          simp only [Option.map_eq_some_iff, Prod.mk.injEq] at h
          obtain ⟨d', h3, rfl, rfl⟩ := h
          simp only [Option.bind_eq_some_iff] at h1
          obtain ⟨ds, h4, h5⟩ := h1
          have h6 := evs_ok hρ h4
          have h7 := rv_toVals (x := x) (vs := args.toList.map ρ) h5 (by simpa using h6.1) fun j c hc => by simpa [Array.getD_eq_getD_getElem?, List.getD_eq_getElem?_getD] using h6.2 j c hc
          obtain ⟨v', h8, h9⟩ := pureD_run (x := x) h3 x.w
          refine yields_here hR (v := v') ?_ h9
          have e2 : (List.map ρ args.toList).toArray = Array.map ρ args := Array.toList_inj.1 (by simp)
          rw [← h7, e2] at h8
          exact h8
        · cases h
      · cases h
    | _ => simp [Op.lone] at hop
  | _ => simp [stepOp] at h
end Go.Di
end
