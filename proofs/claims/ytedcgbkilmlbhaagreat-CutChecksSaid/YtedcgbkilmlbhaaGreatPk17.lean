import Derived.Test.YtedcgbkilmlbhaaGreatPk16
namespace Go.Di
open Go
variable {P : Program} {ty : eY} {x : Cx} {w' : World} {aC : bk} {call : aW} {yf : dR} {ρd : Operand → Option DV} {ρ : Operand → Value} {o : Oper} {ay : Nat}
theorem BL {s : Nat} : ∀ {rows : List DV} (_ : ∀ r ∈ rows, r.cells.length = s) (h : Nat), flat (rows.take h) = (flat rows).take (h * s)
 | [], _, h => by simp [flat]
 | r :: rows, hs, 0 => by simp [flat]
 | r :: rows, hs, h + 1 => by
  have h0 := hs r (by simp)
  have ih := BL (rows := rows) (fun r hr => hs r (by simp [hr])) h
  simp only [flat] at ih
  simp only [List.take_succ_cons, flat, List.flatMap_cons, ih]
  have e1 : r.cells.take ((h + 1) * s) = r.cells := List.take_of_length_le (by rw [h0, Nat.succ_mul]; omega)
  have e2 : (h + 1) * s - s = h * s := by rw [Nat.succ_mul]; omega
  rw [List.take_append, h0, e1, e2]
theorem BO {s : Nat} : ∀ {rows : List DV} (_ : ∀ r ∈ rows, r.cells.length = s) (l : Nat), flat (rows.drop l) = (flat rows).drop (l * s)
 | [], _, l => by simp [flat]
 | r :: rows, hs, 0 => by simp
 | r :: rows, hs, l + 1 => by
  have h0 := hs r (by simp)
  have ih := BO (rows := rows) (fun r hr => hs r (by simp [hr])) l
  simp only [flat] at ih
  simp only [List.drop_succ_cons, flat, List.flatMap_cons, ih]
  have e1 : r.cells.drop ((l + 1) * s) = [] := List.drop_of_length_le (by rw [h0, Nat.succ_mul]; omega)
  have e2 : (l + 1) * s - s = l * s := by rw [Nat.succ_mul]; omega
  rw [List.drop_append, h0, e1, e2, List.nil_append]
theorem vS {ρd : Operand → Option DV} {ρ : Operand → Value} (hρ : tq x ρd ρ) {a : Operand} {cM n : Nat} {d : Nat} (h : eU ρd (some a) d cM = some n) (y : Nat) (hy : cM ≤ y) (code : BoundsCode) (w : World) : n ≤ cM ∧ (Instr.sliceBound (ρ a) y code).run P w = .ok n w := by
 unfold eU at h
 simp only at h
 split at h
 ·rename_i i hi
  split at h
  ·rename_i hc
   cases h
   obtain ⟨k, hk⟩ := jR hρ hi
   refine ⟨hc.2, ?_⟩
   have uT : 0 ≤ i ∧ i ≤ (y : Int) := ⟨hc.1, by omega⟩
   simp only [Instr.sliceBound, hk, asIntOf, Sem.run_bind, Sem.run_pure, Result.andThen_ok, uT, and_self, if_true]
  ·cases h
 ·cases h
theorem NK {rows : List DV} {tok : Option Nat} {f : SF} {A : Option Addr} {n cap : Nat} (h : RV x (.sl rows tok f) (.slice A n cap)) : ∀ b, Gj rows f = some b → A.isNone = b := by
 intro b hb
 cases h with
 | sl hv hr h1 h2 h3 hsp h4 =>
  unfold Gj at hb
  split at hb
  ·exact h2.2 b hb
  ·rename_i hne
   cases hb
   cases A with
   | none =>
    have := h3 rfl
    have h0 : rows = [] := List.eq_nil_of_length_eq_zero (by omega)
    exact absurd (by simp [h0]) hne
   | some ad => rfl
theorem La (dx : gY P ty) {op : BinOp} {t : TypeId} {a b : Operand} {d : DV} (hρ : tq x ρd ρ) (h : yC ty op t (ρd a) (ρd b) = some d) :
  ∃ v, (do eqGuard op t a b (ρ a) (ρ b); binOp op t (ρ a) (ρ b) : Sem Value).run P x.w = .ok v x.w ∧ RV x d v := by
 unfold yC at h
 split at h
 ·rename_i rows tok f B9 f2 ha hb
  have ra := hρ a _ ha
  have rb := hρ b _ hb
  generalize ρ a = va at ra ⊢
  generalize ρ b = vb at rb ⊢
  split at h
  ·rename_i e s ji agg sz z c Tt hn
   obtain ⟨hk, it, -, -, -⟩ := bg (dx t _ Tt)
   obtain ⟨hu, -⟩ := iZ hk
   have ra0 := ra
   have rb0 := rb
   cases ra with
   | @sl _ _ _ A cap s1 vs1 DI uO k1 k2 k3 k4 k5 =>
    cases rb with
    | @sl _ _ _ A2 oA s2 vs2 PV LK m1 m2 m3 m4 m5 =>
     have hA := NK ra0 c hn
     have Ze := m2.2 true rfl
     have : A2 = none := by simpa using Ze
     subst this
     have heq : (Op.equal t (.slice A rows.length cap) (.slice none 0 oA)).run P x.w = .ok c x.w := by
      subst hA
      obtain ⟨n, qW⟩ : ∃ n, Op.maxDepth = n + 1 := ⟨9999, rfl⟩
      cases A <;> simp only [Op.equal, qW, Op.equalIn, Sem.run_bind, run_underlying hu, Result.andThen_ok, Sem.run_pure, Option.isNone_none, Option.isNone_some]
     split at h
     ·cases h
      exact ⟨.bool c, by simp [eqGuard, binOp, heq], .val rfl⟩
     ·cases h
      exact ⟨.bool (!c), by simp [eqGuard, binOp, heq], .val rfl⟩
     ·cases h
  ·cases h
 ·cases h
theorem O1 (dx : gY P ty) (hR : Rel x) (hρ : tq x ρd ρ) {t e : TypeId} {s ji sz : Nat} {agg : Bool} {z : Option (List DV)} (Tt : ty t = some ⟨.slice e s ji agg, sz, z⟩) {rows : List DV} {tok : Option Nat} {full : SF} {va : Value} (ha : RV x (.sl rows tok full) va) (kY : ∀ r ∈ rows, r.cells.length = s)
  {lo hi mx : Option Operand} {m h l : Nat} {d : DV} (hm : eU ρd mx rows.length rows.length = some m) (hh : eU ρd hi rows.length m = some h) (hl : eU ρd lo 0 h = some l) (Yj : (hi.isNone && mx.isSome) = false) (hd : nC rows full l h (mx.map fun _ => m) = some d) :
  Yields x ((do pure (.value (← Instr.sliceAt t va (lo.map ρ) (hi.map ρ) (mx.map ρ))) : Sem Next).run P x.w) d x.S := by
 obtain ⟨hk, it, -, -, -⟩ := bg (dx t _ Tt)
 obtain ⟨hu, ie, oE, nB, -, -⟩ := iZ hk
 have s7 := eB kY
 have As := ha
 cases ha with
 | @sl _ _ _ A cap s1 vs1 DI uO k1 k2 k3 k4 k5 =>
  obtain ⟨-, -, -, -, -, hsp, Yc, ws, hwl, LJ, hc, -⟩ := o5 As kY
  have ZX := NK As
  have hbm : m ≤ rows.length ∧ ∃ M, (∀ w : World, (match mx.map ρ with | some v => Instr.sliceBound v cap .slice3Acap | none => pure cap : Sem Nat).run P w = .ok M w) ∧ m ≤ M ∧ M ≤ cap ∧ (mx.isSome = true → M = m) ∧ (mx = none → M = cap ∧ m = rows.length) := by
   cases mx with
   | none =>
    simp only [eU, Option.some.injEq] at hm
    subst hm
    exact ⟨Nat.le_refl _, cap, fun w => rfl, k1, Nat.le_refl _, by simp, fun _ => ⟨rfl, rfl⟩⟩
   | some a =>
    have := fun w => vS (P := P) hρ hm cap k1 .slice3Acap w
    exact ⟨(this default).1, m, fun w => (this w).2, Nat.le_refl _, Nat.le_trans (this default).1 k1, fun _ => rfl, by simp⟩
  obtain ⟨hmr, M, hM, hmM, hMc, hMs, hMn⟩ := hbm
  have hbh : h ≤ rows.length ∧ h ≤ M ∧ ∀ w : World, (match hi.map ρ, mx.map ρ with | some v, some _ => Instr.sliceBound v M .slice3B | some v, none => Instr.sliceBound v M .sliceAcap | none, none => pure rows.length | none, some _ => stuck "Slice: max without high" : Sem Nat).run P w = .ok h w := by
   cases hi with
   | none =>
    cases mx with
    | none =>
     simp only [eU, Option.some.injEq] at hh
     subst hh
     exact ⟨Nat.le_refl _, by rw [(hMn rfl).1]; exact k1, fun w => rfl⟩
    | some a => simp at Yj
   | some b =>
    have q1 := fun c w => vS (P := P) hρ hh M hmM c w
    have q2 := (q1 .slice3B default).1
    refine ⟨Nat.le_trans q2 hmr, Nat.le_trans q2 hmM, fun w => ?_⟩
    cases mx with
    | none => exact (q1 .sliceAcap w).2
    | some a => exact (q1 .slice3B w).2
  obtain ⟨hhr, hhM, hH⟩ := hbh
  have hbl : l ≤ h ∧ ∀ w : World, (match lo.map ρ with | some v => Instr.sliceBound v h (if (mx.map ρ).isSome then .slice3C else .sliceB) | none => pure 0 : Sem Nat).run P w = .ok l w := by
   cases lo with
   | none =>
    simp only [eU, Option.some.injEq] at hl
    subst hl
    exact ⟨Nat.zero_le _, fun w => rfl⟩
   | some a =>
    have q1 := fun c w => vS (P := P) hρ hl h (Nat.le_refl _) c w
    exact ⟨(q1 .slice3C default).1, fun w => (q1 _ w).2⟩
  obtain ⟨hlh, hL⟩ := hbl
  have hA' : ∀ A', A' = (if M = l then A else A.map (·.add (l * s))) → (A' = none → M - l = 0) ∧ (∀ ad, A' = some ad → 0 < M - l → ad.spot = none) := by
   intro A' hA
   subst hA
   split
   ·exact ⟨fun _ => by omega, fun _ _ h => absurd h (by omega)⟩
   ·cases A with
    | none => have := k3 rfl; exact ⟨fun _ => by omega, by simp⟩
    | some ad =>
     refine ⟨by simp, fun Zl h hp => ?_⟩
     simp only [Option.map_some, Option.some.injEq] at h
     subst h
     have := k4 ad rfl (by omega)
     obtain ⟨b, o, sp⟩ := ad
     simp only at this
     subst this
     rw [fM]
  have ZW : ∀ (Vs : Option Nat) (Eg : SF), (Eg.full = true → M - l = h - l) ∧ Nr Eg A → Vs = none → RV x (.sl ((rows.take h).drop l) Vs Eg) (.slice (if M = l then A else A.map (·.add (l * s))) (h - l) (M - l)) := by
   intro Vs Eg tD abP
   subst abP
   obtain ⟨hA1, Ze⟩ := hA' _ rfl
   have hlen : ((rows.take h).drop l).length = h - l := by simp; omega
   have XD : ∀ r ∈ (rows.take h).drop l, r.cells.length = s := fun r hr => kY r (List.mem_of_mem_take (List.mem_of_mem_drop hr))
   have aaV : flat ((rows.take h).drop l) = ((flat rows).take (h * s)).drop (l * s) := by
    rw [BO (fun r hr => kY r (List.mem_of_mem_take hr)), BL kY]
   have q9 : ∀ j c, (flat ((rows.take h).drop l))[j]? = some c → (flat rows)[l * s + j]? = some c ∧ l * s + j < h * s := by
    intro j c Ig
    rw [aaV, List.getElem?_drop, List.getElem?_take] at Ig
    split at Ig
    ·exact ⟨Ig, ‹_›⟩
    ·cases Ig
   have hv : View x ((rows.take h).drop l) (if M = l then A else A.map (·.add (l * s))) s (fun j => ws.getD (l * s + j) undef) := by
    refine ⟨XD, fun j c Ig => ?_⟩
    obtain ⟨q1, q2⟩ := q9 j c Ig
    obtain ⟨b, o, r1, r2, r3⟩ := hc _ _ q1
    refine ⟨Yc c (List.mem_of_getElem? q1), b, o + l * s, ?_, by rw [Nat.add_assoc]; exact r2, by rw [Nat.add_assoc]; exact r3⟩
    have hlt : l < h := by
     rcases Nat.lt_or_ge l h with h1 | h1
     ·exact h1
     ·have : h * s ≤ l * s := Nat.mul_le_mul_right _ h1; omega
    rw [if_neg (by omega), r1]
    simp only [Option.map_some, fM]
   have := RV.sl (tok := none) (full := Eg) (cap := M - l) hv (fun j c Ig => LJ _ _ (q9 j c Ig).1) (by rw [hlen]; omega) ⟨fun hf => by rw [hlen]; exact tD.1 hf, fun b hb => by rw [← tD.2 b hb]; split <;> simp⟩ hA1 Ze (fun t ht => nomatch ht)
   rw [hlen] at this
   exact this
  have hrun : (Instr.sliceAt t (.slice A rows.length cap) (lo.map ρ) (hi.map ρ) (mx.map ρ)).run P x.w = .ok (.slice (if M = l then A else A.map (·.add (l * s))) (h - l) (M - l)) x.w := by
   have hb : (Instr.sliceBounds true rows.length cap (lo.map ρ) (hi.map ρ) (mx.map ρ)).run P x.w = .ok (l, h, M) x.w := by
    have TL := hM x.w
    have hH' := hH x.w
    have Qw := hL x.w
    unfold Instr.sliceBounds
    revert TL hH' Qw Yj
    cases mx <;> cases hi <;> cases lo <;> intro TL hH' Qw Yj <;>
     simp only [Option.map_none, Option.map_some, Sem.run_pure, Result.ok.injEq, and_true, Option.isSome_some, Option.isSome_none, Option.isNone_none, Bool.and_self, Bool.true_eq_false, if_true, Bool.false_eq_true, if_false] at TL hH' Qw Yj ⊢ <;>
     (try subst TL) <;> (try subst hH') <;> (try subst Qw) <;> simp only [Sem.run_bind, Result.andThen_ok, Sem.run_pure, *]
   unfold Instr.sliceAt
   simp only [Sem.run_bind, run_underlying hu, Result.andThen_ok, Instr.slice, hb, run_sizeOf oE, Sem.run_pure, nB]
  unfold nC at hd
  rw [if_pos hlh] at hd
  cases mx with
  | none =>
   simp only [Option.map_none, Option.some.injEq] at hd
   subst hd
   refine aL hR hrun (ZW _ _ ⟨fun hf => ?_, ZX⟩ rfl)
   simp only [Bool.and_eq_true, beq_iff_eq] at hf
   rw [(hMn rfl).1, k2.1 hf.1, hf.2]
  | some a =>
   simp only [Option.map_some] at hd
   by_cases hc : h ≤ m
   ·rw [if_pos hc] at hd
    simp only [Option.some.injEq] at hd
    subst hd
    refine aL hR hrun (ZW _ _ ⟨fun hf => ?_, ZX⟩ rfl)
    simp only [beq_iff_eq] at hf
    rw [hMs rfl, hf]
   ·rw [if_neg hc] at hd
    cases hd
def Op.lone : Op → Bool
 | .call { callee := .builtin _, .. } => true
 | .call _ => false
 | _ => true
set_option maxHeartbeats 1000000 in
theorem Ko (dx : gY P ty) (hR : Rel x) (hn : AW x.S ay) (hρ : tq x ρd ρ) (hop : Op.lone o.op = true) {d : DV} {S' : ak} (h : ah P ty aC call yf ρd o x.S ay = some (d, S')) : Yields x ((execOp ρ o).run P x.w) d S' := by
 obtain ⟨dst, op, type, pos, after, guard⟩ := o
 cases op with
 | move a =>
  simp only [ah, Option.map_eq_some_iff, Prod.mk.injEq] at h
  obtain ⟨d', h1, rfl, rfl⟩ := h
  exact ⟨ρ a, x, .inl rfl, rfl, hR, bh.refl x, hρ a _ h1⟩
 | assign a =>
  simp only [ah, Option.map_eq_some_iff, Prod.mk.injEq] at h
  obtain ⟨d', h1, rfl, rfl⟩ := h
  exact ⟨ρ a, x, .inl rfl, rfl, hR, bh.refl x, hρ a _ h1⟩
 | pick c a b =>
  simp only [ah] at h
  split at h
  ·rename_i t hc
   have hcv := jZ (hρ c _ hc)
   simp only [Option.map_eq_some_iff, Prod.mk.injEq] at h
   obtain ⟨d', h1, rfl, rfl⟩ := h
   cases t with
   | true => exact ⟨ρ a, x, .inl (by simp [execOp, hcv, asBool]), rfl, hR, bh.refl x, hρ a _ h1⟩
   | false => exact ⟨ρ b, x, .inl (by simp [execOp, hcv, asBool]), rfl, hR, bh.refl x, hρ b _ h1⟩
  ·cases h
 | alloc e =>
  simp only [ah] at h
  split at h
  ·rename_i hk
   cases h
   exact O2 dx hR hn hk
  ·cases h
 | box e a =>
  simp only [ah] at h
  split at h
  ·rename_i d' h1
   cases h
   exact Xo hR hn (hρ a _ h1)
  ·cases h
 | build t ps =>
  simp only [ah] at h
  split at h
  ·rename_i hk hl
   simp only [Option.map_eq_some_iff, Prod.mk.injEq] at h
   obtain ⟨cs, h1, rfl, rfl⟩ := h
   exact xy dx hR hρ hk hl h1
  ·rename_i hk hl
   simp only [Option.map_eq_some_iff, Prod.mk.injEq] at h
   obtain ⟨cs, h1, rfl, rfl⟩ := h
   exact Ac dx hR hρ hk hl h1
  ·cases h
 | buildSlice t n ps =>
  simp only [ah] at h
  split at h
  ·rename_i e s ji agg sz z0 l hk hl
   split at h
   ·rename_i k sz' z he
    split at h
    ·rename_i hc
     simp only [Bool.and_eq_true, decide_eq_true_eq] at hc
     split at h
     ·rename_i cs hf
      split at h
      ·rename_i hp
       simp only [Bool.and_eq_true, Bool.or_eq_true, beq_iff_eq] at hp
       split at h
       ·cases h
        exact K5 dx hR hn hρ hk hl he hc.1 hc.2 hf hp.1
       ·cases h
        exact AL dx hR hρ hk hl he hc.1 hc.2 hf hp.1 hp.2
      ·cases h
     ·cases h
    ·cases h
   ·cases h
  ·cases h
 | makeSlice t a b =>
  simp only [ah] at h
  split at h
  ·rename_i e s ji agg sz z0 n m hk ha hb
   split at h
   ·rename_i k sz' z he
    split at h
    ·rename_i hc
     simp only [Bool.and_eq_true, Bool.or_eq_true, beq_iff_eq, decide_eq_true_eq] at hc
     obtain ⟨⟨⟨⟨⟨⟨h0, rfl⟩, hs⟩, -⟩, h1⟩, h2⟩, h3⟩ := hc
     cases h
     obtain ⟨kd, hka⟩ := jR hρ ha
     obtain ⟨kd', hkb⟩ := jR hρ hb
     have h4 := Dl (kd := kd) (kd' := kd') dx hR hn hk he h0 hs h1 h2 h3
     rw [← hka, ← hkb] at h4
     exact h4
    ·cases h
   ·cases h
  ·cases h
 | load t a =>
  simp only [ah] at h
  split at h
  ·rename_i a' h1
   simp only [Option.map_eq_some_iff, Prod.mk.injEq] at h
   obtain ⟨d', h2, rfl, rfl⟩ := h
   obtain ⟨v, h3, h4⟩ := E2 dx hR (hρ a _ h1) h2
   exact aL hR h3 h4
  ·cases h
 | store t a v =>
  simp only [ah] at h
  split at h
  ·rename_i a' v' h1 h2
   simp only [Option.map_eq_some_iff, Prod.mk.injEq] at h
   obtain ⟨S2, h3, rfl, rfl⟩ := h
   obtain ⟨y, h4, h5, h6, h7⟩ := Kn dx hR (hρ a _ h1) (hρ v _ h2) h3
   exact Et h4 h5 h6 h7
  ·cases h
 | nilCheck a =>
  simp only [ah] at h
  split at h
  ·rename_i id off h1
   cases h
   have := hρ a _ h1
   generalize hv : ρ a = v at this
   cases this with
   | ptr hS => exact ⟨_, x, .inl (by simp only [execOp, hv]; rfl), rfl, hR, bh.refl x, .ptr hS⟩
  ·cases h
 | binOp op t a b u =>
  simp only [ah] at h
  split at h
  ·rename_i va vb h1 h2
   simp only [Option.map_eq_some_iff, Prod.mk.injEq] at h
   obtain ⟨d', h3, rfl, rfl⟩ := h
   obtain ⟨v, h4, h5⟩ := kO (x := x) h3 x.w
   rw [← ei hρ h1, ← ei hρ h2] at h4
   exact aL hR h4 h5
  ·simp only [Option.map_eq_some_iff, Prod.mk.injEq] at h
   obtain ⟨d', h3, rfl, rfl⟩ := h
   obtain ⟨v, h4, h5⟩ := La dx hρ h3
   exact aL hR h4 h5
 | unOp op t a =>
  simp only [ah] at h
  split at h
  ·rename_i va h1
   simp only [Option.map_eq_some_iff, Prod.mk.injEq] at h
   obtain ⟨d', h3, rfl, rfl⟩ := h
   obtain ⟨v, h4, h5⟩ := kO (x := x) h3 x.w
   rw [← ei hρ h1] at h4
   exact aL hR h4 h5
  ·cases h
 | convert s t a =>
  simp only [ah] at h
  split at h
  ·rename_i va h1
   simp only [Option.map_eq_some_iff, Prod.mk.injEq] at h
   obtain ⟨d', h3, rfl, rfl⟩ := h
   obtain ⟨v, h4, h5⟩ := kO (x := x) h3 x.w
   rw [← ei hρ h1] at h4
   exact aL hR h4 h5
  ·cases h
 | makeFunc fn fs cs =>
  cases fn with
  | func f =>
   simp only [ah] at h
   split at h
   ·rename_i a b h1 h2
    cases h
    have e1 := sg hρ h1
    have e2 := sg hρ h2
    refine aL hR (v := .func (.func f) (fs.map ρ) (cs.map ρ)) rfl (.fn (by simpa using e1.1) (by simpa using e2.1) (fun j c hc => ?_) (fun j c hc => ?_))
    ·have := e1.2 j c hc
     simpa [Array.getD_eq_getD_getElem?] using this
    ·have := e2.2 j c hc
     simpa [Array.getD_eq_getD_getElem?] using this
   ·cases h
  | _ => simp [ah] at h
 | slice t a lo hi mx =>
  simp only [ah] at h
  split at h
  ·rename_i s sz z rows tok full hk ha
   split at h
   ·cases h
   ·rename_i kY
    simp only [Bool.not_eq_true', Bool.not_eq_false, List.all_eq_true, decide_eq_true_eq] at kY
    split at h
    ·rename_i m hm
     split at h
     ·rename_i h' hh
      split at h
      ·rename_i l hl
       split at h
       ·cases h
       ·rename_i Yj
        simp only [Option.map_eq_some_iff, Prod.mk.injEq] at h
        obtain ⟨d', h3, rfl, rfl⟩ := h
        exact O1 dx hR hρ hk (hρ a _ ha) kY hm hh hl (by simpa using Yj) h3
      ·cases h
     ·cases h
    ·cases h
  ·cases h
 | fieldAddr t a f =>
  simp only [ah] at h
  split at h
  ·rename_i fs sz z id off hk ha
   split at h
   ·rename_i o s agg hf
    split at h
    ·rename_i hs
     cases h
     have := hρ a _ ha
     generalize hv : ρ a = v at this
     cases this with
     | ptr hS => exact aL hR (by rw [hv]; exact nZ dx hk hf hs _ _ _) (.ptr hS)
    ·cases h
   ·cases h
  ·rename_i fs sz z rows i off hk ha
   split at h
   ·rename_i o s agg hf
    split at h
    ·rename_i hs
     cases h
     have := hρ a _ ha
     generalize hv : ρ a = v at this
     cases this with
     | cV DI PV =>
      refine aL hR (by rw [hv]; exact nZ dx hk hf hs _ _ _) ?_
      rw [Nat.add_assoc, Nat.add_assoc]
      exact .cV DI PV
    ·cases h
   ·cases h
  ·rename_i fs sz z id n off hk ha
   split at h
   ·rename_i o s agg q hf hop
    obtain ⟨e, s', l, zz⟩ := q
    obtain ⟨hS, B3⟩ := jb hop
    split at h
    ·rename_i hs
     cases h
     have := hρ a _ ha
     generalize hv : ρ a = v at this
     cases this with
     | @dM _ _ _ e1 s1 l1 z1 _ xE FZ hA =>
      obtain ⟨rfl, rfl, rfl, rfl⟩ : e = e1 ∧ s' = s1 ∧ l = l1 ∧ zz = z1 := by rw [hS] at xE; cases xE; exact ⟨rfl, rfl, rfl, rfl⟩
      have hA := hA B3
      subst hA
      exact aL hR (by rw [hv]; exact nZ dx hk hf hs _ _ _) (.dM hS FZ fun _ => rfl)
    ·cases h
   ·cases h
  ·cases h
 | field t a f =>
  simp only [ah] at h
  split at h
  ·rename_i fs sz z l hk ha
   split at h
   ·rename_i off s agg hf
    simp only [Option.map_eq_some_iff, Prod.mk.injEq] at h
    obtain ⟨d', h3, rfl, rfl⟩ := h
    obtain ⟨arr, hv, LJ⟩ := I3 (hρ a _ ha)
    obtain ⟨oB, i, hi, -, -⟩ := bg (dx t _ hk)
    obtain ⟨fields, hu, hfs, Y1⟩ := vw oB
    obtain ⟨fd, h4, h5, inf, h6, h7, h8, d0, h9⟩ := Y1 f _ hf
    simp only at h5 h7 h8
    obtain ⟨v, uU, DM⟩ := Jd (x := x) h6 h9 h7 h8 LJ h3 x.w
    refine aL hR (v := v) ?_ DM
    simp only [Instr.field, hv, Sem.run_bind, run_underlying hu, Result.andThen_ok, h4, asAgg, Sem.run_pure, h5, uU]
   ·cases h
  ·cases h
 | indexAddr t a i =>
  simp only [ah] at h
  split at h
  ·rename_i e s ji agg sz z rows tok full n hk ha hi
   split at h
   ·rename_i h0
    split at h
    ·rename_i r hr
     split at h
     ·rename_i hs
      cases h
      obtain ⟨kd, LO⟩ := jR hρ hi
      have := hρ a _ ha
      generalize hv : ρ a = v at this
      cases this with
      | @sl _ _ _ A cap s1 vs DI PV k1 k2 k3 k4 k5 =>
       have hlt : n.toNat < rows.length := (List.getElem?_eq_some_iff.1 hr).1
       cases A with
       | none => have := k3 rfl; omega
       | some ad =>
        obtain ⟨b, o, sp⟩ := ad
        have : sp = none := k4 _ rfl (by omega)
        subst this
        have DJ : s1 = s := by rw [← hs]; exact (DI.1 r (List.mem_of_getElem? hr)).symm
        subst DJ
        refine aL hR (by rw [hv, LO]; exact zP dx hk h0 hlt _ _ _) ?_
        have := RV.cV (i := n.toNat) (off := 0) DI PV
        simpa using this
     ·cases h
    ·cases h
   ·cases h
  ·rename_i k s agg sz z id off n hk ha hi
   split at h
   ·rename_i h0
    cases h
    obtain ⟨kd, LO⟩ := jR hρ hi
    have := hρ a _ ha
    generalize hv : ρ a = v at this
    cases this with
    | ptr hS => exact aL hR (by rw [hv, LO]; exact wP dx hk h0.1 h0.2 _ _ _) (.ptr hS)
   ·cases h
  ·rename_i k s agg sz z rows j off n hk ha hi
   split at h
   ·rename_i h0
    cases h
    obtain ⟨kd, LO⟩ := jR hρ hi
    have := hρ a _ ha
    generalize hv : ρ a = v at this
    cases this with
    | cV DI PV =>
     refine aL hR (by rw [hv, LO]; exact wP dx hk h0.1 h0.2 _ _ _) ?_
     rw [Nat.add_assoc, Nat.add_assoc]
     exact .cV DI PV
   ·cases h
  ·rename_i e s ji agg sz z id m ag n hk ha hi
   split at h
   ·rename_i q1 s' l zz hop
    obtain ⟨hS, B3⟩ := jb hop
    split at h
    ·rename_i h0
     obtain ⟨h0, h1, rfl⟩ := h0
     cases h
     obtain ⟨kd, LO⟩ := jR hρ hi
     have := hρ a _ ha
     generalize hv : ρ a = v at this
     cases this with
     | @gI _ _ _ e1 s1 l1 z1 _ _ xE FZ hA =>
      obtain ⟨rfl, rfl, rfl, rfl⟩ : q1 = e1 ∧ s' = s1 ∧ l = l1 ∧ zz = z1 := by rw [hS] at xE; cases xE; exact ⟨rfl, rfl, rfl, rfl⟩
      obtain ⟨rfl, rfl⟩ := hA B3
      exact aL hR (by rw [hv, LO]; exact zP dx hk h0 h1 _ _ _) (.dM hS (by omega) fun _ => by rw [Nat.zero_add])
    ·cases h
   ·cases h
  ·cases h
 | index t a i =>
  simp only [ah] at h
  split at h
  ·rename_i k s agg sz z l n hk ha hi
   split at h
   ·rename_i h0
    simp only [Option.map_eq_some_iff, Prod.mk.injEq] at h
    obtain ⟨d', h3, rfl, rfl⟩ := h
    obtain ⟨kd, LO⟩ := jR hρ hi
    obtain ⟨arr, hv, LJ⟩ := I3 (hρ a _ ha)
    obtain ⟨oB, it, Yh, -, -⟩ := bg (dx t _ hk)
    obtain ⟨e, hu, ie, oE, nB, B5, d0, YP⟩ := ue oB
    obtain ⟨v, uU, DM⟩ := Jd (x := x) oE YP nB B5 LJ h3 x.w
    refine aL hR (v := v) ?_ DM
    have hc : 0 ≤ n ∧ n < (k : Int) := ⟨h0.1, by omega⟩
    simp only [Instr.index, hv, LO, asIntOf, Sem.run_bind, Sem.run_pure, run_underlying hu, Result.andThen_ok, hc, and_self, if_true, run_sizeOf oE, nB, uU]
   ·cases h
  ·cases h
 | makeMap t r =>
  cases r with
  | none =>
   simp only [ah, Option.some.injEq, Prod.mk.injEq] at h
   obtain ⟨rfl, rfl⟩ := h
   exact Hw hR hn
  | some a => simp [ah] at h
 | lookup t m k ok =>
  simp only [ah] at h
  split at h
  ·rename_i id kv hm hk
   split at h
   ·rename_i es hS
    simp only [Option.map_eq_some_iff, Option.bind_eq_some_iff, Prod.mk.injEq] at h
    obtain ⟨d', ⟨v, h1, h2⟩, rfl, rfl⟩ := h
    have := hρ m _ hm
    generalize hv : ρ m = vm at this
    cases this with
    | map _ =>
     have h3 := K4 hR hS h1 h2
     rw [← hv, ← ei hρ hk] at h3
     exact h3
   ·cases h
  ·cases h
 | mapUpdate t m k a =>
  simp only [ah] at h
  split at h
  ·rename_i id kv vv hm hk ha
   split at h
   ·rename_i es hS
    split at h
    ·rename_i r hr
     simp only [Option.map_eq_some_iff, Prod.mk.injEq] at h
     obtain ⟨es', h1, rfl, rfl⟩ := h
     have := hρ m _ hm
     generalize hv : ρ m = vm at this
     cases this with
     | map _ =>
      have h3 := Dk hR hS hr h1
      rw [← hv, ← ei hρ hk, ← ei hρ ha] at h3
      exact h3
    ·cases h
   ·cases h
  ·cases h
 | extract a i =>
  simp only [ah] at h
  split at h
  ·rename_i l ha
   simp only [Option.map_eq_some_iff, Prod.mk.injEq] at h
   obtain ⟨d', h3, rfl, rfl⟩ := h
   have := hρ a _ ha
   generalize hv : ρ a = v at this
   cases this with
   | @ep _ vs hs hr =>
    have hlt : i < vs.size := by rw [hs]; exact (List.getElem?_eq_some_iff.1 h3).1
    refine aL hR (v := vs[i]) (by rw [hv]; simp [Instr.extract, hlt]) ?_
    simpa [Array.getD_eq_getD_getElem?, hlt] using hr i _ h3
  ·cases h
 | call c =>
  obtain ⟨callee, args, ats⟩ := c
  cases callee with
  | builtin b =>
   simp only [ah] at h
   have hex : ∀ w : World, (execOp ρ ⟨dst, .call ⟨.builtin b, args, ats⟩, type, pos, after, guard⟩).run P w = (Go.builtin b ats type (args.map fun | .const _ => true | _ => false) (args.map ρ)).run P w := fun w => by
    simp only [execOp, resolve, Sem.run_bind, Sem.run_pure, Result.andThen_ok, invoke]
    rfl
   rw [hex]
   split at h
   ·rename_i a t iU MD
    have ea : args = #[a] := by rw [← Array.toArray_toList (xs := args), iU]
    have et : ats = #[t] := by rw [← Array.toArray_toList (xs := ats), MD]
    subst ea et
    split at h
    ·rename_i e s ji agg sz z rows tok full hk ha
     cases h
     obtain ⟨oB, it, Yh, -, -⟩ := bg (dx t _ hk)
     obtain ⟨hu, -⟩ := iZ oB
     have := hρ a _ ha
     generalize hv : ρ a = v at this
     cases this with
     | sl _ _ _ _ _ _ _ => exact aL hR (v := .int .i64 rows.length) (by simp [Builtin.len_, hv, run_underlying hu, goInt]) (.val rfl)
    ·rename_i e s ji agg sz z id n ag hk ha
     cases h
     obtain ⟨oB, it, Yh, -, -⟩ := bg (dx t _ hk)
     obtain ⟨hu, -⟩ := iZ oB
     have := hρ a _ ha
     generalize hv : ρ a = v at this
     cases this with
     | gI _ _ _ => exact aL hR (v := .int .i64 n) (by simp [Builtin.len_, hv, run_underlying hu, goInt]) (.val rfl)
    ·rename_i n s agg sz z hk
     cases h
     obtain ⟨oB, it, Yh, -, -⟩ := bg (dx t _ hk)
     obtain ⟨e, hu, -⟩ := ue oB
     exact aL hR (v := .int .i64 n) (by simp [Builtin.len_, run_underlying hu, goInt]) (.val rfl)
    ·rename_i v ha hno
     simp only [Option.map_eq_some_iff, Prod.mk.injEq] at h
     obtain ⟨d', h3, rfl, rfl⟩ := h
     obtain ⟨v', h4, h5⟩ := kO (x := x) h3 x.w
     have := jZ (hρ a _ ha)
     refine aL hR (v := v') ?_ h5
     simpa [this] using h4
    ·cases h
   ·rename_i a b t u iU MD
    have ea : args = #[a, b] := by rw [← Array.toArray_toList (xs := args), iU]
    have et : ats = #[t, u] := by rw [← Array.toArray_toList (xs := ats), MD]
    subst ea et
    split at h
    ·rename_i Ma
     subst Ma
     split at h
     ·rename_i da db ha hb
      have e2 : Array.map ρ #[a, b] = #[ρ a, ρ b] := by simp
      rw [e2]
      split at h
      ·exact zT (u := type) dx hR hn (hρ a _ ha) (hρ b _ hb) h
      ·split at h
       ·exact zT (u := type) dx hR hn (hρ a _ ha) (hρ b _ hb) h
       ·exact K6 (u := type) dx hR hn (hρ a _ ha) (hρ b _ hb) h
     ·cases h
    ·cases h
   ·rename_i xs iU
    split at h
    ·rename_i vs h1
     simp only [Option.map_eq_some_iff, Prod.mk.injEq] at h
     obtain ⟨d', h3, rfl, rfl⟩ := h
     simp only [Option.bind_eq_some_iff] at h1
     obtain ⟨ds, h4, h5⟩ := h1
     have h6 := sg hρ h4
     have h7 := vB (x := x) (vs := args.toList.map ρ) h5 (by simpa using h6.1) fun j c hc => by simpa [Array.getD_eq_getD_getElem?, List.getD_eq_getElem?_getD] using h6.2 j c hc
     obtain ⟨v', h8, h9⟩ := kO (x := x) h3 x.w
     refine aL hR (v := v') ?_ h9
     have e2 : (List.map ρ args.toList).toArray = Array.map ρ args := Array.toList_inj.1 (by simp)
     rw [← h7, e2] at h8
     exact h8
    ·cases h
   ·rename_i xs iU
    split at h
    ·rename_i vs h1
     simp only [Option.map_eq_some_iff, Prod.mk.injEq] at h
     obtain ⟨d', h3, rfl, rfl⟩ := h
     simp only [Option.bind_eq_some_iff] at h1
     obtain ⟨ds, h4, h5⟩ := h1
     have h6 := sg hρ h4
     have h7 := vB (x := x) (vs := args.toList.map ρ) h5 (by simpa using h6.1) fun j c hc => by simpa [Array.getD_eq_getD_getElem?, List.getD_eq_getElem?_getD] using h6.2 j c hc
     obtain ⟨v', h8, h9⟩ := kO (x := x) h3 x.w
     refine aL hR (v := v') ?_ h9
     have e2 : (List.map ρ args.toList).toArray = Array.map ρ args := Array.toList_inj.1 (by simp)
     rw [← h7, e2] at h8
     exact h8
    ·cases h
   ·cases h
  | _ => simp [Op.lone] at hop
 | _ => simp [ah] at h
end Go.Di
