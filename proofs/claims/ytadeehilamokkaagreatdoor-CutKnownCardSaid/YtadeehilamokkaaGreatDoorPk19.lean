/- The law CutKnown: part 19: Cd17 Cd18. By an AI agent. -/
import Derived.Test.YtadeehilamokkaaGreatDoorPk18
section
namespace Go.Di
open Go Go.Conc Go.Co
open Go.ConcN (upd upd_same upd_ne)
variable {P : Program} {Final : Machine → Trace → Prop} {ty : Tys} {x : Cx} {iso : IsoF} {call : CallF} {yf : YldF}
def appW (w : Option (Nat × DB)) (S : Store) : Store := match w with
  | none => S
  | some (i, b) => S.set i b
theorem setS_lt {S : Store} {i : Nat} (h : i < S.length) (b : DB) : setS S i b = S.set i b := by unfold setS; rw [if_pos h]
theorem lt_of_some {S : Store} {i : Nat} {b : DB} (h : S[i]? = some b) : i < S.length := (List.getElem?_eq_some_iff.1 h).1
def PlainOp : Op → Prop
  | .alloc _ | .box .. | .makeMap .. | .load .. | .store .. | .lookup .. | .mapUpdate .. | .makeSlice .. | .buildSlice .. | .fieldAddr .. | .indexAddr .. => False
  | .call { callee := .builtin .append, .. } => False
  | .call { callee := .builtin _, .. } => True
  | .call _ => False
  | _ => True
theorem map_fst {β : Type} (q : Option β) (f : β → DV) (S T : Store) : q.map (fun c => (f c, S)) = ((q.map (fun c => (f c, T))).map (·.1)).map (·, S) := by cases q <;> rfl
theorem plain_form {ρ : Operand → Option DV} {o : Oper} (hop : PlainOp o.op) (S : Store) (nid : Nat) : stepOp P ty iso call yf ρ o S nid = ((stepOp P ty iso call yf ρ o [] 0).map (·.1)).map (·, S) := by
  obtain ⟨dst, op, type, pos, after, guard⟩ := o
  cases op <;> simp only [PlainOp] at hop
  case call c =>
    obtain ⟨callee, args, ats⟩ := c
    cases callee with
    | builtin b =>
      simp only [stepOp]
      generalize args.toList = l
      generalize ats.toList = m
      split
      · split <;> first | rfl | exact map_fst (f := id) _ S []
      · grind
      · split <;> first | rfl | exact map_fst (f := id) _ S []
      · split <;> first | rfl | exact map_fst (f := id) _ S []
      · rfl
    | value f => exact hop.elim
    | invoke r m => exact hop.elim
  case makeFunc fn fs cs => cases fn <;> simp only [stepOp] <;> (repeat' split) <;> rfl
  all_goals simp only [stepOp]
  all_goals (repeat' split)
  all_goals first
    | rfl
    | exact map_fst (f := id) _ S []
    | exact map_fst _ _ S []
theorem plain_eq {ρ : Operand → Option DV} {o : Oper} (hop : PlainOp o.op) {S S' : Store} {nid : Nat} {v : DV} (h : stepOp P ty iso call yf ρ o S nid = some (v, S')) : S' = S ∧ ∀ T nid', stepOp P ty iso call yf ρ o T nid' = some (v, T) := by
  rw [plain_form hop] at h
  simp only [Option.map_eq_some_iff, Prod.mk.injEq] at h
  obtain ⟨d, h1, h2, h3⟩ := h
  refine ⟨h3.symm, fun T nid' => ?_⟩
  rw [plain_form hop]
  simp only [Option.map_eq_some_iff, Prod.mk.injEq]
  exact ⟨d, h1, h2, trivial⟩
structure Eff (P : Program) (ty : Tys) (iso : IsoF) (call : CallF) (yf : YldF) (ρ : Operand → Option DV) (o : Oper) (S : Store) (nid : Nat) (v : DV) (S' : Store) (f : Foot) (F : List Nat) (w : Option (Nat × DB)) : Prop where
  res : S' = appW w S
  foot : ∀ i b, w = some (i, b) → i ∈ F ∧ f.wr = true ∧ i < S.length
  loc : ∀ T, (F ≠ [] → T.length = S.length) → (∀ x ∈ F, T[x]? = S[x]?) → stepDr P ty iso call yf ρ o T nid = some (v, appW w T, f)
theorem loadD_ptr {S T : Store} {t : TypeId} {id off : Nat} (h : T[id]? = S[id]?) : loadD ty T t (.ptr id off) = loadD ty S t (.ptr id off) := by
  unfold loadD
  cases ty t with
  | none => rfl
  | some d => simp only [h]
theorem loadD_eptr {S T : Store} {t : TypeId} {rows : List DV} {i off : Nat} : loadD ty T t (.eptr rows i off) = loadD ty S t (.eptr rows i off) := by unfold loadD; cases ty t <;> rfl
theorem opD_eq {S T : Store} {id n : Nat} (h : T[id]? = S[id]?) : opD T id n = opD S id n := by unfold opD; rw [h]
theorem loadD_optr {S T : Store} {t : TypeId} {id n off : Nat} (h : T[id]? = S[id]?) : loadD ty T t (.optr id n off) = loadD ty S t (.optr id n off) := by
  unfold loadD
  cases ty t with
  | none => rfl
  | some d => simp only [opD_eq h]
theorem field_loc {ρ : Operand → Option DV} {dst : Option Tmp} {t type : TypeId} {a : Operand} {f : Nat} {pos : String} {after : Array Edge} {guard : Option (Nat × Bool)} {S S' T : Store} {nid : Nat} {v : DV} (hT : ∀ id n off, ρ a = some (.optr id n off) → T[id]? = S[id]?)
    (h : stepOp P ty iso call yf ρ ⟨dst, .fieldAddr t a f, type, pos, after, guard⟩ S nid = some (v, S')) : S' = S ∧ ∀ nid', stepOp P ty iso call yf ρ ⟨dst, .fieldAddr t a f, type, pos, after, guard⟩ T nid' = some (v, T) := by
  simp only [stepOp] at h ⊢
  split at h
  · rename_i hk ha
    split at h
    · grind
    · cases h
  · rename_i hk ha
    split at h
    · grind
    · cases h
  · rename_i hk ha
    split at h
    · rename_i hf hop
      split at h
      · rename_i hs
        cases h
        exact ⟨rfl, fun _ => by simp only [hk, ha, hf, opD_eq (hT _ _ _ ha), hop, if_pos hs]⟩
      · cases h
    · cases h
  · cases h
theorem index_loc {ρ : Operand → Option DV} {dst : Option Tmp} {t type : TypeId} {a i : Operand} {pos : String} {after : Array Edge} {guard : Option (Nat × Bool)} {S S' T : Store} {nid : Nat} {v : DV} (hT : ∀ id n ag, ρ a = some (.slo id n ag) → T[id]? = S[id]?)
    (h : stepOp P ty iso call yf ρ ⟨dst, .indexAddr t a i, type, pos, after, guard⟩ S nid = some (v, S')) : S' = S ∧ ∀ nid', stepOp P ty iso call yf ρ ⟨dst, .indexAddr t a i, type, pos, after, guard⟩ T nid' = some (v, T) := by
  simp only [stepOp] at h ⊢
  split at h
  · rename_i hk ha hi
    split at h
    · rename_i h0
      split at h
      · grind
      · cases h
    · cases h
  · grind
  · grind
  · rename_i hk ha hi
    split at h
    · rename_i hop
      split at h
      · rename_i h0
        cases h
        exact ⟨rfl, fun _ => by simp only [hk, ha, hi, opD_eq (hT _ _ _ ha), hop, if_pos h0]⟩
      · cases h
    · cases h
  · cases h
theorem build_loc {ρ : Operand → Option DV} {o : Oper} {t : TypeId} {n : Nat} {ps : Array (Nat × Operand)} {S S' : Store} {nid : Nat} {v : DV} (ho : o.op = .buildSlice t n ps) (hh : ty.h o ≠ 1)
    (h : stepOp P ty iso call yf ρ o S nid = some (v, S')) : S' = S ∧ ∀ (T : Store) (nid' : Nat), stepOp P ty iso call yf ρ o T nid' = some (v, T) := by
  simp only [stepOp, ho] at h ⊢
  split at h
  · rename_i hk hl
    split at h
    · rename_i he
      split at h
      · rename_i hc
        split at h
        · grind
        · cases h
      · cases h
    · cases h
  · cases h
theorem appendD_eff {S S' : Store} {nid : Nat} {t : TypeId} {a b v : DV} (h : appendD ty S nid t a b = some (v, S')) (hn : nid < S.length) : ∃ w, S' = appW w S ∧ (∀ i c, w = some (i, c) → (i = nid ∨ ∃ r tk f, a = .sl r (some tk) f ∧ i = tk) ∧ i < S.length) ∧
    ∀ T : Store, T.length = S.length → (∀ r tk f, a = .sl r (some tk) f → T[tk]? = S[tk]?) → appendD ty T nid t a b = some (v, appW w T) := by
  unfold appendD at h ⊢
  split at h
  · rename_i e s by_ agg sz z rows tok full news tok2 full2 htt
    split at h
    · rename_i hemp
      cases h
      exact ⟨none, rfl, by simp, fun T _ _ => by simp only [hemp, if_true]; rfl⟩
    · rename_i hemp
      split at h
      · rename_i hte
        split at h
        · rename_i hc
          cases tok with
          | none =>
            simp only at h
            split at h
            · rename_i hf
              cases h
              refine ⟨some (nid, .tail e s ((rows.length + news.length) * s)), setS_lt hn _, fun i c hw => ?_, fun T hT _ => ?_⟩
              · grind
              · simp only [hemp, hc, hf, if_true, Bool.false_eq_true, if_false]
                rw [setS_lt (by omega)]
                rfl
            · cases h
          | some tk =>
            simp only at h
            split at h
            · rename_i e' s' n' hS
              split at h
              · rename_i hc2
                cases h
                refine ⟨some (tk, .tail e s ((rows.length + news.length) * s)), rfl, fun i c hw => ?_, fun T hT hl => ?_⟩
                · grind
                · have hT2 : T[tk]? = some (.tail e' s' n') := (hl rows tk full rfl).trans hS
                  simp only [hemp, hc, hT2, hc2, if_true, Bool.false_eq_true, if_false]
                  rfl
              · cases h
            · cases h
        · cases h
      · cases h
  · cases h
theorem onlyD_loc {g : FuncId} {args : List DV} {S : Store} {i : Nat} {v : DV} {l : List DV} (h : onlyD call g args S = some (i, v, l)) : i < S.length ∧ ∀ T : Store, T[i]? = S[i]? → onlyD call g args T = some (i, v, l) := by
  unfold onlyD at h ⊢
  split at h
  · grind
  · cases h
theorem openC_loc {g : FuncId} {args : List DV} {S S' : Store} {nid : Nat} {v : DV} (h : openC call nid g args S = some (v, S')) : ∃ b, S[nid]? = some .none ∧ S' = S.set nid b ∧ ∀ T : Store, T[nid]? = some .none → openC call nid g args T = some (v, T.set nid b) := by
  unfold openC at h ⊢
  split at h
  · grind
  · grind
  · cases h
def Multi (P : Program) (ty : Tys) (iso : IsoF) (call : CallF) (yf : YldF) (ρ : Operand → Option DV) (o : Oper) (S : Store) : Prop :=
  ∃ c args ats g fs cs xs R v S1, o.op = .call ⟨.value c, args, ats⟩ ∧ ρ c = some (.fn g fs cs) ∧ evs ρ args.toList = some xs ∧ ¬ ty.h o = 1 ∧ ¬ ((fs ++ xs ++ cs).map DV.strip).all DV.pure = true ∧ onlyD call g (fs ++ xs ++ cs) S = none ∧ multiD call g (fs ++ xs ++ cs) S = some (R, v, S1)
theorem dr_eff1 {ρ : Operand → Option DV} {o : Oper} {S S' : Store} {nid : Nat} {v : DV} {f : Foot} (h : stepDr P ty iso call yf ρ o S nid = some (v, S', f)) {F : List Nat} (hF : f.ids = some F) (hm : ¬ Multi P ty iso call yf ρ o S) : ∃ w, Eff P ty iso call yf ρ o S nid v S' f F w := by
  obtain ⟨dst, op, type, pos, after, guard⟩ := o
  have plain : ∀ (hop : PlainOp op), (stepOp P ty iso call yf ρ ⟨dst, op, type, pos, after, guard⟩ S nid).map (fun r => (r.1, r.2, (⟨some [], false⟩ : Foot))) = some (v, S', f) → (∀ T, stepDr P ty iso call yf ρ ⟨dst, op, type, pos, after, guard⟩ T nid = (stepOp P ty iso call yf ρ ⟨dst, op, type, pos, after, guard⟩ T nid).map (fun r => (r.1, r.2, (⟨some [], false⟩ : Foot)))) → ∃ w, Eff P ty iso call yf ρ ⟨dst, op, type, pos, after, guard⟩ S nid v S' f F w := by
    intro hop h1 h2
    simp only [Option.map_eq_some_iff, Prod.mk.injEq] at h1
    obtain ⟨⟨d, S1⟩, h3, rfl, rfl, rfl⟩ := h1
    obtain ⟨h4, h5⟩ := plain_eq hop h3
    exact ⟨none, h4, by simp, fun T _ _ => by rw [h2, h5 T nid]; rfl⟩
  cases op
  case alloc e =>
    simp only [stepDr] at h
    split at h
    · rename_i hS
      have hlt := lt_of_some hS
      simp only [stepOp] at h
      split at h
      · rename_i hk
        cases h
        cases hF
        refine ⟨some (nid, _), setS_lt hlt _, fun i b hw => by cases hw; exact ⟨by simp, rfl, hlt⟩, fun T hT hx => ?_⟩
        have := hx nid (by simp)
        have hl := hT (by simp)
        simp only [stepDr, this, hS, stepOp, hk, Option.map_some]
        rw [setS_lt (by omega)]
        rfl
      · cases h
    · cases h
  case box e a =>
    simp only [stepDr] at h
    split at h
    · rename_i hS
      have hlt := lt_of_some hS
      simp only [stepOp] at h
      split at h
      · rename_i hk
        cases h
        cases hF
        refine ⟨some (nid, _), setS_lt hlt _, fun i b hw => by cases hw; exact ⟨by simp, rfl, hlt⟩, fun T hT hx => ?_⟩
        have := hx nid (by simp)
        have hl := hT (by simp)
        simp only [stepDr, this, hS, stepOp, hk, Option.map_some]
        rw [setS_lt (by omega)]
        rfl
      · cases h
    · cases h
  case makeMap t r =>
    cases r with
    | some a =>
      simp only [stepDr] at h
      split at h
      · simp [stepOp] at h
      · cases h
    | none =>
      simp only [stepDr] at h
      split at h
      · rename_i hS
        have hlt := lt_of_some hS
        simp only [stepOp] at h
        cases h
        cases hF
        refine ⟨some (nid, _), setS_lt hlt _, fun i b hw => by cases hw; exact ⟨by simp, rfl, hlt⟩, fun T hT hx => ?_⟩
        have := hx nid (by simp)
        have hl := hT (by simp)
        simp only [stepDr, this, hS, stepOp, Option.map_some]
        rw [setS_lt (by omega)]
        rfl
      · cases h
  case store t a b =>
    simp only [stepDr] at h
    split at h
    · rename_i id off ha
      simp only [stepOp, ha] at h
      split at h
      · rename_i a' v' h1 h2
        cases h1
        unfold storeD at h
        split at h
        · rename_i td id' off' hk hpe
          cases hpe
          split at h
          · rename_i l hl
            split at h
            · rename_i hc
              simp only [Option.map_map, Option.map_eq_some_iff, Function.comp_apply, Prod.mk.injEq] at h
              obtain ⟨l', h3, rfl, rfl, rfl⟩ := h
              cases hF
              refine ⟨some (id, .cells l'), rfl, fun i b hw => by cases hw; exact ⟨by simp, rfl, lt_of_some hl⟩, fun T hT hx => ?_⟩
              have := hx id (by simp)
              simp only [stepDr, ha, stepOp, h2, storeD, hk, this, hl, hc, if_true, h3, Option.map_some]
              rfl
            · cases h
          · cases h
        · grind
        · cases h
      · cases h
    · rename_i id n off ha
      simp only [stepOp, ha] at h
      split at h
      · rename_i a' v' h1 h2
        cases h1
        unfold storeD at h
        split at h
        · grind
        · rename_i td id' n' off' hk hpe
          cases hpe
          split at h
          · rename_i e s l hop
            have hl := (opD_spec hop).1
            split at h
            · rename_i hc
              simp only [Option.map_map, Option.map_eq_some_iff, Function.comp_apply, Prod.mk.injEq] at h
              obtain ⟨l', h3, rfl, rfl, rfl⟩ := h
              cases hF
              refine ⟨some (id, .op e s l' false), rfl, fun i b hw => by cases hw; exact ⟨by simp, rfl, lt_of_some hl⟩, fun T hT hx => ?_⟩
              have := hx id (by simp)
              simp only [stepDr, ha, stepOp, h2, storeD, hk, opD_eq this, hop, hc, if_true, h3, Option.map_some]
              rfl
            · cases h
          · cases h
        · cases h
      · cases h
    · cases h
  case makeSlice t a b => simp only [stepDr] at h; cases h
  case buildSlice t n ps =>
    simp only [stepDr] at h
    split at h
    · cases h
    · rename_i hh
      simp only [Option.map_eq_some_iff, Prod.mk.injEq] at h
      obtain ⟨⟨d, S1⟩, h3, rfl, rfl, rfl⟩ := h
      cases hF
      obtain ⟨h4, h5⟩ := build_loc rfl hh h3
      refine ⟨none, h4, by simp, fun T hT hx => ?_⟩
      simp only [stepDr, h5 T nid, Option.map_some]
      rfl
  case fieldAddr t a f' =>
    simp only [stepDr] at h
    split at h
    · rename_i id n off ha
      simp only [Option.map_eq_some_iff, Prod.mk.injEq] at h
      obtain ⟨⟨d, S1⟩, h3, rfl, rfl, rfl⟩ := h
      cases hF
      refine ⟨none, (field_loc (T := S) (fun _ _ _ _ => rfl) h3).1, by simp, fun T hT hx => ?_⟩
      have h5 := (field_loc (T := T) (fun id' n' off' he => by rw [ha] at he; cases he; exact hx id (by simp)) h3).2 nid
      simp only [stepDr, ha, h5, Option.map_some]
      rfl
    · rename_i hno
      simp only [Option.map_eq_some_iff, Prod.mk.injEq] at h
      obtain ⟨⟨d, S1⟩, h3, rfl, rfl, rfl⟩ := h
      cases hF
      refine ⟨none, (field_loc (T := S) (fun _ _ _ _ => rfl) h3).1, by simp, fun T hT hx => ?_⟩
      have h5 := (field_loc (T := T) (fun id' n' off' he => absurd he (hno _ _ _)) h3).2 nid
      simp only [stepDr, h5, Option.map_some]
      rfl
  case indexAddr t a i =>
    simp only [stepDr] at h
    split at h
    · rename_i id n ag ha
      simp only [Option.map_eq_some_iff, Prod.mk.injEq] at h
      obtain ⟨⟨d, S1⟩, h3, rfl, rfl, rfl⟩ := h
      cases hF
      refine ⟨none, (index_loc (T := S) (fun _ _ _ _ => rfl) h3).1, by simp, fun T hT hx => ?_⟩
      have h5 := (index_loc (T := T) (fun id' n' off' he => by rw [ha] at he; cases he; exact hx id (by simp)) h3).2 nid
      simp only [stepDr, ha, h5, Option.map_some]
      rfl
    · rename_i hno
      simp only [Option.map_eq_some_iff, Prod.mk.injEq] at h
      obtain ⟨⟨d, S1⟩, h3, rfl, rfl, rfl⟩ := h
      cases hF
      refine ⟨none, (index_loc (T := S) (fun _ _ _ _ => rfl) h3).1, by simp, fun T hT hx => ?_⟩
      have h5 := (index_loc (T := T) (fun id' n' off' he => absurd he (hno _ _ _)) h3).2 nid
      simp only [stepDr, h5, Option.map_some]
      rfl
  case load t a =>
    simp only [stepDr] at h
    split at h
    · rename_i id off ha
      simp only [stepOp, ha] at h
      simp only [Option.map_map, Option.map_eq_some_iff, Function.comp_apply, Prod.mk.injEq] at h
      obtain ⟨d, h3, rfl, rfl, rfl⟩ := h
      cases hF
      refine ⟨none, rfl, by simp, fun T hT hx => ?_⟩
      have := hx id (by simp)
      simp only [stepDr, ha, stepOp, loadD_ptr this, h3, Option.map_some]
      rfl
    · rename_i id n off ha
      simp only [stepOp, ha] at h
      simp only [Option.map_map, Option.map_eq_some_iff, Function.comp_apply, Prod.mk.injEq] at h
      obtain ⟨d, h3, rfl, rfl, rfl⟩ := h
      cases hF
      refine ⟨none, rfl, by simp, fun T hT hx => ?_⟩
      have := hx id (by simp)
      simp only [stepDr, ha, stepOp, loadD_optr this, h3, Option.map_some]
      rfl
    · rename_i hno hno2
      simp only [stepOp] at h
      split at h
      · rename_i a' ha
        simp only [Option.map_map, Option.map_eq_some_iff, Function.comp_apply, Prod.mk.injEq] at h
        obtain ⟨d, h3, rfl, rfl, rfl⟩ := h
        cases hF
        refine ⟨none, rfl, by simp, fun T hT hx => ?_⟩
        have hld : loadD ty T t a' = some d := by
          cases a' with
          | ptr id off => exact absurd ha (hno id off)
          | optr id n off => exact absurd ha (hno2 id n off)
          | eptr rows i off => rw [← h3]; exact loadD_eptr
          | _ => unfold loadD at h3; split at h3 <;> simp_all
        cases a' with
        | ptr id off => exact absurd ha (hno id off)
        | optr id n off => exact absurd ha (hno2 id n off)
        | _ => simp only [stepDr, ha, stepOp, hld, Option.map_some]; rfl
      · cases h
  case lookup t m k ok =>
    simp only [stepDr] at h
    split at h
    · rename_i id ha
      simp only [stepOp, ha] at h
      split at h
      · rename_i kv hm hk
        cases hm
        split at h
        · rename_i es hS
          simp only [Option.map_map, Option.map_eq_some_iff, Function.comp_apply, Prod.mk.injEq] at h
          obtain ⟨d, h3, rfl, rfl, rfl⟩ := h
          cases hF
          refine ⟨none, rfl, by simp, fun T hT hx => ?_⟩
          have := hx id (by simp)
          simp only [stepDr, ha, stepOp, hk, this, hS, h3, Option.map_some]
          rfl
        · cases h
      · cases h
    · cases h
  case mapUpdate t m k a =>
    simp only [stepDr] at h
    split at h
    · rename_i id ha
      simp only [stepOp, ha] at h
      split at h
      · rename_i id' kv vv hm hk hv
        cases hm
        split at h
        · rename_i es hS
          split at h
          · rename_i r hr
            simp only [Option.map_map, Option.map_eq_some_iff, Function.comp_apply, Prod.mk.injEq] at h
            obtain ⟨es', h3, rfl, rfl, rfl⟩ := h
            cases hF
            refine ⟨some (id, .map es'), rfl, fun i b hw => by cases hw; exact ⟨by simp, rfl, lt_of_some hS⟩, fun T hT hx => ?_⟩
            have := hx id (by simp)
            simp only [stepDr, ha, stepOp, hk, hv, this, hS, hr, h3, Option.map_some]
            rfl
          · cases h
        · cases h
      · cases h
    · cases h
  case call c =>
    obtain ⟨callee, args, ats⟩ := c
    cases callee with
    | invoke r m => simp [stepDr, stepOp] at h
    | value g =>
      simp only [stepDr] at h
      split at h
      · rename_i g' fs cs xs hf hxs
        split at h
        · rename_i hh
          simp only [Option.map_eq_some_iff, Prod.mk.injEq] at h
          obtain ⟨⟨d, S1⟩, h3, rfl, rfl, rfl⟩ := h
          cases hF
          obtain ⟨b, hn, hS, hT⟩ := openC_loc h3
          exact ⟨some (nid, b), hS, fun _ _ hw => by cases hw; exact ⟨by simp, rfl, lt_of_some hn⟩, fun T _ hx => by simp only [stepDr, hf, hxs, if_pos hh, hT T ((hx nid (by simp)).trans hn), Option.map_some]; rfl⟩
        rename_i hh
        split at h
        · rename_i hp
          simp only [Option.map_eq_some_iff, Prod.mk.injEq] at h
          obtain ⟨d, h3, rfl, rfl, rfl⟩ := h
          cases hF
          exact ⟨none, rfl, by simp, fun T hT hx => by simp only [stepDr, hf, hxs, if_neg hh, hp, if_true, h3, Option.map_some]; rfl⟩
        · rename_i hp
          split at h
          · rename_i i v1 l1 ho
            cases h
            cases hF
            obtain ⟨hi, hT⟩ := onlyD_loc ho
            exact ⟨some (i, .cells l1), rfl, fun _ _ hw => by cases hw; exact ⟨by simp, rfl, hi⟩, fun T _ hx => by simp only [stepDr, hf, hxs, if_neg hh, if_neg hp, hT T (hx i (by simp))]; rfl⟩
          · rename_i ho
            split at h
            · rename_i R v1 S1 hmu
              exact (hm ⟨g, args, ats, _, _, _, _, R, v1, S1, rfl, hf, hxs, hh, hp, ho, hmu⟩).elim
            simp only [Option.map_eq_some_iff, Prod.mk.injEq] at h
            obtain ⟨r, h3, rfl, rfl, rfl⟩ := h
            cases hF
      · simp only [Option.map_eq_some_iff, Prod.mk.injEq] at h
        obtain ⟨r, h3, rfl, rfl, rfl⟩ := h
        cases hF
      · cases h
    | builtin b =>
      by_cases hb : b = .append
      · subst hb
        simp only [stepDr] at h
        split at h
        · cases h
        rename_i hh
        split at h
        · cases h
        rename_i hsl
        have hsl' : ∀ a da, args.toList[0]? = some a → ρ a = some da → isSlo (some da) = false := fun a da h0 h1 => by
          have : args[0]? = some a := by rw [← Array.getElem?_toList]; exact h0
          rw [this] at hsl
          rw [← h1]
          simpa using hsl
        have hstep : ∀ T : Store, stepOp P ty iso call yf ρ ⟨dst, .call ⟨.builtin .append, args, ats⟩, type, pos, after, guard⟩ T nid = match args.toList, ats.toList with
            | [x, y], [t, u] => if t = u then match ρ x, ρ y with
                | some a, some b => appendD ty T nid t a b
                | _, _ => none
              else none
            | _, _ => none := fun T => by
          simp only [stepOp]
          generalize args.toList = l at hsl'
          generalize ats.toList = m
          match l, m with
          | [x, y], [t, u] =>
            dsimp only
            cases hx : ρ x with
            | none => rfl
            | some a =>
              cases ρ y with
              | none => rfl
              | some b =>
                have h0 := hsl' x a rfl hx
                cases a <;> first | (simp [isSlo] at h0; done) | rfl | (dsimp only; split <;> first | exact absurd ‹_› hh | rfl)
          | [], _ => rfl
          | [_], _ => rfl
          | _ :: _ :: _ :: _, _ => rfl
          | [_, _], [] => rfl
          | [_, _], [_] => rfl
          | [_, _], _ :: _ :: _ :: _ => rfl
        have main : ∀ (r : DV × Store) (F : List Nat), stepOp P ty iso call yf ρ ⟨dst, .call ⟨.builtin .append, args, ats⟩, type, pos, after, guard⟩ S nid = some r → S[nid]? = some .none → nid ∈ F → (∀ rw tk fl, (args[0]?).bind ρ = some (.sl rw (some tk) fl) → tk ∈ F) → (∀ T : Store, T[nid]? = some .none → stepDr P ty iso call yf ρ ⟨dst, .call ⟨.builtin .append, args, ats⟩, type, pos, after, guard⟩ T nid = (stepOp P ty iso call yf ρ ⟨dst, .call ⟨.builtin .append, args, ats⟩, type, pos, after, guard⟩ T nid).map (fun r => (r.1, r.2, (⟨some F, true⟩ : Foot)))) →
            ∃ w, Eff P ty iso call yf ρ ⟨dst, .call ⟨.builtin .append, args, ats⟩, type, pos, after, guard⟩ S nid r.1 r.2 ⟨some F, true⟩ F w := by
          intro r F hr hS hnF htk hdr
          rw [hstep] at hr
          split at hr
          · rename_i a b t u hargs hats
            split at hr
            · rename_i htu
              split at hr
              · rename_i da db ha hb'
                obtain ⟨w, w1, w2, w3⟩ := appendD_eff (v := r.1) (S' := r.2) hr (lt_of_some hS)
                have ha0 : (args[0]?).bind ρ = some da := by grind
                refine ⟨w, w1, fun i c hw => ?_, fun T hT hx => ?_⟩
                · grind
                · grind
              · cases hr
            · cases hr
          · cases hr
        split at h
        · rename_i rw' tk fl hS hb'
          simp only [Option.map_eq_some_iff, Prod.mk.injEq] at h
          obtain ⟨r, h3, rfl, rfl, rfl⟩ := h
          cases hF
          exact main r [tk, nid] h3 hS (by simp) (fun _ _ _ he => by rw [hb'] at he; cases he; simp) fun T hT => by simp only [stepDr, if_neg hh, hT, hb', isSlo, Bool.false_eq_true, if_false]
        · rename_i hS hno
          simp only [Option.map_eq_some_iff, Prod.mk.injEq] at h
          obtain ⟨r, h3, rfl, rfl, rfl⟩ := h
          cases hF
          refine main r [nid] h3 hS (by simp) (fun rw' tk fl he => absurd he (hno rw' tk fl)) fun T hT => ?_
          simp only [stepDr, if_neg hh, if_neg hsl, hT]
        · cases h
      · have hop : PlainOp (.call ⟨.builtin b, args, ats⟩) := by cases b <;> first | trivial | exact absurd rfl hb
        have hdr : ∀ T, stepDr P ty iso call yf ρ ⟨dst, .call ⟨.builtin b, args, ats⟩, type, pos, after, guard⟩ T nid = (stepOp P ty iso call yf ρ ⟨dst, .call ⟨.builtin b, args, ats⟩, type, pos, after, guard⟩ T nid).map (fun r => (r.1, r.2, (⟨some [], false⟩ : Foot))) := fun T => by
          cases b <;> first | rfl | exact absurd rfl hb
        rw [hdr] at h
        exact plain hop h hdr
  all_goals exact plain trivial h fun T => rfl
structure EffG (P : Program) (ty : Tys) (iso : IsoF) (call : CallF) (yf : YldF) (ρ : Operand → Option DV) (o : Oper) (S : Store) (nid : Nat) (v : DV) (S' : Store) (f : Foot) (F : List Nat) (A : Store → Store) : Prop where
  res : S' = A S
  loc : ∀ T, (F ≠ [] → T.length = S.length) → (∀ x ∈ F, T[x]? = S[x]?) → stepDr P ty iso call yf ρ o T nid = some (v, A T, f)
  len : ∀ T : Store, (A T).length = T.length
  out : ∀ (T : Store) id, (F ≠ [] → T.length = S.length) → ¬ (f.wr = true ∧ id ∈ F) → (A T)[id]? = T[id]?
  inn : ∀ (T : Store) id, id ∈ F → T.length = S.length → T[id]? = S[id]? → (A T)[id]? = (A S)[id]?
theorem flat_eq {S T : Store} : ∀ {R : List Nat}, (∀ i ∈ R, T[i]? = S[i]?) → R.flatMap (idsB T) = R.flatMap (idsB S)
  | [], _ => rfl
  | i :: R, h => by
    have e : idsB T i = idsB S i := by unfold idsB; rw [h i (List.mem_cons_self ..)]
    rw [List.flatMap_cons, List.flatMap_cons, e, flat_eq fun j hj => h j (List.mem_cons_of_mem _ hj)]
theorem more_eq {S T : Store} {R : List Nat} (h : ∀ i ∈ moreR S R, T[i]? = S[i]?) : moreR T R = moreR S R := by
  unfold moreR; rw [flat_eq fun i hi => h i (List.mem_append_left _ hi)]
theorem reach_eq {S T : Store} {args : List DV} (h : ∀ i ∈ reachD S args, T[i]? = S[i]?) : reachD T args = reachD S args := by
  have h2 : ∀ i ∈ moreR S (moreR S (args.flatMap idsC)), T[i]? = S[i]? := fun i hi => h i (List.mem_append_left _ hi)
  have h1 : ∀ i ∈ moreR S (args.flatMap idsC), T[i]? = S[i]? := fun i hi => h2 i (List.mem_append_left _ hi)
  unfold reachD
  rw [more_eq h1, more_eq h2, more_eq h]
theorem len_get {S T : Store} (h : T.length = S.length) (i : Nat) : (T[i]?).isSome = (S[i]?).isSome := by grind
theorem mask_eq {S T : Store} {R : List Nat} (hl : T.length = S.length) (h : ∀ i ∈ R, T[i]? = S[i]?) : maskS T R = maskS S R := by
  refine List.ext_getElem? fun i => ?_
  simp only [maskS, List.getElem?_mapIdx]
  by_cases hi : i ∈ R
  · grind
  · grind
theorem at_eq {S T : Store} {R : List Nat} {Q : List Nat} (h : ∀ i ∈ R, T[i]? = S[i]?) : R.all (cellsAt T Q) = R.all (cellsAt S Q) := by
  rw [Bool.eq_iff_iff, List.all_eq_true, List.all_eq_true]
  exact ⟨fun k i hi => by have := k i hi; unfold cellsAt at this ⊢; rwa [h i hi] at this, fun k i hi => by have := k i hi; unfold cellsAt at this ⊢; rwa [h i hi]⟩
theorem multi_loc {g : FuncId} {args : List DV} {S S1 : Store} {R : List Nat} {v : DV} (h : multiD call g args S = some (R, v, S1)) : R ≠ [] ∧ ∀ T : Store, T.length = S.length → (∀ x ∈ R, T[x]? = S[x]?) → multiD call g args T = some (R, v, S1) := by
  have h0 := h
  unfold multiD at h
  split at h
  · rename_i hq
    split at h
    · split at h
      · cases h
        refine ⟨fun e => ?_, fun T hl hT => ?_⟩
        · grind
        · unfold multiD at h0 ⊢
          rw [reach_eq hT, mask_eq hl hT, at_eq hT]
          exact h0
      · cases h
    · cases h
  · cases h
theorem eff_g {ρ : Operand → Option DV} {o : Oper} {S S' : Store} {nid : Nat} {v : DV} {f : Foot} {F : List Nat} {w : Option (Nat × DB)} (h : Eff P ty iso call yf ρ o S nid v S' f F w) : EffG P ty iso call yf ρ o S nid v S' f F (appW w) where
  res := h.res
  loc := h.loc
  len := fun T => by cases w <;> simp [appW]
  out := fun T id hl hn => by
    cases w with
    | none => rfl
    | some p =>
      obtain ⟨i, b⟩ := p
      obtain ⟨q1, q2, -⟩ := h.foot i b rfl
      simp only [appW]
      rw [List.getElem?_set, if_neg]
      rintro rfl
      exact hn ⟨q2, q1⟩
  inn := fun T id hi hl hT => by
    cases w with
    | none => exact hT
    | some p =>
      obtain ⟨i, b⟩ := p
      simp only [appW]
      rw [List.getElem?_set, List.getElem?_set, hl, hT]
theorem only_mem {g : FuncId} {args : List DV} {S S1 T : Store} {R : List Nat} {v v2 : DV} {i : Nat} {l : List DV} (h : multiD call g args S = some (R, v, S1)) (ho : onlyD call g args T = some (i, v2, l)) : i ∈ R := by
  unfold multiD at h
  split at h
  · split at h
    · split at h
      · cases h
        unfold onlyD at ho
        split at ho
        · rename_i j off rest
          split at ho
          · split at ho
            · split at ho
              · split at ho
                · cases ho
                  unfold reachD moreR
                  simp [idsC]
                · cases ho
              · cases ho
            · cases ho
          · cases ho
        · cases ho
      · cases h
    · cases h
  · cases h
theorem dr_eff {ρ : Operand → Option DV} {o : Oper} {S S' : Store} {nid : Nat} {v : DV} {f : Foot} (h : stepDr P ty iso call yf ρ o S nid = some (v, S', f)) {F : List Nat} (hF : f.ids = some F) : ∃ A, EffG P ty iso call yf ρ o S nid v S' f F A := by
  by_cases hm : Multi P ty iso call yf ρ o S
  · obtain ⟨c, args, ats, g, fs, cs, xs, R, v1, S1, k1, k2, k3, k4, k5, k6, k7⟩ := hm
    obtain ⟨dst, op, type, pos, after, guard⟩ := o
    simp only at k1
    subst k1
    simp only [stepDr, k2, k3, if_neg k4, if_neg k5, k6, k7, Option.some.injEq, Prod.mk.injEq] at h
    obtain ⟨rfl, rfl, rfl⟩ := h
    cases hF
    obtain ⟨hne, hloc⟩ := multi_loc k7
    refine ⟨fun T => backS T S1 F, rfl, fun T hl hT => ?_, fun T => by simp [backS], fun T id _ hn => back_same fun hi => hn ⟨rfl, hi⟩, fun T id hi hl hT => ?_⟩
    · have k6' : onlyD call g (fs ++ xs ++ cs) T = none := by
        cases e : onlyD call g (fs ++ xs ++ cs) T with
        | none => rfl
        | some p =>
          obtain ⟨i, v2, l2⟩ := p
          obtain ⟨-, hT2⟩ := onlyD_loc e
          have hi : i ∈ F := only_mem k7 e
          rw [hT2 S (hT i hi).symm] at k6
          cases k6
      simp only [stepDr, k2, k3, if_neg k4, if_neg k5, k6', hloc T (hl hne) hT]
    · simp only [backS, List.getElem?_mapIdx, hT]
  · obtain ⟨w, hw⟩ := dr_eff1 h hF hm
    exact ⟨_, eff_g hw⟩
end Go.Di
end
section
namespace Go.Di
open Go Go.Conc Go.Co
open Go.ConcN (upd upd_same upd_ne)
variable {P : Program} {Final : Machine → Trace → Prop} {ty : Tys} {x : Cx} {iso : IsoF} {call : CallF} {yf : YldF}
theorem stepDr_congr {ρ ρ' : Operand → Option DV} {o : Oper} {S : Store} {nid : Nat} (h : ∀ a ∈ o.op.operands, ρ a = ρ' a) : stepDr P ty iso call yf ρ o S nid = stepDr P ty iso call yf ρ' o S nid := by
  have hs := stepOp_congr (P := P) (ty := ty) (iso := iso) (call := call) (yf := yf) (S := S) (nid := nid) h
  unfold stepDr
  split
  · rw [hs]
  · rw [hs]
  · rw [hs]
  · rename_i t a v hop
    rw [hop] at h
    rw [h a (by simp [Op.operands]), hs]
  · rename_i t a v hop
    rw [hop] at h
    rw [h a (by simp [Op.operands]), hs]
  · rename_i t a v hop
    rw [hop] at h
    rw [h a (by simp [Op.operands]), hs]
  · rw [hs]
  · rfl
  · rename_i t m k ok hop
    rw [hop] at h
    rw [h m (by simp [Op.operands]), hs]
  · rename_i t m k v hop
    rw [hop] at h
    rw [h m (by simp [Op.operands]), hs]
  · rename_i t a hop
    rw [hop] at h
    rw [h a (by simp [Op.operands]), hs]
  · rename_i args ats hop
    rw [hop] at h
    have : (args[0]?).bind ρ = (args[0]?).bind ρ' := by
      cases ha : args[0]? with
      | none => rfl
      | some a => exact h a (by simp [Op.operands, Call.operands, Array.mem_of_getElem? ha])
    rw [this, hs]
  · rename_i f args ats hop
    rw [hop] at h
    have h1 : ρ f = ρ' f := h f (by simp [Op.operands, Call.operands])
    have h2 := evs_congr (ρ := ρ) (ρ' := ρ') (l := args.toList) fun a ha => h a (by simp [Op.operands, Call.operands] at ha ⊢; exact .inr ha)
    rw [h1, h2]
  · rw [hs]
def NoEnter : Op → Prop
  | .call { callee := .value _, .. } => False
  | _ => True
theorem stepOp_nc {c1 c2 : CallF} {ρ : Operand → Option DV} {o : Oper} {S : Store} {nid : Nat} (h : NoEnter o.op) : stepOp P ty iso c1 yf ρ o S nid = stepOp P ty iso c2 yf ρ o S nid := by
  obtain ⟨dst, op, type, pos, after, guard⟩ := o
  cases op
  case call c =>
    obtain ⟨callee, args, ats⟩ := c
    cases callee with
    | value f => exact h.elim
    | builtin b => simp only [stepOp]
    | invoke r m => simp only [stepOp]
  case makeFunc fn a b => cases fn <;> simp only [stepOp]
  case makeMap t r => cases r <;> simp only [stepOp]
  all_goals first
    | rfl
    | simp only [stepOp]
theorem dr_step {ρ : Operand → Option DV} {o : Oper} {S S' : Store} {nid : Nat} {v : DV} {f : Foot} (h : stepDr P ty iso call yf ρ o S nid = some (v, S', f)) : ∃ nid' cl, (cl = call1 call ∨ cl = openC call nid) ∧ Nid S nid' ∧ stepOp P ty iso cl yf ρ o S nid' = some (v, S') := by
  suffices hs : (∃ nid', Nid S nid' ∧ stepOp P ty iso (call1 call) yf ρ o S nid' = some (v, S')) ∨ ∃ nid', Nid S nid' ∧ stepOp P ty iso (openC call nid) yf ρ o S nid' = some (v, S') by
    rcases hs with ⟨n, h1, h2⟩ | ⟨n, h1, h2⟩
    · grind
    · grind
  obtain ⟨dst, op, type, pos, after, guard⟩ := o
  have mp : ∀ {q : Option (DV × Store)} {g : DV × Store → Foot}, q.map (fun r => (r.1, r.2, g r)) = some (v, S', f) → q = some (v, S') := by
    intro q g hq
    simp only [Option.map_eq_some_iff, Prod.mk.injEq] at hq
    obtain ⟨⟨a, b⟩, h1, h2, h3, -⟩ := hq
    rw [h1, ← h2, ← h3]
  have plain : ∀ {q : Store → Nat → Option (DV × Store)}, (∀ n m, q S n = q S m) → q S nid = some (v, S') → ∃ nid', Nid S nid' ∧ q S nid' = some (v, S') := fun hq h => ⟨S.length, .inl rfl, by rw [hq _ nid]; exact h⟩
  cases op
  case alloc e =>
    simp only [stepDr] at h
    split at h
    · rename_i hS; exact .inl ⟨nid, .inr hS, (stepOp_nc (c2 := call) (by trivial)).trans (mp h)⟩
    · cases h
  case box e a =>
    simp only [stepDr] at h
    split at h
    · rename_i hS; exact .inl ⟨nid, .inr hS, (stepOp_nc (c2 := call) (by trivial)).trans (mp h)⟩
    · cases h
  case makeMap e a =>
    simp only [stepDr] at h
    split at h
    · rename_i hS; exact .inl ⟨nid, .inr hS, (stepOp_nc (c2 := call) (by trivial)).trans (mp h)⟩
    · cases h
  case store t a b =>
    simp only [stepDr] at h
    split at h
    · exact .inl ⟨S.length, .inl rfl, (stepOp_nc (c2 := call) (by trivial)).trans (mp h)⟩
    · exact .inl ⟨S.length, .inl rfl, (stepOp_nc (c2 := call) (by trivial)).trans (mp h)⟩
    · cases h
  case makeSlice t a b => simp only [stepDr] at h; cases h
  case buildSlice t n ps =>
    simp only [stepDr] at h
    split at h
    · cases h
    · rename_i hh
      obtain ⟨h1, h2⟩ := build_loc rfl hh (mp h)
      subst h1
      exact .inl ⟨S'.length, .inl rfl, (stepOp_nc (c2 := call) (by trivial)).trans (h2 _ _)⟩
  case fieldAddr t a i =>
    simp only [stepDr] at h
    split at h
    all_goals
      obtain ⟨h1, h2⟩ := field_loc (T := S) (fun _ _ _ _ => rfl) (mp h)
      subst h1
      exact .inl ⟨S'.length, .inl rfl, (stepOp_nc (c2 := call) (by trivial)).trans (h2 _)⟩
  case indexAddr t a i =>
    simp only [stepDr] at h
    split at h
    all_goals
      obtain ⟨h1, h2⟩ := index_loc (T := S) (fun _ _ _ _ => rfl) (mp h)
      subst h1
      exact .inl ⟨S'.length, .inl rfl, (stepOp_nc (c2 := call) (by trivial)).trans (h2 _)⟩
  case load t a =>
    simp only [stepDr] at h
    split at h
    · exact .inl ⟨S.length, .inl rfl, (stepOp_nc (c2 := call) (by trivial)).trans (mp h)⟩
    · exact .inl ⟨S.length, .inl rfl, (stepOp_nc (c2 := call) (by trivial)).trans (mp h)⟩
    · exact .inl ⟨S.length, .inl rfl, (stepOp_nc (c2 := call) (by trivial)).trans (mp h)⟩
  case lookup t m k ok =>
    simp only [stepDr] at h
    split at h
    · exact .inl ⟨S.length, .inl rfl, (stepOp_nc (c2 := call) (by trivial)).trans (mp h)⟩
    · cases h
  case mapUpdate t m k a =>
    simp only [stepDr] at h
    split at h
    · exact .inl ⟨S.length, .inl rfl, (stepOp_nc (c2 := call) (by trivial)).trans (mp h)⟩
    · cases h
  case call c =>
    obtain ⟨callee, args, ats⟩ := c
    cases callee with
    | invoke r m => simp [stepDr, stepOp] at h
    | value g =>
      simp only [stepDr] at h
      by_cases h1 : ty.h ⟨dst, .call ⟨.value g, args, ats⟩, type, pos, after, guard⟩ = 1
      · refine .inr ⟨S.length, .inl rfl, ?_⟩
        simp only [stepOp]
        split at h
        · rw [if_pos h1] at h
          rw [h1]
          exact mp h
        · exact mp h
        · cases h
      refine .inl ⟨S.length, .inl rfl, ?_⟩
      simp only [stepOp]
      split at h
      · rename_i g' fs cs xs hf hxs
        split at h
        · grind
        rename_i hh
        simp only [callD]
        split at h
        · grind
        · rename_i hp
          rw [if_neg hp]
          unfold call1
          split at h
          · grind
          · unfold callM
            split at h
            · grind
            · exact mp h
      · exact mp h
      · cases h
    | builtin b =>
      by_cases hb : b = .append
      · subst hb
        simp only [stepDr] at h
        split at h
        · cases h
        split at h
        · cases h
        split at h
        · rename_i hS _; exact .inl ⟨nid, .inr hS, (stepOp_nc (c2 := call) (by trivial)).trans (mp h)⟩
        · rename_i hS _; exact .inl ⟨nid, .inr hS, (stepOp_nc (c2 := call) (by trivial)).trans (mp h)⟩
        · cases h
      · have hdr : stepDr P ty iso call yf ρ ⟨dst, .call ⟨.builtin b, args, ats⟩, type, pos, after, guard⟩ S nid = (stepOp P ty iso call yf ρ ⟨dst, .call ⟨.builtin b, args, ats⟩, type, pos, after, guard⟩ S nid).map (fun r => (r.1, r.2, (⟨some [], false⟩ : Foot))) := by
          cases b <;> first | rfl | exact absurd rfl hb
        rw [hdr] at h
        have hop : PlainOp (.call ⟨.builtin b, args, ats⟩) := by cases b <;> first | trivial | exact absurd rfl hb
        obtain ⟨h1, h2⟩ := plain_eq hop (mp h)
        subst h1
        exact .inl ⟨S'.length, .inl rfl, (stepOp_nc (c2 := call) (by trivial)).trans (h2 _ _)⟩
  all_goals
    simp only [stepDr] at h
    obtain ⟨h1, h2⟩ := plain_eq (by trivial) (mp h)
    subst h1
    exact .inl ⟨S'.length, .inl rfl, (stepOp_nc (c2 := call) (by trivial)).trans (h2 _ _)⟩
theorem dr_top {ρ : Operand → Option DV} {o : Oper} {S S' : Store} {nid : Nat} {v : DV} {f : Foot} (h : stepDr P ty iso call yf ρ o S nid = some (v, S', f)) (hf : f.ids = none) : f.wr = true := by
  have mp : ∀ {q : Option (DV × Store)} {l : List Nat} {b : Bool}, q.map (fun r => (r.1, r.2, (⟨some l, b⟩ : Foot))) = some (v, S', f) → False := by
    intro q l b hq
    simp only [Option.map_eq_some_iff, Prod.mk.injEq] at hq
    obtain ⟨_, -, -, -, rfl⟩ := hq
    cases hf
  have mt : ∀ {q : Option (DV × Store)}, q.map (fun r => (r.1, r.2, (⟨none, true⟩ : Foot))) = some (v, S', f) → f.wr = true := by
    intro q hq
    simp only [Option.map_eq_some_iff, Prod.mk.injEq] at hq
    obtain ⟨_, -, -, -, rfl⟩ := hq
    rfl
  unfold stepDr at h
  split at h
  case h_13 =>
    split at h
    · simp only at h
      split at h
      · exact (mp h).elim
      split at h
      · simp only [Option.map_eq_some_iff, Prod.mk.injEq] at h
        obtain ⟨_, -, -, -, rfl⟩ := h
        cases hf
      · grind
    · exact mt h
    · cases h
  all_goals (repeat' split at h)
  all_goals first
    | exact (mp h).elim
    | cases h
def touch (F : Nat → Foot) (j id : Nat) : Bool := (F j).wr && match (F j).ids with
  | none => true
  | some l => l.contains id
def top (F : Nat → Foot) (j : Nat) : Bool := (F j).wr && (F j).ids.isNone
def lastG {α : Type} (W : Nat → Bool) (R : Nat → α) (d : α) (L : Nat → Bool) : Nat → α
  | 0 => d
  | n + 1 => if L n && W n then R n else lastG W R d L n
theorem lastG_congr {α : Type} {W : Nat → Bool} {R : Nat → α} {d : α} {L : Nat → Bool} {i : Nat} : ∀ {n : Nat}, i ≤ n → (∀ j, j < n → W j = true → (L j = true ↔ j < i)) → lastG W R d L n = lastG W R d (fun _ => true) i
  | 0, h, _ => by
    have : i = 0 := by omega
    subst this; rfl
  | n + 1, h, hj => by
    by_cases hin : i = n + 1
    · subst hin
      unfold lastG
      by_cases hd : W n = true
      · grind
      · simp only [Bool.and_eq_true, hd, and_false, if_false, Bool.false_eq_true]
        exact lastG_congr (Nat.le_refl _) fun j h1 h2 => ⟨fun _ => h1, fun _ => (hj j (Nat.lt_succ_of_lt h1) h2).2 (Nat.lt_succ_of_lt h1)⟩
    · have hle : i ≤ n := by omega
      rw [← lastG_congr hle fun j h1 h2 => hj j (by omega) h2]
      conv => lhs; unfold lastG
      by_cases hd : W n = true
      · grind
      · simp [hd]
theorem lastG_other {α : Type} {W : Nat → Bool} {R : Nat → α} {d : α} {L : Nat → Bool} {i : Nat} (hd : W i = false) : ∀ n, lastG W R d (upd L i true) n = lastG W R d L n
  | 0 => rfl
  | n + 1 => by
    unfold lastG
    rw [lastG_other hd n]
    by_cases h : n = i
    · grind
    · rw [upd_ne _ _ h]
theorem lastG_last {α : Type} {W : Nat → Bool} {R : Nat → α} {d : α} {i : Nat} (hd : W i = true) : lastG W R d (fun _ => true) (i + 1) = R i := by unfold lastG; simp [hd]
structure RunIs (P : Program) (ty : Tys) (iso : IsoF) (call : CallF) (yf : YldF) (ops : Array Oper) (n0 : Nat) (E : Nat → List DV) (V : Nat → DV) (M : Nat → Store) (F : Nat → Foot) : Prop where
  env : SeqIs ops V E
  yes : ∀ j o, ops[j]? = some o → wantedD ops (E j) o = true → stepDr P ty iso call yf (evD (E j)) o (M j) (n0 + j) = some (V j, M (j + 1), F j)
  no : ∀ j o, ops[j]? = some o → wantedD ops (E j) o = false → V j = dundef ∧ M (j + 1) = M j ∧ F j = ⟨some [], false⟩
theorem runDr_seq {ops : Array Oper} {n0 : Nat} : ∀ {r : List Oper} {i : Nat} {env env' : List DV} {S S' : Store} {fs : List Foot}, runDr P ty iso call yf ops n0 r i env S = some (env', S', fs) →
    ∃ (E : Nat → List DV) (V : Nat → DV) (M : Nat → Store) (F : Nat → Foot), E 0 = env ∧ E r.length = env' ∧ M 0 = S ∧ M r.length = S' ∧ (fs.length = r.length ∧ ∀ j, j < r.length → fs[j]? = some (F j)) ∧
      ∀ j o, r[j]? = some o → E (j + 1) = putD (E j) o.dst (V j) ∧ (wantedD ops (E j) o = true → stepDr P ty iso call yf (evD (E j)) o (M j) (n0 + (i + j)) = some (V j, M (j + 1), F j)) ∧ (wantedD ops (E j) o = false → V j = dundef ∧ M (j + 1) = M j ∧ F j = ⟨some [], false⟩)
  | [], i, env, env', S, S', fs, h => by
    simp only [runDr, Option.some.injEq, Prod.mk.injEq] at h
    obtain ⟨rfl, rfl, rfl⟩ := h
    exact ⟨fun _ => env, fun _ => dundef, fun _ => S, fun _ => ⟨some [], false⟩, rfl, rfl, rfl, rfl, ⟨rfl, by simp⟩, by simp⟩
  | o :: r, i, env, env', S, S', fs, h => by
    unfold runDr at h
    have key : ∀ v S1 f env'' S'' fs'', runDr P ty iso call yf ops n0 r (i + 1) (putD env o.dst v) S1 = some (env'', S'', fs'') → (wantedD ops env o = true → stepDr P ty iso call yf (evD env) o S (n0 + i) = some (v, S1, f)) → (wantedD ops env o = false → v = dundef ∧ S1 = S ∧ f = ⟨some [], false⟩) → some (env'', S'', f :: fs'') = some (env', S', fs) →
        ∃ (E : Nat → List DV) (V : Nat → DV) (M : Nat → Store) (F : Nat → Foot), E 0 = env ∧ E (o :: r).length = env' ∧ M 0 = S ∧ M (o :: r).length = S' ∧ (fs.length = (o :: r).length ∧ ∀ j, j < (o :: r).length → fs[j]? = some (F j)) ∧
          ∀ j o', (o :: r)[j]? = some o' → E (j + 1) = putD (E j) o'.dst (V j) ∧ (wantedD ops (E j) o' = true → stepDr P ty iso call yf (evD (E j)) o' (M j) (n0 + (i + j)) = some (V j, M (j + 1), F j)) ∧ (wantedD ops (E j) o' = false → V j = dundef ∧ M (j + 1) = M j ∧ F j = ⟨some [], false⟩) := by
      intro v S1 f env'' S'' fs'' h1 h2 h3 h4
      cases h4
      obtain ⟨E, V, M, F, e1, e2, e3, e4, e5, e6⟩ := runDr_seq h1
      refine ⟨fun n => match n with | 0 => env | n + 1 => E n, fun n => match n with | 0 => v | n + 1 => V n, fun n => match n with | 0 => S | n + 1 => M n, fun n => match n with | 0 => f | n + 1 => F n, rfl, by simpa using e2, rfl, by simpa using e4, ⟨by simp [e5.1], fun j hj => ?_⟩, fun j o' ho' => ?_⟩
      · grind
      · grind
    split at h
    · rename_i hw
      split at h
      · rename_i v S1 f h1
        split at h
        · rename_i env'' S'' fs'' h2
          exact key v S1 f _ _ _ h2 (fun _ => h1) (fun hf => by rw [hw] at hf; cases hf) h
        · cases h
      · cases h
    · rename_i hw
      split at h
      · rename_i env'' S'' fs'' h2
        exact key dundef S ⟨some [], false⟩ _ _ _ h2 (fun ht => absurd ht hw) (fun _ => ⟨rfl, rfl, rfl⟩) h
      · cases h
theorem run_is {ops : Array Oper} {n0 : Nat} {env env' : List DV} {S S' : Store} {fs : List Foot} (h : runDr P ty iso call yf ops n0 ops.toList 0 env S = some (env', S', fs)) :
    ∃ (E : Nat → List DV) (V : Nat → DV) (M : Nat → Store) (F : Nat → Foot), RunIs P ty iso call yf ops n0 E V M F ∧ E 0 = env ∧ E ops.size = env' ∧ M 0 = S ∧ M ops.size = S' ∧ ∀ j, j < ops.size → fs[j]? = some (F j) := by
  obtain ⟨E, V, M, F, e1, e2, e3, e4, e5, e6⟩ := runDr_seq h
  refine ⟨E, V, M, F, ⟨fun j o ho => (e6 j o (by simpa using ho)).1, fun j o ho hw => ?_, fun j o ho hw => (e6 j o (by simpa using ho)).2.2 hw⟩, e1, by simpa using e2, e3, by simpa using e4, fun j hj => e5.2 j (by simpa using hj)⟩
  have := (e6 j o (by simpa using ho)).2.1 hw
  simpa using this
theorem run_store {ops : Array Oper} {n0 : Nat} {E : Nat → List DV} {V : Nat → DV} {M : Nat → Store} {F : Nat → Foot} (h : RunIs P ty iso call yf ops n0 E V M F) (id : Nat) : ∀ i, i ≤ ops.size →
    (M i)[id]? = lastG (fun j => touch F j id) (fun j => (M (j + 1))[id]?) ((M 0)[id]?) (fun _ => true) i ∧ (M i).length = lastG (top F) (fun j => (M (j + 1)).length) (M 0).length (fun _ => true) i
  | 0, _ => ⟨rfl, rfl⟩
  | i + 1, hi => by
    have ho : ops[i]? = some ops[i] := Array.getElem?_eq_getElem (by omega)
    obtain ⟨ih1, ih2⟩ := run_store h id i (by omega)
    unfold lastG
    simp only [Bool.true_and]
    rw [← ih1, ← ih2]
    cases hw : wantedD ops (E i) ops[i] with
    | false =>
      obtain ⟨h1, h2, h3⟩ := h.no i _ ho hw
      rw [h2]
      simp
    | true =>
      have hs := h.yes i _ ho hw
      cases hids : (F i).ids with
      | none =>
        have := dr_top hs hids
        simp [touch, top, hids, this]
      | some l =>
        obtain ⟨A, w⟩ := dr_eff hs hids
        constructor
        · split
          · rfl
          · rename_i hnt
            rw [w.res]
            exact w.out _ _ (fun _ => rfl) fun ⟨q2, q1⟩ => hnt (by simp [touch, q2, hids, q1])
        · rw [w.res, w.len]
          simp [top, hids]
theorem met_of {b : Array Nat} {fs : List Foot} (h : metOk b fs = true) {i j : Nat} {f g : Foot} (hi : fs[i]? = some f) (hj : fs[j]? = some g) (hne : i ≠ j) (hm : f.meets g = true) : (b.getD j 0).testBit i = true ∨ (b.getD i 0).testBit j = true := by
  unfold metOk at h
  simp only [List.all_eq_true] at h
  have h1 := h (f, i) (by rw [List.mem_zipIdx_iff_getElem?]; exact hi) (g, j) (by rw [List.mem_zipIdx_iff_getElem?]; exact hj)
  have h2 : (i == j) = false := by simpa using hne
  simp only [h2, hm, Bool.not_true, Bool.or_false, Bool.false_or, Bool.or_eq_true] at h1
  exact h1
end Go.Di
end
