/- The law CutKnown: part 18: Cd16 Cd27. By an AI agent. -/
import Derived.Test.YtadeehilamokkaaGreatDoorPk17
section
namespace Go.Di
open Go Go.Conc Go.Co
open Go.ConcN (sumTo sumTo_upd sumTo_congr le_sumTo upd upd_same upd_ne)
variable {P : Program} {Final : Machine → Trace → Prop} {ty : Tys} {x : Cx} {iso : IsoF} {call : CallF} {yf : YldF}
def OrdOk (ops : Array Oper) : Prop := ∀ i o, ops[i]? = some o → ∀ e ∈ o.after, Region.binds .any e = true → e.on < i
theorem before_lt {ops : Array Oper} (hord : OrdOk ops) {i j : Nat} (hne : i ≠ j) (h : ((Region.before ops).getD j 0).testBit i = true) : i < j := by
  have hcl : Closed ops fun k => decide (k ≤ j) := by
    intro k o ho hk e he hb
    have := hord k o ho e he hb
    simp only [decide_eq_true_eq] at hk ⊢
    omega
  have := before_spec ops hcl j i h (by simp)
  simp only [decide_eq_true_eq] at this
  omega
theorem ord_iff {ops : Array Oper} (hord : OrdOk ops) {L : Nat → Bool} (hL : Closed ops L) {i j : Nat} {o : Oper} (ho : ops[i]? = some o) (hi : L i = false) (hpre : ∀ e ∈ o.after, Region.binds .any e = true → L e.on = true) (hne : i ≠ j)
    (h : ((Region.before ops).getD j 0).testBit i = true ∨ ((Region.before ops).getD i 0).testBit j = true) : L j = true ↔ j < i := by
  rcases h with h | h
  · have h1 := before_lt hord hne h
    refine ⟨fun hj => ?_, fun hj => by omega⟩
    have := before_spec ops hL j i h hj
    rw [hi] at this
    cases this
  · have h1 := before_lt hord (Ne.symm hne) h
    refine ⟨fun _ => h1, fun _ => ?_⟩
    have hcl : Closed ops (upd L i true) := by
      intro k o' ho' hk e he hb
      by_cases hki : k = i
      · subst hki
        rw [ho] at ho'
        cases ho'
        by_cases hei : e.on = k
        · grind
        · rw [upd_ne _ _ hei]; exact hpre e he hb
      · rw [upd_ne _ _ hki] at hk
        by_cases hei : e.on = i
        · rw [hei, upd_same]
        · rw [upd_ne _ _ hei]; exact hL k o' ho' hk e he hb
    have := before_spec ops hcl i j h (upd_same _ _ _)
    rwa [upd_ne _ _ (Ne.symm hne)] at this
def dstIs (ops : Array Oper) (j : Nat) (t : Tmp) : Bool := match ops[j]? with
  | some o => o.dst == some t
  | none => false
def lastV (ops : Array Oper) (V : Nat → DV) (L : Nat → Bool) (t : Tmp) : Nat → Option DV
  | 0 => none
  | n + 1 => if L n && dstIs ops n t then some (V n) else lastV ops V L t n
theorem lastV_congr {ops : Array Oper} {V : Nat → DV} {L : Nat → Bool} {t : Tmp} {i : Nat} : ∀ {n : Nat}, i ≤ n → (∀ j, j < n → dstIs ops j t = true → (L j = true ↔ j < i)) → lastV ops V L t n = lastV ops V (fun _ => true) t i
  | 0, h, _ => by
    have : i = 0 := by omega
    subst this; rfl
  | n + 1, h, hj => by
    by_cases hin : i = n + 1
    · subst hin
      unfold lastV
      by_cases hd : dstIs ops n t = true
      · grind
      · simp only [Bool.and_eq_true, hd, and_false, if_false, Bool.false_eq_true]
        exact lastV_congr (Nat.le_refl _) fun j h1 h2 => ⟨fun _ => h1, fun _ => (hj j (Nat.lt_succ_of_lt h1) h2).2 (Nat.lt_succ_of_lt h1)⟩
    · have hle : i ≤ n := by omega
      rw [← lastV_congr hle fun j h1 h2 => hj j (by omega) h2]
      conv => lhs; unfold lastV
      by_cases hd : dstIs ops n t = true
      · grind
      · simp [hd]
theorem lastV_other {ops : Array Oper} {V : Nat → DV} {L : Nat → Bool} {t : Tmp} {i : Nat} (hd : dstIs ops i t = false) : ∀ n, lastV ops V (upd L i true) t n = lastV ops V L t n
  | 0 => rfl
  | n + 1 => by
    unfold lastV
    rw [lastV_other hd n]
    by_cases h : n = i
    · grind
    · rw [upd_ne _ _ h]
def EnvIs (ops : Array Oper) (V : Nat → DV) (L : Nat → Bool) (n : Nat) (env0 env : List DV) : Prop := ∀ t, env[t]? = (env0[t]?).map fun d => (lastV ops V L t n).getD d
theorem putD_get (env : List DV) (dst : Option Tmp) (v : DV) (t : Tmp) : (putD env dst v)[t]? = if dst = some t then (env[t]?).map fun _ => v else env[t]? := by
  cases dst with
  | none => simp [putD]
  | some d =>
    simp only [putD, List.getElem?_set, Option.some.injEq]
    by_cases h : d = t
    · grind
    · simp [h]
def SeqIs (ops : Array Oper) (V : Nat → DV) (E : Nat → List DV) : Prop := ∀ j o, ops[j]? = some o → E (j + 1) = putD (E j) o.dst (V j)
theorem seq_env {ops : Array Oper} {V : Nat → DV} {E : Nat → List DV} (h : SeqIs ops V E) : ∀ i, i ≤ ops.size → EnvIs ops V (fun _ => true) i (E 0) (E i)
  | 0, _ => fun t => by simp [lastV]
  | i + 1, hi => fun t => by
    have ho : ops[i]? = some ops[i] := Array.getElem?_eq_getElem (by omega)
    have ih := seq_env h i (by omega) t
    rw [h i _ ho, putD_get]
    unfold lastV
    have hd : dstIs ops i t = (ops[i].dst == some t) := by unfold dstIs; rw [ho]
    by_cases hdt : ops[i].dst = some t
    · grind
    · grind
theorem envIs_put {ops : Array Oper} {V : Nat → DV} {E : Nat → List DV} {L : Nat → Bool} {env : List DV} {i : Nat} {o : Oper} (ho : ops[i]? = some o) (hE : EnvIs ops V L ops.size (E 0) env)
    (hlast : ∀ t, o.dst = some t → ∀ j, j < ops.size → dstIs ops j t = true → (upd L i true j = true ↔ j < i + 1)) : EnvIs ops V (upd L i true) ops.size (E 0) (putD env o.dst (V i)) := by
  intro t
  have hi : i < ops.size := (Array.getElem?_eq_some_iff.1 ho).1
  rw [putD_get]
  have hd : dstIs ops i t = (o.dst == some t) := by unfold dstIs; rw [ho]
  by_cases hdt : o.dst = some t
  · have e : lastV ops V (fun _ => true) t (i + 1) = some (V i) := by unfold lastV; simp [hd, hdt]
    rw [if_pos hdt, lastV_congr (i := i + 1) (by omega) (hlast t hdt), hE t, e]
    simp [Function.comp_def]
  · have h2 : dstIs ops i t = false := by rw [hd]; simpa using hdt
    rw [if_neg hdt, lastV_other h2]
    exact hE t
theorem names_agree {ops : Array Oper} (hord : OrdOk ops) (hdr : drawOk ops (Region.before ops) = true) {V : Nat → DV} {E : Nat → List DV} (hS : SeqIs ops V E) {L : Nat → Bool} (hL : Closed ops L) {env : List DV} (hE : EnvIs ops V L ops.size (E 0) env) {i : Nat} {o : Oper} (ho : ops[i]? = some o) (hi : L i = false)
    (hpre : ∀ e ∈ o.after, Region.binds .any e = true → L e.on = true) : (∀ t ∈ namesOf ops o, env[t]? = (E i)[t]?) ∧ ∀ t, o.dst = some t → ∀ j, j < ops.size → dstIs ops j t = true → (upd L i true j = true ↔ j < i + 1) := by
  have hio : i < ops.size := (Array.getElem?_eq_some_iff.1 ho).1
  have hx : ∀ t ∈ namesOf ops o, ∀ j, j < ops.size → j ≠ i → dstIs ops j t = true → (L j = true ↔ j < i) := by
    intro t ht j hj hne hd
    have hoj : ops[j]? = some ops[j] := Array.getElem?_eq_getElem hj
    have hdj : ops[j].dst = some t := by unfold dstIs at hd; rw [hoj] at hd; simpa using hd
    refine ord_iff hord hL ho hi hpre (Ne.symm hne) ?_
    unfold drawOk at hdr
    simp only [Bool.and_eq_true, List.all_eq_true] at hdr
    have h1 := hdr.2 (o, i) (by rw [List.mem_zipIdx_iff_getElem?]; simpa using ho) (ops[j], j) (by rw [List.mem_zipIdx_iff_getElem?]; simp)
    simp only [hdj] at h1
    have hc : (namesOf ops o).contains t = true := by simpa using ht
    simp only [hc, Bool.not_true, Bool.or_false, Bool.or_eq_true, beq_iff_eq] at h1
    rcases h1 with (h1 | h1) | h1
    · grind
    · grind
    · grind
  constructor
  · intro t ht
    rw [hE t, seq_env hS i (by omega) t]
    congr 1
    funext d
    rw [lastV_congr (i := i) (by omega) fun j hj hd => ?_]
    by_cases hji : j = i
    · grind
    · grind
  · intro t ht j hj hd
    by_cases hji : j = i
    · subst hji; simp [upd_same]
    · rw [upd_ne _ _ hji, hx t (by simp [namesOf, ht]) j hj hji hd]
      omega
theorem evD_agree {ops : Array Oper} {o : Oper} {env env' : List DV} (h : ∀ t ∈ namesOf ops o, env[t]? = env'[t]?) : ∀ a ∈ o.op.operands, evD env a = evD env' a := by
  intro a ha
  cases a with
  | tmp t =>
    have : t ∈ namesOf ops o := by
      unfold namesOf
      simp only [List.mem_append]
      left; right
      rw [List.mem_filterMap]
      exact ⟨.tmp t, by simpa using ha, rfl⟩
    simp only [evD, List.getD_eq_getElem?_getD, h t this]
  | _ => rfl
theorem wanted_agree {ops : Array Oper} {o : Oper} {env env' : List DV} (h : ∀ t ∈ namesOf ops o, env[t]? = env'[t]?) : wantedD ops env o = wantedD ops env' o := by
  unfold wantedD
  cases hg : o.guard with
  | none => rfl
  | some g =>
    obtain ⟨j, want⟩ := g
    simp only
    cases hb : (ops[j]?).bind (·.dst) with
    | none => rfl
    | some t =>
      have : t ∈ namesOf ops o := by
        unfold namesOf
        rw [hg]
        simp [hb]
      simp only [h t this]
theorem ordOk_of {ops : Array Oper} (h : drawOk ops (Region.before ops) = true) : OrdOk ops := by
  intro i o ho e he hb
  unfold drawOk at h
  simp only [Bool.and_eq_true, List.all_eq_true, Array.all_eq_true'] at h
  have h1 := h.1 (o, i) (by rw [List.mem_zipIdx_iff_getElem?]; simpa using ho) e he
  simpa [hb] using h1
theorem runQ_seq {ops : Array Oper} {S : Store} : ∀ {r : List Oper} {env env' : List DV}, runQ P ty iso call yf ops S r env = some env' → ∃ (E : Nat → List DV) (V : Nat → DV), E 0 = env ∧ E r.length = env' ∧
    ∀ j o, r[j]? = some o → E (j + 1) = putD (E j) o.dst (V j) ∧ (wantedD ops (E j) o = true → quietOp P ty iso call yf (evD (E j)) o S = some (V j)) ∧ (wantedD ops (E j) o = false → V j = dundef)
  | [], env, env', h => by
    simp only [runQ, Option.some.injEq] at h
    exact ⟨fun _ => env, fun _ => dundef, rfl, h, by simp⟩
  | o :: r, env, env', h => by
    unfold runQ at h
    have key : ∀ v, runQ P ty iso call yf ops S r (putD env o.dst v) = some env' → (wantedD ops env o = true → quietOp P ty iso call yf (evD env) o S = some v) → (wantedD ops env o = false → v = dundef) → ∃ (E : Nat → List DV) (V : Nat → DV), E 0 = env ∧ E (o :: r).length = env' ∧
        ∀ j o', (o :: r)[j]? = some o' → E (j + 1) = putD (E j) o'.dst (V j) ∧ (wantedD ops (E j) o' = true → quietOp P ty iso call yf (evD (E j)) o' S = some (V j)) ∧ (wantedD ops (E j) o' = false → V j = dundef) := fun v h1 h2 h3 => by
      obtain ⟨E, V, e1, e2, e3⟩ := runQ_seq h1
      refine ⟨fun n => match n with | 0 => env | n + 1 => E n, fun n => match n with | 0 => v | n + 1 => V n, rfl, by simpa using e2, fun j o' ho' => ?_⟩
      cases j with
      | zero => grind
      | succ j => exact e3 j o' (by simpa using ho')
    split at h
    · rename_i hw
      split at h
      · rename_i v h1
        exact key v h (fun _ => h1) fun hf => by rw [hw] at hf; cases hf
      · cases h
    · rename_i hw
      exact key dundef h (fun ht => absurd ht hw) fun _ => rfl
theorem quiet_step {ρ : Operand → Option DV} {o : Oper} {S : Store} {v : DV} (h : quietOp P ty iso call yf ρ o S = some v) : stepOp P ty iso call yf ρ o S S.length = some (v, S) := by
  obtain ⟨dst, op, type, pos, after, guard⟩ := o
  have gen : ∀ {q : Option (DV × Store)}, q.map (·.1) = some v → (∀ d S', q = some (d, S') → S' = S) → q = some (v, S) := by
    intro q hq hs
    simp only [Option.map_eq_some_iff] at hq
    obtain ⟨⟨d, S'⟩, h1, rfl⟩ := hq
    rw [h1, hs d S' h1]
  have mp : ∀ {β : Type} {q : Option β} {f : β → DV} {d : DV} {S' : Store}, q.map (fun c => (f c, S)) = some (d, S') → S' = S := by
    intro β q f d S' hq
    simp only [Option.map_eq_some_iff, Prod.mk.injEq] at hq
    obtain ⟨_, _, _, h⟩ := hq
    exact h.symm
  cases op <;> simp only [quietOp] at h
  case call c =>
    obtain ⟨callee, args, ats⟩ := c
    cases callee with
    | builtin b =>
      cases b <;> simp only at h <;> first | cases h | skip
      all_goals
        refine gen h fun d S' hq => ?_
        simp only [stepOp] at hq
        repeat' split at hq
        all_goals first | contradiction | exact mp (f := id) hq | exact mp hq | (cases hq; rfl) | (cases hq; done) | skip
    | value f =>
      simp only at h
      split at h
      · rename_i g fs cs xs hf hxs
        split at h
        · cases h
        rename_i hh
        split at h
        · rename_i hp
          simp only [stepOp, hf, hxs, callD, hp, if_true, h]
        · cases h
      · cases h
    | invoke r m => simp [stepOp] at h
  case buildSlice t n ps =>
    split at h
    · cases h
    · rename_i hh
      refine gen h fun d S' hq => ?_
      simp only [stepOp] at hq
      repeat' split at hq
      all_goals first | contradiction | (cases hq; first | rfl | contradiction)
  all_goals first
    | cases h
    | (refine gen h fun d S' hq => ?_
       simp only [stepOp] at hq
       repeat' split at hq
       all_goals first | contradiction | exact mp (f := id) hq | exact mp hq | (cases hq; rfl) | (cases hq; done) | skip)
theorem quiet_congr {ρ ρ' : Operand → Option DV} {o : Oper} {S : Store} (h : ∀ a ∈ o.op.operands, ρ a = ρ' a) : quietOp P ty iso call yf ρ o S = quietOp P ty iso call yf ρ' o S := by
  have hs := stepOp_congr (P := P) (ty := ty) (iso := iso) (call := call) (yf := yf) (S := S) (nid := S.length) h
  unfold quietOp
  split <;> try rfl
  · rw [hs]
  · rename_i f args ats hop
    rw [hop] at h
    have h1 : ρ f = ρ' f := h f (by simp [Op.operands, Call.operands])
    have h2 := evs_congr (ρ := ρ) (ρ' := ρ') (l := args.toList) fun a ha => h a (by simp [Op.operands, Call.operands] at ha ⊢; exact .inr ha)
    rw [h1, h2]
  · rw [hs]
theorem regionQ_ok (hP : Plain P) (hty : TyOk P ty) (hc : CallOK P Final call) (hi : IsoOK P Final iso) (hyl : YldOK P Final yf) {ops : Array Oper} {b : Frame} {k : List Item} {cs : List Frame} (hk : b.kind ≠ .early) (hdr : drawOk ops (Region.before ops) = true)
    {env env' : List DV} {a : Act} (h : runQ P ty iso call yf ops x.S ops.toList env = some env') (hR : Rel x) (he : RVs x env a.tmps)
    (hn : ∀ y a', y.S = x.S → Rel y → Mono x y → RVs y env' a'.tmps → a'.defers = a.defers → KMu P Final () (G (b.atR a' k) cs) y.w) (t : Nat) : KMu P Final () (G (b.atR a (.inRegion ops (Region.linearise .any ops t) :: k)) cs) x.w := by
  have hord := ordOk_of hdr
  obtain ⟨E, V, e1, e2, e3⟩ := runQ_seq h
  have hops : ∀ (j : Nat) (o : Oper), ops[j]? = some o → ops.toList[j]? = some o := fun j o ho => by simpa using ho
  have hS : SeqIs ops V E := fun j o ho => (e3 j o (hops j o ho)).1
  refine linearise_ind hord (σ := Act × Cx) (fun todo s => s.2.S = x.S → Rel s.2 → Mono x s.2 → s.1.defers = a.defers → KMu P Final () (G (b.atR s.1 (.inRegion ops todo :: k)) cs) s.2.w)
    (fun L s => ∃ env1, RVs s.2 env1 s.1.tmps ∧ EnvIs ops V L ops.size (E 0) env1) ?_ ?_ t (a, x) ⟨env, he, fun t => ?_⟩ rfl hR (Mono.refl x) rfl
  · rintro L ⟨a1, y⟩ i o ⟨env1, hr1, hE1⟩ hcl ho hLi hpre rest hrest hSy hRy hMy hdf
    simp only at hr1 hSy hRy hMy hdf ⊢
    obtain ⟨q1, q2⟩ := names_agree hord hdr hS hcl hE1 ho hLi hpre
    have hw := wanted_agree q1
    have hwe := wanted_ok hr1 ops o
    have hE2 := envIs_put (V := V) ho hE1 q2
    by_cases hwt : wantedD ops (E i) o = true
    · have hq := (e3 i o (hops i o ho)).2.1 hwt
      rw [← quiet_congr (evD_agree q1), ← hSy] at hq
      refine mu_op hP hty hc hi hyl hk ho (by rw [hwe, hw]; exact hwt) hRy (.inl rfl) hr1 (quiet_step hq) fun z u zS zR zM zV => ?_
      have hput := put_ok (hr1.mono zM) (dst := o.dst) zV
      exact hrest (a1.put o.dst u, z) ⟨_, hput.1, hE2⟩ (zS.trans hSy) zR (hMy.trans zM) (hput.2.trans hdf)
    · have hwf : wantedD ops (E i) o = false := by simpa using hwt
      have hv := (e3 i o (hops i o ho)).2.2 hwf
      have hput := put_ok hr1 (dst := o.dst) (d := V i) (v := undef) (by rw [hv]; exact .val rfl)
      exact mu_ctl hP (fun w => ⟨_, rG_unwanted ho (by rw [hwe, hw]; exact hwf)⟩) (hrest (a1.put o.dst undef, y) ⟨_, hput.1, hE2⟩ hSy hRy hMy (hput.2.trans hdf))
  · rintro L ⟨a1, y⟩ ⟨env1, hr1, hE1⟩ hall hSy hRy hMy hdf
    have : env1 = env' := by
      refine List.ext_getElem? fun t => ?_
      have hlen : E ops.size = env' := by simpa using e2
      rw [hE1 t, ← hlen, seq_env hS ops.size (Nat.le_refl _) t]
      congr 1
      funext d
      rw [lastV_congr (i := ops.size) (Nat.le_refl _) fun j hj _ => by simp [hall j hj, hj]]
    subst this
    exact mu_ctl hP (fun w => ⟨_, rG_end_region⟩) (hn y a1 hSy hRy hMy hr1 hdf)
  · rw [e1]
    have : ∀ n, lastV ops V (fun _ => false) t n = none := by
      intro n
      induction n with
      | zero => rfl
      | succ n ih => unfold lastV; simp [ih]
    rw [this]
    simp
end Go.Di
end
section
namespace Go.Di
open Go Go.Conc Go.Co
variable {P : Program} {Final : Machine → Trace → Prop} {x y : Cx} {R : List Nat} {T : Store}
theorem cells_at {S : Store} {i : Nat} (h : cellsAt S R i = true) : ∃ l, S[i]? = some (.cells l) ∧ (l.map stripC).all (okC R) = true := by
  unfold cellsAt at h
  split at h
  · grind
  · cases h
theorem mask_get {S : Store} {k : Nat} {b : DB} (h : (maskS S R)[k]? = some b) (hb : b ≠ .none) : k ∈ R ∧ ∃ l, S[k]? = some (.cells l) ∧ b = .cells (l.map stripC) := by
  simp only [maskS, List.getElem?_mapIdx, Option.map_eq_some_iff] at h
  obtain ⟨c, hc, rfl⟩ := h
  split at hb
  · rename_i hk
    rw [if_pos hk]
    refine ⟨by simpa using hk, ?_⟩
    cases c with
    | cells l => exact ⟨l, hc, rfl⟩
    | _ => exact absurd rfl hb
  · grind
theorem mask_at {S : Store} {k : Nat} {l : List DV} (hk : k ∈ R) (h : S[k]? = some (.cells l)) : (maskS S R)[k]? = some (.cells (l.map stripC)) := by
  simp only [maskS, List.getElem?_mapIdx, h, Option.map_some, maskB, if_pos (show R.contains k = true by simpa using hk)]
theorem back_get {S S1 : Store} {k : Nat} {b : DB} (h : (backS S S1 R)[k]? = some b) : (k ∈ R ∧ ((∃ l', S1[k]? = some (.cells l') ∧ b = .cells (l'.map stripC)) ∨ ((∀ l', S1[k]? ≠ some (.cells l')) ∧ S[k]? = some b))) ∨ (k ∉ R ∧ S[k]? = some b) := by
  simp only [backS, List.getElem?_mapIdx, Option.map_eq_some_iff] at h
  obtain ⟨c, hc, rfl⟩ := h
  split
  · rename_i hk
    refine .inl ⟨by simpa using hk, ?_⟩
    unfold backB
    split
    · grind
    · grind
  · grind
theorem back_same {S S1 : Store} {k : Nat} (hk : k ∉ R) : (backS S S1 R)[k]? = S[k]? := by
  simp only [backS, List.getElem?_mapIdx, if_neg (show ¬ R.contains k = true by simpa using hk)]
  exact Option.map_id'
theorem back_here {S S1 : Store} {k : Nat} {l l' : List DV} (hk : k ∈ R) (h : S[k]? = some (.cells l)) (h1 : S1[k]? = some (.cells l')) : (backS S S1 R)[k]? = some (.cells (l'.map stripC)) := by
  simp only [backS, List.getElem?_mapIdx, h, Option.map_some, if_pos (show R.contains k = true by simpa using hk), backB, h1]
section
variable (hF : ∀ b o, x.Fz b o → y.Fz b o ∧ y.w.cell? ⟨b, o, none⟩ = x.w.cell? ⟨b, o, none⟩) (hP : ∀ i ∈ R, ∃ l, y.S[i]? = some (.cells l) ∧ y.μ i = x.μ i)
include hF hP
theorem rv_okP {d : DV} {v : Value} (h : RV x d v) (hd : okP R d.strip1 = true) : RV y d.strip1 v := by
  cases d with
  | ptr i off =>
    cases h with
    | ptr _ =>
      obtain ⟨l, h1, h2⟩ := hP i (by simpa [okP, DV.strip1] using hd)
      rw [← h2]; exact .ptr h1
  | _ => exact h.strip1.pure1_mono hF hd
theorem rv_okC {d : DV} {v : Value} (h : RV x d v) (hd : okC R (stripC d) = true) : RV y (stripC d) v := by
  cases d with
  | ptr i off =>
    cases h with
    | ptr _ =>
      obtain ⟨l, h1, h2⟩ := hP i (by simpa [okC, stripC, DV.strip1] using hd)
      rw [← h2]; exact .ptr h1
  | fn f fs cs =>
    simp only [okC, stripC, Bool.and_eq_true] at hd ⊢
    cases h with
    | fn h1 h2 h3 h4 =>
      refine .fn (by simpa using h1) (by simpa using h2) (fun j c hc => ?_) (fun j c hc => ?_)
      · have := List.all_eq_true.1 hd.1 c (List.mem_of_getElem? hc)
        simp only [List.getElem?_map, Option.map_eq_some_iff] at hc
        obtain ⟨c', h5, rfl⟩ := hc
        exact rv_okP hF hP (h3 j c' h5) this
      · have := List.all_eq_true.1 hd.2 c (List.mem_of_getElem? hc)
        simp only [List.getElem?_map, Option.map_eq_some_iff] at hc
        obtain ⟨c', h5, rfl⟩ := hc
        exact rv_okP hF hP (h4 j c' h5) this
  | _ => exact h.strip1.pure1_mono hF hd
theorem rv_okA {d : DV} {v : Value} (h : RV x d v) (hd : okA R (stripA d) = true) : RV y (stripA d) v := by
  cases d with
  | ptr i off =>
    cases h with
    | ptr _ =>
      obtain ⟨l, h1, h2⟩ := hP i (by simpa [okA, stripA, DV.strip, DV.strip2] using hd)
      rw [← h2]; exact .ptr h1
  | fn f fs cs => exact rv_okC hF hP h hd
  | _ => exact h.strip.pure_mono hF hd
end
def Cx.maskd (x : Cx) (R : List Nat) : Cx := { x with S := maskS x.S R }
def Cx.backM (x y : Cx) (R : List Nat) : Cx := { w := y.w, μ := x.μ, κ := x.κ, Fz := y.Fz, S := backS x.S y.S R }
theorem live_mask {k : Nat} (h : Live (x.maskd R).S k) : k ∈ R ∧ Live x.S k := by
  obtain ⟨b, hb, hn⟩ := h
  obtain ⟨h1, l, h2, -⟩ := mask_get hb hn
  exact ⟨h1, _, h2, by simp⟩
theorem rel_mask (hR : Rel x) (hc : ∀ i ∈ R, ∃ l, x.S[i]? = some (.cells l) ∧ (l.map stripC).all (okC R) = true) : Rel (x.maskd R) := by
  have hP : ∀ i ∈ R, ∃ l, (x.maskd R).S[i]? = some (.cells l) ∧ (x.maskd R).μ i = x.μ i := fun i hi => by
    obtain ⟨l, h, -⟩ := hc i hi
    exact ⟨_, mask_at hi h, rfl⟩
  refine ⟨fun id l2 h => ?_, fun id e s n h => ?_, fun id b h hb => ?_, fun j k hj hk he => hR.inj j k (live_mask hj).2 (live_mask hk).2 he, hR.frz, fun id ⟨l, h⟩ o hF => ?_, fun id e s n h => ?_, fun id e s l z h => ?_, hR.glob⟩
  · obtain ⟨hi, l, h2, h3⟩ := mask_get h (by simp)
    cases h3
    obtain ⟨l0, h4, h5⟩ := hc id hi
    rw [h2] at h4
    cases h4
    obtain ⟨arr, e, h6, h7, h8⟩ := hR.cells id l h2
    refine ⟨arr, e, h6, by simpa using h7, fun j c hj => ?_⟩
    have hm := List.all_eq_true.1 h5 c (List.mem_of_getElem? hj)
    simp only [List.getElem?_map, Option.map_eq_some_iff] at hj
    obtain ⟨c', h9, rfl⟩ := hj
    exact rv_okC (x := x) (y := x.maskd R) (fun b o h => ⟨h, rfl⟩) hP (h8 j c' h9) hm
  · obtain ⟨-, l, -, h3⟩ := mask_get h (by simp)
    cases h3
  · obtain ⟨-, l, -, h3⟩ := mask_get h (obj_live hb)
    subst h3
    cases hb
  · obtain ⟨-, l, h2, -⟩ := mask_get h (by simp)
    exact hR.sep id ⟨l, h2⟩ o hF
  · obtain ⟨-, l, -, h3⟩ := mask_get h (by simp)
    cases h3
  · obtain ⟨-, l, -, h3⟩ := mask_get h (by simp)
    cases h3
section
variable (hR : Rel x) (hc : ∀ i ∈ R, ∃ l, x.S[i]? = some (.cells l) ∧ (l.map stripC).all (okC R) = true) (M : Mono (x.maskd R) y)
include hR M
theorem old_backM {id : Nat} {b : DB} {o : Obj} (hb : x.S[id]? = some b) (hne : b ≠ .none) (hid : id ∉ R) (ho : x.w.heap[x.μ id]? = some o) : y.w.heap[x.μ id]? = x.w.heap[x.μ id]? := by
  refine M.old _ (Array.getElem?_eq_some_iff.1 ho).1 fun k hk he => ?_
  obtain ⟨h1, h2⟩ := live_mask hk
  exact hid (hR.inj k id h2 ⟨b, hb, hne⟩ he ▸ h1)
omit hR in
include hc in
theorem back_cells {i : Nat} (hi : i ∈ R) : ∃ l', y.S[i]? = some (.cells l') ∧ y.μ i = x.μ i ∧ (x.backM y R).S[i]? = some (.cells (l'.map stripC)) := by
  obtain ⟨l, h, -⟩ := hc i hi
  obtain ⟨h1, l', h2⟩ := M.cells i _ (mask_at hi h)
  exact ⟨l', h2, h1, back_here hi h h2⟩
include hc
omit hR in
theorem back_out {k : Nat} {b : DB} (h : (x.backM y R).S[k]? = some b) : (k ∈ R ∧ ∃ l', y.S[k]? = some (.cells l') ∧ b = .cells (l'.map stripC)) ∨ (k ∉ R ∧ x.S[k]? = some b) := by
  by_cases hk : k ∈ R
  · obtain ⟨l', h1, -, h3⟩ := back_cells hc M hk
    rw [h3] at h
    exact .inl ⟨hk, l', h1, (Option.some.inj h).symm⟩
  · exact .inr ⟨hk, (back_same hk).symm.trans h⟩
omit hR in
theorem live_back {k : Nat} (h : Live (x.backM y R).S k) : Live x.S k := by
  obtain ⟨b, hb, hne⟩ := h
  rcases back_out hc M hb with ⟨hk, -⟩ | ⟨-, h⟩
  · obtain ⟨l, h, -⟩ := hc k hk; exact ⟨_, h, by simp⟩
  · exact ⟨b, h, hne⟩
theorem mono_backM : Mono x (x.backM y R) where
  size := M.size
  env := M.env
  fz := M.fz
  nfz := fun b o h => (M.nfz b o h).imp id fun h => h.imp id fun ⟨k, h1, he⟩ => ⟨k, (live_mask h1).2, he⟩
  old := fun b hb hn => M.old b hb fun k hk he => hn k (live_mask hk).2 he
  len := by simp [Cx.backM, backS]
  cells := fun id l2 h => ⟨rfl, by
    by_cases he : id ∈ R
    · obtain ⟨l', -, -, h3⟩ := back_cells hc M he; exact ⟨_, h3⟩
    · exact ⟨l2, (back_same he).trans h⟩⟩
  objs := fun id b h hb => by
    have he : id ∉ R := fun he => by
      obtain ⟨l, h1, -⟩ := hc id he
      rw [h1] at h; cases h; cases hb
    obtain ⟨o, ho, -⟩ := hR.objs id b h hb
    exact ⟨rfl, ⟨b, (back_same he).trans h, like_refl hb⟩, fun _ => old_backM hR M h (obj_live hb) he ho⟩
  tails := fun t e s n h => by
    have he : t ∉ R := fun he => by
      obtain ⟨l, h1, -⟩ := hc t he
      rw [h1] at h; cases h
    exact ⟨n, (back_same he).trans h, Nat.le_refl _, fun _ => ⟨rfl, rfl⟩⟩
  live := fun k h => .inl ⟨live_back hc M h, rfl⟩
  ops := fun t e s l z h => by
    have he : t ∉ R := fun he => by
      obtain ⟨l, h1, -⟩ := hc t he
      rw [h1] at h; cases h
    exact ⟨l, z, (back_same he).trans h, Nat.le_refl _, fun e => ⟨rfl, e⟩, fun _ => ⟨rfl, rfl⟩⟩
theorem rel_backM (hRy : Rel y) (hy : ∀ i ∈ R, ∃ l', y.S[i]? = some (.cells l') ∧ (l'.map stripC).all (okC R) = true) : Rel (x.backM y R) := by
  have MB := mono_backM hR hc M
  have hP : ∀ i ∈ R, ∃ l, (x.backM y R).S[i]? = some (.cells l) ∧ (x.backM y R).μ i = y.μ i := fun i hi => by
    obtain ⟨l', -, h2, h3⟩ := back_cells hc M hi
    exact ⟨_, h3, h2.symm⟩
  have hF : ∀ {b o}, y.Fz b o → x.Fz b o ∨ x.w.heap.size ≤ b ∨ ∃ i, i ∈ R ∧ Live x.S i ∧ x.μ i = b := fun {b o} h => (M.nfz b o h).imp id fun h => h.imp id fun ⟨k, h1, he⟩ => ⟨k, (live_mask h1).1, (live_mask h1).2, he⟩
  refine ⟨fun id l2 h => ?_, fun id e s n h => ?_, fun id b h hb => ?_, fun j k hj hk he => hR.inj j k (live_back hc M hj) (live_back hc M hk) he, hRy.frz, fun id ⟨l, h⟩ o hf => ?_, fun id e s n h o hf => ?_, fun id e s l1 z h => ?_, hRy.glob⟩
  · rcases back_out hc M h with ⟨hi, l', h1, h2⟩ | ⟨hi, h1⟩
    · cases h2
      obtain ⟨l3, h3, h4⟩ := hy id hi
      rw [h1] at h3
      cases h3
      obtain ⟨arr, e, h5, h6, h7⟩ := hRy.cells id l' h1
      obtain ⟨l4, -, h8, -⟩ := back_cells hc M hi
      refine ⟨arr, e, by rw [h8] at h5; exact h5, by simpa using h6, fun j c hj => ?_⟩
      have hm := List.all_eq_true.1 h4 c (List.mem_of_getElem? hj)
      simp only [List.getElem?_map, Option.map_eq_some_iff] at hj
      obtain ⟨c', h9, rfl⟩ := hj
      exact rv_okC (x := y) (y := x.backM y R) (fun b o h => ⟨h, rfl⟩) hP (h7 j c' h9) hm
    · obtain ⟨arr, e, h3, h4, h5⟩ := hR.cells id l2 h1
      exact ⟨arr, e, (old_backM hR M h1 (by simp) hi h3).trans h3, h4, fun j c hj => (h5 j c hj).mono MB⟩
  · rcases back_out hc M h with ⟨hi, l', h1, h2⟩ | ⟨hi, h1⟩
    · cases h2
    · obtain ⟨arr, h3, h4⟩ := hR.tails id e s n h1
      exact ⟨arr, (old_backM hR M h1 (by simp) hi h3).trans h3, h4⟩
  · rcases back_out hc M h with ⟨hi, l', h1, h2⟩ | ⟨hi, h1⟩
    · subst h2; cases hb
    · obtain ⟨o, h3, h4⟩ := hR.objs id b h1 hb
      exact ⟨o, (old_backM hR M h1 (obj_live hb) hi h3).trans h3, h4.mono MB⟩
  · rcases back_out hc M h with ⟨hi, l', h1, h2⟩ | ⟨hi, h1⟩
    · obtain ⟨l4, -, h8, -⟩ := back_cells hc M hi
      refine hRy.sep id ⟨l', h1⟩ o ?_
      rw [h8]; exact hf
    · obtain ⟨arr, e, h3, -⟩ := hR.cells id l h1
      rcases hF hf with h5 | h5 | ⟨k, h5, h6, h7⟩
      · exact hR.sep id ⟨l, h1⟩ o h5
      · have := (Array.getElem?_eq_some_iff.1 h3).1
        change x.w.heap.size ≤ x.μ id at h5
        omega
      · exact hi (hR.inj k id h6 ⟨_, h1, by simp⟩ h7 ▸ h5)
  · rcases back_out hc M h with ⟨hi, l', h1, h2⟩ | ⟨hi, h1⟩
    · cases h2
    · obtain ⟨arr, h3, -⟩ := hR.tails id e s n h1
      rcases hF hf with h5 | h5 | ⟨k, h5, h6, h7⟩
      · exact hR.sept id e s n h1 o h5
      · have := (Array.getElem?_eq_some_iff.1 h3).1
        change x.w.heap.size ≤ x.μ id at h5
        omega
      · exact absurd (hR.inj k id h6 ⟨_, h1, by simp⟩ h7 ▸ h5) hi
  · rcases back_out hc M h with ⟨hi, l', h1, h2⟩ | ⟨hi, h1⟩
    · cases h2
    · obtain ⟨arr, h4, h3, h6, h7, h8, h9, h10⟩ := hR.ops id e s l1 z h1
      refine ⟨arr, (old_backM hR M h1 (by simp) hi h4).trans h4, h3, h6, h7, fun j c hc => ⟨(h8 j c hc).1, (h8 j c hc).2.mono MB⟩, fun hz j hj => (M.fz _ _ (h9 hz j hj)).1, fun hz o hf => ?_⟩
      rcases hF hf with h5 | h5 | ⟨k, h5, h6, h7⟩
      · exact h10 hz o h5
      · have := (Array.getElem?_eq_some_iff.1 h4).1
        change x.w.heap.size ≤ x.μ id at h5
        omega
      · exact absurd (hR.inj k id h6 ⟨_, h1, by simp⟩ h7 ▸ h5) hi
end
theorem callM_ok {call : CallF} (hc : CallOK P Final call) : CallOK P Final (callM call) := by
  intro f args S v S' h x vals hR hS ha
  subst hS
  unfold callM at h
  split at h
  · rename_i R v1 S1 ho
    cases h
    unfold multiD at ho
    split at ho
    · rename_i hq
      simp only [Bool.and_eq_true] at hq
      obtain ⟨⟨-, hA⟩, hcs⟩ := hq
      split at ho
      · rename_i v2 S2 hcall
        split at ho
        · rename_i hp
          simp only [Bool.and_eq_true] at hp
          cases ho
          generalize reachD x.S args = R at *
          have hc1 : ∀ i ∈ R, ∃ l, x.S[i]? = some (.cells l) ∧ (l.map stripC).all (okC R) = true := fun i hi => cells_at (List.all_eq_true.1 hcs i hi)
          have ha' : RVs (x.maskd R) (args.map stripA) vals := by
            refine ⟨by simpa using ha.1, fun j c hj => ?_⟩
            have hm := List.all_eq_true.1 hA c (List.mem_of_getElem? hj)
            simp only [List.getElem?_map, Option.map_eq_some_iff] at hj
            obtain ⟨c', h1, rfl⟩ := hj
            exact rv_okA (x := x) (y := x.maskd R) (fun b o h => ⟨h, rfl⟩) (fun i hi => by
              obtain ⟨l, h, -⟩ := hc1 i hi
              exact ⟨_, mask_at hi h, rfl⟩) (ha.2 j c' h1) hm
          obtain ⟨h1, h2⟩ := hc _ _ _ _ _ hcall (x.maskd R) vals (rel_mask hR hc1) rfl ha'
          refine ⟨h1, fun fr cs hn => h2 fr cs fun y u ⟨q1, q2, q3, q4⟩ => ?_⟩
          subst q1
          have hy : ∀ i ∈ R, ∃ l', y.S[i]? = some (.cells l') ∧ (l'.map stripC).all (okC R) = true := fun i hi => cells_at (List.all_eq_true.1 hp.2 i hi)
          exact hn (x.backM y R) u ⟨rfl, rel_backM hR hc1 q3 q2 hy, mono_backM hR hc1 q3, q4.strip.pure_mono (x := y) (y := x.backM y R) (fun b o h => ⟨h, rfl⟩) hp.1⟩
        · cases ho
      · cases ho
    · cases ho
  · exact hc _ _ _ _ _ h x vals hR rfl ha
end Go.Di
end
