import Derived.Test.YtoccmmopffbbfaaPk05
section
namespace Go.Tv
open Go Go.Di Go.Proofs
variable {P : Program} {ty : Tys} {tt : TypeId → Option TT} {T : Tbl} {ι ι' w : Ids} {S S' : Store} {te te1 : List TV} {env : List DV} {tS tS1 : List TB} {iso : IsoF} {call : CallF} {yf : YldF} {o : Oper} {nid nT B : Nat} {r : TR} {ops : Array Oper} {L : Nat} {fn : FuncId} {rnd : Bool} {fs : List Foot}
theorem md3 {md : Nat} (h : md ≤ 2) : md = 0 ∨ md = 1 ∨ md = 2 := by omega
theorem map_true {α β : Type} {x : Option α} {f : α → β} {q : β × Prop} (h : x.map (fun a => (f a, True)) = some q) : q.2 := by
  simp only [Option.map_eq_some_iff] at h
  obtain ⟨_, _, rfl⟩ := h
  trivial
theorem noC_pure {q : TV × Prop} (hc : condOp o = false) (h : pureT P ty tt te tS o = some q) : q.2 := by
  unfold condOp at hc
  unfold pureT at h
  cases ho : o.op
  all_goals simp only [ho] at hc h
  all_goals try (cases hc; done)
  all_goals repeat' (split at h)
  all_goals first
    | (cases h; done)
    | (cases h; trivial)
    | exact map_true h
    | (simp only [Option.map_eq_some_iff] at h; obtain ⟨_, _, rfl⟩ := h; trivial)
theorem noC_step {q : TR} (hc : condOp o = false) (h : stepT P ty tt te tS o nT = some q) : q.c := by
  have hp : ∀ {q : TR}, ((pureT P ty tt te tS o).map fun r => (⟨r.1, te, tS, readsT te o, r.2⟩ : TR)) = some q → q.c := by
    intro q h
    simp only [Option.map_eq_some_iff] at h
    obtain ⟨a, h1, rfl⟩ := h
    exact noC_pure hc h1
  unfold stepT at h
  split at h
  · split at h
    · cases h; trivial
    · cases h
  · split at h
    · split at h
      · cases h; trivial
      · cases h
    · cases h
  · split at h
    · split at h
      · split at h
        · simp only [Option.map_eq_some_iff] at h
          obtain ⟨_, _, rfl⟩ := h
          trivial
        · cases h
      · cases h
    · cases h
  · rename_i ho
    simp only [condOp, ho] at hc
    cases hc
  · exact hp h
def Nb (o : Oper) : Prop := (∃ op t x y u, o.op = .binOp op t x y u) ∨ ∃ op t x, o.op = .unOp op t x
theorem step_of_pure {v : TV} (hb : Nb o) (h : pureT P ty tt te tS o = some (v, True)) : stepT P ty tt te tS o nT = some ⟨v, te, tS, [], True⟩ := by
  rcases hb with ⟨op, t, x, y, u, ho⟩ | ⟨op, t, x, ho⟩ <;> simp only [stepT, ho, h, Option.map_some, readsT]
theorem arith_bin {v : TV} {c : Prop} (h : arithT te o = some (v, c)) : Nb o := by
  unfold arithT at h
  split at h
  · rename_i ho; exact .inl ⟨_, _, _, _, _, ho⟩
  · rename_i ho; exact .inl ⟨_, _, _, _, _, ho⟩
  · rename_i ho; exact .inl ⟨_, _, _, _, _, ho⟩
  · rename_i ho; exact .inr ⟨_, _, _, ho⟩
  · cases h
theorem cmp_bin {b : Bool} (h : cmpT P te o = some b) : Nb o := by
  unfold cmpT at h
  split at h
  · rename_i ho; exact .inl ⟨_, _, _, _, _, ho⟩
  · rename_i ho; exact .inl ⟨_, _, _, _, _, ho⟩
  · cases h
theorem bin_wr (hb : Nb o) : wrOf o = false := by
  rcases hb with ⟨op, t, x, y, u, ho⟩ | ⟨op, t, x, ho⟩ <;> simp only [wrOf, ho]
theorem callV_ok {g : FuncId} {targs : List TV} (h : callV tt te o = some (g, targs)) : ∃ f args argTypes fs cs xs, o.op = .call { callee := .value f, args, argTypes } ∧ evT te f = some (.fn g fs cs) ∧ evsT te args.toList = some xs ∧ (fs ++ xs ++ cs).all pureB = true ∧ normL (argTys tt fs argTypes) (fs ++ xs ++ cs) = targs := by
  unfold callV at h
  split at h
  · rename_i f args argTypes ho
    split at h
    · rename_i g' fs cs xs h1 h2
      split at h
      · rename_i h3
        cases h
        exact ⟨f, args, argTypes, fs, cs, xs, ho, h1, h2, h3, rfl⟩
      · cases h
    · cases h
  · cases h
theorem pcallV_ok {g : FuncId} {kp : Nat} {targs ts : List TV} (h : pcallV tt te tS o = some (g, kp, targs, ts)) : ∃ f args argTypes fs cs xs, o.op = .call { callee := .value f, args, argTypes } ∧ evT te f = some (.fn g fs cs) ∧ evsT te args.toList = some xs ∧ argsP kp (argTys tt fs argTypes) (fs ++ xs ++ cs) = some targs ∧ (fs ++ xs ++ cs).any isRef = true ∧ tS[kp]? = some (.cells ts) ∧ refsL ts = [] := by
  unfold pcallV at h
  split at h
  · rename_i f args argTypes ho
    split at h
    · rename_i g' fs cs xs h1 h2
      split at h
      · split at h
        · rename_i h4 h5
          split at h
          · rename_i h6
            simp only [Bool.and_eq_true, List.isEmpty_iff] at h6
            cases h
            exact ⟨f, args, argTypes, fs, cs, xs, ho, h1, h2, h4, h6.1, h5, h6.2⟩
          · cases h
        · cases h
      · cases h
    · cases h
  · cases h
def Beh (P : Program) (ty : Tys) (iso : IsoF) (call : CallF) (yf : YldF) (B : Nat) (ops : Array Oper) (Q : List TV → List TB → Prop) (md : Nat) (tS0 : List TB) (k : Nat) (te : List TV) (tS : List TB) (fs : List Foot) : Prop :=
  match md with
  | 0 => WL P ty iso call yf B ops k te tS Q
  | 1 => tS = tS0 → WQ P ty iso call yf ops tS0 k te fun te => Q te tS0
  | _ => WD P ty iso call yf B ops k te tS fs Q
theorem skip_ok {Q : List TV → List TB → Prop} {md k : Nat} {tS0 : List TB} (hmd : md ≤ 2) (ho : ops[k]? = some o) (hw : wantedT ops te o = some false) {K : KO} (hK : ∀ te tS fs, K te tS fs → Beh P ty iso call yf B ops Q md tS0 (k + 1) te tS fs) (h : skipK o te tS fs K) : Beh P ty iso call yf B ops Q md tS0 k te tS fs := by
  have h1 := hK _ _ _ (putK_ok (K := fun te => K te tS (fs ++ [quietF])) h)
  rcases md3 hmd with rfl | rfl | rfl
  · exact wl_skip ho hw h1
  · exact fun e => wq_skip ho hw (h1 e)
  · exact wd_skip ho hw h1
theorem call_ok (hT : TblOK T iso call) {Q : List TV → List TB → Prop} {md n0 k : Nat} {tS0 : List TB} (hmd : md ≤ 2) (ho : ops[k]? = some o) (hw : wantedT ops te o = some true) {K : KO} (hK : ∀ te tS fs, K te tS fs → Beh P ty iso call yf B ops Q md tS0 (k + 1) te tS fs)
    (hn : newB tS (nidT md n0 k tS) = true) (h : callK tt T md o te tS fs K) : Beh P ty iso call yf B ops Q md tS0 k te tS fs := by
  unfold callK at h
  split at h
  · rename_i g targs hc
    obtain ⟨f, args, argTypes, fs1, cs1, xs, c1, c2, c3, c4, c5⟩ := callV_ok hc
    split at h
    · rename_i p s hm hs
      have hm : md = 0 := by simpa using hm
      subst hm
      obtain ⟨hp, h⟩ := conj_elim h
      refine wl_op ho hw (does_ncall c1 c2 c3 c4 c5 (hT.N _ _ _ _ hs hp)) ?_
      rintro v te' tS' ft ⟨ts, hq, rfl, rfl, rfl⟩
      have e : setT tS tS.length (.cells ts) = tS ++ [.cells ts] := by unfold setT; rw [if_neg (Nat.lt_irrefl _)]
      rw [e]
      exact hK _ _ _ (putK_ok (K := fun te => K te (tS ++ [.cells ts]) fs) (all_holdsN (R := fun cs => putK te' o.dst (.ptr tS.length 0) fun te => K te (tS ++ [.cells cs]) fs) h hq))
    · split at h
      · rename_i p s hs
        obtain ⟨hp, h⟩ := conj_elim h
        have hsp := hT.I _ _ _ _ hs hp
        have fin : ∀ v, s.holdsV v → Beh P ty iso call yf B ops Q md tS0 (k + 1) (putTV te o.dst v) tS (fs ++ [quietF]) := fun v hv =>
          hK _ _ _ (putK_ok (K := fun te => K te tS (fs ++ [quietF])) (forceV_ok v (K := fun v => putK te o.dst v fun te => K te tS (fs ++ [quietF])) (all_holdsV (R := fun v => forceV v fun v => putK te o.dst v fun te => K te tS (fs ++ [quietF])) h hv)))
        rcases md3 hmd with rfl | rfl | rfl
        · skip
          refine wl_op ho hw (does_icall c1 c2 c3 c4 c5 hsp false) ?_
          rintro v te' tS' ft ⟨hv, rfl, rfl, -⟩
          exact fin v hv
        · exact fun e => wq_icall ho hw c1 c2 c3 c4 c5 hsp fun v hv => fin v hv e
        · skip
          refine wd_op ho hw hn (does_icall c1 c2 c3 c4 c5 hsp true) ?_
          rintro v te' tS' ft ⟨hv, rfl, rfl, rfl⟩
          exact fin v hv
      · exact h.elim
  · split at h
    · rename_i g kp targs ts hm hc
      have hm : md ≠ 1 := by simpa using hm
      obtain ⟨f, args, argTypes, fs1, cs1, xs, c1, c2, c3, c4, c5, c6, c7⟩ := pcallV_ok hc
      split at h
      · rename_i p s hs
        obtain ⟨hp, h⟩ := conj_elim h
        have hsp := hT.C _ _ _ _ _ hs hp
        have fin : ∀ v cs, s.holds v cs → Beh P ty iso call yf B ops Q md tS0 (k + 1) (putTV te o.dst v) (tS.set kp (.cells cs)) (fs ++ [⟨none, true⟩]) := fun v cs hv => by
          have h1 := putK_ok (forceV_ok v (K := fun v => putK te o.dst v fun te => forceL cs fun cs => forceB (tS.set kp (.cells cs)) fun tS => K te tS (fs ++ [⟨none, true⟩])) (all_holds (R := fun v cs => forceV v fun v => putK te o.dst v fun te => forceL cs fun cs => forceB (tS.set kp (.cells cs)) fun tS => K te tS (fs ++ [⟨none, true⟩])) h hv))
          exact hK _ _ _ (forceB_ok _ (K := fun tS => K _ tS (fs ++ [⟨none, true⟩])) (forceL_ok cs (K := fun cs => forceB (tS.set kp (.cells cs)) fun tS => K _ tS (fs ++ [⟨none, true⟩])) h1))
        rcases md3 hmd with rfl | rfl | rfl
        · skip
          refine wl_op ho hw (does_pcall c1 c2 c3 c4 c5 c6 c7 hsp false) ?_
          rintro v te' tS' ft ⟨ts', hv, rfl, rfl, -⟩
          exact fin v ts' hv
        · exact (hm rfl).elim
        · skip
          refine wd_op ho hw hn (does_pcall c1 c2 c3 c4 c5 c6 c7 hsp true) ?_
          rintro v te' tS' ft ⟨ts', hv, rfl, rfl, rfl⟩
          exact fin v ts' hv
      · exact h.elim
    · exact h.elim
theorem quiet_ok {Q : List TV → List TB → Prop} {md n0 k : Nat} {tS0 : List TB} (hmd : md ≤ 2) (ho : ops[k]? = some o) (hw : wantedT ops te o = some true) {K : KO} (hK : ∀ te tS fs, K te tS fs → Beh P ty iso call yf B ops Q md tS0 (k + 1) te tS fs)
    (hn : newB tS (nidT md n0 k tS) = true) {v : TV} (hb : Nb o) (hp : pureT P ty tt te tS o = some (v, True)) (h : putK te o.dst v fun te => K te tS (fs ++ [quietF])) : Beh P ty iso call yf B ops Q md tS0 k te tS fs := by
  have h1 := hK _ _ _ (putK_ok (K := fun te => K te tS (fs ++ [quietF])) h)
  rcases md3 hmd with rfl | rfl | rfl
  · skip
    refine wl_op ho hw (does_step (step_of_pure hb hp) trivial false) ?_
    rintro v' te' tS' ft ⟨rfl, rfl, rfl, -⟩
    exact h1
  · exact fun e => wq_pure ho hw (e ▸ hp) trivial (h1 e)
  · skip
    refine wd_op ho hw hn (does_step (step_of_pure hb hp) trivial true) ?_
    rintro v' te' tS' ft ⟨rfl, rfl, rfl, rfl⟩
    rw [bin_wr hb]
    exact h1
theorem op_ok (hT : TblOK T iso call) {Q : List TV → List TB → Prop} {md n0 k : Nat} {tS0 : List TB} (hmd : md ≤ 2) (ho : ops[k]? = some o) (hw : wantedT ops te o = some true) {K : KO} (hK : ∀ te tS fs, K te tS fs → Beh P ty iso call yf B ops Q md tS0 (k + 1) te tS fs)
    (h : opK P ty tt T md n0 k o te tS fs K) : Beh P ty iso call yf B ops Q md tS0 k te tS fs := by
  unfold opK at h
  split at h
  · exact h.elim
  · rename_i hn
    split at h
    · exact call_ok hT hmd ho hw hK hn h
    · split at h
      · rename_i v c ha
        exact quiet_ok hmd ho hw hK hn (arith_bin ha) (arith_pure (tt := tt) ha h.1) h.2
      · split at h
        · rename_i b _ hb
          exact quiet_ok hmd ho hw hK hn (cmp_bin hb) (cmp_pure (tt := tt) hb) h
        · have key : md ≠ 1 → ∀ q : TR, stepT P ty tt te tS o (nidT md n0 k tS) = some q → q.c → K (putTV q.te o.dst q.v) q.tS (fs ++ [⟨some q.foot, wrOf o⟩]) → Beh P ty iso call yf B ops Q md tS0 k te tS fs := by
            intro hm q hq hc hk
            have h1 := hK _ _ _ hk
            rcases md3 hmd with rfl | rfl | rfl
            · skip
              refine wl_op ho hw (does_step hq hc false) ?_
              rintro v' te' tS' ft ⟨rfl, rfl, rfl, -⟩
              exact h1
            · exact (hm rfl).elim
            · skip
              refine wd_op ho hw hn (does_step hq hc true) ?_
              rintro v' te' tS' ft ⟨rfl, rfl, rfl, rfl⟩
              exact h1
          split at h
          · split at h
            · rename_i q hq
              have fin : ∀ {R : Prop}, q.2 → K (putTV te o.dst q.1) tS (fs ++ [quietF]) → Beh P ty iso call yf B ops Q 1 tS0 k te tS fs := fun {_} hc hk e => wq_pure ho hw (e ▸ (show pureT P ty tt te tS o = some (q.1, q.2) from hq)) hc (hK _ _ _ hk e)
              split at h
              · exact fin (R := True) h.1 (putK_ok (K := fun te => K te tS (fs ++ [quietF])) (forceV_ok q.1 (K := fun v => putK te o.dst v fun te => K te tS (fs ++ [quietF])) h.2))
              · rename_i hcond
                exact fin (R := True) (noC_pure hcond hq) (putK_ok (K := fun te => K te tS (fs ++ [quietF])) (forceV_ok q.1 (K := fun v => putK te o.dst v fun te => K te tS (fs ++ [quietF])) h))
            · exact h.elim
          · rename_i hm
            split at h
            · rename_i q hq
              split at h
              · refine key (fun e => hm e) q hq h.1 ?_
                have h1 := forceL_ok q.te (forceV_ok q.v (K := fun v => forceL q.te fun te => putK te o.dst v fun te => forceB q.tS fun tS => K te tS (fs ++ [⟨some q.foot, wrOf o⟩])) h.2)
                exact forceB_ok q.tS (K := fun tS => K _ tS _) (putK_ok h1)
              · rename_i hcond
                refine key (fun e => hm e) q hq (noC_step hcond hq) ?_
                have h1 := putK_ok (forceV_ok q.v (K := fun v => putK q.te o.dst v fun te => forceB q.tS fun tS => K te tS (fs ++ [⟨some q.foot, wrOf o⟩])) h)
                exact forceB_ok q.tS (K := fun tS => K _ tS _) h1
            · exact h.elim
theorem gd_ok {b : Bool} (h : gdT ops te o = .no b) : wantedT ops te o = some b := by
  unfold gdT at h
  unfold wantedT
  split at h
  · cases h; rename_i e; rw [e]
  · rename_i e
    rw [e]
    dsimp only
    split at h
    · rename_i e1
      rw [e1]
      dsimp only
      split at h
      · cases h
      · cases h
      · cases h
        rename_i v hv e2
        rw [e2]
        split <;> simp_all
      · cases h
    · cases h; rename_i e1; rw [e1]
theorem gd_ask {d : Tmp} {b want : Bool} (h : gdT ops te o = .ask d b want) : te[d]? = some (.val (.bool b)) ∧ wantedT ops te o = some (match want with | true => b | false => !b) := by
  unfold gdT at h
  unfold wantedT
  split at h
  · cases h
  · rename_i e
    rw [e]
    dsimp only
    split at h
    · rename_i e1
      rw [e1]
      dsimp only
      split at h
      · cases h; rename_i e2; rw [e2]; cases want <;> exact ⟨rfl, rfl⟩
      · cases h
      · cases h
      · cases h
    · cases h
theorem ops_ok (hT : TblOK T iso call) {Q : List TV → List TB → Prop} {md n0 : Nat} {tS0 : List TB} (hmd : md ≤ 2) {K : KO} (hK : ∀ te tS fs, K te tS fs → Beh P ty iso call yf B ops Q md tS0 ops.size te tS fs) :
    ∀ (r : List Oper) (k : Nat) (te : List TV) (tS : List TB) (fs : List Foot), ops.toList.drop k = r → vcOps P ty tt T md n0 ops r k te tS fs K → Beh P ty iso call yf B ops Q md tS0 k te tS fs
  | [], k, te, tS, fs, hr, h => by
    have hk : ops.size ≤ k := by
      have := List.drop_eq_nil_iff.1 hr
      simpa using this
    have h1 := hK te tS fs h
    rcases md3 hmd with rfl | rfl | rfl
    · intro ι env S hR hB; have := h1 ι env S hR hB; rw [List.drop_eq_nil_of_le (by simp)] at this; rw [List.drop_eq_nil_of_le (by simpa using hk)]; exact this
    · intro e ι env S hR; have := h1 e ι env S hR; rw [List.drop_eq_nil_of_le (by simp)] at this; rw [List.drop_eq_nil_of_le (by simpa using hk)]; exact this
    · skip
      intro ι w env S n0 hR hB hw hn
      have := h1 ι w env S n0 hR hB hw (fun j hj hj' => by omega)
      rw [List.drop_eq_nil_of_le (by simp)] at this
      rw [List.drop_eq_nil_of_le (by simpa using hk)]
      obtain ⟨env', S', fs', ι', w', te', tS', ft, e1, e2, e3, e4, e5, e6, e7, e8, e9⟩ := this
      exact ⟨env', S', fs', ι', w', te', tS', ft, e1, e2, fun j _ => e3 j fun i hi hi' => by omega, e4, e5, e6, e7, ⟨e8.1, fun j _ hn => e8.2 j (fun i hi hi' => by omega) hn⟩, e9⟩
  | o :: r, k, te, tS, fs, hr, h => by
    obtain ⟨ho, hr'⟩ := get_of_drop hr
    have ih : ∀ te tS fs, vcOps P ty tt T md n0 ops r (k + 1) te tS fs K → Beh P ty iso call yf B ops Q md tS0 (k + 1) te tS fs := fun te tS fs => ops_ok hT hmd hK r (k + 1) te tS fs hr'.symm
    simp only [vcOps] at h
    split at h
    · rename_i hg
      exact op_ok hT hmd ho (gd_ok hg) ih h
    · rename_i hg
      exact skip_ok hmd ho (gd_ok hg) ih h
    · rename_i d b want hg
      obtain ⟨h1, h2⟩ := gd_ask hg
      split at h
      · obtain ⟨k1, k2⟩ := vcIf_elim h
        cases b with
        | true => have := setK_ok te d _ (k1 rfl); rw [set_same h1] at this; exact op_ok hT hmd ho h2 ih this
        | false => have := setK_ok te d _ (k2 rfl); rw [set_same h1] at this; exact skip_ok hmd ho h2 ih this
      · obtain ⟨k1, k2⟩ := vcIf_elim h
        cases b with
        | true => have := setK_ok te d _ (k1 rfl); rw [set_same h1] at this; exact skip_ok hmd ho h2 ih this
        | false => have := setK_ok te d _ (k2 rfl); rw [set_same h1] at this; exact op_ok hT hmd ho h2 ih this
    · exact h.elim
end Go.Tv
end
section
namespace Go.Tv
open Go Go.Di Go.Proofs
variable {P : Program} {ty : Tys} {tt : TypeId → Option TT} {T : Tbl} {ι ι' w : Ids} {S S' : Store} {te te1 : List TV} {env : List DV} {tS tS1 : List TB} {iso : IsoF} {call : CallF} {yf : YldF} {o : Oper} {nid nT B : Nat} {r : TR} {ops : Array Oper} {fn : FuncId} {rnd : Bool} {fs : List Foot}
def LA.St : LA → Type
  | .ex α k => (x : α) × (k x).St
  | .st _ => Unit
  | .un _ => Empty
  | .dep _ => Empty
def LA.bd : (la : LA) → la.St → Bd
  | .ex _ k, ⟨x, s⟩ => (k x).bd s
  | .st b, _ => b
theorem la_some {K : Bd → Prop} : ∀ {la : LA}, la.some K → ∃ s : la.St, K (la.bd s)
  | .ex _ k, ⟨x, h⟩ => by
    obtain ⟨s, h1⟩ := la_some (la := k x) h
    exact ⟨⟨x, s⟩, h1⟩
  | .st b, h => ⟨(), h⟩
  | .un _, h => h.elim
  | .dep _, h => h.elim
theorem la_at {K : Bd → Prop} : ∀ {la : LA}, la.all K → ∀ s : la.St, K (la.bd s)
  | .ex _ _, h, ⟨x, s⟩ => la_at (h x) s
  | .st _, h, _ => h
theorem entry_ok {b : Bd} {keep : Nat} {K : Prop} (h : entryK B b keep te tS K) : Fits B (headE b.sl keep 0 te) (headS b tS) te tS ∧ conjE b.good ∧ K := by
  obtain ⟨h0, h⟩ := vcIf_no h
  simp only [Bool.and_eq_true] at h0
  obtain ⟨l1, e1, k1, h⟩ := ask_elim h
  obtain ⟨l2, e2, k2, h⟩ := ask_elim h
  obtain ⟨h3, h4⟩ := conj_elim h
  exact ⟨⟨headP_ok e1 k1, headBP_ok e2 k2, h0.1, fun k hk => List.all_eq_true.1 h0.2 k (List.mem_range.2 hk)⟩, h3, h4⟩
theorem back_ok {b : Bd} {K : Prop} (h : backK B te1 tS1 b te tS K) : Fits B te1 tS1 te tS ∧ conjE b.good ∧ K := by
  obtain ⟨h0, h⟩ := vcIf_no h
  simp only [Bool.and_eq_true] at h0
  obtain ⟨l1, e1, k1, h⟩ := ask_elim h
  obtain ⟨l2, e2, k2, h⟩ := ask_elim h
  obtain ⟨h3, h4⟩ := conj_elim h
  exact ⟨⟨leTl_ok e1 k1, leBl_ok e2 k2, h0.1, fun k hk => List.all_eq_true.1 h0.2 k (List.mem_range.2 hk)⟩, h3, h4⟩
theorem un_ok {c : Code} {Q : DX → List TV → List TB → Prop} {f : List TV → List TB → (List TV → List TB → Prop) → Prop} (hf : ∀ te tS K', f te tS K' → WT P ty iso call yf B LL fn rnd c te tS fun e te tS => match e with | .normal => K' te tS | e => Q e te tS) :
    ∀ (n : Nat) (te : List TV) (tS : List TB), unK f n te tS → WI P ty iso call yf B LL fn rnd n c te tS Q
  | 0, _, _, h => h.elim
  | n + 1, te, tS, h => wi_step ((hf te tS _ h).mono fun e te tS hq => by
      cases e with
      | normal => exact un_ok hf n te tS hq
      | exit id => exact hq
      | ret => exact hq)
theorem setOp_ok {x : Operand} {v : Bool} {K : List TV → Prop} (hx : evT te x = some (.val (.bool v))) (h : setOp x te v K) : K te := by
  cases x with
  | tmp t =>
    simp only [evT, Option.some.injEq] at hx
    have := setK_ok te t _ (h : setK te t _ K)
    rwa [set_same] at this
    rw [List.getD_eq_getElem?_getD] at hx
    cases e : te[t]? with
    | none => rw [e] at hx; cases hx
    | some a => rw [e] at hx; exact congrArg some hx
  | _ => exact h
theorem wt_region (hT : TblOK T iso call) {id : Nat} {draw : Bool} {J : List (Nat × LA)} {i lv : Nat} {Q : DX → List TV → List TB → Prop} (h : vcC P ty tt T B J (.region id ops draw) i lv te tS Q) : WT P ty iso call yf B LL fn rnd (.region id ops draw) te tS Q := by
  simp only [vcC] at h
  split at h
  · split at h
    · rename_i hn
      obtain ⟨hd, h⟩ := vcIf_no h
      refine wt_drawn hd hn ?_
      exact ops_ok (md := 2) (n0 := tS.length) (tS0 := tS) (Q := fun te tS => Q .normal te (trimT tS)) hT (by omega) (fun te tS fs hk => by
        obtain ⟨hm, hk⟩ := vcIf_no hk
        exact wd_end (Nat.le_refl _) hm hk) ops.toList 0 te _ [] rfl h
    · obtain ⟨hd, h⟩ := vcIf_no h
      refine wt_quiet hd ?_
      exact ops_ok (B := B) (md := 1) (n0 := 0) (tS0 := tS) (Q := fun te tS => Q .normal te tS) hT (by omega) (fun te tS fs hk _ => wq_end (Nat.le_refl _) hk) ops.toList 0 te _ [] rfl h rfl
  · refine wt_plain ?_
    exact ops_ok (md := 0) (n0 := 0) (tS0 := tS) (Q := fun te tS => Q .normal te (trimT tS)) hT (by omega) (fun te tS fs hk => wl_end (Nat.le_refl _) hk) ops.toList 0 te _ [] rfl h
theorem vc_ok (hT : TblOK T iso call) {J : List (Nat × LA)} : ∀ (c : Code) (i lv : Nat) (te : List TV) (tS : List TB) (Q : DX → List TV → List TB → Prop), vcC P ty tt T B J c i lv te tS Q → WT P ty iso call yf B LL fn rnd c te tS Q
  | .skip, _, _, _, _, _, h => wt_skip h
  | .label _, _, _, _, _, _, h => wt_label h
  | .exit _, _, _, _, _, _, h => wt_exit h
  | .ret, _, _, _, _, _, h => wt_ret h
  | .scope c, i, lv, te, tS, Q, h => wt_scope (vc_ok hT c i lv te tS Q h)
  | .block id c, i, lv, te, tS, Q, h => by
    refine wt_block ((vc_ok hT c i lv te tS _ h).mono fun e te tS hq => ?_)
    cases e with
    | normal => exact hq
    | ret => exact hq
    | exit id' =>
      dsimp only at hq ⊢
      split <;> simp_all
  | .cond x a b, i, lv, te, tS, Q, h => by
    simp only [vcC] at h
    split at h
    · rename_i t hx
      obtain ⟨h1, h2⟩ := vcIf_elim h
      refine wt_cond hx (fun e => ?_) (fun e => ?_)
      · subst e; exact vc_ok hT a i lv te tS Q (setOp_ok hx (h1 rfl))
      · subst e; exact vc_ok hT b (i + cnt a) lv te tS Q (setOp_ok hx (h2 rfl))
    · exact h.elim
  | .seq a b, i, lv, te, tS, Q, h => by
    simp only [vcC] at h
    split at h
    · rename_i la _
      obtain ⟨h1, h2⟩ := h
      refine wt_join (fun s : la.St => (headE (la.bd s).sl ((lv ||| uses b) &&& (2 ^ 400 - 1 - (defs a))) 0 te, headS (la.bd s) tS)) (fun s => conjE (la.bd s).good) ((vc_ok hT a (i + 1) (lv ||| uses b) te tS _ h1).mono fun e te' tS' hq => ?_) fun s hg => vc_ok hT b (i + 1 + cnt a) lv _ _ Q (impl_elim (la_at h2 s) hg)
      cases e with
      | normal =>
        obtain ⟨s, hs⟩ := la_some hq
        obtain ⟨k1, k2, -⟩ := back_ok hs
        exact ⟨s, k1, k2⟩
      | exit id => exact hq
      | ret => exact hq
    · refine wt_seq ((vc_ok hT a (i + 1) (lv ||| uses b) te tS _ h).mono fun e te tS hq => ?_)
      cases e with
      | normal => exact vc_ok hT b _ _ te tS Q hq
      | exit id => exact hq
      | ret => exact hq
  | .loop c, i, lv, te, tS, Q, h => by
    simp only [vcC] at h
    split at h
    · refine wt_unroll (by unfold LL; omega) (un_ok (fun te tS K' hf => (vc_ok hT c _ _ te tS _ hf).mono fun e te tS hq => ?_) _ te tS h)
      cases e with
      | normal => exact hq
      | exit id => exact hq
      | ret => exact hq
    · rename_i la _ _
      obtain ⟨h1, h2⟩ := h
      obtain ⟨s0, h1⟩ := la_some h1
      obtain ⟨k1, k2, k3⟩ := entry_ok h1
      refine wt_loop (fun s : la.St => (headE (la.bd s).sl ((lv ||| uses c) &&& (2 ^ 400 - 1 - (defs c))) 0 te, headS (la.bd s) tS)) (fun s => conjE (la.bd s).good) (fun s => (la.bd s).m) s0 k1 k2 k3 fun s hg => (vc_ok hT c (i + 1) (lv ||| uses c) _ _ _ (impl_elim (la_at h2 s) hg)).mono fun e te' tS' hq => ?_
      cases e with
      | normal =>
        obtain ⟨s', hs⟩ := la_some hq
        obtain ⟨k1, k2, k3⟩ := back_ok hs
        exact ⟨s', k1, k2, k3⟩
      | exit id => exact hq
      | ret => exact hq
    · exact h.elim
  | .region id ops draw, i, lv, te, tS, Q, h => wt_region hT h
  | .rangeFunc .., _, _, _, _, _, h => (by simp only [vcC] at h)
  | .goto _, _, _, _, _, _, h => (by simp only [vcC] at h)
  | .refuse _, _, _, _, _, _, h => (by simp only [vcC] at h)
theorem sp_mono {K K' : TV → List TV → List Prop → Prop} (hK : ∀ v cs f, K v cs f → K' v cs f) : ∀ {s : SpT}, s.some K → s.some K'
  | .ex _ k, ⟨x, h⟩ => ⟨x, sp_mono (s := k x) hK h⟩
  | .res _ _ _, h => hK _ _ _ h
theorem end_f {F : List TV → List TB → Prop} {E : DX → List TV → List TB → Prop} (h1 : ∀ te tS, F te tS → E .normal te tS ∧ E .ret te tS) : ∀ {e : DX} {te : List TV} {tS : List TB}, endF F e te tS → E e te tS
  | .normal, _, _, h => (h1 _ _ h).1
  | .ret, _, _, h => (h1 _ _ h).2
  | .exit _, _, _, h => h.elim
theorem fin_i {rs : List ResultVar} {rts : List (Option TT)} {s : SpT} (h : finI ty rs rts s te tS) : EndI ty rs rts (fun v => s.holdsV v) .normal te tS ∧ EndI ty rs rts (fun v => s.holdsV v) .ret te tS := by
  unfold finI at h
  split at h
  · rename_i vs hv
    obtain ⟨h0, h⟩ := vcIf_no h
    simp only [Bool.and_eq_true, List.isEmpty_iff] at h0
    have : ∃ vs, resT ty te tS rs = some vs ∧ vs.all pureB = true ∧ refs (oneV (normL rts vs)) = [] ∧ s.holdsV (oneV (normL rts vs)) := by
      refine ⟨vs, hv, h0.1, h0.2, sp_mono (fun v cs f hk => ?_) h⟩
      obtain ⟨l, h1, h2, h3⟩ := ask_elim hk
      exact ⟨eqT_ok h1 h2, h3⟩
    exact ⟨⟨trivial, this⟩, trivial, this⟩
  · exact h.elim
theorem fin_c {rs : List ResultVar} {rts cts : List (Option TT)} {s : SpT} (h : finC ty rs rts cts s te tS) : EndC ty rs rts cts (fun v cs => s.holds v cs) .normal te tS ∧ EndC ty rs rts cts (fun v cs => s.holds v cs) .ret te tS := by
  unfold finC at h
  split at h
  · rename_i vs ts l hv
    obtain ⟨h0, h⟩ := vcIf_no h
    simp only [Bool.and_eq_true, List.isEmpty_iff] at h0
    have : s.holds (oneV (normL rts vs)) (normL cts ts) := by
      refine sp_mono (fun v cs f hk => ?_) h
      obtain ⟨l, h1, h2, hk⟩ := ask_elim hk
      obtain ⟨l', h3, h4, h5⟩ := ask_elim hk
      exact ⟨eqT_ok h1 h2, eqL_ok h3 h4, h5⟩
    exact ⟨⟨trivial, vs, ts, hv, h0.1.1, h0.1.2, rfl, h0.2.1, h0.2.2, this⟩, trivial, vs, ts, hv, h0.1.1, h0.1.2, rfl, h0.2.1, h0.2.2, this⟩
  · exact h.elim
theorem fin_n {rs : List ResultVar} {cts : List (Option TT)} {s : SpT} (h : finN ty rs cts s te tS) : EndN ty rs cts (fun cs => s.holdsN cs) .normal te tS ∧ EndN ty rs cts (fun cs => s.holdsN cs) .ret te tS := by
  unfold finN at h
  split at h
  · rename_i ts l hv
    obtain ⟨h0, h⟩ := vcIf_no h
    simp only [Bool.and_eq_true, List.isEmpty_iff] at h0
    have : s.holdsN (normL cts ts) := by
      refine sp_mono (fun v cs f hk => ?_) h
      obtain ⟨l', h3, h4, h5⟩ := ask_elim hk
      exact ⟨eqL_ok h3 h4, h5⟩
    exact ⟨⟨trivial, ts, hv, rfl, h0.1, h0.2, this⟩, trivial, ts, hv, rfl, h0.1, h0.2, this⟩
  · exact h.elim
def resMask (rs : List ResultVar) : Nat := rs.foldl (fun a x => match x with | .tmp t => a ||| 2 ^ t | .cell t _ => a ||| 2 ^ t) 0
def padT (n : Nat) (l : List TV) : List TV := l ++ List.replicate (n - l.length) .unk
def vcI (T : Tbl) (f : Func) (c : Code) (rts : List (Option TT)) (J : List (Nat × LA)) (a : List TV) (s : SpT) : Prop := forceL (padT f.ntmps a) fun te => vcC Tp Ty ttb T 0 J c 0 (resMask f.results.toList) te [] (endF (finI Ty f.results.toList rts s))
def vcCC (T : Tbl) (f : Func) (c : Code) (rts cts : List (Option TT)) (J : List (Nat × LA)) (a cs : List TV) (s : SpT) : Prop := forceL (padT f.ntmps a) fun te => vcC Tp Ty ttb T 1 J c 0 (resMask f.results.toList) te [.cells cs] (endF (finC Ty f.results.toList rts cts s))
def vcN (T : Tbl) (f : Func) (c : Code) (cts : List (Option TT)) (J : List (Nat × LA)) (a : List TV) (s : SpT) : Prop := forceL (padT f.ntmps a) fun te => vcC Tp Ty ttb T 0 J c 0 (resMask f.results.toList) te [] (endF (finN Ty f.results.toList cts s))
def TOK (tab : IsoF) (k : Nat) (T : Tbl) : Prop := ∀ n, TblOK T (isoT tab (n + k)) (callT' tab (n + k))
def Tbl.addI (T : Tbl) (f : FuncId) (S : List TV → Sp) : Tbl := { T with I := fun g a => if g = f then S a else T.I g a }
def Tbl.addC (T : Tbl) (f : FuncId) (S : List TV → List TV → Sp) : Tbl := { T with C := fun g a c => if g = f then S a c else T.C g a c }
def Tbl.addN (T : Tbl) (f : FuncId) (S : List TV → Sp) : Tbl := { T with N := fun g a => if g = f then S a else T.N g a }
variable {tab : IsoF} {k : Nat}
theorem tok_up (h : TOK tab k T) : TOK tab (k + 1) T := fun n => by have := h (n + 1); rwa [Nat.add_right_comm, Nat.add_assoc] at this
theorem spec_i (tk : TabK tab) {f : FuncId} {fn : Func} {c : Code} {rts : List (Option TT)} {S : List TV → Sp} {J : List TV → List (Nat × LA)} (hT : TOK tab k T) (hne : f ≠ 51 ∧ f ≠ 110 ∧ f ≠ 17) (hf : Tp.funcs[f]? = some fn) (hb : fn.body = some c) (h : ∀ a p s, S a = some (p, s) → conjE p → vcI T fn c rts (J a) a s) :
    ∀ n a p s, S a = some (p, s) → conjE p → ISpec (isoT tab (n + (k + 1))) f a fun v => s.holdsV v := fun n a p s hs hp =>
  ispec_of (n := n + k) hf hb (fun _ => tk.other _ _ hne.1 hne.2.1 hne.2.2) ((vc_ok (hT n) c _ _ _ _ _ (forceL_ok _ (h a p s hs hp))).mono fun _ _ _ hq => end_f (fun _ _ => fin_i) hq)
theorem spec_n (tk : TabK tab) {f : FuncId} {fn : Func} {c : Code} {cts : List (Option TT)} {S : List TV → Sp} {J : List TV → List (Nat × LA)} (hT : TOK tab k T) (hne : f ≠ 51 ∧ f ≠ 110 ∧ f ≠ 17) (hf : Tp.funcs[f]? = some fn) (hb : fn.body = some c) (h : ∀ a p s, S a = some (p, s) → conjE p → vcN T fn c cts (J a) a s) :
    ∀ n a p s, S a = some (p, s) → conjE p → NSpec (isoT tab (n + (k + 1))) (callT' tab (n + (k + 1))) f a fun cs => s.holdsN cs := fun n a p s hs hp =>
  nspec_of (n := n + k) hf hb (fun _ => tk.other _ _ hne.1 hne.2.1 hne.2.2) ((vc_ok (hT n) c _ _ _ _ _ (forceL_ok _ (h a p s hs hp))).mono fun _ _ _ hq => end_f (fun _ _ => fin_n) hq)
theorem tok_i {f : FuncId} {S : List TV → Sp} (hT : TOK tab k T) (h : ∀ n a p s, S a = some (p, s) → conjE p → ISpec (isoT tab (n + k)) f a fun v => s.holdsV v) : TOK tab k (T.addI f S) := fun n => ⟨fun g a p s hs hp => by
  simp only [Tbl.addI] at hs
  split at hs
  · rename_i e; subst e; exact h n a p s hs hp
  · exact (hT n).I g a p s hs hp, (hT n).C, (hT n).N⟩
theorem tok_c {f : FuncId} {S : List TV → List TV → Sp} (hT : TOK tab k T) (h : ∀ n a cs p s, S a cs = some (p, s) → conjE p → CSpec (callT' tab (n + k)) f a cs fun v cs => s.holds v cs) : TOK tab k (T.addC f S) := fun n => ⟨(hT n).I, fun g a cs p s hs hp => by
  simp only [Tbl.addC] at hs
  split at hs
  · rename_i e; subst e; exact h n a cs p s hs hp
  · exact (hT n).C g a cs p s hs hp, (hT n).N⟩
theorem tok_n {f : FuncId} {S : List TV → Sp} (hT : TOK tab k T) (h : ∀ n a p s, S a = some (p, s) → conjE p → NSpec (isoT tab (n + k)) (callT' tab (n + k)) f a fun cs => s.holdsN cs) : TOK tab k (T.addN f S) := fun n => ⟨(hT n).I, (hT n).C, fun g a p s hs hp => by
  simp only [Tbl.addN] at hs
  split at hs
  · rename_i e; subst e; exact h n a p s hs hp
  · exact (hT n).N g a p s hs hp⟩
def T0 : Tbl where
  I := fun g a => match g, a with
    | 17, [] => some ([], .res (bval true) [] [])
    | _, _ => none
  C := fun _ _ _ => none
  N := fun _ _ => none
theorem tok_0 (tk : TabK tab) : TOK tab 0 T0 := by
  intro n
  refine ⟨fun g a p s hs _ => ?_, fun _ _ _ _ _ hs => (by cases hs), fun _ _ _ _ hs => (by cases hs)⟩
  simp only [T0] at hs
  split at hs
  · cases hs
    intro dargs hd
    rw [rtl_nil' hd]
    refine ⟨.val (.bool true), bval true, ?_, rfl, by simp only [RT], rfl, rfl, trivial⟩
    simp only [isoN, isoOf, tk.fit, DV.pure, DV.pure2, if_true]
  · cases hs
end Go.Tv
end
section
namespace Go.Tv
open Go Go.Di Go.Proofs
abbrev Dn := Option (List Prop × SpT × List (Nat × LA))
def dS (d : Dn) : Sp := d.map fun x => (x.1, x.2.1)
def dJ (d : Dn) : List (Nat × LA) := match d with
  | some x => x.2.2
  | none => []
def bodyC (f : Func) : Code := f.body.getD .skip
def VI (T : Tbl) (f : Func) (rts : List (Option TT)) (D : List TV → Dn) : Prop := ∀ a p s j, D a = some (p, s, j) → conjE p → vcI T f (bodyC f) rts j a s
def VC (T : Tbl) (f : Func) (rts cts : List (Option TT)) (D : List TV → List TV → Dn) : Prop := ∀ a cs p s j, D a cs = some (p, s, j) → conjE p → vcCC T f (bodyC f) rts cts j a cs s
def VN (T : Tbl) (f : Func) (cts : List (Option TT)) (D : List TV → Dn) : Prop := ∀ a p s j, D a = some (p, s, j) → conjE p → vcN T f (bodyC f) cts j a s
theorem d_some {d : Dn} {p : List Prop} {s : SpT} (h : dS d = some (p, s)) : d = some (p, s, dJ d) := by
  cases d with
  | none => cases h
  | some x => cases h; rfl
variable {tab : IsoF} {k : Nat} {T : Tbl}
theorem mkI (tk : TabK tab) (hT : TOK tab k T) {f : FuncId} {fn : Func} {rts : List (Option TT)} {D : List TV → Dn} (hne : f ≠ 51 ∧ f ≠ 110 ∧ f ≠ 17) (hf : Tp.funcs[f]? = some fn) (hb : fn.body.isSome = true) (h : VI T fn rts D) {T' : Tbl} (hT' : TOK tab (k + 1) T') : TOK tab (k + 1) (T'.addI f fun a => dS (D a)) :=
  tok_i hT' (spec_i tk hT hne hf (c := bodyC fn) (by unfold bodyC; revert hb; cases fn.body <;> simp) (rts := rts) (J := fun a => dJ (D a)) fun a p s hs hp => h a p s _ (d_some hs) hp)
theorem mkC (hT : TOK tab k T) {f : FuncId} {fn : Func} {rts cts : List (Option TT)} {D : List TV → List TV → Dn} (hf : Tp.funcs[f]? = some fn) (hb : fn.body.isSome = true) (h : VC T fn rts cts D) {T' : Tbl} (hT' : TOK tab (k + 1) T') : TOK tab (k + 1) (T'.addC f fun a c => dS (D a c)) :=
  tok_c hT' fun n a cs p s hs hp => cspec_of (n := n + k) hf (c := bodyC fn) (by unfold bodyC; revert hb; cases fn.body <;> simp) ((vc_ok (hT n) _ _ _ _ _ _ (forceL_ok _ (h a cs p s _ (d_some hs) hp))).mono fun _ _ _ hq => end_f (fun _ _ => fin_c) hq)
theorem mkN (tk : TabK tab) (hT : TOK tab k T) {f : FuncId} {fn : Func} {cts : List (Option TT)} {D : List TV → Dn} (hne : f ≠ 51 ∧ f ≠ 110 ∧ f ≠ 17) (hf : Tp.funcs[f]? = some fn) (hb : fn.body.isSome = true) (h : VN T fn cts D) {T' : Tbl} (hT' : TOK tab (k + 1) T') : TOK tab (k + 1) (T'.addN f fun a => dS (D a)) :=
  tok_n hT' (spec_n tk hT hne hf (c := bodyC fn) (by unfold bodyC; revert hb; cases fn.body <;> simp) (cts := cts) (J := fun a => dJ (D a)) fun a p s hs hp => h a p s _ (d_some hs) hp)
def nilE (α : Type) : Prop := ([] : List α) = []
theorem nil_e {α : Type} : nilE α = True := by simp [nilE]
theorem vcp {A B : Prop} (h : A = B) (a : A) : B := h ▸ a
theorem vc_iff {b : Bool} {A B : Prop} : vcIf b A B ↔ (b = true → A) ∧ (b = false → B) := by cases b <;> simp [vcIf]
theorem vc_dec {p : Prop} [Decidable p] {A B : Prop} : vcIf (decide p) A B ↔ (p → A) ∧ (¬p → B) := by rw [vc_iff]; simp
theorem vc_not {b : Bool} {A B : Prop} : vcIf (!b) A B ↔ vcIf b B A := by cases b <;> rfl
theorem vc_beq {a c : Int} {A B : Prop} : vcIf (a == c) A B ↔ (a = c → A) ∧ (¬a = c → B) := by rw [vc_iff]; simp
theorem vc_bne {a c : Int} {A B : Prop} : vcIf (a != c) A B ↔ (a = c → B) ∧ (¬a = c → A) := by rw [vc_iff]; simp [and_comm]
theorem vc_and {a b : Bool} {A B : Prop} : vcIf (a && b) A B ↔ vcIf a (vcIf b A B) B := by cases a <;> cases b <;> rfl
theorem vc_tt {A B : Prop} : vcIf true A B ↔ A := Iff.rfl
end Go.Tv
end
