/- The law CutKnown: part 17: Cd14 Cd15. By an AI agent. -/
import Derived.Test.YtadeehilamokkaaGreatDoorPk16
import Derived.Orders
section
namespace Go.Di
open Go Go.Conc Go.Co
variable {P : Program} {Final : Machine → Trace → Prop} {ty : Tys} {x : Cx} {iso : IsoF} {call : CallF} {yf : YldF}
theorem regs_all (h : ∀ id ops draw, RegOK P Final ty iso call yf id ops draw) : ∀ c, RegsOK P Final ty iso call yf c := by
  intro c
  induction c with
  | region id ops draw => exact h id ops draw
  | seq a b iha ihb => exact ⟨iha, ihb⟩
  | cond o a b iha ihb => exact ⟨iha, ihb⟩
  | block id c ih => exact ih
  | loop c ih => exact ih
  | scope c ih => exact ih
  | _ => trivial
def resS (tmps : Array Value) : ResultVar → Sem Value
  | .tmp t => pure (tmps.getD t undef)
  | .cell a t => do loadVar t (← asAddr (tmps.getD a undef))
theorem results_eq (fn : Func) (tmps : Array Value) : results fn tmps = (do let vs ← fn.results.mapM (resS tmps); pure (if h : vs.size = 1 then vs[0] else .tuple vs)) := by
  have : (fun | .tmp t => pure (tmps.getD t undef) | .cell a t => do loadVar t (← asAddr (tmps.getD a undef)) : ResultVar → Sem Value) = resS tmps := by
    funext r; cases r <;> rfl
  rw [← this]
  rfl
theorem resD_ok (hty : TyOk P ty) {env : List DV} {tmps : Array Value} (hR : Rel x) (he : RVs x env tmps) : ∀ {rs : List ResultVar} {l : List DV}, resD ty env x.S rs = some l →
    ∃ vs : List Value, (rs.mapM (resS tmps)).run P x.w = .ok vs x.w ∧ RVs x l vs.toArray
  | [], l, h => by
    simp only [resD, Option.some.injEq] at h
    subst h
    exact ⟨[], rfl, rfl, by simp⟩
  | .tmp t :: rs, l, h => by
    simp only [resD, Option.map_eq_some_iff] at h
    obtain ⟨l', h1, rfl⟩ := h
    obtain ⟨vs, h2, h3, h4⟩ := resD_ok hty hR he h1
    have hv : RV x (env.getD t dundef) (tmps.getD t undef) := evD_ok (a := ⟨tmps, []⟩) he (.tmp t) _ rfl
    refine ⟨tmps.getD t undef :: vs, by simp only [List.mapM_cons, resS, Sem.run_bind, Sem.run_pure, Result.andThen_ok, h2], by simpa using h3, fun j c hc => ?_⟩
    cases j with
    | zero => simp only [List.getElem?_cons_zero, Option.some.injEq] at hc; subst hc; exact hv
    | succ j => simpa [Array.getD_eq_getD_getElem?] using h4 j c (by simpa using hc)
  | .cell a t :: rs, l, h => by
    unfold resD at h
    split at h
    · rename_i d l' h0 h1
      cases h
      obtain ⟨vs, h2, h3, h4⟩ := resD_ok hty hR he h1
      have hv : RV x (env.getD a dundef) (tmps.getD a undef) := evD_ok (a := ⟨tmps, []⟩) he (.tmp a) _ rfl
      obtain ⟨v, h5, h6⟩ := loadD_ok hty hR hv h0
      have hrun : (resS tmps (.cell a t)).run P x.w = .ok v x.w := by
        show (do loadVar t (← asAddr (tmps.getD a undef)) : Sem Value).run P x.w = _
        generalize tmps.getD a undef = u at hv h5
        unfold loadD at h0
        generalize env.getD a dundef = da at hv h0
        split at h0
        · cases hv; simpa [Instr.loadAt, Instr.sureAddr, asAddr] using h5
        · cases hv; simpa [Instr.loadAt, Instr.sureAddr, asAddr] using h5
        · split at h0
          · rename_i hop
            obtain ⟨hS, hns⟩ := opD_spec hop
            cases hv with
            | optr hS' _ hA =>
              rw [hS] at hS'
              cases hS'
              rw [hA hns] at h5 ⊢
              simpa [Instr.loadAt, Instr.sureAddr, asAddr] using h5
          · cases h0
        · cases h0
      refine ⟨v :: vs, by simp only [List.mapM_cons, Sem.run_bind, hrun, Result.andThen_ok, h2, Sem.run_pure], by simpa using h3, fun j c hc => ?_⟩
      cases j with
      | zero => simp only [List.getElem?_cons_zero, Option.some.injEq] at hc; subst hc; exact h6
      | succ j => simpa [Array.getD_eq_getD_getElem?] using h4 j c (by simpa using hc)
    · cases h
theorem results_ok (hty : TyOk P ty) {fn : Func} {env : List DV} {tmps : Array Value} (hR : Rel x) (he : RVs x env tmps) {l : List DV} (h : resD ty env x.S fn.results.toList = some l) :
    ∃ v, (results fn tmps).run P x.w = .ok v x.w ∧ RV x (oneOf l) v := by
  obtain ⟨vs, h1, h2, h3⟩ := resD_ok hty hR he h
  have hm : (fn.results.mapM (resS tmps)).run P x.w = .ok vs.toArray x.w := by
    rw [Array.mapM_eq_mapM_toList]
    simp only [Sem.run_map, h1, Result.andThen_ok]
  refine ⟨if h : vs.toArray.size = 1 then vs.toArray[0] else .tuple vs.toArray, ?_, ?_⟩
  · rw [results_eq]
    simp only [Sem.run_bind, hm, Result.andThen_ok, Sem.run_pure]
  · match l, vs, h2, h3 with
    | [], [], _, _ => exact .tup rfl (by simp)
    | [d], [v], _, h3 => exact h3 0 d rfl
    | d :: e :: l, v :: u :: vs, h2, h3 => exact .tup (by simpa using h2) h3
    | [], _ :: _, h2, _ => simp at h2
    | [_], [], h2, _ => simp at h2
    | [_], _ :: _ :: _, h2, _ => simp at h2
    | _ :: _ :: _, [], h2, _ => simp at h2
    | _ :: _ :: _, [_], h2, _ => simp at h2
theorem rG_leave {b : Frame} {a : Act} {todo : List Item} {c : Frame} {cs : List Frame} {w : World} {fn : Func} {v : Value} (hn : b.kind = .normal) (hd : a.defers = []) (hf : P.funcs[b.fn]? = some fn) (hr : (results fn a.tmps).run P w = .ok v w) :
    ∃ es, stepG P true (G { b.at a todo with mode := .returning } (c :: cs)) w = .go (G (c.finish v) cs) w es := by
  simp only [G, stepG, unwind, doReturn, Frame.at, hn, hd, hf, Sem.runT_eq, hr, GStep.after]
  exact ⟨_, rfl⟩
theorem rG_take {b : Frame} {a : Act} {todo : List Item} {cs : List Frame} {w w' : World} {r : Nat} {ds : List Deferred} (hd : a.defers = { target := .collected r, args := #[] } :: ds) (hr : (Instr.takeDeferred r).run P w = .ok [] w') :
    ∃ es, stepG P true (G { b.at a todo with mode := .returning } cs) w = .go (G { b.at { a with defers := ds } todo with mode := .returning } cs) w' es := by
  simp only [G, stepG, unwind, Frame.at, hd, Sem.runT_eq, hr, GStep.after, List.nil_append]
  exact ⟨_, rfl⟩
theorem take_ok {x0 : Cx} (M : Mono x0 x) (hR : Rel x) {id : Nat} (hid : x0.S.length ≤ id) (hS : x.S[id]? = some .defer) :
    Rel { x with w := setObjW x.w (x.μ id) (.deferred none) } ∧ Mono x0 { x with w := setObjW x.w (x.μ id) (.deferred none) } ∧ ∀ d v, RV x d v → RV { x with w := setObjW x.w (x.μ id) (.deferred none) } d v := by
  have hlive := live_of hS (show DB.defer ≠ .none by simp)
  have hnl0 : ∀ i, Live x0.S i → i ≠ id := by
    rintro i ⟨c, hc, -⟩ rfl
    have := (List.getElem?_eq_some_iff.1 hc).1
    omega
  have hfresh : x0.w.heap.size ≤ x.μ id := by
    rcases M.live id hlive with ⟨h, -⟩ | h
    · grind
    · exact h
  have hother : ∀ b, b ≠ x.μ id → (setObjW x.w (x.μ id) (.deferred none)).heap[b]? = x.w.heap[b]? := fun b hb => setObjW_other _ _ _ hb
  have hfz : ∀ b o, x.Fz b o → (setObjW x.w (x.μ id) (.deferred none)).cell? ⟨b, o, none⟩ = x.w.cell? ⟨b, o, none⟩ := fun b o h => cell_of_block (hother b (by rintro rfl; exact hR.fz_obj hS rfl o h)) o
  have hrv : ∀ d v, RV x d v → RV { x with w := setObjW x.w (x.μ id) (.deferred none) } d v := by
    intro d v h
    induction h with
    | val h => exact .val h
    | agg h _ ih => exact .agg h ih
    | tup h _ ih => exact .tup h ih
    | sl hv _ h1 h2 h3 hsp h4 ih => exact .sl (View.mono (x := x) (y := { x with w := setObjW x.w (x.μ id) (.deferred none) }) (fun b o h => ⟨h, hfz b o h⟩) hv) ih h1 h2 h3 hsp h4
    | ptr h => exact .ptr h
    | eptr hv _ ih => exact .eptr (View.mono (x := x) (y := { x with w := setObjW x.w (x.μ id) (.deferred none) }) (fun b o h => ⟨h, hfz b o h⟩) hv) ih
    | fn h1 h2 _ _ ih1 ih2 => exact .fn h1 h2 ih1 ih2
    | map h => exact .map h
    | yld h => exact .yld h
    | slo h h1 h2 => exact .slo h h1 h2
    | optr h h1 h2 => exact .optr h h1 h2
  have hne : ∀ i b, x.S[i]? = some b → b ≠ .none → i ≠ id → x.μ i ≠ x.μ id := fun i b hi hb h e => h (hR.inj i id (live_of hi hb) hlive e)
  obtain ⟨ob, hob, -⟩ := hR.objs id _ hS rfl
  refine ⟨⟨fun i l hl => ?_, fun i e s n hl => ?_, fun i b hb hobj => ?_, hR.inj, fun b o h => ?_, hR.sep, hR.sept, fun i e s l z hl => ?_, hR.glob.keep fun b o h => ⟨h, hfz b o h⟩⟩, ⟨?_, M.env, fun b o h => ⟨(M.fz b o h).1, ?_⟩, M.nfz, fun b hb hn => ?_, M.len, M.cells, fun i b hb hobj => ?_, M.tails, M.live, M.ops⟩, hrv⟩
  · obtain ⟨arr, e, h1, h2, h3⟩ := hR.cells i l hl
    exact ⟨arr, e, (hother _ (hne i _ hl (by simp) (by rintro rfl; rw [hS] at hl; cases hl))).trans h1, h2, fun j c hc => hrv _ _ (h3 j c hc)⟩
  · obtain ⟨arr, h1, h2⟩ := hR.tails i e s n hl
    exact ⟨arr, (hother _ (hne i _ hl (by simp) (by rintro rfl; rw [hS] at hl; cases hl))).trans h1, h2⟩
  · by_cases h : i = id
    · subst h
      rw [hS] at hb
      cases hb
      exact ⟨_, setObjW_same _ _ _ _ hob, trivial⟩
    · obtain ⟨o, h1, h2⟩ := hR.objs i b hb hobj
      refine ⟨o, (hother _ (hne i _ hb (obj_live hobj) h)).trans h1, ?_⟩
      cases b <;> cases o <;> simp only [ObjOK] at h2 ⊢ <;> first | exact h2 | trivial | (obtain ⟨q1, q2, q3, q4, q5⟩ := h2; exact ⟨q1, q2, q3, ⟨q4.1, fun j c hc => hrv _ _ (q4.2 j c hc)⟩, q5⟩)
  · obtain ⟨v, hv⟩ := hR.frz b o h
    exact ⟨v, (hfz b o h).trans hv⟩
  · obtain ⟨arr, h1, h2, h3, h4, h5, h6⟩ := hR.ops i e s l z hl
    exact ⟨arr, (hother _ (hne i _ hl (by simp) (by rintro rfl; rw [hS] at hl; cases hl))).trans h1, h2, h3, h4, fun j c hc => ⟨(h5 j c hc).1, hrv _ _ (h5 j c hc).2⟩, h6⟩
  · show _ ≤ (setObjW x.w _ _).heap.size
    simp only [setObjW, Array.size_setIfInBounds]
    exact M.size
  · exact (hfz b o (M.fz b o h).1).trans (M.fz b o h).2
  · exact (hother b (by omega)).trans (M.old b hb hn)
  · obtain ⟨q1, q2, q3⟩ := M.objs i b hb hobj
    refine ⟨q1, q2, fun hd => (hother _ ?_).trans (q3 hd)⟩
    rw [← q1]
    obtain ⟨b', q4, q5⟩ := q2
    exact hne i b' q4 (obj_live (like_obj q5).2) (hnl0 i (live_of hb (obj_live hobj)))
theorem mu_leave (hP : Plain P) (hty : TyOk P ty) {x0 : Cx} {b : Frame} {todo : List Item} {c : Frame} {cs : List Frame} {fn : Func} {env : List DV} {l : List DV} (hb : b.kind = .normal) (hf : P.funcs[b.fn]? = some fn) {Sr : Store} :
    ∀ (ds : List Nat) {a : Act} {x : Cx}, x.S = Sr → Rel x → Mono x0 x → RVs x env a.tmps → DefOK x0.S.length x ds a.defers → resD ty env Sr fn.results.toList = some l →
      (∀ y v, y.S = Sr → Rel y → Mono x0 y → RV y (oneOf l) v → KMu P Final () (G (c.finish v) cs) y.w) → KMu P Final () (G { b.at a todo with mode := .returning } (c :: cs)) x.w
  | [], a, x, hS, hR, hM, he, hd, hr, hn => by
    refine mu_step hP fun n => ?_
    have hd0 : a.defers = [] := hd.1
    obtain ⟨v, h1, h2⟩ := results_ok (x := x.dr n) hty (hR.dr n) (he.mono (mono_dr x n)) (l := l) (by show resD ty env x.S _ = _; rw [hS]; exact hr)
    obtain ⟨es, hst⟩ := rG_leave (P := P) (b := b) (a := a) (todo := todo) (c := c) (cs := cs) hb hd0 hf h1
    exact ⟨_, _, _, es, hst, hn (x.dr n) v hS (hR.dr n) (hM.trans (mono_dr x n)) h2⟩
  | id :: ds, a, x, hS, hR, hM, he, hd, hr, hn => by
    obtain ⟨q1, q2, q3⟩ := hd
    obtain ⟨r1, r2, r3⟩ := q3 id (by simp)
    refine mu_step hP fun n => ?_
    have hR' := hR.dr n
    have hM' := hM.trans (mono_dr x n)
    obtain ⟨t1, t2, t3⟩ := take_ok (x := x.dr n) hM' hR' r1 r2
    have hg := run_getObj (P := P) (w := x.w.at n) (show (x.w.at n).heap[x.μ id]? = _ from r3) (by simp)
    have hs := run_setObj (P := P) (w := x.w.at n) (o := .deferred none) (show (x.w.at n).heap[x.μ id]? = _ from r3) (by simp)
    have htake : (Instr.takeDeferred (x.μ id)).run P (x.w.at n) = .ok [] (setObjW (x.w.at n) (x.μ id) (.deferred none)) := by
      simp only [Instr.takeDeferred, Sem.run_bind, hg, Result.andThen_ok, hs, Sem.run_pure]
    obtain ⟨es, hst⟩ := rG_take (P := P) (b := b) (a := a) (todo := todo) (cs := c :: cs) (ds := ds.map fun id => { target := .collected (x.μ id), args := #[] }) (by rw [q1]; rfl) htake
    refine ⟨_, _, _, es, hst, ?_⟩
    have hnd := List.nodup_cons.1 q2
    exact mu_leave hP hty hb hf ds (x := { x.dr n with w := setObjW (x.w.at n) (x.μ id) (.deferred none) }) (a := { a with defers := ds.map fun id => { target := .collected (x.μ id), args := #[] } }) hS t1 t2 ⟨he.1, fun j c hc => t3 _ _ (RV.mono (mono_dr x n) (he.2 j c hc))⟩
      ⟨rfl, hnd.2, fun i hi => by
        obtain ⟨u1, u2, u3⟩ := q3 i (by simp [hi])
        have hne : x.μ i ≠ x.μ id := fun e => hnd.1 (hR.inj i id (live_of u2 (by simp)) (live_of r2 (by simp)) e ▸ hi)
        exact ⟨u1, u2, (setObjW_other _ _ _ hne).trans u3⟩⟩ hr hn
theorem bodyD_ok (hP : Plain P) (hty : TyOk P ty) (hc : CallOK P Final call) (hreg : ∀ id ops draw, RegOK P Final ty iso call yf id ops draw) {L : Nat} {f : FuncId} {fn : Func} (hf : P.funcs[f]? = some fn) {args : List DV} {S S' : Store} {v : DV} (h : bodyD P ty iso call yf L f fn args S = some (v, S'))
    {vals : Array Value} (hR : Rel x) (hS : x.S = S) (ha : RVs x args vals) : EnterOK P Final x f vals fun y u => y.S = S' ∧ Rel y ∧ Mono x y ∧ RV y v u := by
  subst hS
  unfold bodyD at h
  split at h
  · rename_i c hb
    refine ⟨⟨fn, c, hf, hb⟩, fun fr cs hn => ?_⟩
    rw [enter_at vals hf hb, ← Frame.atR_of_none (b := base f) rfl]
    have he : RVs x (args ++ List.replicate (fn.ntmps - args.length) dundef) (vals ++ Array.replicate (fn.ntmps - vals.size) undef) := by
      refine rvs_append ha ⟨by simp [ha.1], fun j c hc => ?_⟩
      rw [List.getElem?_replicate] at hc
      split at hc
      · rename_i hj
        cases hc
        have : j < fn.ntmps - vals.size := by rw [ha.1]; exact hj
        have e : (Array.replicate (fn.ntmps - vals.size) undef).getD j undef = undef := by simp [Array.getD_eq_getD_getElem?, this]
        rw [e]
        exact .val rfl
      · cases hc
    have key : ∀ e env' S1, codeD P ty iso call yf L f false c (args ++ List.replicate (fn.ntmps - args.length) dundef) x.S = some (e, env', S1) → (e = .normal ∨ e = .ret) → (resD ty env' S1 fn.results.toList).map (fun l => (oneOf l, S1)) = some (v, S') →
        KMu P Final () (G ((base f).atR { tmps := vals ++ Array.replicate (fn.ntmps - vals.size) undef, defers := [] } [.code c]) (fr :: cs)) x.w := by
      intro e env' S1 h1 he1 h2
      simp only [Option.map_eq_some_iff, Prod.mk.injEq] at h2
      obtain ⟨l, h3, rfl, rfl⟩ := h2
      refine codeD_ok (n0 := x.S.length) (ds := []) (b := base f) (cs := fr :: cs) (rnd := false) hP hc (by simp [base]) rfl (fun _ => rfl) c (regs_all hreg c) h1 hR he (defOK_nil _ _) (Nat.le_refl _) fun y a' ds' q1 q2 q3 q4 q5 => ?_
      have hleave : ∀ todo, KMu P Final () (G { (base f).at a' todo with mode := .returning } (fr :: cs)) y.w := fun todo =>
        mu_leave hP hty (x0 := x) (b := base f) (env := env') (l := l) (Sr := S1) rfl hf ds' q1 q2 q3 q4 q5 h3 fun z u r1 r2 r3 r4 => hn z u ⟨r1, r2, r3, r4⟩
      rcases he1 with rfl | rfl
      · show KMu P Final () (G ((base f).atR a' []) (fr :: cs)) y.w
        rw [Frame.atR_of_none (b := base f) rfl]
        exact mu_ctl hP (fun w => ⟨_, stepG_end⟩) (hleave _)
      · intro k'
        rw [Frame.atR_of_none (b := base f) rfl]
        exact mu_ctl hP (fun w => ⟨_, stepG_ret'⟩) (hleave _)
    split at h
    · grind
    · grind
    · cases h
  · cases h
theorem sets_ok : ∀ {ts : List Tmp} {ds : List DV} {vs : List Value} {env : List DV} {tmps : Array Value}, RVs x env tmps → vs.length = ds.length → (∀ (j : Nat) (c : DV), ds[j]? = some c → RV x c (vs.getD j undef)) →
    RVs x (setsD env (ts.zip ds)) ((ts.zip vs).foldl (fun tmps (p : Tmp × Value) => tmps.setIfInBounds p.1 p.2) tmps)
  | [], ds, vs, env, tmps, h, _, _ => by simpa [setsD] using h
  | t :: ts, [], [], env, tmps, h, _, _ => by simpa [setsD] using h
  | t :: ts, [], _ :: _, env, tmps, h, hl, _ => by simp at hl
  | t :: ts, _ :: _, [], env, tmps, h, hl, _ => by simp at hl
  | t :: ts, d :: ds, v :: vs, env, tmps, h, hl, hv => by
    simp only [List.zip_cons_cons, setsD, List.foldl_cons]
    exact sets_ok (rvs_set h (by simpa using hv 0 d rfl)) (by simpa using hl) fun j c hc => by simpa using hv (j + 1) c (by simpa using hc)
theorem rG_begin {b : Frame} {a : Act} {k : List Item} {cs : List Frame} {w w' : World} {l : Nat} (hk : b.kind ≠ .early) (hr : b.roundOf = some l) (h : (Instr.beginRound l).run P w = .ok () w') :
    ∃ es, stepG P true (G (b.atR a (.beginRound :: k)) cs) w = .go (G (b.atR a k) cs) w' es := by
  have hk' : (b.kind == CallKind.early) = false := by simpa using hk
  simp only [G, stepG, stepG.exec, Frame.atR, hr, stepG.apply, Option.elim_some, if_true, Sem.runT_eq, Sem.run_bind, h, Result.andThen_ok, Sem.run_pure, hk', GStep.after, Frame.finish]
  exact ⟨_, rfl⟩
theorem rG_round_end {b : Frame} {a : Act} {c : Frame} {cs : List Frame} {w w' : World} {l : Nat} {v : Value} (hn : b.kind = .normal) (hr : b.roundOf = some l) (h : (Instr.endRound l none).run P w = .ok v w') :
    ∃ es, stepG P true (G (b.atR a []) (c :: cs)) w = .go (G (c.finish v) cs) w' es := by
  simp only [G, stepG, stepG.exec, Frame.atR, hr, Sem.runT_eq, h, GStep.after, doReturn, hn]
  exact ⟨_, rfl⟩
theorem rG_round_ret {b : Frame} {a : Act} {k : List Item} {c : Frame} {cs : List Frame} {w w' : World} {l : Nat} {v : Value} (hn : b.kind = .normal) (hr : b.roundOf = some l) (h : (Instr.endRound l (some .ret)).run P w = .ok v w') :
    ∃ es, stepG P true (G (b.atR a (.code .ret :: k)) (c :: cs)) w = .go (G (c.finish v) cs) w' es := by
  simp only [G, stepG, stepG.exec, Frame.atR, hr, Sem.runT_eq, h, GStep.after, doReturn, hn]
  exact ⟨_, rfl⟩
theorem rG_round_exit {b : Frame} {a : Act} {k : List Item} {c : Frame} {cs : List Frame} {w w' : World} {l id : Nat} {v : Value} (hn : b.kind = .normal) (hr : b.roundOf = some l) (he : exitTo id k = none) (h : (Instr.endRound l (some (.exit id))).run P w = .ok v w') :
    ∃ es, stepG P true (G (b.atR a (.code (.exit id) :: k)) (c :: cs)) w = .go (G (c.finish v) cs) w' es := by
  simp only [G, stepG, stepG.exec, Frame.atR, hr, he, Option.elim_none, Sem.runT_eq, h, GStep.after, doReturn, hn]
  exact ⟨_, rfl⟩
theorem roundD_ok (hP : Plain P) (hc : CallOK P Final call) (hreg : ∀ id ops draw, RegOK P Final ty iso call yf id ops draw) {L : Nat} : YldOK P Final (roundD P ty iso call yf L) := by
  intro id args S v S' h x vals hR hS ha
  subst hS
  unfold roundD at h
  split at h
  · rename_i r hr
    split at h
    · rename_i hlen
      obtain ⟨lo, l1, l2, l3, l4, l5, l6, l7, l8, -⟩ := loop_obj hR hr
      refine ⟨lo, l1, by rw [l6]; simpa [ha.1] using hlen, fun fr cs hn => ?_⟩
      have hb0 : ∀ tmps, Frame.round (x.μ id) lo.fn tmps lo.assign lo.body .normal = ({ (default : Frame) with fn := r.fn, kind := .normal, roundOf := some (x.μ id) } : Frame).atR { tmps := tmps, defers := [] } [.code r.assign, .beginRound, .code r.body] := by
        intro tmps
        simp [Frame.round, Frame.atR, l4, l7, l8]
      rw [hb0]
      generalize hB : ({ (default : Frame) with fn := r.fn, kind := .normal, roundOf := some (x.μ id) } : Frame) = B
      have hBk : B.kind = .normal := by rw [← hB]
      have hBf : B.fn = r.fn := by rw [← hB]
      have hBr : B.roundOf = some (x.μ id) := by rw [← hB]
      have hBe : B.kind ≠ .early := by rw [hBk]; simp
      have he : RVs x (setsD r.env (r.params.zip args)) ((lo.params.zip vals).foldl (fun tmps (t, a) => tmps.setIfInBounds t a) lo.tmps) := by
        have := sets_ok (ts := r.params) (ds := args) (vs := vals.toList) l5 (by simpa using ha.1) fun j c hc => by simpa [Array.getD_eq_getD_getElem?, List.getD_eq_getElem?_getD] using ha.2 j c hc
        rw [l6, ← Array.foldl_toList]
        simpa using this
      split at h
      · rename_i env2 S1 h1
        split at h
        · rename_i r1 hr1
          split at h
          · rename_i hst
            split at h
            · rename_i e env3 S2 h2
              split at h
              · rename_i r2 hr2
                refine codeD_ok (n0 := 0) (ds := []) (b := B) (cs := fr :: cs) (rnd := true) hP hc hBe hBf (by simp) r.assign (regs_all hreg _) h1 hR he (defOK_nil _ _) (Nat.zero_le _) fun y a1 ds1 q1 q2 q3 q4 q5 => ?_
                subst q1
                obtain ⟨lo1, m1, m2, m3, -⟩ := loop_obj q2 hr1
                have hμy : y.μ id = x.μ id := (q3.objs id _ hr rfl).1
                refine mu_step hP fun n => ?_
                obtain ⟨z1, z2⟩ := upd_loop (q2.dr n) (id := id) hr1 (lo := lo1) m1 .busy r1.pend
                have hlo1 : ({ lo1 with state := .busy, pending := r1.pend } : Loop) = { lo1 with state := .busy } := by rw [← m3]
                rw [hlo1] at z1 z2
                have hbeg : (Instr.beginRound (x.μ id)).run P (y.w.at n) = .ok () (setObjW (y.w.at n) (x.μ id) (.loop { lo1 with state := .busy })) := by
                  have hg := run_getObj (P := P) (w := y.w.at n) (show (y.w.at n).heap[x.μ id]? = _ from (by rw [← hμy]; exact m1)) (by simp)
                  have hs := run_setObj (P := P) (w := y.w.at n) (o := .loop { lo1 with state := .busy }) (show (y.w.at n).heap[x.μ id]? = _ from (by rw [← hμy]; exact m1)) (by simp)
                  have hrd : lo1.state = .ready := by rw [m2]; exact hst
                  simp only [Instr.beginRound, Instr.getLoop, Sem.run_bind, hg, Result.andThen_ok, Sem.run_pure, hs, hrd]
                obtain ⟨es, hstep⟩ := rG_begin (P := P) (a := a1) (k := [.code r.body]) (cs := fr :: cs) hBe hBr hbeg
                refine ⟨_, _, _, es, hstep, ?_⟩
                generalize hz : (y.dr n).updo id (.loop { lo1 with state := .busy }) (.loop { r1 with st := .busy, pend := r1.pend }) = z at z1 z2
                have hzS : z.S = y.S.set id (.loop { r1 with st := .busy }) := by rw [← hz]; rfl
                have hzw : z.w = setObjW (y.w.at n) (x.μ id) (.loop { lo1 with state := .busy }) := by
                  rw [← hz]
                  show setObjW (y.w.at n) (y.μ id) _ = _
                  rw [hμy]
                rw [← hzw]
                have MYZ := (mono_dr y n).trans z2
                rw [← hzS] at h2
                refine codeD_ok (n0 := 0) (ds := ds1) (b := B) (cs := fr :: cs) (k := []) (rnd := true) hP hc hBe hBf (by simp) r.body (regs_all hreg _) h2 z1 (q4.mono MYZ) (q5.mono MYZ) (Nat.zero_le _) fun u a2 ds2 p1 p2 p3 p4 p5 => ?_
                subst p1
                obtain ⟨lo2, n1, -⟩ := loop_obj p2 hr2
                have hμu : u.μ id = x.μ id := by
                  have := (p3.objs id _ (show z.S[id]? = some (.loop { r1 with st := .busy }) by rw [hzS, set_get hr1, if_pos rfl]) rfl).1
                  rw [this, ← hz]
                  exact hμy
                have MXU := (q3.trans MYZ).trans p3
                have fin : ∀ st pd, ∀ n2, (Instr.endRound (x.μ id) pd).run P (u.w.at n2) = .ok (.bool pd.isNone) (setObjW (u.w.at n2) (x.μ id) (.loop { lo2 with state := if pd.isNone then .ready else .done, pending := pd })) → st = (if pd.isNone then LoopState.ready else .done) → S' = u.S.set id (.loop { r2 with st := st, pend := pd }) → v = .val (.bool pd.isNone) →
                    KMu P Final () (G (fr.finish (.bool pd.isNone)) cs) (setObjW (u.w.at n2) (x.μ id) (.loop { lo2 with state := if pd.isNone then .ready else .done, pending := pd })) := by
                  intro st pd n2 _ hst' hS' hv
                  obtain ⟨y1, y2⟩ := upd_loop (p2.dr n2) (id := id) hr2 (lo := lo2) n1 st pd
                  have := hn ((u.dr n2).updo id (.loop { lo2 with state := st, pending := pd }) (.loop { r2 with st := st, pend := pd })) (.bool pd.isNone) ⟨hS'.symm, y1, (MXU.trans (mono_dr u n2)).trans y2, by rw [hv]; exact .val rfl⟩
                  have e : ((u.dr n2).updo id (.loop { lo2 with state := st, pending := pd }) (.loop { r2 with st := st, pend := pd })).w = setObjW (u.w.at n2) (x.μ id) (.loop { lo2 with state := if pd.isNone then .ready else .done, pending := pd }) := by
                    show setObjW (u.w.at n2) (u.μ id) _ = _
                    rw [hμu, hst']
                  rw [e] at this
                  exact this
                have hend : ∀ pd n2, (Instr.endRound (x.μ id) pd).run P (u.w.at n2) = .ok (.bool pd.isNone) (setObjW (u.w.at n2) (x.μ id) (.loop { lo2 with state := if pd.isNone then .ready else .done, pending := pd })) := by
                  intro pd n2
                  have hg := run_getObj (P := P) (w := u.w.at n2) (show (u.w.at n2).heap[x.μ id]? = _ from (by rw [← hμu]; exact n1)) (by simp)
                  have hs := fun o => run_setObj (P := P) (w := u.w.at n2) (o := o) (show (u.w.at n2).heap[x.μ id]? = _ from (by rw [← hμu]; exact n1)) (by simp)
                  simp only [Instr.endRound, Instr.getLoop, Sem.run_bind, hg, Result.andThen_ok, Sem.run_pure, hs]
                cases e with
                | normal =>
                  simp only [Option.some.injEq, Prod.mk.injEq] at h
                  refine mu_step hP fun n2 => ?_
                  obtain ⟨es2, hst2⟩ := rG_round_end (P := P) (a := a2) (c := fr) (cs := cs) hBk hBr (hend none n2)
                  exact ⟨_, _, _, es2, hst2, fin .ready none n2 (hend none n2) rfl h.2.symm h.1.symm⟩
                | ret =>
                  simp only [Option.some.injEq, Prod.mk.injEq] at h
                  intro k'
                  refine mu_step hP fun n2 => ?_
                  obtain ⟨es2, hst2⟩ := rG_round_ret (P := P) (a := a2) (k := k') (c := fr) (cs := cs) hBk hBr (hend (some .ret) n2)
                  exact ⟨_, _, _, es2, hst2, fin .done (some .ret) n2 (hend (some .ret) n2) rfl h.2.symm h.1.symm⟩
                | exit i =>
                  simp only [Option.some.injEq, Prod.mk.injEq] at h
                  intro k' hk'
                  refine mu_step hP fun n2 => ?_
                  obtain ⟨es2, hst2⟩ := rG_round_exit (P := P) (a := a2) (k := k') (c := fr) (cs := cs) hBk hBr hk' (hend (some (.exit i)) n2)
                  exact ⟨_, _, _, es2, hst2, fin .done (some (.exit i)) n2 (hend (some (.exit i)) n2) rfl h.2.symm h.1.symm⟩
              · cases h
            · cases h
          · cases h
        · cases h
      · cases h
    · cases h
  · cases h
end Go.Di
end
section
namespace Go.Di
open Go Go.Conc Go.Co
open Go.ConcN (sumTo sumTo_upd sumTo_congr le_sumTo upd upd_same upd_ne)
variable {P : Program} {Final : Machine → Trace → Prop} {ty : Tys} {x : Cx} {iso : IsoF} {call : CallF} {yf : YldF}
def Closed (ops : Array Oper) (L : Nat → Bool) : Prop := ∀ j o, ops[j]? = some o → L j = true → ∀ e ∈ o.after, Region.binds .any e = true → L e.on = true
theorem linearise_ind {ops : Array Oper} (hord : ∀ i o, ops[i]? = some o → ∀ e ∈ o.after, Region.binds .any e = true → e.on < i) {σ : Type} (T : List Nat → σ → Prop) (J : (Nat → Bool) → σ → Prop)
    (hop : ∀ L s i o, J L s → Closed ops L → ops[i]? = some o → L i = false → (∀ e ∈ o.after, Region.binds .any e = true → L e.on = true) → ∀ rest, (∀ s', J (upd L i true) s' → T rest s') → T (i :: rest) s)
    (hend : ∀ L s, J L s → (∀ i, i < ops.size → L i = true) → T [] s) (t : Nat) (s : σ) (h0 : J (fun _ => false) s) : T (Region.linearise .any ops t) s := by
  have key : ∀ (fuel t : Nat) (listed : Array Bool) (s : σ), listed.size = ops.size → sumTo ops.size (fun j => if listed.getD j true then 0 else 1) = fuel → J (fun j => listed.getD j false) s → Closed ops (fun j => listed.getD j false) → T (Region.linearise.go .any ops fuel t listed []) s := by
    intro fuel
    induction fuel with
    | zero =>
      intro t listed s hsz hsum hJ _
      refine hend _ s hJ fun i hi => ?_
      have h1 := le_sumTo (f := fun j => if listed.getD j true then 0 else 1) hi
      rw [hsum] at h1
      have h2 : listed.getD i true = true := by grind
      simpa [Array.getElem?_eq_getElem (show i < listed.size by omega)] using h2
    | succ fuel ih =>
      intro t listed s hsz hsum hJ hcl
      simp only [Region.linearise.go]
      change T (match (Region.ready .any ops listed)[t % (Region.ready .any ops listed).length]? with
        | some i => Region.linearise.go .any ops fuel (t / (Region.ready .any ops listed).length) (listed.setIfInBounds i true) [i]
        | none => [].reverse) s
      cases hi : (Region.ready .any ops listed)[t % (Region.ready .any ops listed).length]? with
      | none =>
        have hnil : Region.ready .any ops listed = [] := by
          cases hr : Region.ready .any ops listed with
          | nil => rfl
          | cons x xs =>
            rw [hr] at hi
            have hlt : t % (x :: xs).length < (x :: xs).length := Nat.mod_lt _ (by simp)
            simp at hi
            simp at hlt
            omega
        refine hend _ s hJ fun i hi => ?_
        induction i using Nat.strongRecOn with
        | ind i ihi =>
          have hil : i < listed.size := by omega
          cases hb : listed.getD i false with
          | true => rfl
          | false =>
            have hmem : i ∈ Region.ready .any ops listed := by
              refine mem_ready.2 ⟨by simpa [Array.getElem?_eq_getElem hil] using hb, ops[i], Array.getElem?_eq_getElem hi, fun e he hbd => ?_⟩
              have hlt := hord i _ (Array.getElem?_eq_getElem hi) e he hbd
              exact ihi e.on hlt (by omega)
            rw [hnil] at hmem
            cases hmem
      | some i =>
        simp only []
        rw [linearise_go_acc, List.reverse_singleton, List.singleton_append]
        have hmem := List.mem_of_getElem? hi
        obtain ⟨hun, o, ho, hall⟩ := mem_ready.1 hmem
        have hio : i < ops.size := (Array.getElem?_eq_some_iff.1 ho).1
        have hil : i < listed.size := by omega
        have h2 : (fun j => (listed.setIfInBounds i true).getD j false) = upd (fun j => listed.getD j false) i true := by
          funext j
          by_cases hji : j = i
          · subst hji
            rw [upd_same]
            simp [Array.getElem?_setIfInBounds_self_of_lt hil]
          · rw [upd_ne _ _ hji, getD_set_ne false (Ne.symm hji)]
        refine hop _ s i o hJ hcl ho (by simpa [Array.getElem?_eq_getElem hil] using hun) (fun e he hb => hall e he hb) _ fun s' hJ' => ih _ _ s' (by simpa using hsz) ?_ (by rw [h2]; exact hJ') ?_
        · have h1 := sumTo_upd (fun j => listed.getD j true) true (fun b => if b then 0 else 1) hio
          rw [hun] at h1
          simp only [if_true, Bool.false_eq_true, if_false] at h1
          have h2 : sumTo ops.size (fun j => if (listed.setIfInBounds i true).getD j true then 0 else 1) = sumTo ops.size fun j => if upd (fun j => listed.getD j true) i true j then 0 else 1 := by
            refine sumTo_congr fun j _ => ?_
            by_cases hji : j = i
            · subst hji
              rw [upd_same]
              simp [Array.getElem?_setIfInBounds_self_of_lt hil]
            · rw [upd_ne _ _ hji, getD_set_ne true (Ne.symm hji)]
          rw [h2]
          omega
        · rw [h2]
          intro j o' ho' hj e he hb
          by_cases hji : j = i
          · subst hji
            rw [ho] at ho'
            cases ho'
            by_cases hei : e.on = j
            · grind
            · rw [upd_ne _ _ hei]; exact hall e he hb
          · rw [upd_ne _ _ hji] at hj
            by_cases hei : e.on = i
            · rw [hei, upd_same]
            · rw [upd_ne _ _ hei]; exact hcl j o' ho' hj e he hb
  refine key ops.size t (Array.replicate ops.size false) s (by simp) ?_ ?_ ?_
  · have : ∀ n, n ≤ ops.size → sumTo n (fun j => if (Array.replicate ops.size false).getD j true then 0 else 1) = n := by
      intro n
      induction n with
      | zero => intro _; rfl
      | succ n ih =>
        intro hn
        simp only [sumTo]
        rw [ih (by omega)]
        simp [show n < ops.size by omega]
    exact this _ (Nat.le_refl _)
  · have : (fun j => (Array.replicate ops.size false).getD j false) = fun _ => false := by
      funext j
      simp [Array.getD_eq_getD_getElem?, Array.getElem?_replicate]
      split <;> rfl
    rw [this]
    exact h0
  · intro j o _ hj
    exfalso
    revert hj
    simp [Array.getD_eq_getD_getElem?, Array.getElem?_replicate]
    split <;> simp
theorem before_spec (ops : Array Oper) {L : Nat → Bool} (hL : Closed ops L) : ∀ j i, ((Region.before ops).getD j 0).testBit i = true → L j = true → L i = true := by
  have key : ∀ (l pre : List Oper) (acc : Array Nat), ops.toList = pre ++ l → acc.size = pre.length → (∀ j i, (acc.getD j 0).testBit i = true → L j = true → L i = true) →
      ∀ j i, ((l.foldl (fun acc (o : Oper) => acc.push (o.after.foldl (fun s e => if Region.binds .any e then s ||| 2 ^ e.on ||| acc.getD e.on 0 else s) 0)) acc).getD j 0).testBit i = true → L j = true → L i = true := by
    intro l
    induction l with
    | nil => intro pre acc _ _ h; exact h
    | cons o l ih =>
      intro pre acc hops hsz h
      simp only [List.foldl_cons]
      refine ih (pre ++ [o]) _ (by rw [hops]; simp) (by simp [hsz]) fun j i ht hj => ?_
      have ho : ops[pre.length]? = some o := by rw [← Array.getElem?_toList, hops]; simp
      by_cases hjs : j < acc.size
      · refine h j i ?_ hj
        rw [Array.getD_eq_getD_getElem?, Array.getElem?_push_lt hjs] at ht
        rw [Array.getD_eq_getD_getElem?, Array.getElem?_eq_getElem hjs]
        exact ht
      · by_cases hje : j = acc.size
        · subst hje
          rw [Array.getD_eq_getD_getElem?, Array.getElem?_push_size, Option.getD_some] at ht
          rw [hsz] at hj
          have hall := hL _ _ ho hj
          have fold : ∀ (es : List Edge) (s : Nat), (∀ e ∈ es, e ∈ o.after) → (s.testBit i = true → L i = true) → (es.foldl (fun s e => if Region.binds .any e then s ||| 2 ^ e.on ||| acc.getD e.on 0 else s) s).testBit i = true → L i = true := by
            intro es
            induction es with
            | nil => intro s _ hs ht; exact hs ht
            | cons e es ihe => grind
          rw [← Array.foldl_toList] at ht
          exact fold o.after.toList 0 (by simp) (by simp) ht
        · grind
  intro j i
  unfold Region.before
  rw [← Array.foldl_toList]
  exact key ops.toList [] #[] rfl rfl (by simp) j i
theorem evs_congr {ρ ρ' : Operand → Option DV} : ∀ {l : List Operand}, (∀ a ∈ l, ρ a = ρ' a) → evs ρ l = evs ρ' l
  | [], _ => rfl
  | a :: l, h => by
    unfold evs
    rw [h a (by simp), evs_congr fun b hb => h b (by simp [hb])]
theorem parts_congr {ρ ρ' : Operand → Option DV} : ∀ {l : List (Nat × Operand)}, (∀ a ∈ l.map (·.2), ρ a = ρ' a) → partsD ρ l = partsD ρ' l
  | [], _ => rfl
  | (i, a) :: l, h => by
    unfold partsD
    rw [h a (by simp), parts_congr fun b hb => h b (by simp at hb ⊢; exact .inr hb)]
theorem bound_congr {ρ ρ' : Operand → Option DV} {a : Option Operand} {d m : Nat} (h : ∀ b ∈ a.toArray, ρ b = ρ' b) : boundD ρ a d m = boundD ρ' a d m := by
  cases a with
  | none => rfl
  | some b => simp only [boundD, intOf, h b (by simp)]
theorem strIx_congr {ρ ρ' : Operand → Option DV} {a : Option Operand} (h : ∀ b ∈ a.toArray, ρ b = ρ' b) : strIx ρ a = strIx ρ' a := by
  cases a with
  | none => rfl
  | some b => simp only [strIx, valOf, h b (by simp)]
theorem stepOp_congr {ρ ρ' : Operand → Option DV} {o : Oper} {S : Store} {nid : Nat} (h : ∀ a ∈ o.op.operands, ρ a = ρ' a) : stepOp P ty iso call yf ρ o S nid = stepOp P ty iso call yf ρ' o S nid := by
  obtain ⟨dst, op, type, pos, after, guard⟩ := o
  cases op <;> simp only [Op.operands, Call.operands] at h <;> try rfl
  case move a => simp only [stepOp, h a (by simp)]
  case assign a => simp only [stepOp, h a (by simp)]
  case pick a b c => simp only [stepOp, h a (by simp), h b (by simp), h c (by simp)]
  case box t a => simp only [stepOp, h a (by simp)]
  case build t ps =>
    have := parts_congr (ρ := ρ) (ρ' := ρ') (l := ps.toList) fun a ha => h a (by simpa using ha)
    simp only [stepOp, this]
  case buildSlice t n ps =>
    have := parts_congr (ρ := ρ) (ρ' := ρ') (l := ps.toList) fun a ha => h a (by simpa using ha)
    simp only [stepOp, this]
  case makeSlice t a b => simp only [stepOp, intOf, h a (by simp), h b (by simp)]
  case load t a => simp only [stepOp, h a (by simp)]
  case store t a v => simp only [stepOp, h a (by simp), h v (by simp)]
  case nilCheck a => simp only [stepOp, h a (by simp)]
  case binOp op t a b u => simp only [stepOp, valOf, h a (by simp), h b (by simp)]
  case unOp op t a => simp only [stepOp, valOf, h a (by simp)]
  case convert s d a =>
    have e : valOf ρ a = valOf ρ' a := by simp only [valOf, h a (by simp)]
    simp only [stepOp, e]
  case makeInterface t a =>
    have e : valOf ρ a = valOf ρ' a := by simp only [valOf, h a (by simp)]
    simp only [stepOp, e]
  case makeFunc fn fs cs =>
    cases fn with
    | func f => simp only [stepOp, evs_congr (ρ := ρ) (ρ' := ρ') (l := fs.toList) fun a ha => h a (by simp at ha ⊢; exact .inl ha), evs_congr (ρ := ρ) (ρ' := ρ') (l := cs.toList) fun a ha => h a (by simp at ha ⊢; exact .inr ha)]
    | _ => rfl
  case makeMap t r => cases r <;> rfl
  case slice t a lo hi mx =>
    have h1 : ρ a = ρ' a := h a (by simp)
    have h2 := fun d m => bound_congr (ρ := ρ) (ρ' := ρ') (a := lo) (d := d) (m := m) fun b hb => h b (by simp at hb ⊢; simp [hb])
    have h3 := fun d m => bound_congr (ρ := ρ) (ρ' := ρ') (a := hi) (d := d) (m := m) fun b hb => h b (by simp at hb ⊢; simp [hb])
    have h4 := fun d m => bound_congr (ρ := ρ) (ρ' := ρ') (a := mx) (d := d) (m := m) fun b hb => h b (by simp at hb ⊢; simp [hb])
    have h5 := strIx_congr (ρ := ρ) (ρ' := ρ') (a := lo) fun b hb => h b (by simp at hb ⊢; simp [hb])
    have h6 := strIx_congr (ρ := ρ) (ρ' := ρ') (a := hi) fun b hb => h b (by simp at hb ⊢; simp [hb])
    simp only [stepOp, h1, h2, h3, h4, h5, h6]
  case fieldAddr t a f => simp only [stepOp, h a (by simp)]
  case field t a f => simp only [stepOp, h a (by simp)]
  case indexAddr t a i => simp only [stepOp, intOf, h a (by simp), h i (by simp)]
  case index t a i =>
    have e : valOf ρ i = valOf ρ' i := by simp only [valOf, h i (by simp)]
    simp only [stepOp, intOf, e, h a (by simp), h i (by simp)]
  case lookup t a i ok => simp only [stepOp, valOf, h a (by simp), h i (by simp)]
  case mapUpdate t m k v => simp only [stepOp, valOf, h m (by simp), h k (by simp), h v (by simp)]
  case extract a i => simp only [stepOp, h a (by simp)]
  case call c =>
    obtain ⟨callee, args, ats⟩ := c
    cases callee with
    | builtin b =>
      simp only [Array.empty_append] at h
      have h1 : ∀ a ∈ args.toList, ρ a = ρ' a := fun a ha => h a (by simpa using ha)
      have h2 := evs_congr h1
      simp only [stepOp]
      generalize args.toList = l at h1 h2
      generalize ats.toList = m
      cases b <;> try rfl
      · grind
      · grind
      · grind
      · grind
    | value f =>
      have h1 : ρ f = ρ' f := h f (by simp)
      have h2 := evs_congr (ρ := ρ) (ρ' := ρ') (l := args.toList) fun a ha => h a (by simp at ha ⊢; exact .inr ha)
      simp only [stepOp, h1, h2]
    | invoke r m => rfl
end Go.Di
end
