/- The law CutKnown: part 43: Kw7. By an AI agent. -/
import Derived.Test.YtadeehilamokkaaGreatDoorPk12
import Derived.Test.YtadeehilamokkaaGreatDoorPk28
section
namespace Go.Di
open Go Go.Conc Go.Co Go.Proofs
variable {P : Program} {ty : Tys} {x : Cx} {iso : IsoF} {call : CallF} {yf : YldF}
structure Stays (W w : World) : Prop where
  os : w.os = W.os
  output : w.output = W.output
  block : ∀ k, k < W.heap.size → w.heap[k]? = W.heap[k]?
theorem stays_of {x y : Cx} (M : Mono x y) (hS : x.S = []) : Stays x.w y.w :=
  ⟨M.env.1, M.env.2, fun k hk => M.old k hk fun i hi => absurd (hS ▸ hi) (not_live_nil i)⟩
theorem Stays.at {W w : World} (h : Stays W w) (d : Nat) : Stays W (w.at d) := ⟨h.os, h.output, h.block⟩
theorem mu_leave_top {Post : Value → World → Prop} (hP : Plain P) (hty : TyOk P ty) {x0 : Cx} {b : Frame} {todo : List Item} {fn : Func} {env : List DV} {l : List DV} (hb : b.kind = .normal) (hf : P.funcs[b.fn]? = some fn) (hi : P.inits.idxOf? b.fn = none) {Sr : Store} {u : Value} :
    ∀ (ds : List Nat) {a : Act} {x : Cx}, x.S = Sr → Rel x → Mono x0 x → RVs x env a.tmps → DefOK x0.S.length x ds a.defers → resD ty env Sr fn.results.toList = some l →
      (∀ y v, y.S = Sr → Rel y → Mono x0 y → RV y (oneOf l) v → v = u ∧ Post u y.w) → KMu P (Fin0 P Post) () (G { b.at a todo with mode := .returning } []) x.w
  | [], a, x, hS, hR, hM, he, hd, hr, hn => by
    have hd0 : a.defers = [] := hd.1
    have key : ∀ n, (results fn a.tmps).run P (x.w.at n) = .ok u (x.w.at n) ∧ Post u (x.w.at n) := fun n => by
      obtain ⟨v, h1, h2⟩ := results_ok (x := x.dr n) hty (hR.dr n) (he.mono (mono_dr x n)) (l := l) (by show resD ty env x.S _ = _; rw [hS]; exact hr)
      obtain ⟨rfl, h3⟩ := hn (x.dr n) v hS (hR.dr n) (hM.trans (mono_dr x n)) h2
      exact ⟨h1, h3⟩
    exact km_end (v := u) (fun d => ⟨rfl, hd0, hb, fn, hf, (key d).1⟩) hi fun d => (key d).2
  | id :: ds, a, x, hS, hR, hM, he, hd, hr, hn => by
    obtain ⟨q1, q2, q3⟩ := hd
    obtain ⟨r1, r2, r3⟩ := q3 id (by simp)
    refine mu_step hP fun n => ?_
    have hR' := hR.dr n
    have hM' := hM.trans (mono_dr x n)
    obtain ⟨t1, t2, t3⟩ := take_ok (x := x.dr n) hM' hR' r1 r2
    have hg := run_getObj (P := P) (w := x.w.at n) (show (x.w.at n).heap[x.μ id]? = _ from r3) (by simp)
    have hs := run_setObj (P := P) (w := x.w.at n) (o := .deferred none) (show (x.w.at n).heap[x.μ id]? = _ from r3) (by simp)
    have htake : (Instr.takeDeferred (x.μ id)).run P (x.w.at n) = .ok [] (setObjW (x.w.at n) (x.μ id) (.deferred none)) := by
      simp only [Instr.takeDeferred, Sem.run_bind, hg, Result.andThen_ok, hs, Sem.run_pure]
    obtain ⟨es, hst⟩ := rG_take (P := P) (b := b) (a := a) (todo := todo) (cs := []) (ds := ds.map fun id => { target := .collected (x.μ id), args := #[] }) (by rw [q1]; rfl) htake
    refine ⟨_, _, _, es, hst, ?_⟩
    have hnd := List.nodup_cons.1 q2
    exact mu_leave_top hP hty hb hf hi ds (x := { x.dr n with w := setObjW (x.w.at n) (x.μ id) (.deferred none) }) (a := { a with defers := ds.map fun id => { target := .collected (x.μ id), args := #[] } }) hS t1 t2 ⟨he.1, fun j c hc => t3 _ _ (RV.mono (mono_dr x n) (he.2 j c hc))⟩
      ⟨rfl, hnd.2, fun i hi => by
        obtain ⟨u1, u2, u3⟩ := q3 i (by simp [hi])
        have hne : x.μ i ≠ x.μ id := fun e => hnd.1 (hR.inj i id (live_of u2 (by simp)) (live_of r2 (by simp)) e ▸ hi)
        exact ⟨u1, u2, (setObjW_other _ _ _ hne).trans u3⟩⟩ hr hn
theorem body_top {Post : Value → World → Prop} (hP : Plain P) (hty : TyOk P ty) (hc : CallOK P (Fin0 P Post) call) (hreg : ∀ id ops draw, RegOK P (Fin0 P Post) ty iso call yf id ops draw) {L : Nat} {f : FuncId} {fn : Func} (hf : P.funcs[f]? = some fn) (hi : P.inits.idxOf? f = none)
    {args : List DV} {S S' : Store} {v : DV} (h : bodyD P ty iso call yf L f fn args S = some (v, S'))
    {vals : Array Value} (hR : Rel x) (hS : x.S = S) (ha : RVs x args vals) {u : Value} (hu : ∀ y u', y.S = S' → Rel y → Mono x y → RV y v u' → u' = u ∧ Post u y.w) : KMu P (Fin0 P Post) () (G (Frame.enter P f vals .normal) []) x.w := by
  subst hS
  unfold bodyD at h
  split at h
  · rename_i c hb
    rw [enter_at vals hf hb, ← Frame.atR_of_none (b := base f) rfl]
    have he : RVs x (args ++ List.replicate (fn.ntmps - args.length) dundef) (vals ++ Array.replicate (fn.ntmps - vals.size) undef) := by
      refine rvs_append ha ⟨by simp [ha.1], fun j c hc => ?_⟩
      rw [List.getElem?_replicate] at hc
      split at hc
      · rename_i hj
        cases hc
        have : j < fn.ntmps - vals.size := by rw [ha.1]; exact hj
        have e : (Array.replicate (fn.ntmps - vals.size) undef).getD j undef = undef := by simp [Array.getD_eq_getD_getElem?, this]
        rw [e]
        exact .val rfl
      · cases hc
    have key : ∀ e env' S1, codeD P ty iso call yf L f false c (args ++ List.replicate (fn.ntmps - args.length) dundef) x.S = some (e, env', S1) → (e = .normal ∨ e = .ret) → (resD ty env' S1 fn.results.toList).map (fun l => (oneOf l, S1)) = some (v, S') →
        KMu P (Fin0 P Post) () (G ((base f).atR { tmps := vals ++ Array.replicate (fn.ntmps - vals.size) undef, defers := [] } [.code c]) []) x.w := by
      intro e env' S1 h1 he1 h2
      simp only [Option.map_eq_some_iff, Prod.mk.injEq] at h2
      obtain ⟨l, h3, rfl, rfl⟩ := h2
      refine codeD_ok (n0 := x.S.length) (ds := []) (b := base f) (cs := []) (rnd := false) hP hc (by simp [base]) rfl (fun _ => rfl) c (regs_all hreg c) h1 hR he (defOK_nil _ _) (Nat.le_refl _) fun y a' ds' q1 q2 q3 q4 q5 => ?_
      have hleave : ∀ todo, KMu P (Fin0 P Post) () (G { (base f).at a' todo with mode := .returning } []) y.w := fun todo =>
        mu_leave_top hP hty (x0 := x) (b := base f) (env := env') (l := l) (Sr := S1) rfl hf hi ds' q1 q2 q3 q4 q5 h3 fun z u r1 r2 r3 r4 => hu z u r1 r2 r3 r4
      rcases he1 with rfl | rfl
      · show KMu P (Fin0 P Post) () (G ((base f).atR a' []) []) y.w
        rw [Frame.atR_of_none (b := base f) rfl]
        exact mu_ctl hP (fun w => ⟨_, stepG_end⟩) (hleave _)
      · intro k'
        rw [Frame.atR_of_none (b := base f) rfl]
        exact mu_ctl hP (fun w => ⟨_, stepG_ret'⟩) (hleave _)
    split at h
    · grind
    · grind
    · cases h
  · cases h
theorem look_bool {S : Store} {v : DV} {b : Bool} (h : (lookV S v).strip = .val (.bool b)) : v = .val (.bool b) := by
  unfold lookV at h
  split at h
  · split at h
    · split at h <;> simp [DV.strip, DV.strip2] at h
    · simp [DV.strip, DV.strip2] at h
  · cases v <;> simp_all [DV.strip, DV.strip2]
theorem lookD_bool {S : Store} {v : DV} {b : Bool} (h : (lookD S v).strip = .val (.bool b)) : v = .val (.bool b) := by
  have e : (∀ l, v ≠ .agg l) → (∀ l, v ≠ .tup l) → lookD S v = lookV S v := fun a b => by
    cases v <;> first | rfl | exact (a _ rfl).elim | exact (b _ rfl).elim
  by_cases ha : ∃ l, v = .agg l
  · obtain ⟨l, rfl⟩ := ha
    simp [lookD, look1, DV.strip, DV.strip2] at h
  · by_cases ht : ∃ l, v = .tup l
    · obtain ⟨l, rfl⟩ := ht
      simp [lookD, DV.strip] at h
    · rw [e (fun l h => ha ⟨l, h⟩) (fun l h => ht ⟨l, h⟩)] at h
      exact look_bool h
theorem top_bool (hP : Plain P) (hm : P.follows .mixedOrders = true) (hty : TyOk P ty) {tab : IsoF} (ht : ∀ Final, TabOK P Final tab) {L n : Nat} {f : FuncId} {args : List DV} {b : Bool} (h0 : tab f args = none) (hi : P.inits.idxOf? f = none)
    (h : isoOf tab (deepP P ty tab L (n + 1)).1 f args = some (.val (.bool b))) {vals : Array Value} (hR : Rel x) (hS : x.S = []) (ha : RVs x args vals) :
    KMu P (Fin0 P fun v w => v = .bool b ∧ Stays x.w w) () (G (Frame.enter P f vals .normal) []) x.w := by
  unfold isoOf at h
  rw [h0] at h
  simp only at h
  split at h
  · rename_i v S' h1
    split at h
    · simp only [Option.some.injEq] at h
      have hv : v = .val (.bool b) := lookD_bool h
      subst hv
      simp only [deepP] at h1
      split at h1
      · rename_i fn hf
        obtain ⟨ihc, ihy⟩ := deepP_ok (Final := Fin0 P fun v w => v = .bool b ∧ Stays x.w w) hP hm hty (ht _) (L := L) n
        have hi' := iso_ok (ht _) ihc
        have hreg : ∀ id ops draw, RegOK P (Fin0 P fun v w => v = .bool b ∧ Stays x.w w) ty (isoOf tab (deepP P ty tab L n).1) (deepP P ty tab L n).1 (deepP P ty tab L n).2 id ops draw := fun id ops draw => reg_ok hP hm hty ihc hi' ihy id ops draw
        refine body_top (u := .bool b) hP hty ihc hreg hf hi h1 hR hS ha fun y u' q1 q2 q3 q4 => ?_
        cases q4
        exact ⟨rfl, rfl, stays_of q3 hS⟩
      · cases h1
    · cases h
  · cases h
end Go.Di
end
