/- The law CutKnown: part 16: Cd10 Cd11 Cd12 Cd13. By an AI agent. -/
import Derived.Test.YtadeehilamokkaaGreatDoorPk07
import Derived.Test.YtadeehilamokkaaGreatDoorPk15
import Derived.AtR
import Derived.RangeFuncIn
section
namespace Go.Di
open Go Go.Conc Go.Co
variable {P : Program} {Final : Machine → Trace → Prop} {ty : Tys} {x : Cx} {iso : IsoF} {call : CallF} {yf : YldF}
theorem mu_step (hP : Plain P) {fr : Frame} {cs : List Frame} {w : World} (h : ∀ d, ∃ fr' cs' w' es, stepG P true (G fr cs) (w.at d) = .go (G fr' cs') w' es ∧ KMu P Final () (G fr' cs') w') : KMu P Final () (G fr cs) w :=
  (kc_main hP).step () fr cs w fun w1 h1 => by
    obtain ⟨d, rfl⟩ := h1
    obtain ⟨fr', cs', w', es, e, hk⟩ := h d
    exact ⟨fr', cs', w', es, (), e, trivial, hk⟩
theorem mu_at {g : Goroutine} {w : World} (h : KMu P Final () g w) (d : Nat) : KMu P Final () g (w.at d) := fun d' => h d'
theorem mu_ctl (hP : Plain P) {fr fr' : Frame} {cs cs' : List Frame} {w : World} (h : ∀ w, ∃ es, stepG P true (G fr cs) w = .go (G fr' cs') w es) (hk : KMu P Final () (G fr' cs') w) : KMu P Final () (G fr cs) w :=
  mu_step hP fun d => by
    obtain ⟨es, e⟩ := h (w.at d)
    exact ⟨fr', cs', _, es, e, mu_at hk d⟩
section moves
variable {b : Frame} {a : Act} {k : List Item} {cs : List Frame} {w : World}
theorem rG_skip : stepG P true (G (b.atR a (.code .skip :: k)) cs) w = .go (G (b.atR a k) cs) w #[] := by simp [G, stepG, stepG.exec, Frame.atR]
theorem rG_label {l : Nat} : stepG P true (G (b.atR a (.code (.label l) :: k)) cs) w = .go (G (b.atR a k) cs) w #[] := by simp [G, stepG, stepG.exec, Frame.atR]
theorem rG_inBlock {id : Nat} : stepG P true (G (b.atR a (.inBlock id :: k)) cs) w = .go (G (b.atR a k) cs) w #[] := by simp [G, stepG, stepG.exec, Frame.atR]
theorem rG_inScope {c : Code} : stepG P true (G (b.atR a (.inScope c :: k)) cs) w = .go (G (b.atR a k) cs) w #[] := by simp [G, stepG, stepG.exec, Frame.atR]
theorem rG_seq {x y : Code} : stepG P true (G (b.atR a (.code (.seq x y) :: k)) cs) w = .go (G (b.atR a (.code x :: .code y :: k)) cs) w #[] := by simp [G, stepG, stepG.exec, Frame.atR]
theorem rG_cond {c : Operand} {x y : Code} {t : Bool} (h : a.eval c = .bool t) : stepG P true (G (b.atR a (.code (.cond c x y) :: k)) cs) w = .go (G (b.atR a (.code (if t then x else y) :: k)) cs) w #[] := by
  have := congrFun (Frame.eval_atR b a (.code (.cond c x y) :: k)) c
  simp only [Frame.atR] at this
  simp [G, stepG, stepG.exec, Frame.atR, this, h]
theorem rG_block {id : Nat} {c : Code} : stepG P true (G (b.atR a (.code (.block id c) :: k)) cs) w = .go (G (b.atR a (.code c :: .inBlock id :: k)) cs) w #[] := by simp [G, stepG, stepG.exec, Frame.atR]
theorem rG_scope {c : Code} : stepG P true (G (b.atR a (.code (.scope c) :: k)) cs) w = .go (G (b.atR a (.code c :: .inScope c :: k)) cs) w #[] := by simp [G, stepG, stepG.exec, Frame.atR]
theorem rG_loop {c : Code} : stepG P true (G (b.atR a (.code (.loop c) :: k)) cs) w = .go (G (b.atR a (.code c :: .inLoop c :: k)) cs) w #[] := by simp [G, stepG, stepG.exec, Frame.atR]
theorem rG_inLoop {c : Code} : stepG P true (G (b.atR a (.inLoop c :: k)) cs) w = .go (G (b.atR a (.code c :: .inLoop c :: k)) cs) w #[] := by simp [G, stepG, stepG.exec, Frame.atR]
theorem rG_exit {id : Nat} {k' : List Item} (h : exitTo id k = some k') : stepG P true (G (b.atR a (.code (.exit id) :: k)) cs) w = .go (G (b.atR a k') cs) w #[] := by simp [G, stepG, stepG.exec, Frame.atR, h]
theorem rG_region {id : Nat} {ops : Array Oper} : stepG P true (G (b.atR a (.code (.region id ops false) :: k)) cs) w = .go (G (b.atR a (.inRegion ops (List.range ops.size) :: k)) cs) w #[] := by simp [G, stepG, stepG.exec, Frame.atR]
theorem rG_regionD {id : Nat} {ops : Array Oper} (hm : P.follows .mixedOrders = true) : stepG P true (G (b.atR a (.code (.region id ops true) :: k)) cs) w = .go (G (b.atR a (.inRegion ops (Region.linearise .any ops (w.tape w.drawn (.order b.fn id))) :: k)) cs) (w.at (w.drawn + 1)) #[] := by
  simp [G, stepG, stepG.exec, Frame.atR, choose, Sem.run, Question.forced, Question.cut, Region.schedule, hm, World.at]
theorem rG_end_region {ops : Array Oper} : stepG P true (G (b.atR a (.inRegion ops [] :: k)) cs) w = .go (G (b.atR a k) cs) w #[] := by simp [G, stepG, stepG.exec, Frame.atR]
def noDefer (o : Op) : Bool := match o with | .defer _ => false | _ => true
theorem rG_oper {ops : Array Oper} {i : Nat} {rest : List Nat} {o : Oper} (ho : ops[i]? = some o) (hw : Region.wanted o (yielded ops a.tmps) = true) (hd : noDefer o.op = true) :
    stepG P true (G (b.atR a (.inRegion ops (i :: rest) :: k)) cs) w = stepG.apply P true (b.atR a (.inRegion ops (i :: rest) :: k)) cs none (execOp a.eval o) w := by
  have he := Frame.eval_atR b a (.inRegion ops (i :: rest) :: k)
  simp only [Frame.atR] at he
  have h1 : stepG P true (G (b.atR a (.inRegion ops (i :: rest) :: k)) cs) w = stepG.oper P true (b.atR a (.inRegion ops (i :: rest) :: k)) cs none w := by
    simp [G, stepG, stepG.exec, Frame.atR, ho, hw]
  rw [h1]
  unfold stepG.oper
  have hop : (b.atR a (.inRegion ops (i :: rest) :: k)).oper? = some o := by simp [Frame.oper?, Frame.atR, ho]
  simp only [hop]
  have hev : (b.atR a (.inRegion ops (i :: rest) :: k)).eval = a.eval := Frame.eval_atR b a _
  split
  · rename_i l c h2 h3
    rw [h3] at hd
    cases hd
  · rw [hev]
theorem rG_unwanted {ops : Array Oper} {i : Nat} {rest : List Nat} {o : Oper} (ho : ops[i]? = some o) (hw : Region.wanted o (yielded ops a.tmps) = false) :
    stepG P true (G (b.atR a (.inRegion ops (i :: rest) :: k)) cs) w = .go (G (b.atR (a.put o.dst undef) (.inRegion ops rest :: k)) cs) w #[] := by
  have hf := Frame.finish_atR b a ops i rest k undef
  simp only [ho, Option.bind_some] at hf
  rw [← hf]
  simp [G, stepG, stepG.exec, Frame.atR, ho, hw]
end moves
theorem mu_yields (hP : Plain P) {b : Frame} {a : Act} {k : List Item} {cs : List Frame} {ops : Array Oper} {i : Nat} {rest : List Nat} {o : Oper} {d : DV} {S' : Store} (hk : b.kind ≠ .early)
    (ho : ops[i]? = some o) (hw : Region.wanted o (yielded ops a.tmps) = true) (hd : noDefer o.op = true) (hy : ∀ n, Yields (x.dr n) ((execOp a.eval o).run P (x.w.at n)) d S')
    (hnext : ∀ y v, y.S = S' → Rel y → Mono x y → RV y d v → KMu P Final () (G (b.atR (a.put o.dst v) (.inRegion ops rest :: k)) cs) y.w) : KMu P Final () (G (b.atR a (.inRegion ops (i :: rest) :: k)) cs) x.w := by
  refine mu_step hP fun n => ?_
  obtain ⟨v, y, h1, h2, h3, h4, h5⟩ := hy n
  have hf := Frame.finish_atR b a ops i rest k
  simp only [ho, Option.bind_some] at hf
  have hk' : (b.kind == CallKind.early) = false := by simpa using hk
  rw [rG_oper ho hw hd]
  rcases h1 with h1 | ⟨h1, rfl⟩
  · refine ⟨b.atR (a.put o.dst v) (.inRegion ops rest :: k), cs, y.w, seen P b.fn ((execOp a.eval o).events P (x.w.at n) #[]), ?_, hnext y v h2 h3 ((mono_dr x n).trans h4) h5⟩
    rw [← hf]
    simp [stepG.apply, h1, G, Frame.atR, hk', GStep.after]
  · refine ⟨b.atR (a.put o.dst undef) (.inRegion ops rest :: k), cs, y.w, seen P b.fn ((execOp a.eval o).events P (x.w.at n) #[]), ?_, hnext y undef h2 h3 ((mono_dr x n).trans h4) h5⟩
    rw [← hf]
    simp [stepG.apply, h1, G, Frame.atR, hk', GStep.after]
end Go.Di
end
section
namespace Go.Di
open Go Go.Conc Go.Co
variable {P : Program} {Final : Machine → Trace → Prop} {ty : Tys} {x : Cx} {iso : IsoF} {call : CallF} {yf : YldF}
theorem evD_ok {env : List DV} {a : Act} (h : RVs x env a.tmps) : Opds x (evD env) a.eval := by
  intro o d ho
  cases o with
  | tmp t =>
    simp only [evD, Option.some.injEq] at ho
    subst ho
    by_cases ht : t < env.length
    · have := h.2 t env[t] (List.getElem?_eq_getElem ht)
      simpa [Act.eval, List.getD_eq_getElem?_getD, ht] using this
    · have h1 : env[t]? = none := List.getElem?_eq_none (Nat.le_of_not_lt ht)
      have h2 : a.tmps[t]? = none := Array.getElem?_eq_none (by rw [h.1]; exact Nat.le_of_not_lt ht)
      have : a.eval (.tmp t) = undef := by simp [Act.eval, Array.getD_eq_getD_getElem?, h2]
      rw [this, List.getD_eq_getElem?_getD, h1]
      exact .val rfl
  | const v => exact rv_ofVal ho
  | func f =>
    simp only [evD, Option.some.injEq] at ho
    subst ho
    exact .fn rfl rfl (by simp) (by simp)
  | global g => cases ho
theorem rvs_set {env : List DV} {arr : Array Value} (h : RVs x env arr) {t : Nat} {d : DV} {v : Value} (hd : RV x d v) : RVs x (env.set t d) (arr.setIfInBounds t v) := by
  refine ⟨by simpa using h.1, fun j c hc => ?_⟩
  rw [List.getElem?_set] at hc
  by_cases hj : t = j
  · subst hj
    rw [if_pos rfl] at hc
    split at hc
    · rename_i hlt
      simp only [Option.some.injEq] at hc
      subst hc
      have : t < arr.size := by rw [h.1]; exact hlt
      simpa [Array.getD_eq_getD_getElem?, this] using hd
    · cases hc
  · rw [if_neg hj] at hc
    have := h.2 j c hc
    simpa [Array.getD_eq_getD_getElem?, Array.getElem?_setIfInBounds, hj] using this
theorem put_ok {env : List DV} {a : Act} (h : RVs x env a.tmps) {dst : Option Tmp} {d : DV} {v : Value} (hd : RV x d v) : RVs x (putD env dst d) (a.put dst v).tmps ∧ (a.put dst v).defers = a.defers := by
  cases dst with
  | none => exact ⟨h, rfl⟩
  | some t => exact ⟨rvs_set h hd, rfl⟩
theorem wanted_ok {env : List DV} {a : Act} (h : RVs x env a.tmps) (ops : Array Oper) (o : Oper) : Region.wanted o (yielded ops a.tmps) = wantedD ops env o := by
  unfold Region.wanted wantedD
  cases o.guard with
  | none => rfl
  | some g =>
    obtain ⟨j, want⟩ := g
    simp only [yielded]
    cases hb : (ops[j]?).bind (·.dst) with
    | none => rfl
    | some t =>
      simp only [Option.bind_some]
      by_cases ht : t < env.length
      · have h1 := List.getElem?_eq_getElem ht
        have hr := h.2 t env[t] h1
        have h2 : t < a.tmps.size := by rw [h.1]; exact ht
        rw [h1, Array.getElem?_eq_getElem h2]
        simp only [Array.getD_eq_getD_getElem?, Array.getElem?_eq_getElem h2, Option.getD_some] at hr
        generalize env[t] = d at hr
        generalize a.tmps[t] = v at hr
        cases hr with
        | @val v hv => cases v <;> first | rfl | (simp only; cases want <;> rfl) | (rename_i b; cases b <;> cases want <;> rfl)
        | _ => cases want <;> rfl
      · rw [List.getElem?_eq_none (Nat.le_of_not_lt ht), Array.getElem?_eq_none (by rw [h.1]; exact Nat.le_of_not_lt ht)]
        cases want <;> rfl
def EnterOK (P : Program) (Final : Machine → Trace → Prop) (x : Cx) (g : FuncId) (vals : Array Value) (Post : Cx → Value → Prop) : Prop :=
  (∃ fn c, P.funcs[g]? = some fn ∧ fn.body = some c) ∧ ∀ (fr : Frame) (cs : List Frame), (∀ y v, Post y v → KMu P Final () (G (fr.finish v) cs) y.w) → KMu P Final () (G (Frame.enter P g vals .normal) (fr :: cs)) x.w
theorem EnterOK.mono {g : FuncId} {vals : Array Value} {Post Post' : Cx → Value → Prop} (h : EnterOK P Final x g vals Post) (hp : ∀ y v, Post y v → Post' y v) : EnterOK P Final x g vals Post' :=
  ⟨h.1, fun fr cs hc => h.2 fr cs fun y v p => hc y v (hp y v p)⟩
theorem EnterOK.at {g : FuncId} {vals : Array Value} {Post : Cx → Value → Prop} (h : EnterOK P Final x g vals Post) (n : Nat) : EnterOK P Final (x.dr n) g vals Post :=
  ⟨h.1, fun fr cs hc => mu_at (h.2 fr cs hc) n⟩
def CallOK (P : Program) (Final : Machine → Trace → Prop) (call : CallF) : Prop :=
  ∀ f args S v S', call f args S = some (v, S') → ∀ x vals, Rel x → x.S = S → RVs x args vals → EnterOK P Final x f vals fun y u => y.S = S' ∧ Rel y ∧ Mono x y ∧ RV y v u
def IsoOK (P : Program) (Final : Machine → Trace → Prop) (iso : IsoF) : Prop :=
  ∀ f args v, iso f args = some v → args.all DV.pure = true → v.pure = true ∧ ∀ x vals, Rel x → RVs x args vals → EnterOK P Final x f vals fun y u => y.S = x.S ∧ Rel y ∧ Mono x y ∧ RV y v u
def YldOK (P : Program) (Final : Machine → Trace → Prop) (yf : YldF) : Prop :=
  ∀ id args S v S', yf id args S = some (v, S') → ∀ x vals, Rel x → x.S = S → RVs x args vals → ∃ lo : Loop, x.w.heap[x.μ id]? = some (.loop lo) ∧ vals.size = lo.params.size ∧
    ∀ (fr : Frame) (cs : List Frame), (∀ y u, (y.S = S' ∧ Rel y ∧ Mono x y ∧ RV y v u) → KMu P Final () (G (fr.finish u) cs) y.w) → KMu P Final () (G (Frame.round (x.μ id) lo.fn ((lo.params.zip vals).foldl (fun tmps (t, a) => tmps.setIfInBounds t a) lo.tmps) lo.assign lo.body .normal) (fr :: cs)) x.w
theorem callD_ok (hc : CallOK P Final call) (hi : IsoOK P Final iso) {g : FuncId} {args : List DV} {S S' : Store} {v : DV} (h : callD iso call g args S = some (v, S')) {vals : Array Value} (hR : Rel x) (hS : x.S = S) (ha : RVs x args vals) :
    EnterOK P Final x g vals fun y u => y.S = S' ∧ Rel y ∧ Mono x y ∧ RV y v u := by
  unfold callD at h
  split at h
  · rename_i hp
    split at h
    · rename_i v' h1
      cases h
      subst hS
      refine (hi _ _ _ h1 hp).2 x vals hR ⟨by simpa using ha.1, fun j c hj => ?_⟩
      simp only [List.getElem?_map, Option.map_eq_some_iff] at hj
      obtain ⟨c', h2, rfl⟩ := hj
      exact (ha.2 j c' h2).strip
    · exact hc _ _ _ _ _ h x vals hR hS ha
  · exact hc _ _ _ _ _ h x vals hR hS ha
theorem rvs_append {l m : List DV} {a b : Array Value} (h : RVs x l a) (k : RVs x m b) : RVs x (l ++ m) (a ++ b) := by
  refine ⟨by simp [h.1, k.1], fun j c hc => ?_⟩
  simp only [Array.getD_eq_getD_getElem?]
  by_cases hj : j < l.length
  · rw [List.getElem?_append_left hj] at hc
    rw [Array.getElem?_append_left (by rw [h.1]; exact hj)]
    simpa [Array.getD_eq_getD_getElem?] using h.2 j c hc
  · rw [List.getElem?_append_right (by omega)] at hc
    rw [Array.getElem?_append_right (by rw [h.1]; omega), h.1]
    simpa [Array.getD_eq_getD_getElem?] using k.2 _ c hc
theorem mu_enter (hP : Plain P) {b : Frame} {a : Act} {k : List Item} {cs : List Frame} {ops : Array Oper} {i : Nat} {rest : List Nat} {o : Oper} {g : FuncId} {fs vs : Array Value} {c : Call} {f : Operand} {Post : Cx → Value → Prop} (hk : b.kind ≠ .early)
    (ho : ops[i]? = some o) (hw : Region.wanted o (yielded ops a.tmps) = true) (hop : o.op = .call c) (hcal : c.callee = .value f) (hf : a.eval f = .func (.func g) fs vs) (he : EnterOK P Final x g (fs ++ c.args.map a.eval ++ vs) Post)
    (hnext : ∀ y v, Post y v → KMu P Final () (G (b.atR (a.put o.dst v) (.inRegion ops rest :: k)) cs) y.w) : KMu P Final () (G (b.atR a (.inRegion ops (i :: rest) :: k)) cs) x.w := by
  refine mu_step hP fun n => ?_
  have hfin := Frame.finish_atR b a ops i rest k
  simp only [ho, Option.bind_some] at hfin
  have hk' : (b.kind == CallKind.early) = false := by simpa using hk
  rw [rG_oper ho hw (by rw [hop]; rfl)]
  obtain ⟨⟨fn, cd, h1, h2⟩, h3⟩ := he
  have hname := hP.count g fn h1
  have hrun : (execOp a.eval o).run P (x.w.at n) = .ok (.enter g (fs ++ c.args.map a.eval ++ vs)) (x.w.at n) := by
    unfold execOp
    simp only [hop, resolve, hcal, hf, Deferred.ofValue, Sem.run_bind, Sem.run_pure, Result.andThen_ok, invoke, callFunc, run_program, h1, hname, Bool.false_eq_true, if_false, h2, Option.isNone_some]
  refine ⟨Frame.enter P g (fs ++ c.args.map a.eval ++ vs) .normal, b.atR a (.inRegion ops (i :: rest) :: k) :: cs, x.w.at n, seen P b.fn ((execOp a.eval o).events P (x.w.at n) #[]), ?_, mu_at (h3 _ cs fun y v hp => ?_) n⟩
  · simp [stepG.apply, hrun, G, Frame.atR, hk', GStep.after]
  · grind
theorem mu_round (hP : Plain P) {b : Frame} {a : Act} {k : List Item} {cs : List Frame} {ops : Array Oper} {i : Nat} {rest : List Nat} {o : Oper} {l : Nat} {lo : Loop} {c : Call} {f : Operand} {Post : Cx → Value → Prop} (hk : b.kind ≠ .early)
    (ho : ops[i]? = some o) (hw : Region.wanted o (yielded ops a.tmps) = true) (hop : o.op = .call c) (hcal : c.callee = .value f) (hf : a.eval f = .func (.yield l) #[] #[]) (hl : x.w.heap[l]? = some (.loop lo)) (hsz : (c.args.map a.eval).size = lo.params.size)
    (he : ∀ (fr : Frame) (cs : List Frame), (∀ y u, Post y u → KMu P Final () (G (fr.finish u) cs) y.w) → KMu P Final () (G (Frame.round l lo.fn ((lo.params.zip (c.args.map a.eval)).foldl (fun tmps (t, a) => tmps.setIfInBounds t a) lo.tmps) lo.assign lo.body .normal) (fr :: cs)) x.w)
    (hnext : ∀ y v, Post y v → KMu P Final () (G (b.atR (a.put o.dst v) (.inRegion ops rest :: k)) cs) y.w) : KMu P Final () (G (b.atR a (.inRegion ops (i :: rest) :: k)) cs) x.w := by
  refine mu_step hP fun n => ?_
  have hfin := Frame.finish_atR b a ops i rest k
  simp only [ho, Option.bind_some] at hfin
  have hk' : (b.kind == CallKind.early) = false := by simpa using hk
  rw [rG_oper ho hw (by rw [hop]; rfl)]
  have hg := run_getObj (P := P) (w := x.w.at n) (show (x.w.at n).heap[l]? = some (.loop lo) from hl) (by simp)
  have hrun : (execOp a.eval o).run P (x.w.at n) = .ok (.round l lo.fn ((lo.params.zip (c.args.map a.eval)).foldl (fun tmps (t, a) => tmps.setIfInBounds t a) lo.tmps) lo.assign lo.body) (x.w.at n) := by
    have hne : ¬ ((#[] ++ c.args.map a.eval).size ≠ lo.params.size) := by simpa using hsz
    unfold execOp
    simp only [hop, resolve, hcal, hf, Deferred.ofValue, Sem.run_bind, Sem.run_pure, Result.andThen_ok, invoke, Instr.yield, Instr.getLoop, hg, if_neg hne]
    simp
  refine ⟨Frame.round l lo.fn _ lo.assign lo.body .normal, b.atR a (.inRegion ops (i :: rest) :: k) :: cs, x.w.at n, seen P b.fn ((execOp a.eval o).events P (x.w.at n) #[]), ?_, mu_at (he _ cs fun y v hp => ?_) n⟩
  · simp [stepG.apply, hrun, G, Frame.atR, hk', GStep.after]
  · grind
theorem mu_op (hP : Plain P) (hty : TyOk P ty) (hc : CallOK P Final call) (hi : IsoOK P Final iso) (hyl : YldOK P Final yf) {b : Frame} {a : Act} {k : List Item} {cs : List Frame} {ops : Array Oper} {i : Nat} {rest : List Nat} {o : Oper} {d : DV} {S' : Store} {env : List DV} {nid : Nat} (hk : b.kind ≠ .early)
    (ho : ops[i]? = some o) (hw : Region.wanted o (yielded ops a.tmps) = true) (hR : Rel x) (hn : Nid x.S nid) (he : RVs x env a.tmps) (h : stepOp P ty iso call yf (evD env) o x.S nid = some (d, S'))
    (hnext : ∀ y v, y.S = S' → Rel y → Mono x y → RV y d v → KMu P Final () (G (b.atR (a.put o.dst v) (.inRegion ops rest :: k)) cs) y.w) : KMu P Final () (G (b.atR a (.inRegion ops (i :: rest) :: k)) cs) x.w := by
  by_cases hl : Op.lone o.op = true
  · refine mu_yields hP hk ho hw ?_ (fun n => stepOp_ok hty (hR.dr n) hn (evD_ok (he.mono (mono_dr x n))) hl h) hnext
    cases hop : o.op <;> first | rfl | (simp [stepOp, hop] at h)
  · obtain ⟨c, hop⟩ : ∃ c, o.op = .call c := by
      cases hop : o.op <;> first | (exact ⟨_, rfl⟩) | (exact absurd (by rw [hop]; rfl) hl)
    obtain ⟨callee, args, ats⟩ := c
    cases callee with
    | builtin bi => exact absurd (by rw [hop]; rfl) hl
    | invoke r m => simp [stepOp, hop] at h
    | value f =>
      simp only [stepOp, hop] at h
      have hev := evD_ok he
      split at h
      · rename_i g fs cs' xs hf hxs
        have hfv := hev f _ hf
        have hargs := evs_ok hev hxs
        generalize hv : a.eval f = vf at hfv
        cases hfv with
        | @fn _ _ _ vfs vcs h1 h2 h3 h4 =>
          have hall : RVs x (fs ++ xs ++ cs') (vfs ++ args.map a.eval ++ vcs) := by
            have e : (args.toList.map a.eval).toArray = args.map a.eval := Array.toList_inj.1 (by simp)
            rw [e] at hargs
            exact rvs_append (rvs_append ⟨h1, h3⟩ hargs) ⟨h2, h4⟩
          split at h
          · exact mu_enter hP hk ho hw hop rfl hv (hc _ _ _ _ _ h x _ hR rfl hall) fun y v hp => hnext y v hp.1 hp.2.1 hp.2.2.1 hp.2.2.2
          · exact mu_enter hP hk ho hw hop rfl hv (callD_ok hc hi h hR rfl hall) fun y v hp => hnext y v hp.1 hp.2.1 hp.2.2.1 hp.2.2.2
      · rename_i id xs hf hxs
        have hfv := hev f _ hf
        have hargs := evs_ok hev hxs
        generalize hv : a.eval f = vf at hfv
        cases hfv with
        | yld hS =>
          have e : (args.toList.map a.eval).toArray = args.map a.eval := Array.toList_inj.1 (by simp)
          rw [e] at hargs
          obtain ⟨lo, q1, q2, q3⟩ := hyl _ _ _ _ _ h x _ hR rfl hargs
          exact mu_round hP hk ho hw hop rfl hv q1 q2 q3 fun y v hp => hnext y v hp.1 hp.2.1 hp.2.2.1 hp.2.2.2
      · cases h
theorem runL_ok (hP : Plain P) (hty : TyOk P ty) (hc : CallOK P Final call) (hi : IsoOK P Final iso) (hyl : YldOK P Final yf) {ops : Array Oper} {b : Frame} {k : List Item} {cs : List Frame} (hk : b.kind ≠ .early) :
    ∀ (r pre : List Oper), ops.toList = pre ++ r → ∀ {env env' : List DV} {S' : Store} {a : Act} {x : Cx}, runL P ty iso call yf ops r env x.S = some (env', S') → Rel x → RVs x env a.tmps →
      (∀ y a', y.S = S' → Rel y → Mono x y → RVs y env' a'.tmps → a'.defers = a.defers → KMu P Final () (G (b.atR a' k) cs) y.w) → KMu P Final () (G (b.atR a (.inRegion ops (List.range' pre.length r.length) :: k)) cs) x.w
  | [], pre, _, env, env', S', a, x, h, hR, he, hn => by
    simp only [runL, Option.some.injEq, Prod.mk.injEq] at h
    obtain ⟨rfl, rfl⟩ := h
    exact mu_ctl hP (fun w => ⟨_, rG_end_region⟩) (hn x a rfl hR (Mono.refl x) he rfl)
  | o :: r, pre, hops, env, env', S', a, x, h, hR, he, hn => by
    have ho : ops[pre.length]? = some o := by
      rw [← Array.getElem?_toList, hops]
      simp
    have hops' : ops.toList = (pre ++ [o]) ++ r := by rw [hops]; simp
    have hlen : (pre ++ [o]).length = pre.length + 1 := by simp
    simp only [List.length_cons, List.range'_succ]
    unfold runL at h
    have hwe := wanted_ok he ops o
    by_cases hw : wantedD ops env o = true
    · rw [if_pos hw] at h
      rw [hw] at hwe
      obtain ⟨x1, k1, k2, k3, k4, k5⟩ := pre_ok (ty := ty) o hR he
      rw [← k1]
      split at h
      rename_i env1 S0 hpre
      rw [hpre] at k2 k5
      dsimp only at k2 k5
      subst k2
      split at h
      · rename_i v S1 h1
        refine mu_op hP hty hc hi hyl hk ho hwe k3 (.inl rfl) k5 h1 fun y u hyS hyR hyM hyV => ?_
        subst hyS
        have hput := put_ok (k5.mono hyM) (dst := o.dst) hyV
        have := runL_ok hP hty hc hi hyl hk r (pre ++ [o]) hops' h hyR hput.1 fun z a' z1 z2 z3 z4 z5 => hn z a' z1 z2 (k4.trans (hyM.trans z3)) z4 (z5.trans hput.2)
        rw [hlen] at this
        exact this
      · cases h
    · rw [if_neg hw] at h
      have hwf : wantedD ops env o = false := by simpa using hw
      rw [hwf] at hwe
      refine mu_ctl hP (fun w => ⟨_, rG_unwanted ho hwe⟩) ?_
      have hput := put_ok he (dst := o.dst) (d := dundef) (v := undef) (.val rfl)
      have := runL_ok hP hty hc hi hyl hk r (pre ++ [o]) hops' h hR hput.1 fun z a' z1 z2 z3 z4 z5 => hn z a' z1 z2 z3 z4 (z5.trans hput.2)
      rw [hlen] at this
      exact this
end Go.Di
end
section
namespace Go.Di
open Go Go.Conc Go.Co
variable {P : Program} {Final : Machine → Trace → Prop} {ty : Tys} {x : Cx} {iso : IsoF} {call : CallF} {yf : YldF}
def RegOK (P : Program) (Final : Machine → Trace → Prop) (ty : Tys) (iso : IsoF) (call : CallF) (yf : YldF) (id : Nat) (ops : Array Oper) (draw : Bool) : Prop :=
  ∀ {env env' : List DV} {S' : Store} {x : Cx} {a : Act} {b : Frame} {k : List Item} {cs : List Frame}, regionD P ty iso call yf ops draw env x.S = some (env', S') → b.kind ≠ .early → Rel x → RVs x env a.tmps →
    (∀ y a', y.S = S' → Rel y → Mono x y → RVs y env' a'.tmps → a'.defers = a.defers → KMu P Final () (G (b.atR a' k) cs) y.w) → KMu P Final () (G (b.atR a (.code (.region id ops draw) :: k)) cs) x.w
def RegsOK (P : Program) (Final : Machine → Trace → Prop) (ty : Tys) (iso : IsoF) (call : CallF) (yf : YldF) : Code → Prop
  | .region id ops draw => RegOK P Final ty iso call yf id ops draw
  | .seq a b | .cond _ a b => RegsOK P Final ty iso call yf a ∧ RegsOK P Final ty iso call yf b
  | .block _ c | .loop c | .scope c => RegsOK P Final ty iso call yf c
  | _ => True
theorem reg_plain (hP : Plain P) (hty : TyOk P ty) (hc : CallOK P Final call) (hi : IsoOK P Final iso) (hyl : YldOK P Final yf) (id : Nat) (ops : Array Oper) : RegOK P Final ty iso call yf id ops false := by
  intro env env' S' x a b k cs h hk hR he hn
  simp only [regionD, Bool.false_and, regionD0, Bool.false_eq_true, if_false] at h
  refine mu_ctl hP (fun w => ⟨_, rG_region⟩) ?_
  have := runL_ok hP hty hc hi hyl hk ops.toList [] rfl h hR he hn
  rw [List.range_eq_range']
  simpa using this
def AftD (P : Program) (Final : Machine → Trace → Prop) (b : Frame) (k : List Item) (cs : List Frame) : DX → Act → World → Prop
  | .normal, a, w => KMu P Final () (G (b.atR a k) cs) w
  | .exit id, a, w => ∀ k', exitTo id k' = exitTo id k → KMu P Final () (G (b.atR a (.code (.exit id) :: k')) cs) w
  | .ret, a, w => ∀ k', KMu P Final () (G (b.atR a (.code .ret :: k')) cs) w
theorem AftD.push {b : Frame} {k : List Item} {cs : List Frame} {e : DX} {a : Act} {w : World} {i : Item} (hi : ∀ id, exitTo id (i :: k) = exitTo id k) (he : e ≠ .normal) (h : AftD P Final b k cs e a w) : AftD P Final b (i :: k) cs e a w := by
  cases e with
  | normal => exact absurd rfl he
  | exit id => exact fun k' hk' => h k' (hk'.trans (hi id))
  | ret => exact h
def DefOK (n0 : Nat) (x : Cx) (ds : List Nat) (l : List Deferred) : Prop := l = ds.map (fun id => { target := .collected (x.μ id), args := #[] }) ∧ ds.Nodup ∧ ∀ id ∈ ds, n0 ≤ id ∧ x.S[id]? = some .defer ∧ x.w.heap[x.μ id]? = some (.deferred (some []))
theorem DefOK.mono {n0 : Nat} {y : Cx} (M : Mono x y) {ds : List Nat} {l : List Deferred} (h : DefOK n0 x ds l) : DefOK n0 y ds l := by
  obtain ⟨h1, h2, h3⟩ := h
  have hμ : ∀ id ∈ ds, y.μ id = x.μ id := fun id hid => (M.objs id _ (h3 id hid).2.1 rfl).1
  refine ⟨?_, h2, fun id hid => ?_⟩
  · rw [h1]
    exact List.map_congr_left fun id hid => by rw [hμ id hid]
  · obtain ⟨q1, q2, q3⟩ := h3 id hid
    obtain ⟨r1, ⟨b', r2, r3⟩, r4⟩ := M.objs id _ q2 rfl
    have : b' = .defer := by cases b' <;> first | rfl | exact r3.elim
    subst this
    exact ⟨q1, r2, by rw [hμ id hid, r4 rfl]; exact q3⟩
theorem defOK_nil (n0 : Nat) (x : Cx) : DefOK n0 x [] [] := ⟨rfl, List.nodup_nil, by simp⟩
theorem rG_rangeFunc {b : Frame} {a : Act} {k : List Item} {cs : List Frame} {w : World} {g : Operand} {ps : Array Tmp} {assign body : Code} {f : FuncId} {fs vs : Array Value} {fn : Func} {c : Code} (hk : b.kind ≠ .early) (hr : b.roundOf = none) (hg : a.eval g = .func (.func f) fs vs) (hf : P.funcs[f]? = some fn) (hb : fn.body = some c) (hname : (fn.name == "runtime.NumGoroutine") = false) :
    ∃ es, stepG P true (G (b.atR a (.code (.rangeFunc g ps assign body) :: k)) cs) w =
      .go (G (Frame.enter P f (fs ++ #[.func (.yield (w.heap.size + 1)) #[] #[]] ++ vs) .normal) (b.atR { a with defers := { target := .collected w.heap.size, args := #[] } :: a.defers } (.inRangeFunc (w.heap.size + 1) :: k) :: cs))
        ((w.alloc (.deferred (some []))).alloc (.loop { state := .ready, pending := none, fn := b.fn, tmps := a.tmps, params := ps, assign, body, defers := w.heap.size })) es := by
  have hk' : (b.kind == CallKind.early) = false := by simpa using hk
  have hev := Frame.eval_atR b { a with defers := { target := .collected w.heap.size, args := #[] } :: a.defers } (.inRangeFunc (w.heap.size + 1) :: k)
  simp only [Frame.atR, hr] at hev
  have hact : ({ tmps := a.tmps, defers := { target := .collected w.heap.size, args := #[] } :: a.defers } : Act).eval g = .func (.func f) fs vs := by
    rw [← hg]; cases g <;> rfl
  have hap : ∀ (w2 : World), (do let d ← resolve ({ tmps := a.tmps, defers := { target := .collected w.heap.size, args := #[] } :: a.defers } : Act).eval { callee := .value g, args := #[.const (.func (.yield (w.heap.size + 1)) #[] #[])], argTypes := #[] } 0; invoke d.target d.args : Sem Next).run P w2 = .ok (.enter f (fs ++ #[.func (.yield (w.heap.size + 1)) #[] #[]] ++ vs)) w2 := by
    intro w2
    have hcst : ∀ (a : Act) (v : Value), a.eval (.const v) = v := fun _ _ => rfl
    have hn2 : ¬ fn.name = "runtime.NumGoroutine" := by simpa using hname
    simp [resolve, hact, hcst, Deferred.ofValue, invoke, callFunc, hf, hn2, hb]
  have henter : (Instr.enterLoop b.fn a.tmps ps assign body none).run P w = .ok (w.heap.size + 1, [{ target := .collected w.heap.size, args := #[] }])
      ((w.alloc (.deferred (some []))).alloc (.loop { state := .ready, pending := none, fn := b.fn, tmps := a.tmps, params := ps, assign, body, defers := w.heap.size })) := by
    simp [Instr.enterLoop]
  simp only [G, stepG, stepG.exec, Frame.atR, hr, Sem.runT_eq, henter, stepG.apply, hev, if_true, hap, hk', List.singleton_append, GStep.after, Bool.false_eq_true, if_false]
  exact ⟨_, rfl⟩
end Go.Di
end
section
namespace Go.Di
open Go Go.Conc Go.Co
variable {P : Program} {Final : Machine → Trace → Prop} {ty : Tys} {x : Cx} {iso : IsoF} {call : CallF} {yf : YldF}
theorem rG_endRange {b : Frame} {a : Act} {k : List Item} {cs : List Frame} {w w' : World} {l : Nat} {jump : Option Code} (h : (Instr.endLoop l).run P w = .ok jump w') :
    ∃ es, stepG P true (G (b.atR a (.endRangeFunc l :: k)) cs) w = .go (G (b.atR a ((jump.map Item.code).toList ++ k)) cs) w' es := by
  simp only [G, stepG, stepG.exec, Frame.atR, Sem.runT_eq, h, GStep.after]
  exact ⟨_, rfl⟩
theorem loop_obj (hR : Rel x) {id : Nat} {r : DLoop} (h : x.S[id]? = some (.loop r)) : ∃ lo, x.w.heap[x.μ id]? = some (.loop lo) ∧ lo.state = r.st ∧ lo.pending = r.pend ∧ lo.fn = r.fn ∧ RVs x r.env lo.tmps ∧ lo.params = r.params.toArray ∧ lo.assign = r.assign ∧ lo.body = r.body ∧ lo.defers = x.μ r.dfr ∧ x.S[r.dfr]? = some .defer := by
  obtain ⟨o, h1, h2⟩ := hR.objs id _ h rfl
  cases o <;> simp only [ObjOK] at h2
  exact ⟨_, h1, h2⟩
theorem upd_loop (hR : Rel x) {id : Nat} {r : DLoop} (h : x.S[id]? = some (.loop r)) {lo : Loop} (hlo : x.w.heap[x.μ id]? = some (.loop lo)) (st : LoopState) (pd : Option Code) :
    Rel (x.updo id (.loop { lo with state := st, pending := pd }) (.loop { r with st := st, pend := pd })) ∧ Mono x (x.updo id (.loop { lo with state := st, pending := pd }) (.loop { r with st := st, pend := pd })) := by
  obtain ⟨lo', h1, h2, h3, h4, h5, h6, h7, h8, h9, h10⟩ := loop_obj hR h
  rw [hlo] at h1
  cases h1
  have M := mono_updo (x := x) (o := .loop { lo with state := st, pending := pd }) (b := .loop { r with st := st, pend := pd }) hR h rfl (by simp)
  refine ⟨rel_updo hR h rfl (by simp) ⟨rfl, rfl, h4, h5.mono M, h6, h7, h8, h9, ?_⟩, M⟩
  show (x.S.set _ _)[_]? = _
  rw [set_get h, if_neg (by rintro e; rw [e, h] at h10; cases h10)]
  exact h10
theorem nid_len (S : Store) : Nid S S.length := .inl rfl
theorem setS_len_eq (S : Store) (b : DB) : setS S S.length b = S ++ [b] := by unfold setS; rw [if_neg (by omega)]
set_option maxHeartbeats 1000000 in
theorem codeD_ok (hP : Plain P) (hc : CallOK P Final call) {L : Nat} {fn : FuncId} {rnd : Bool} {n0 : Nat} {b : Frame} {cs : List Frame} (hk : b.kind ≠ .early) (hfn : b.fn = fn) (hrd : rnd = false → b.roundOf = none) :
    ∀ (c : Code), RegsOK P Final ty iso call yf c → ∀ {k : List Item} {env env' : List DV} {S' : Store} {e : DX} {a : Act} {x : Cx} {ds : List Nat}, codeD P ty iso call yf L fn rnd c env x.S = some (e, env', S') → Rel x → RVs x env a.tmps → DefOK n0 x ds a.defers → n0 ≤ x.S.length →
      (∀ y a' ds', y.S = S' → Rel y → Mono x y → RVs y env' a'.tmps → DefOK n0 y ds' a'.defers → AftD P Final b k cs e a' y.w) → KMu P Final () (G (b.atR a (.code c :: k)) cs) x.w := by
  intro c
  induction c with
  | skip =>
    intro _ k env env' S' e a x ds h hR he hd hn0 hn
    simp only [codeD, Option.some.injEq, Prod.mk.injEq] at h
    obtain ⟨rfl, rfl, rfl⟩ := h
    exact mu_ctl hP (fun w => ⟨_, rG_skip⟩) (hn x a ds rfl hR (Mono.refl x) he hd)
  | label l =>
    intro _ k env env' S' e a x ds h hR he hd hn0 hn
    simp only [codeD, Option.some.injEq, Prod.mk.injEq] at h
    obtain ⟨rfl, rfl, rfl⟩ := h
    exact mu_ctl hP (fun w => ⟨_, rG_label⟩) (hn x a ds rfl hR (Mono.refl x) he hd)
  | region id ops draw =>
    intro hreg k env env' S' e a x ds h hR he hd hn0 hn
    simp only [codeD, Option.map_eq_some_iff, Prod.mk.injEq] at h
    obtain ⟨⟨env1, S1⟩, h1, rfl, rfl, rfl⟩ := h
    exact hreg h1 hk hR he fun y a' q1 q2 q3 q4 q5 => hn y a' ds q1 q2 q3 q4 (by rw [q5]; exact hd.mono q3)
  | seq c1 c2 ih1 ih2 =>
    intro hreg k env env' S' e a x ds h hR he hd hn0 hn
    simp only [codeD] at h
    refine mu_ctl hP (fun w => ⟨_, rG_seq⟩) ?_
    split at h
    · rename_i env1 S1 h1
      refine ih1 hreg.1 h1 hR he hd hn0 fun y a' ds' q1 q2 q3 q4 q5 => ?_
      subst q1
      exact ih2 hreg.2 h q2 q4 q5 (Nat.le_trans hn0 q3.len) fun z a'' ds'' r1 r2 r3 r4 r5 => hn z a'' ds'' r1 r2 (q3.trans r3) r4 r5
    · rename_i r hne
      refine ih1 hreg.1 h hR he hd hn0 fun y a' ds' q1 q2 q3 q4 q5 => AftD.push (fun _ => rfl) ?_ (hn y a' ds' q1 q2 q3 q4 q5)
      rintro rfl
      exact hne _ _ h
  | cond o c1 c2 ih1 ih2 =>
    intro hreg k env env' S' e a x ds h hR he hd hn0 hn
    simp only [codeD] at h
    split at h
    · rename_i ho
      have hv := rv_val (evD_ok he _ _ ho)
      refine mu_ctl hP (fun w => ⟨_, rG_cond hv⟩) ?_
      rw [if_pos rfl]
      exact ih1 hreg.1 h hR he hd hn0 hn
    · rename_i ho
      have hv := rv_val (evD_ok he _ _ ho)
      refine mu_ctl hP (fun w => ⟨_, rG_cond hv⟩) ?_
      rw [if_neg (by simp)]
      exact ih2 hreg.2 h hR he hd hn0 hn
    · cases h
  | block id c ih =>
    intro hreg k env env' S' e a x ds h hR he hd hn0 hn
    simp only [codeD] at h
    refine mu_ctl hP (fun w => ⟨_, rG_block⟩) ?_
    split at h
    · rename_i id' env1 S1 h1
      cases h
      refine ih hreg h1 hR he hd hn0 fun y a' ds' q1 q2 q3 q4 q5 => ?_
      have hf := hn y a' ds' q1 q2 q3 q4 q5
      intro k' hk'
      simp only [exitTo] at hk'
      by_cases hid : id' = id
      · subst hid
        simp only [beq_self_eq_true, if_true] at hk' hf
        exact mu_ctl hP (fun w => ⟨_, rG_exit hk'⟩) hf
      · rw [if_neg hid] at hf
        have : (id == id') = false := by simpa using fun e => hid e.symm
        rw [this] at hk'
        exact hf k' hk'
    · rename_i r hne
      refine ih hreg h hR he hd hn0 fun y a' ds' q1 q2 q3 q4 q5 => ?_
      have hf := hn y a' ds' q1 q2 q3 q4 q5
      cases e with
      | normal => exact mu_ctl hP (fun w => ⟨_, rG_inBlock⟩) hf
      | exit id' => exact absurd h (hne _ _ _)
      | ret => exact hf
  | loop c ih =>
    intro hreg k env env' S' e a x ds h hR he hd hn0 hn
    simp only [codeD] at h
    refine mu_ctl hP (fun w => ⟨_, rG_loop⟩) ?_
    have key : ∀ n {env : List DV} {a : Act} {x : Cx} {ds : List Nat}, iterD (codeD P ty iso call yf L fn rnd c) n env x.S = some (e, env', S') → Rel x → RVs x env a.tmps → DefOK n0 x ds a.defers → n0 ≤ x.S.length →
        (∀ y a' ds', y.S = S' → Rel y → Mono x y → RVs y env' a'.tmps → DefOK n0 y ds' a'.defers → AftD P Final b k cs e a' y.w) → KMu P Final () (G (b.atR a (.code c :: .inLoop c :: k)) cs) x.w := by
      intro n
      induction n with
      | zero => intro env a x ds h; simp [iterD] at h
      | succ n ihn =>
        intro env a x ds h hR he hd hn0 hn
        unfold iterD at h
        split at h
        · rename_i env1 S1 h1
          refine ih hreg h1 hR he hd hn0 fun y a' ds' q1 q2 q3 q4 q5 => ?_
          subst q1
          exact mu_ctl hP (fun w => ⟨_, rG_inLoop⟩) (ihn h q2 q4 q5 (Nat.le_trans hn0 q3.len) fun z a'' ds'' r1 r2 r3 r4 r5 => hn z a'' ds'' r1 r2 (q3.trans r3) r4 r5)
        · rename_i r hne
          refine ih hreg h hR he hd hn0 fun y a' ds' q1 q2 q3 q4 q5 => AftD.push (fun _ => rfl) ?_ (hn y a' ds' q1 q2 q3 q4 q5)
          rintro rfl
          exact hne _ _ h
    exact key L h hR he hd hn0 hn
  | scope c ih =>
    intro hreg k env env' S' e a x ds h hR he hd hn0 hn
    simp only [codeD] at h
    refine mu_ctl hP (fun w => ⟨_, rG_scope⟩) ?_
    refine ih hreg h hR he hd hn0 fun y a' ds' q1 q2 q3 q4 q5 => ?_
    have hf := hn y a' ds' q1 q2 q3 q4 q5
    cases e with
    | normal => exact mu_ctl hP (fun w => ⟨_, rG_inScope⟩) hf
    | exit id' => exact AftD.push (fun _ => rfl) (by simp) hf
    | ret => exact hf
  | exit id =>
    intro _ k env env' S' e a x ds h hR he hd hn0 hn
    simp only [codeD, Option.some.injEq, Prod.mk.injEq] at h
    obtain ⟨rfl, rfl, rfl⟩ := h
    exact hn x a ds rfl hR (Mono.refl x) he hd k rfl
  | ret =>
    intro _ k env env' S' e a x ds h hR he hd hn0 hn
    simp only [codeD, Option.some.injEq, Prod.mk.injEq] at h
    obtain ⟨rfl, rfl, rfl⟩ := h
    exact hn x a ds rfl hR (Mono.refl x) he hd k
  | goto l => intro _ k env env' S' e a x ds h; simp [codeD] at h
  | refuse why => intro _ k env env' S' e a x ds h; simp [codeD] at h
  | rangeFunc f ps asg body _ _ =>
    intro _ k env env' S' e a x ds h hR he hd hn0 hn
    simp only [codeD] at h
    split at h
    · cases h
    · rename_i hrnd
      have hro := hrd (by simpa using hrnd)
      split at h
      · rename_i g fs vs hf
        have hfv := evD_ok he _ _ hf
        generalize hv : a.eval f = vf at hfv
        cases hfv with
        | @fn _ _ _ vfs vcs k1 k2 k3 k4 =>
          split at h
          · rename_i u S1 h1
            refine mu_step hP fun n => ?_
            have hRn := hR.dr n
            have Mn := mono_dr x n
            have hp1 : Push (x.w.at n) ((x.w.at n).alloc (.deferred (some []))) (.deferred (some [])) := push_alloc _ _
            have hR1 := rel_fresh (x := x.dr n) (k := 0) (F := fun _ => False) (b := .defer) hRn (nid_len x.S) hp1 (by simp) (.inr (.inr (.inl ⟨rfl, by simp, trivial⟩)))
            have M1 := mono_fresh (x := x.dr n) (k := 0) (F := fun _ => False) (b := .defer) hRn (nid_len x.S) hp1
            generalize hx1 : (x.dr n).fresh ((x.w.at n).alloc (.deferred (some []))) x.S.length 0 (fun _ => False) .defer = x1 at hR1 M1
            have hS1 : x1.S = x.S ++ [.defer] := by rw [← hx1]; exact setS_len_eq x.S _
            have hw1 : x1.w = (x.w.at n).alloc (.deferred (some [])) := by rw [← hx1]; rfl
            have hμ1 : x1.μ x.S.length = x.w.heap.size := by rw [← hx1]; exact if_pos rfl
            have hlen1 : x1.S.length = x.S.length + 1 := by rw [hS1]; simp
            have hp2 : Push x1.w (((x.w.at n).alloc (.deferred (some []))).alloc (.loop { state := .ready, pending := none, fn := b.fn, tmps := a.tmps, params := ps, assign := asg, body, defers := x.w.heap.size })) (.loop { state := .ready, pending := none, fn := b.fn, tmps := a.tmps, params := ps, assign := asg, body, defers := x.w.heap.size }) := by
              rw [hw1]; exact push_alloc _ _
            have hnid2 : Nid x1.S (x.S.length + 1) := .inl hlen1.symm
            have M2 := mono_fresh (x := x1) (k := 0) (F := fun _ => False) (b := .loop ⟨.ready, none, fn, env, ps.toList, asg, body, x.S.length⟩) hR1 hnid2 hp2
            generalize hx2 : x1.fresh (((x.w.at n).alloc (.deferred (some []))).alloc (.loop { state := .ready, pending := none, fn := b.fn, tmps := a.tmps, params := ps, assign := asg, body, defers := x.w.heap.size })) (x.S.length + 1) 0 (fun _ => False) (.loop ⟨.ready, none, fn, env, ps.toList, asg, body, x.S.length⟩) = x2 at M2
            have hS2 : x2.S = x.S ++ [.defer, .loop ⟨.ready, none, fn, env, ps.toList, asg, body, x.S.length⟩] := by
              rw [← hx2]
              show setS x1.S (x.S.length + 1) _ = _
              rw [← hlen1, setS_len_eq, hS1]
              simp
            have hw2 : x2.w = ((x.w.at n).alloc (.deferred (some []))).alloc (.loop { state := .ready, pending := none, fn := b.fn, tmps := a.tmps, params := ps, assign := asg, body, defers := x.w.heap.size }) := by rw [← hx2]; rfl
            have hμ2 : x2.μ (x.S.length + 1) = x.w.heap.size + 1 := by
              rw [← hx2]
              show (if _ then x1.w.heap.size else _) = _
              rw [if_pos rfl, hw1]
              simp [World.at]
            have hμ2' : x2.μ x.S.length = x.w.heap.size := by
              rw [← hx2]
              show (if _ then _ else x1.μ x.S.length) = _
              rw [if_neg (by omega), hμ1]
            have MM := (Mn.trans M1).trans M2
            have hR2 : Rel x2 := by
              have := rel_fresh (x := x1) (k := 0) (F := fun _ => False) (b := .loop ⟨.ready, none, fn, env, ps.toList, asg, body, x.S.length⟩) hR1 hnid2 hp2 (by simp) (.inr (.inr (.inl ⟨rfl, by simp, ?_⟩)))
              · grind
              · rw [hx2]
                refine ⟨rfl, rfl, hfn, he.mono MM, by simp, rfl, rfl, hμ2'.symm, ?_⟩
                rw [hS2]
                simp
            have hdef2 : DefOK n0 x2 (x.S.length :: ds) ({ target := .collected x.w.heap.size, args := #[] } :: a.defers) := by
              obtain ⟨q1, q2, q3⟩ := hd.mono MM
              refine ⟨by rw [List.map_cons, hμ2', q1], List.nodup_cons.2 ⟨fun hm => ?_, q2⟩, fun id hid => ?_⟩
              · have := (List.getElem?_eq_some_iff.1 (hd.2.2 _ hm).2.1).1
                omega
              · rcases List.mem_cons.1 hid with rfl | hid
                · refine ⟨hn0, by rw [hS2]; simp, ?_⟩
                  rw [hμ2', hw2]
                  have : ((x.w.at n).alloc (.deferred (some []))).heap.size = x.w.heap.size + 1 := by simp [World.at]
                  rw [(push_alloc _ _).lt (by omega)]
                  exact (push_alloc (x.w.at n) _).new
                · grind
            have hargs : RVs x2 (fs ++ [.yld (x.S.length + 1)] ++ vs) (vfs ++ #[.func (.yield (x.w.heap.size + 1)) #[] #[]] ++ vcs) := by
              have e1 : RVs x2 fs vfs := RVs.mono MM ⟨k1, k3⟩
              have e2 : RVs x2 vs vcs := RVs.mono MM ⟨k2, k4⟩
              refine rvs_append (rvs_append e1 ⟨rfl, fun j c hj => ?_⟩) e2
              cases j with
              | zero =>
                simp only [List.getElem?_cons_zero, Option.some.injEq] at hj
                subst hj
                show RV x2 _ (.func (.yield (x.w.heap.size + 1)) #[] #[])
                rw [← hμ2]
                exact .yld (r := ⟨.ready, none, fn, env, ps.toList, asg, body, x.S.length⟩) (by rw [hS2]; simp)
              | succ j => simp at hj
            obtain ⟨⟨fn', cd, hf1, hf2⟩, hent⟩ := hc _ _ _ _ _ h1 x2 _ hR2 hS2 hargs
            obtain ⟨es, hstep⟩ := rG_rangeFunc (P := P) (b := b) (a := a) (k := k) (cs := cs) (w := x.w.at n) (g := f) (ps := ps) (assign := asg) (body := body) hk hro hv hf1 hf2 (hP.count g fn' hf1)
            refine ⟨_, _, _, es, hstep, ?_⟩
            have hent2 := hent (b.atR { a with defers := { target := .collected x.w.heap.size, args := #[] } :: a.defers } (.inRangeFunc (x.w.heap.size + 1) :: k)) cs fun y u hp => ?_
            · rw [hw2] at hent2
              exact hent2
            obtain ⟨hyS, hyR, hyM, -⟩ := hp
            subst hyS
            rw [finish_atR_inRangeFunc]
            have MY := MM.trans hyM
            split at h
            · rename_i r hr
              split at h
              · cases h
              · rename_i hbusy
                have hμy : y.μ (x.S.length + 1) = x.w.heap.size + 1 := by
                  rw [(hyM.objs _ _ (show x2.S[x.S.length + 1]? = some (.loop ⟨.ready, none, fn, env, ps.toList, asg, body, x.S.length⟩) by rw [hS2]; simp) rfl).1, hμ2]
                obtain ⟨lo, l1, l2, l3, -⟩ := loop_obj hyR hr
                rw [hμy] at l1
                obtain ⟨z1, z2⟩ := upd_loop hyR hr (by rw [hμy]; exact l1) .exhausted r.pend
                have hwz : (y.updo (x.S.length + 1) (.loop { lo with state := .exhausted, pending := r.pend }) (.loop { r with st := .exhausted, pend := r.pend })).w = setObjW y.w (x.w.heap.size + 1) (.loop { lo with state := .exhausted, pending := r.pend }) := by
                  show setObjW y.w (y.μ _) _ = _
                  rw [hμy]
                have hSz : (y.updo (x.S.length + 1) (.loop { lo with state := .exhausted, pending := r.pend }) (.loop { r with st := .exhausted, pend := r.pend })).S = y.S.set (x.S.length + 1) (.loop { r with st := .exhausted }) := rfl
                generalize y.updo (x.S.length + 1) (.loop { lo with state := .exhausted, pending := r.pend }) (.loop { r with st := .exhausted, pend := r.pend }) = z at z1 z2 hwz hSz
                have MZ := MY.trans z2
                refine mu_step hP fun n2 => ?_
                have hend2 : (Instr.endLoop (x.w.heap.size + 1)).run P (y.w.at n2) = .ok r.pend (z.w.at n2) := by
                  have hg := run_getObj (P := P) (w := y.w.at n2) (show (y.w.at n2).heap[x.w.heap.size + 1]? = _ from l1) (by simp)
                  have hs := run_setObj (P := P) (w := y.w.at n2) (o := .loop { lo with state := .exhausted, pending := r.pend }) (show (y.w.at n2).heap[x.w.heap.size + 1]? = _ from l1) (by simp)
                  have hb : (lo.state == LoopState.busy) = false := by rw [l2]; simpa using hbusy
                  simp only [Instr.endLoop, Instr.getLoop, Sem.run_bind, hg, Result.andThen_ok, Sem.run_pure, hb, Bool.false_eq_true, if_false, hs, l3]
                  rw [hwz]
                  rfl
                obtain ⟨es2, hst2⟩ := rG_endRange (P := P) (b := b) (a := { a with defers := { target := .collected x.w.heap.size, args := #[] } :: a.defers }) (k := k) (cs := cs) hend2
                refine ⟨_, _, _, es2, hst2, mu_at ?_ n2⟩
                have hfin := hn z { a with defers := { target := .collected x.w.heap.size, args := #[] } :: a.defers } (x.S.length :: ds)
                split at h
                · rename_i hpd
                  simp only [Option.some.injEq, Prod.mk.injEq] at h
                  obtain ⟨rfl, rfl, rfl⟩ := h
                  rw [hpd]
                  exact hfin hSz z1 MZ (he.mono MZ) ((hdef2.mono hyM).mono z2)
                · rename_i hpd
                  simp only [Option.some.injEq, Prod.mk.injEq] at h
                  obtain ⟨rfl, rfl, rfl⟩ := h
                  rw [hpd]
                  exact hfin hSz z1 MZ (he.mono MZ) ((hdef2.mono hyM).mono z2) k
                · rename_i e' hpd
                  simp only [Option.some.injEq, Prod.mk.injEq] at h
                  obtain ⟨rfl, rfl, rfl⟩ := h
                  rw [hpd]
                  exact hfin hSz z1 MZ (he.mono MZ) ((hdef2.mono hyM).mono z2) k rfl
                · cases h
            · cases h
          · cases h
      · cases h
end Go.Di
end
