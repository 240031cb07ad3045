/- The law CutKnown: part 13: Co4c Co4d Co5a Co5b. By an AI agent. -/
import Derived.Test.YtadeehilamokkaaGreatDoorPk12
import Derived.Conc.TokenWalk
import Derived.Conc.Script
import Derived.Conc.CompanyWords
import Derived.Conc.Own2
section
namespace Go.Co
open Go Go.Conc
inductive Pc where
  | stop
  | ret
  | bad
  | send (c : Nat) (v : Value) (k : Pc)
  | recv (c : Nat) (ok : Bool) (z : Value) (k : Option Value → Pc)
  | close (c : Nat) (k : Pc)
  | go (child k : Pc)
variable {P : Program} {Final : Machine → Trace → Prop} {main : Bool}
abbrev So := (Nat → Prop) × (Nat → Prop)
def So.all (γ : So) : Nat → Prop := fun b => γ.1 b ∨ γ.2 b
def So.give (γ : So) : So := (γ.all, fun _ => False)
def RlS (γ : So) (w w1 : World) : Prop := Rlo γ.1 γ.2 w w1
def StS (γ : So) (w : World) (γ' : So) (w' : World) (es : Array Event) : Prop := γ'.1 = γ.1 ∧ Sto γ.1 γ.2 w γ'.2 w' es
theorem tms_s : Tms RlS StS := ⟨fun _ _ _ _ h k => rlo_trans h k, fun γ w => ⟨rfl, sto_idle γ.1 γ.2 w⟩⟩
def AtSend (P : Program) (main : Bool) (c : Nat) (v : Value) (g : Goroutine) (w : World) : Prop := g.status = .running ∧ ∃ z, stepG P main g w = .comm (core g) #[scase c v z] true .send w
def AtRecv (P : Program) (main : Bool) (c : Nat) (ok : Bool) (z : Value) (g : Goroutine) (w : World) : Prop := g.status = .running ∧ stepG P main g w = .comm (core g) #[rcase c z] true (.recv ok) w
def Pr (P : Program) (Final : Machine → Trace → Prop) (main : Bool) : Pc → So → Goroutine → World → Prop
  | .stop, _, g, _ => ∃ n, QuitsD P n 0 g
  | .ret, _, g, w => g.dying = none ∧ KMu P Final () g w
  | .bad, _, _, _ => True
  | .send c v k, γ, g, w => Gt P main RlS StS (fun γ g w => AtSend P main c v g w ∧ ∀ w1, RlS γ w w1 → Pr P Final main k γ (Conc.served g undef) w1) γ g w
  | .recv c ok z k, γ, g, w => Gt P main RlS StS (fun γ g w => AtRecv P main c ok z g w ∧ ∀ x w1, RlS γ w w1 → Pr P Final main (k x) γ (Conc.served g (recvd ok (x.getD z) x.isSome)) w1) γ g w
  | .close c k, γ, g, w => Gt P main RlS StS (fun γ g w => g.status = .running ∧ mayWake P g = true ∧ ∃ g', g'.status = .running ∧ (∀ s r tm, w.heap[c]? = some (.chan 0 #[] false s r tm) → stepG P main g w = .go g' (w.setChan c 0 #[] true s r tm) (closeEvents c)) ∧ ∀ w1, RlS γ w w1 → Pr P Final main k γ g' w1) γ g w
  | .go child k, γ, g, w => Gt P main RlS StS (fun γ g w => g.status = .running ∧ ∃ g' ch, g'.status = .running ∧ stepG P main g w = .spawn g' ch w ∧ ch.status = .running ∧ (∀ w1, RlS γ.give w w1 → Pr P Final false child γ.give ch w1) ∧ ∀ w1, RlS γ.give w w1 → Pr P Final main k γ.give g' w1) γ g w
theorem pr_rely {p : Pc} (hp : p ≠ .ret) {γ : So} {g : Goroutine} {w w1 : World} (h : Pr P Final main p γ g w) (r : RlS γ w w1) : Pr P Final main p γ g w1 := by
  cases p with
  | stop => exact h
  | ret => exact absurd rfl hp
  | bad => trivial
  | send c v k => exact gt_rely tms_s h r
  | recv c ok z k => exact gt_rely tms_s h r
  | close c k => exact gt_rely tms_s h r
  | go ch k => exact gt_rely tms_s h r
abbrev Gm := Pc × So
def RlG (γ : Gm) (w w1 : World) : Prop := match γ.1 with | .ret => ∃ d, w1 = w.at d | _ => RlS γ.2 w w1
def StG (γ : Gm) (w : World) (γ' : Gm) (w' : World) (es : Array Event) : Prop := γ'.1 = γ.1 ∧ match γ.1 with | .ret => True | _ => StS γ.2 w γ'.2 w' es
def KG (P : Program) (Final : Machine → Trace → Prop) (main : Bool) (γ : Gm) (g : Goroutine) (w : World) : Prop := (main = false → γ.1 ≠ .ret) → γ.1 ≠ .stop → Pr P Final main γ.1 γ.2 g w
theorem kc_pr (hP : Plain P) : KC P main (KG P Final main) RlG StG where
  step := fun γ fr cs w h hm hne => by
    obtain ⟨p, γ⟩ := γ
    have key : ∀ {Stop : So → Goroutine → World → Prop}, (∀ γ g w, Pr P Final main p γ g w ↔ Gt P main RlS StS Stop γ g w) → p ≠ .ret → p ≠ .stop → Pr P Final main p γ (G fr cs) w := by
      intro Stop hs hr hst
      rw [hs]
      refine gt_step rfl fun w1 h1 => ?_
      have h1' : RlG (p, γ) w w1 := by
        unfold RlG
        cases p <;> first | exact h1 | exact absurd rfl hr
      obtain ⟨fr', cs', w', es, γ', e, hst', hk⟩ := h w1 h1'
      obtain ⟨p', γ'⟩ := γ'
      obtain ⟨hp', hst'⟩ := hst'
      simp only at hp'
      subst hp'
      have hst2 : StS γ w1 γ' w' es := by grind
      exact ⟨_, _, _, γ', e, hst2, (hs _ _ _).1 (hk (fun _ => hr) hst)⟩
    cases p with
    | stop => exact absurd rfl hne
    | ret =>
      cases main with
      | false => exact absurd rfl (hm rfl)
      | true =>
        refine ⟨rfl, (kc_main hP).step () fr cs w fun w1 h1 => ?_⟩
        obtain ⟨fr', cs', w', es, γ', e, ⟨hp', -⟩, hk⟩ := h w1 h1
        obtain ⟨p', γ'⟩ := γ'
        simp only at hp'
        subst hp'
        exact ⟨fr', cs', w', es, (), e, trivial, (hk hm hne).2⟩
    | bad => trivial
    | send c v k => exact key (fun _ _ _ => Iff.rfl) (by simp) (by simp)
    | recv c ok z k => exact key (fun _ _ _ => Iff.rfl) (by simp) (by simp)
    | close c k => exact key (fun _ _ _ => Iff.rfl) (by simp) (by simp)
    | go ch k => exact key (fun _ _ _ => Iff.rfl) (by simp) (by simp)
  idle := fun γ w => by
    obtain ⟨p, γ⟩ := γ
    refine ⟨rfl, ?_⟩
    cases p <;> first | exact trivial | exact ⟨rfl, sto_idle γ.1 γ.2 w⟩
  rely := fun γ g w w1 r h hm hne => by
    obtain ⟨p, γ⟩ := γ
    by_cases hp : p = .ret
    · subst hp
      obtain ⟨d, rfl⟩ := r
      exact ⟨(h hm hne).1, fun d' => (h hm hne).2 d'⟩
    · refine pr_rely hp (h hm hne) ?_
      unfold RlG at r
      cases p <;> first | exact r | exact absurd rfl hp
end Go.Co
end
section
namespace Go.Co
open Go Go.Conc
variable {P : Program} {Final : Machine → Trace → Prop} {main : Bool} {fn : FuncId} {γ : So} {ops : Array Oper} {i : Nat} {rest : List Nat} {o : Oper} {Q : Gm → Exit → Act → World → Prop} {a : Act} {w : World}
theorem served_at (ho : ops[i]? = some o) (b : Frame) (k : List Item) (cs : List Frame) (v : Value) :
    Conc.served (G (b.at a (.inRegion ops (i :: rest) :: k)) cs) v = G (b.at (a.put o.dst v) (.inRegion ops rest :: k)) cs := by
  have : (b.at a (.inRegion ops (i :: rest) :: k)).finish v = b.at (a.put o.dst v) (.inRegion ops rest :: k) := by rw [Frame.finish_at, ho]; rfl
  simp [Conc.served, G, this]
theorem ko_send {c : Nat} {v : Value} {p : Pc} {ch x : Operand}
    (ho : ops[i]? = some o) (hw : Region.wanted o (yielded ops a.tmps) = true) (hop : o.op = .send ch x) (hch : a.eval ch = .chan (some c)) (hx : a.eval x = v) (hs : p ≠ .stop) (hr : p ≠ .ret)
    (h : ∀ w1, RlS γ w w1 → KO (KG P Final main) fn (p, γ) ops rest Q (a.put o.dst undef) w1) : KO (KG P Final main) fn (.send c v p, γ) ops (i :: rest) Q a w := by
  intro b k cs hb hk hc _ _
  refine gt_stop fun w1 h1 => ?_
  have hrun : (execOp a.eval o).run P w1 = .ok (.comm #[scase c v (.tuple #[])] true .send) w1 := by
    simp only [execOp, hop, hch, hx]
    rfl
  have hl : listed P b.fn a o w1 = #[] := by
    refine listed_nil ?_
    simp only [execOp, hop]
    rfl
  have hst := stepG_comm (P := P) (main := main) (b := b) (k := k) (cs := cs) (rest := rest) ho hw hk hrun
  rw [hl] at hst
  refine ⟨⟨rfl, .tuple #[], hst⟩, fun w2 h2 => ?_⟩
  rw [served_at ho]
  exact h w2 (rlo_trans h1 h2) b k cs hb hk hc (fun _ => hr) hs
theorem ko_send_last {c : Nat} {v : Value} {ch x : Operand} {b : Frame} {k : List Item} {cs : List Frame}
    (ho : ops[i]? = some o) (hw : Region.wanted o (yielded ops a.tmps) = true) (hop : o.op = .send ch x) (hch : a.eval ch = .chan (some c)) (hx : a.eval x = v) (hk : b.kind ≠ .early)
    (h : ∃ n, QuitsD P n 0 (G (b.at (a.put o.dst undef) (.inRegion ops rest :: k)) cs)) : KG P Final main (.send c v .stop, γ) (G (b.at a (.inRegion ops (i :: rest) :: k)) cs) w := by
  intro _ _
  refine gt_stop fun w1 h1 => ?_
  have hrun : (execOp a.eval o).run P w1 = .ok (.comm #[scase c v (.tuple #[])] true .send) w1 := by
    simp only [execOp, hop, hch, hx]
    rfl
  have hl : listed P b.fn a o w1 = #[] := by
    refine listed_nil ?_
    simp only [execOp, hop]
    rfl
  have hst := stepG_comm (P := P) (main := main) (b := b) (k := k) (cs := cs) (rest := rest) ho hw hk hrun
  rw [hl] at hst
  refine ⟨⟨rfl, .tuple #[], hst⟩, fun w2 h2 => ?_⟩
  rw [served_at ho]
  exact h
theorem ko_recv {c : Nat} {ok : Bool} {z : Value} {p : Option Value → Pc}
    (ho : ops[i]? = some o) (hw : Region.wanted o (yielded ops a.tmps) = true)
    (hrun : ∀ w, (execOp a.eval o).run P w = .ok (.comm #[rcase c z] true (.recv ok)) w) (hev : ∀ w, (execOp a.eval o).events P w #[] = #[])
    (hs : ∀ x, p x ≠ .stop) (hr : main = false → ∀ x, p x ≠ .ret)
    (h : ∀ x w1, RlS γ w w1 → KO (KG P Final main) fn (p x, γ) ops rest Q (a.put o.dst (recvd ok (x.getD z) x.isSome)) w1) : KO (KG P Final main) fn (.recv c ok z p, γ) ops (i :: rest) Q a w := by
  intro b k cs hb hk hc _ _
  refine gt_stop fun w1 h1 => ?_
  have hl : listed P b.fn a o w1 = #[] := listed_nil (hev w1)
  have hst := stepG_comm (P := P) (main := main) (b := b) (k := k) (cs := cs) (rest := rest) ho hw hk (hrun w1)
  rw [hl] at hst
  refine ⟨⟨rfl, hst⟩, fun x w2 h2 => ?_⟩
  rw [served_at ho]
  exact h x w2 (rlo_trans h1 h2) b k cs hb hk hc (fun hm => hr hm x) (hs x)
theorem ko_go {child p : Pc} {d : Deferred} {f : Fn} {cap : Array Value}
    (ho : ops[i]? = some o) (hw : Region.wanted o (yielded ops a.tmps) = true) (hrun : ∀ w, (execOp a.eval o).run P w = .ok (.spawn d) w) (hev : ∀ w, (execOp a.eval o).events P w #[] = #[]) (hd : d.target = .fn f cap)
    (hs : p ≠ .stop) (hr : main = false → p ≠ .ret)
    (hch : ∀ w1, RlS γ w w1 → ∀ w2, RlS γ.give w1 w2 → Pr P Final false child γ.give (born P d) w2)
    (h : ∀ w1, RlS γ w w1 → ∀ w2, RlS γ.give w1 w2 → KO (KG P Final main) fn (p, γ.give) ops rest Q (a.put o.dst undef) w2) : KO (KG P Final main) fn (.go child p, γ) ops (i :: rest) Q a w := by
  intro b k cs hb hk hc _ _
  refine gt_stop fun w1 h1 => ?_
  have hl : listed P b.fn a o w1 = #[] := listed_nil (hev w1)
  have hst := stepG_spawn (P := P) (main := main) (b := b) (k := k) (cs := cs) (rest := rest) ho hw hk (hrun w1) hd
  rw [hl] at hst
  exact ⟨rfl, _, _, rfl, hst, rfl, fun w2 h2 => hch w1 h1 w2 h2, fun w2 h2 => h w1 h1 w2 h2 b k cs hb hk hc hr hs⟩
theorem ko_close_last {c : Nat} {x : Operand} {ats : Array TypeId} {b : Frame} {k : List Item} {cs : List Frame} (hq : ∀ f : FuncId, (P.funcs[f]?).any (·.norace) = false)
    (ho : ops[i]? = some o) (hw : Region.wanted o (yielded ops a.tmps) = true) (hop : o.op = .call { callee := .builtin .close, args := #[x], argTypes := ats }) (hx : a.eval x = .chan (some c)) (hk : b.kind ≠ .early)
    (h : ∃ n, QuitsD P n 0 (G (b.at (a.put o.dst (.tuple #[])) (.inRegion ops rest :: k)) cs)) : KG P Final main (.close c .stop, γ) (G (b.at a (.inRegion ops (i :: rest) :: k)) cs) w := by
  intro _ _
  refine gt_stop fun w1 h1 => ⟨rfl, ?_, _, rfl, fun s r tm hc => stepG_close ho hw hk hop hx hc (hq _), fun w2 _ => h⟩
  simp [mayWake, G, Frame.at, ho, hop]
end Go.Co
end
section
namespace Go.Co
open Go Go.Conc
open Go.ConcN (upd upd_same upd_ne)
structure Net where
  n : Nat
  pr : Nat → Pc
  D : Nat → Nat → Prop
  cl : Nat → Option (Nat → Prop)
def Pc.over (p : Pc) : Prop := p = .stop
namespace Net
variable (N : Net)
def meet (i j : Nat) (k k' : Pc) : Net :=
  { N with
    pr := upd (upd N.pr i k) j k'
    D := fun x y => if x = i ∨ x = j then N.D i y ∨ N.D j y ∨ (y = i ∧ k = .stop) ∨ (y = j ∧ k' = .stop) else N.D x y }
def shut (i c : Nat) (k : Pc) : Net :=
  { N with pr := upd N.pr i k, cl := upd N.cl c (some fun y => N.D i y ∨ (y = i ∧ k = .stop)) }
def hear (j : Nat) (k : Pc) (E : Nat → Prop) : Net :=
  { N with pr := upd N.pr j k, D := fun x y => if x = j then N.D j y ∨ E y else N.D x y }
def start (i : Nat) (ch k : Pc) : Net :=
  { N with n := N.n + 1, pr := upd (upd N.pr i k) N.n ch, D := fun x y => if x = N.n then N.D i y else N.D x y }
end Net
inductive Win (Cs : Nat → Prop) : Net → Prop
  | done (N : Net) : N.pr 0 = .ret → (∀ j, 0 < j → j < N.n → N.pr j = .stop ∧ N.D 0 j) → Win Cs N
  | step (N : Net) :
      (∀ j, j < N.n → N.pr j ≠ .ret ∧ N.pr j ≠ .bad) → N.pr 0 ≠ .stop →
      (∀ i c v k, i < N.n → N.pr i = .send c v k → N.cl c = none ∧ Cs c) →
      (∀ j c ok z k, j < N.n → N.pr j = .recv c ok z k → Cs c) →
      ((∃ i j c v k ok z k', i < N.n ∧ j < N.n ∧ N.pr i = .send c v k ∧ N.pr j = .recv c ok z k') ∨ (∃ i c k, i < N.n ∧ N.pr i = .close c k) ∨ (∃ j c ok z k E, j < N.n ∧ N.pr j = .recv c ok z k ∧ N.cl c = some E) ∨ (∃ i ch k, i < N.n ∧ N.pr i = .go ch k)) →
      (∀ i j c v k ok z k', i < N.n → j < N.n → N.pr i = .send c v k → N.pr j = .recv c ok z k' → Win Cs (N.meet i j k (k' (some v)))) →
      (∀ i c k, i < N.n → N.pr i = .close c k → N.cl c = none ∧ Cs c) →
      (∀ i c k, i < N.n → N.pr i = .close c k → Win Cs (N.shut i c k)) →
      (∀ j c ok z k E, j < N.n → N.pr j = .recv c ok z k → N.cl c = some E → Win Cs (N.hear j (k none) E)) →
      (∀ i ch k, i < N.n → N.pr i = .go ch k → Win Cs (N.start i ch k)) → Win Cs N
structure TI (N : Net) (γ : Nat → So) (sz : Nat) (tp : Nat) (t : Trace) : Prop where
  clean : ∀ said, ¬ Race said t
  hears : ∀ j, (N.pr j ≠ .stop ∨ N.n ≤ j) → Deaf t j = 0
  pre : ∀ i a j, i < tp → touchAt t i = some a → a.loc.isMemory = true → N.pr j ≠ .stop → j < N.n → Knows t j i
  own : ∀ i a b j, tp ≤ i → touchAt t i = some a → a.loc = .cell b → (γ j).2 b.block → t.g? i = some j
  shr : ∀ i a b j, tp ≤ i → touchAt t i = some a → a.loc = .cell b → a.write = true → (γ j).1 b.block → N.pr j ≠ .stop → j < N.n → Knows t j i
  low : ∀ i a b, tp ≤ i → touchAt t i = some a → a.loc = .cell b → b.block < sz
  obj : ∀ i a, tp ≤ i → touchAt t i = some a → (∃ b, a.loc = .cell b) ∨ (a.write = false ∧ a.kind = .atomic)
  num : ∀ i j, tp ≤ i → t.g? i = some j → j < N.n
  kn : ∀ i a j x, tp ≤ i → touchAt t i = some a → t.g? i = some j → N.pr j = .stop → N.D x j → (x = 0 ∨ N.pr x ≠ .stop) → x < N.n → Knows t x i
  kc : ∀ c E, N.cl c = some E → ∃ q z, t[q]? = some z ∧ z.act = .close c ∧ t.heard q ∧ ∀ i a j, tp ≤ i → touchAt t i = some a → t.g? i = some j → E j → Before t i q
  disj : ∀ j j' b, (γ j).2 b → ¬ (γ j').1 b ∧ (j ≠ j' → ¬ (γ j').2 b)
  bnd : ∀ j b, (γ j).1 b ∨ (γ j).2 b → b < sz
  cov : ∀ c E j, N.cl c = some E → E j → j < N.n ∧ N.pr j = .stop
  dst : ∀ x j, N.D x j → j < N.n ∧ N.pr j = .stop
  tpl : tp ≤ t.size
theorem g?_own {t : Trace} {i j : Nat} (h : t.g? i = some j) : Knows t j i := by
  unfold Trace.g? at h
  obtain ⟨z, hz, rfl⟩ := Option.map_eq_some_iff.1 h
  exact knows_own hz
theorem TI.step {N : Net} {γ : Nat → So} {sz sz' tp : Nat} {t : Trace} (h : TI N γ sz tp t) {j : Nat} (hj : j < N.n) (hl : N.pr j ≠ .stop) {O' : Nat → Prop} {es : Array Event} (fn : FuncId) (pos : String)
    (hsz : sz ≤ sz') (hO : ∀ b, O' b ↔ ((γ j).2 b ∨ (sz ≤ b ∧ b < sz'))) (hes : ∀ e ∈ es, Evo (γ j).1 O' e) :
    TI N (upd γ j ((γ j).1, O')) sz' tp (t ++ MemOp.ofEvents j fn pos es) := by
  have hu : ∀ op ∈ MemOp.ofEvents j fn pos es, op.g = j := fun op hop => by rw [ofEvents_eq] at hop; obtain ⟨e, _, rfl⟩ := Array.mem_map.1 hop; rfl
  have hut : ∀ op ∈ MemOp.ofEvents j fn pos es, ∀ b, op.act.touch? = some b → ∃ ad wr kd, b = ⟨.cell ad, wr, kd⟩ ∧ (wr = true → O' ad.block) ∧ ((γ j).1 ad.block ∨ O' ad.block) := by
    intro op hop b hb
    rw [ofEvents_eq] at hop
    obtain ⟨e, he, rfl⟩ := Array.mem_map.1 hop
    rcases hes e he with ⟨ad, wr, sy, rfl, h1, h2⟩ | ⟨m, rfl, hm⟩
    · simp [MemAct.ofEvent, MemAct.touch?] at hb
      subst hb
      exact ⟨ad, wr, _, rfl, h1, h2⟩
    · have := hm.touch
      simp [MemAct.ofEvent, this] at hb
  have hcase : ∀ i a, touchAt (t ++ MemOp.ofEvents j fn pos es) i = some a → (i < t.size ∧ touchAt t i = some a ∧ (t ++ MemOp.ofEvents j fn pos es).g? i = t.g? i) ∨ (t.size ≤ i ∧ (t ++ MemOp.ofEvents j fn pos es).g? i = some j ∧ ∃ ad wr kd, a = ⟨.cell ad, wr, kd⟩ ∧ (wr = true → O' ad.block) ∧ ((γ j).1 ad.block ∨ O' ad.block)) := by
    intro i a ha
    obtain ⟨x, hx, hxa⟩ := touch_of ha
    rcases getElem?_append_cases hx with ⟨hlt, hx'⟩ | ⟨hge, hxu⟩
    · exact .inl ⟨hlt, by rw [touchAt_of hx']; exact hxa, g?_old hlt⟩
    · exact .inr ⟨hge, by simp [Trace.g?, hx, hu x hxu], hut x hxu a hxa⟩
  have hmem : ∀ j' b, (upd γ j ((γ j).1, O') j').1 b ↔ (γ j').1 b := by
    intro j' b
    by_cases hjj : j' = j
    · subst hjj; rw [upd_same]
    · rw [upd_ne _ _ hjj]
  have hown : ∀ j' b, (upd γ j ((γ j).1, O') j').2 b → (γ j').2 b ∨ (j' = j ∧ sz ≤ b ∧ b < sz') := by
    intro j' b hb
    by_cases hjj : j' = j
    · subst hjj
      rw [upd_same] at hb
      exact ((hO b).1 hb).imp id fun h => ⟨rfl, h⟩
    · rw [upd_ne _ _ hjj] at hb
      exact .inl hb
  have hOb : ∀ b, O' b → b < sz' := fun b hb => ((hO b).1 hb).elim (fun h' => Nat.lt_of_lt_of_le (h.bnd j b (.inr h')) hsz) (·.2)
  refine ⟨fun said => ?_, fun k hlive => ?_, ?_, ?_, ?_, ?_, ?_, ?_, ?_, ?_, ?_, ?_, h.cov, h.dst, ?_⟩
  ·
    refine noRace_append (h.clean said) hu fun i a ha op hop b hb hc => ?_
    rcases Nat.lt_or_ge i tp with hi | hi
    · exact h.pre i a j hi ha hc.2.1 hl hj
    · obtain ⟨ad, wr, kd, rfl, h1, h2⟩ := hut op hop b hb
      have hloc : a.loc = .cell ad := hc.1
      by_cases hS : (γ j).1 ad.block
      · have hw : wr = false := by
          cases wr with
          | false => rfl
          | true =>
            rcases (hO _).1 (h1 rfl) with h3 | h3
            · exact absurd hS (h.disj j j _ h3).1
            · have := h.bnd j _ (.inl hS)
              omega
        subst hw
        have haw : a.write = true := by
          rcases hc.2.2.1 with h3 | h3
          · exact h3
          · cases h3
        exact h.shr i a ad j hi ha hloc haw hS hl hj
      · have hO' := h2.resolve_left hS
        rcases (hO _).1 hO' with h3 | h3
        · exact g?_own (h.own i a ad j hi ha hloc h3)
        · have := h.low i a ad hi ha hloc
          omega
  ·
    by_cases hk : k = j
    · subst hk
      rw [Deaf_own, h.hears k (.inl hl)]
      refine bal_all fun e he => ?_
      rcases hes e he with ⟨ad, wr, sy, rfl, -, -⟩ | ⟨m, rfl, hm⟩
      · simp
      · have h1 := hm.ne_disable
        simp [h1]
    · rw [Deaf_other t (Ne.symm hk) _ hu, h.hears k hlive]
  · intro i a k hi ha hm hlk hk
    rcases hcase i a ha with ⟨_, ha', _⟩ | ⟨hge, _, _⟩
    · exact (h.pre i a k hi ha' hm hlk hk).app _
    · have := h.tpl; omega
  · intro i a b k hi ha hloc hb
    rcases hcase i a ha with ⟨_, ha', hg⟩ | ⟨_, hg, ad, wr, kd, rfl, h1, h2⟩
    · rw [hg]
      rcases hown k _ hb with h3 | ⟨_, h3, _⟩
      · exact h.own i a b k hi ha' hloc h3
      · have := h.low i a b hi ha' hloc
        omega
    · rw [hg]
      cases hloc
      by_cases hkj : k = j
      · rw [hkj]
      · exfalso
        rw [upd_ne _ _ hkj] at hb
        have hd := h.disj k j _ hb
        rcases h2 with h3 | h3
        · grind
        · rcases (hO _).1 h3 with h4 | h4
          · grind
          · have := h.bnd k _ (.inr hb)
            omega
  · intro i a b k hi ha hloc haw hb hlk hk
    rw [hmem] at hb
    rcases hcase i a ha with ⟨_, ha', hg⟩ | ⟨_, hg, ad, wr, kd, rfl, h1, h2⟩
    · exact (h.shr i a b k hi ha' hloc haw hb hlk hk).app _
    · cases hloc
      exfalso
      rcases (hO _).1 (h1 haw) with h4 | h4
      · exact (h.disj j k _ h4).1 hb
      · have := h.bnd k _ (.inl hb)
        omega
  · intro i a b hi ha hloc
    rcases hcase i a ha with ⟨_, ha', _⟩ | ⟨_, _, ad, wr, kd, rfl, h1, h2⟩
    · exact Nat.lt_of_lt_of_le (h.low i a b hi ha' hloc) hsz
    · cases hloc
      rcases h2 with h3 | h3
      · exact Nat.lt_of_lt_of_le (h.bnd j _ (.inl h3)) hsz
      · grind
  · intro i a hi ha
    rcases hcase i a ha with ⟨_, ha', _⟩ | ⟨_, _, ad, wr, kd, rfl, h1, h2⟩
    · exact h.obj i a hi ha'
    · grind
  · intro i k hi hg
    unfold Trace.g? at hg
    obtain ⟨z, hz, rfl⟩ := Option.map_eq_some_iff.1 hg
    rcases getElem?_append_cases hz with ⟨hlt, hz'⟩ | ⟨_, hzu⟩
    · exact h.num i z.g hi (by simp [Trace.g?, hz'])
    · grind
  · intro i a k x hi ha hg hs hD hx hxn
    rcases hcase i a ha with ⟨_, ha', hg'⟩ | ⟨_, hg', _⟩
    · rw [hg'] at hg
      exact (h.kn i a k x hi ha' hg hs hD hx hxn).app _
    · grind
  · intro c E hE
    obtain ⟨q, z, hq, hz, hh, hk⟩ := h.kc c E hE
    refine ⟨q, z, by rw [getElem?_append_old (lt_size_of_getElem? hq)]; exact hq, hz, (heard_old (lt_size_of_getElem? hq)).2 hh, fun i a k hi ha hg hEk => ?_⟩
    rcases hcase i a ha with ⟨_, ha', hg'⟩ | ⟨_, hg', _⟩
    · rw [hg'] at hg
      exact (hk i a k hi ha' hg hEk).app _
    · rw [hg'] at hg
      cases hg
      exact absurd (h.cov c E j hE hEk).2 hl
  · intro k k' b hb
    rw [hmem]
    rcases hown k b hb with h3 | ⟨rfl, h3, h3'⟩
    · have := h.disj k k' b h3
      refine ⟨this.1, fun hne hb' => ?_⟩
      rcases hown k' b hb' with h4 | ⟨_, h4, _⟩
      · grind
      · have := h.bnd k b (.inr h3)
        omega
    · refine ⟨fun hS => ?_, fun hne hb' => ?_⟩
      · have := h.bnd k' b (.inl hS)
        omega
      · rcases hown k' b hb' with h4 | ⟨h4, _, _⟩
        · have := h.bnd k' b (.inr h4)
          omega
        · grind
  · intro k b hb
    rw [hmem] at hb
    rcases hb with hb | hb
    · exact Nat.lt_of_lt_of_le (h.bnd k b (.inl hb)) hsz
    · rcases hown k b hb with h3 | ⟨_, _, h3⟩
      · exact Nat.lt_of_lt_of_le (h.bnd k b (.inr h3)) hsz
      · exact h3
  · have := h.tpl
    simp; omega
theorem TI.move {N N' : Net} {γ γ' : Nat → So} {sz tp : Nat} {t u : Trace} (h : TI N γ sz tp t)
    (hu : ∀ op ∈ u, op.act.touch? = none) (hears : ∀ j, (N'.pr j ≠ .stop ∨ N'.n ≤ j) → Deaf (t ++ u) j = 0) (hn : N.n ≤ N'.n) (hnum : ∀ op ∈ u, op.g < N'.n)
    (inh : ∀ j, N'.pr j ≠ .stop → j < N'.n → ∃ j0, j0 < N.n ∧ N.pr j0 ≠ .stop ∧ (∀ x, Knows t j0 x → Knows (t ++ u) j x) ∧ ∀ b, (γ' j).1 b → (γ j0).1 b ∨ (γ j0).2 b)
    (hown : ∀ j b, (γ' j).2 b → (γ j).2 b)
    (hkn : ∀ x y, N'.D x y → N'.pr y = .stop → (x = 0 ∨ N'.pr x ≠ .stop) → x < N'.n → ∀ i a, tp ≤ i → touchAt t i = some a → t.g? i = some y → Knows (t ++ u) x i)
    (hkc : ∀ c E, N'.cl c = some E → ∃ q z, (t ++ u)[q]? = some z ∧ z.act = .close c ∧ (t ++ u).heard q ∧ ∀ i a j, tp ≤ i → touchAt t i = some a → t.g? i = some j → E j → Before (t ++ u) i q)
    (hdisj : ∀ j j' b, (γ' j).2 b → ¬ (γ' j').1 b ∧ (j ≠ j' → ¬ (γ' j').2 b)) (hbnd : ∀ j b, (γ' j).1 b ∨ (γ' j).2 b → b < sz)
    (hcov : ∀ c E j, N'.cl c = some E → E j → j < N'.n ∧ N'.pr j = .stop) (hdst : ∀ x j, N'.D x j → j < N'.n ∧ N'.pr j = .stop) : TI N' γ' sz tp (t ++ u) := by
  have hold : ∀ i a, touchAt (t ++ u) i = some a → touchAt t i = some a ∧ i < t.size ∧ (t ++ u).g? i = t.g? i := by
    intro i a ha
    obtain ⟨x, hx, hxa⟩ := touch_of ha
    rcases getElem?_append_cases hx with ⟨hlt, hx'⟩ | ⟨_, hxu⟩
    · exact ⟨by rw [touchAt_of hx']; exact hxa, hlt, g?_old hlt⟩
    · grind
  refine ⟨fun said => ?_, hears, ?_, ?_, ?_, ?_, ?_, ?_, ?_, ?_, hdisj, hbnd, hcov, hdst, ?_⟩
  · rintro ⟨i, j, hij, ⟨a, b, ha, hb, hc⟩, h1, h2⟩
    obtain ⟨ha', hia, -⟩ := hold i a ha
    obtain ⟨hb', hjb, -⟩ := hold j b hb
    exact h.clean said ⟨i, j, hij, ⟨a, b, ha', hb', hc⟩, fun x => h1 (hb_app u x), fun x => h2 (hb_app u x)⟩
  · intro i a j hi ha hm hl hj
    obtain ⟨ha', -, -⟩ := hold i a ha
    obtain ⟨j0, h1, h2, h3, -⟩ := inh j hl hj
    exact h3 i (h.pre i a j0 hi ha' hm h2 h1)
  · intro i a b j hi ha hloc hb
    obtain ⟨ha', -, hg⟩ := hold i a ha
    rw [hg]
    exact h.own i a b j hi ha' hloc (hown j _ hb)
  · intro i a b j hi ha hloc hw hb hl hj
    obtain ⟨ha', -, -⟩ := hold i a ha
    obtain ⟨j0, h1, h2, h3, h4⟩ := inh j hl hj
    rcases h4 _ hb with h5 | h5
    · exact h3 i (h.shr i a b j0 hi ha' hloc hw h5 h2 h1)
    · exact h3 i (g?_own (h.own i a b j0 hi ha' hloc h5))
  · intro i a b hi ha hloc
    exact h.low i a b hi (hold i a ha).1 hloc
  · intro i a hi ha
    exact h.obj i a hi (hold i a ha).1
  · intro i k hi hg
    unfold Trace.g? at hg
    obtain ⟨z, hz, rfl⟩ := Option.map_eq_some_iff.1 hg
    rcases getElem?_append_cases hz with ⟨hlt, hz'⟩ | ⟨_, hzu⟩
    · exact Nat.lt_of_lt_of_le (h.num i z.g hi (by simp [Trace.g?, hz'])) hn
    · grind
  · grind
  · grind
  · have := h.tpl
    simp; omega
end Go.Co
end
section
namespace Go.Co
open Go Go.Conc
open Go.ConcN (upd upd_same upd_ne)
def Plainly (u : Trace) : Prop := ∀ op ∈ u, ∀ m, op.act ≠ .mark m
theorem deaf_plainly {t u : Trace} (hu : Plainly u) (g : Nat) : ∀ k, k ≤ u.size → (t ++ u).deaf g (t.size + k) = Deaf t g
  | 0, _ => deaf_old (Nat.le_refl _)
  | k + 1, hk => by
    have ih := deaf_plainly (t := t) hu g k (by omega)
    have hz : (t ++ u)[t.size + k]? = some u[k] := by grind
    have := deaf_succ (g := g) hz
    rw [← Nat.add_assoc, this, ih]
    have hm := hu u[k] (Array.getElem_mem _)
    unfold deafStep
    split
    · grind
    · grind
    · rfl
theorem Deaf_plainly {t u : Trace} (hu : Plainly u) (g : Nat) : Deaf (t ++ u) g = Deaf t g := by
  have := deaf_plainly (t := t) hu g u.size (Nat.le_refl _)
  unfold Deaf at *
  rw [Array.size_append]
  exact this
theorem heard_plainly {t u : Trace} (hu : Plainly u) {k : Nat} {z : MemOp} (hz : u[k]? = some z) (hd : Deaf t z.g = 0) : (t ++ u).heard (t.size + k) := by
  have hk : k < u.size := (Array.getElem?_eq_some_iff.1 hz).1
  have hz' : (t ++ u)[t.size + k]? = some z := by grind
  exact ⟨z.g, by simp [Trace.g?, hz'], by rw [deaf_plainly hu _ k (by omega), hd]⟩
theorem getElem?_new {t u : Trace} {k : Nat} {z : MemOp} (hz : u[k]? = some z) : (t ++ u)[t.size + k]? = some z := by grind
theorem knows_via {t u : Trace} (hu : Plainly u) {i j x p q : Nat} {zp zq : MemOp} (hk : Knows t i x) (hp : u[p]? = some zp) (hq : u[q]? = some zq) (hpg : zp.g = i) (hqg : zq.g = j)
    (hn : Notices (t ++ u) (t.size + p) (t.size + q)) (hdi : Deaf t i = 0) (hdj : Deaf t j = 0) : Knows (t ++ u) j x := by
  have h1 := hk.hb_new (u := u) (Nat.le_add_right t.size p) (getElem?_new hp) hpg
  have h2 : HappensBefore (t ++ u) (t.size + p) (t.size + q) := .single (.inr ⟨hn, heard_plainly hu hp (hpg ▸ hdi), heard_plainly hu hq (hqg ▸ hdj)⟩)
  exact ⟨t.size + q, zq, getElem?_new hq, hqg, .inr (h1.trans h2)⟩
def passOps (i j c s : Nat) (f f' : FuncId) (p p' : String) : Trace :=
  #[{ g := i, fn := f, pos := p, act := .send c s }, { g := j, fn := f', pos := p', act := .recv c s 0 }, { g := i, fn := f, pos := p, act := .sendDone c s }, { g := j, fn := f', pos := p', act := .recvDone c s }]
theorem pass_plainly (i j c s : Nat) (f f' : FuncId) (p p' : String) : Plainly (passOps i j c s f f' p p') := by
  intro op hop m
  simp only [passOps, List.mem_toArray, List.mem_cons, List.not_mem_nil, or_false] at hop
  rcases hop with rfl | rfl | rfl | rfl <;> simp
theorem pass_touch (i j c s : Nat) (f f' : FuncId) (p p' : String) : ∀ op ∈ passOps i j c s f f' p p', op.act.touch? = none := by
  intro op hop
  simp only [passOps, List.mem_toArray, List.mem_cons, List.not_mem_nil, or_false] at hop
  rcases hop with rfl | rfl | rfl | rfl <;> rfl
theorem pass_to {t : Trace} {i j c s x : Nat} {f f' : FuncId} {p p' : String} (hk : Knows t i x) (hdi : Deaf t i = 0) (hdj : Deaf t j = 0) : Knows (t ++ passOps i j c s f f' p p') j x :=
  knows_via (pass_plainly i j c s f f' p p') (p := 0) (q := 3) hk rfl rfl rfl rfl
    (.handOver (c := c) (k := s) (by rw [act?_of (getElem?_new (t := t) (u := passOps i j c s f f' p p') (k := 0) rfl)]; rfl) (by rw [act?_of (getElem?_new (t := t) (u := passOps i j c s f f' p p') (k := 3) rfl)]; rfl)) hdi hdj
theorem pass_back {t : Trace} {i j c s x : Nat} {f f' : FuncId} {p p' : String} (hk : Knows t j x) (hdi : Deaf t i = 0) (hdj : Deaf t j = 0) : Knows (t ++ passOps i j c s f f' p p') i x :=
  knows_via (pass_plainly i j c s f f' p p') (p := 1) (q := 2) hk rfl rfl rfl rfl
    (.room (c := c) (k := s) (cap := 0) (by rw [act?_of (getElem?_new (t := t) (u := passOps i j c s f f' p p') (k := 1) rfl)]; rfl) (by rw [act?_of (getElem?_new (t := t) (u := passOps i j c s f f' p p') (k := 2) rfl)]; rfl)) hdj hdi
theorem TI.meet {N : Net} {γ : Nat → So} {sz tp : Nat} {t : Trace} (h : TI N γ sz tp t) {i j c s : Nat} {v : Value} {k : Pc} {ok : Bool} {z : Value} {k' : Pc} {kr : Option Value → Pc} (hi : i < N.n) (hj : j < N.n) (hij : i ≠ j)
    (hs : N.pr i = .send c v k) (hr : N.pr j = .recv c ok z kr) (f f' : FuncId) (p p' : String) : TI (N.meet i j k k') γ sz tp (t ++ passOps i j c s f f' p p') := by
  have hli : N.pr i ≠ .stop := by rw [hs]; simp
  have hlj : N.pr j ≠ .stop := by rw [hr]; simp
  have hdi := h.hears i (.inl hli)
  have hdj := h.hears j (.inl hlj)
  have hpr : ∀ y, y ≠ i → y ≠ j → (N.meet i j k k').pr y = N.pr y := fun y h1 h2 => by
    show upd (upd N.pr i k) j k' y = _
    rw [upd_ne _ _ h2, upd_ne _ _ h1]
  have hpj : (N.meet i j k k').pr j = k' := upd_same _ _ _
  have hpi : (N.meet i j k k').pr i = k := by
    show upd (upd N.pr i k) j k' i = _
    rw [upd_ne _ _ hij, upd_same]
  have live : ∀ y, (N.meet i j k k').pr y ≠ .stop → N.pr y ≠ .stop := fun y hy => by
    by_cases h1 : y = i
    · grind
    · grind
  have stopped : ∀ y, N.pr y = .stop → (N.meet i j k k').pr y = .stop := fun y hy => by
    have h1 : y ≠ i := fun e => hli (e ▸ hy)
    have h2 : y ≠ j := fun e => hlj (e ▸ hy)
    rw [hpr y h1 h2, hy]
  have know : ∀ y x, y < N.n → Knows t y x → Knows (t ++ passOps i j c s f f' p p') y x := fun y x _ hk => hk.app _
  refine h.move (pass_touch _ _ _ _ _ _ _ _) (fun y hy => ?_) (Nat.le_refl _) ?_ (fun y hy hyn => ⟨y, hyn, live y hy, fun x hx => hx.app _, fun b hb => .inl hb⟩) (fun _ _ hb => hb) ?_ ?_ h.disj h.bnd ?_ ?_
  · rw [Deaf_plainly (pass_plainly _ _ _ _ _ _ _ _)]
    exact h.hears y (hy.imp (live y) id)
  · intro op hop
    simp only [passOps, List.mem_toArray, List.mem_cons, List.not_mem_nil, or_false] at hop
    rcases hop with rfl | rfl | rfl | rfl
    · exact hi
    · exact hj
    · exact hi
    · exact hj
  · intro x y hD hy hx hxn q a hq ha hg
    have hx' : x = 0 ∨ N.pr x ≠ .stop := hx.imp id (live x)
    have fromI : Knows t i q → Knows (t ++ passOps i j c s f f' p p') i q ∧ Knows (t ++ passOps i j c s f f' p p') j q := fun hk => ⟨hk.app _, pass_to hk hdi hdj⟩
    have fromJ : Knows t j q → Knows (t ++ passOps i j c s f f' p p') i q ∧ Knows (t ++ passOps i j c s f f' p p') j q := fun hk => ⟨pass_back hk hdi hdj, hk.app _⟩
    by_cases hxij : x = i ∨ x = j
    · have hD' : N.D i y ∨ N.D j y ∨ (y = i ∧ k = .stop) ∨ (y = j ∧ k' = .stop) := by
        have : (if x = i ∨ x = j then N.D i y ∨ N.D j y ∨ (y = i ∧ k = .stop) ∨ (y = j ∧ k' = .stop) else N.D x y) := hD
        rwa [if_pos hxij] at this
      have both : Knows (t ++ passOps i j c s f f' p p') i q ∧ Knows (t ++ passOps i j c s f f' p p') j q := by
        rcases hD' with h1 | h1 | ⟨rfl, _⟩ | ⟨rfl, _⟩
        · exact fromI (h.kn q a y i hq ha hg (h.dst i y h1).2 h1 (.inr hli) hi)
        · exact fromJ (h.kn q a y j hq ha hg (h.dst j y h1).2 h1 (.inr hlj) hj)
        · exact fromI (g?_own hg)
        · exact fromJ (g?_own hg)
      rcases hxij with rfl | rfl
      · grind
      · grind
    · have hD' : N.D x y := by
        have : (if x = i ∨ x = j then N.D i y ∨ N.D j y ∨ (y = i ∧ k = .stop) ∨ (y = j ∧ k' = .stop) else N.D x y) := hD
        rwa [if_neg hxij] at this
      exact (h.kn q a y x hq ha hg (h.dst x y hD').2 hD' hx' hxn).app _
  · intro c' E hE
    obtain ⟨q, z, hq, hz, hh, hk⟩ := h.kc c' E hE
    exact ⟨q, z, by rw [getElem?_append_old (lt_size_of_getElem? hq)]; exact hq, hz, (heard_old (lt_size_of_getElem? hq)).2 hh, fun x a y hx ha hg hEy => (hk x a y hx ha hg hEy).app _⟩
  · intro c' E y hE hy
    exact ⟨(h.cov c' E y hE hy).1, stopped y (h.cov c' E y hE hy).2⟩
  · intro x y hD
    by_cases hxij : x = i ∨ x = j
    · have hD' : N.D i y ∨ N.D j y ∨ (y = i ∧ k = .stop) ∨ (y = j ∧ k' = .stop) := by
        have : (if x = i ∨ x = j then N.D i y ∨ N.D j y ∨ (y = i ∧ k = .stop) ∨ (y = j ∧ k' = .stop) else N.D x y) := hD
        rwa [if_pos hxij] at this
      rcases hD' with h1 | h1 | ⟨rfl, h1⟩ | ⟨rfl, h1⟩
      · exact ⟨(h.dst i y h1).1, stopped y (h.dst i y h1).2⟩
      · exact ⟨(h.dst j y h1).1, stopped y (h.dst j y h1).2⟩
      · exact ⟨hi, by rw [hpi]; exact h1⟩
      · exact ⟨hj, by rw [hpj]; exact h1⟩
    · have hD' : N.D x y := by
        have : (if x = i ∨ x = j then N.D i y ∨ N.D j y ∨ (y = i ∧ k = .stop) ∨ (y = j ∧ k' = .stop) else N.D x y) := hD
        rwa [if_neg hxij] at this
      exact ⟨(h.dst x y hD').1, stopped y (h.dst x y hD').2⟩
def goOps (i n : Nat) (f f' : FuncId) (p p' : String) : Trace := #[{ g := i, fn := f, pos := p, act := .go n }, { g := n, fn := f', pos := p', act := .start }]
theorem go_plainly (i n : Nat) (f f' : FuncId) (p p' : String) : Plainly (goOps i n f f' p p') := by
  intro op hop m
  simp only [goOps, List.mem_toArray, List.mem_cons, List.not_mem_nil, or_false] at hop
  rcases hop with rfl | rfl <;> simp
theorem go_touch (i n : Nat) (f f' : FuncId) (p p' : String) : ∀ op ∈ goOps i n f f' p p', op.act.touch? = none := by
  intro op hop
  simp only [goOps, List.mem_toArray, List.mem_cons, List.not_mem_nil, or_false] at hop
  rcases hop with rfl | rfl <;> rfl
theorem go_to {t : Trace} {i n x : Nat} {f f' : FuncId} {p p' : String} (hk : Knows t i x) (hdi : Deaf t i = 0) (hdn : Deaf t n = 0) : Knows (t ++ goOps i n f f' p p') n x :=
  knows_via (go_plainly i n f f' p p') (p := 0) (q := 1) hk rfl rfl rfl rfl
    (.spawn (child := n) (by rw [act?_of (getElem?_new (t := t) (u := goOps i n f f' p p') (k := 0) rfl)]; rfl) (by rw [act?_of (getElem?_new (t := t) (u := goOps i n f f' p p') (k := 1) rfl)]; rfl)
      (by simp only [Trace.g?]; rw [getElem?_new (t := t) (u := goOps i n f f' p p') (k := 1) rfl]; rfl)) hdi hdn
theorem TI.start {N : Net} {γ : Nat → So} {sz tp : Nat} {t : Trace} (h : TI N γ sz tp t) {i : Nat} {ch k : Pc} (hi : i < N.n) (hg : N.pr i = .go ch k) (f f' : FuncId) (p p' : String) :
    TI (N.start i ch k) (upd (upd γ i (γ i).give) N.n (γ i).give) sz tp (t ++ goOps i N.n f f' p p') := by
  have hli : N.pr i ≠ .stop := by rw [hg]; simp
  have hdi := h.hears i (.inl hli)
  have hdn := h.hears N.n (.inr (Nat.le_refl _))
  have hin : i ≠ N.n := by omega
  have hpr : ∀ y, y ≠ i → y ≠ N.n → (N.start i ch k).pr y = N.pr y := fun y h1 h2 => by
    show upd (upd N.pr i k) N.n ch y = _
    rw [upd_ne _ _ h2, upd_ne _ _ h1]
  have hγ : ∀ y, y ≠ i → y ≠ N.n → upd (upd γ i (γ i).give) N.n (γ i).give y = γ y := fun y h1 h2 => by rw [upd_ne _ _ h2, upd_ne _ _ h1]
  have hγn : upd (upd γ i (γ i).give) N.n (γ i).give N.n = (γ i).give := upd_same _ _ _
  have hγi : upd (upd γ i (γ i).give) N.n (γ i).give i = (γ i).give := by rw [upd_ne _ _ hin, upd_same]
  have own : ∀ y b, (upd (upd γ i (γ i).give) N.n (γ i).give y).2 b → (γ y).2 b ∧ y ≠ i ∧ y ≠ N.n := by
    intro y b hb
    by_cases h1 : y = i
    · rw [h1, hγi] at hb; exact hb.elim
    · by_cases h2 : y = N.n
      · rw [h2, hγn] at hb; exact hb.elim
      · grind
  have sh : ∀ y b, (upd (upd γ i (γ i).give) N.n (γ i).give y).1 b → (γ y).1 b ∨ (γ i).1 b ∨ (γ i).2 b := by
    intro y b hb
    by_cases h1 : y = i
    · rw [h1, hγi] at hb; exact .inr hb
    · by_cases h2 : y = N.n
      · rw [h2, hγn] at hb; exact .inr hb
      · grind
  have stopped : ∀ y, y < N.n → N.pr y = .stop → (N.start i ch k).pr y = .stop := fun y hyn hy => by
    have h1 : y ≠ i := fun e => hli (e ▸ hy)
    have h2 : y ≠ N.n := by omega
    rw [hpr y h1 h2, hy]
  refine h.move (N' := N.start i ch k) (go_touch _ _ _ _ _ _) (fun y hy => ?_) (Nat.le_succ _) ?_ (fun y hy hyn => ?_) (fun y b hb => (own y b hb).1) ?_ ?_ ?_ ?_ ?_ ?_
  · rw [Deaf_plainly (go_plainly _ _ _ _ _ _)]
    by_cases h1 : y = i
    · grind
    · by_cases h2 : y = N.n
      · grind
      · refine h.hears y (hy.imp (fun h3 => by rwa [hpr y h1 h2] at h3) fun h3 => ?_)
        have h3 : N.n + 1 ≤ y := h3
        omega
  · intro op hop
    simp only [goOps, List.mem_toArray, List.mem_cons, List.not_mem_nil, or_false] at hop
    rcases hop with rfl | rfl
    · exact Nat.lt_succ_of_lt hi
    · exact Nat.lt_succ_self _
  · by_cases h2 : y = N.n
    · subst h2
      exact ⟨i, hi, hli, fun x hx => go_to hx hdi hdn, fun b hb => by rw [hγn] at hb; exact hb⟩
    · have hyn' : y < N.n + 1 := hyn
      by_cases h1 : y = i
      · subst h1
        exact ⟨y, hi, hli, fun x hx => hx.app _, fun b hb => by rw [hγi] at hb; exact hb⟩
      · exact ⟨y, by omega, by rwa [hpr y h1 h2] at hy, fun x hx => hx.app _, fun b hb => by rw [hγ y h1 h2] at hb; exact .inl hb⟩
  · intro x y hD hy hx hxn q a hq ha hgq
    have hD1 : (if x = N.n then N.D i y else N.D x y) := hD
    by_cases hxn' : x = N.n
    · rw [if_pos hxn'] at hD1
      subst hxn'
      exact go_to (h.kn q a y i hq ha hgq (h.dst i y hD1).2 hD1 (.inr hli) hi) hdi hdn
    · rw [if_neg hxn'] at hD1
      have hxn2 : x < N.n + 1 := hxn
      refine (h.kn q a y x hq ha hgq (h.dst x y hD1).2 hD1 ?_ (by omega)).app _
      rcases hx with h1 | h1
      · grind
      · grind
  · intro c' E hE
    obtain ⟨q, z, hq, hz, hh, hk⟩ := h.kc c' E hE
    exact ⟨q, z, by rw [getElem?_append_old (lt_size_of_getElem? hq)]; exact hq, hz, (heard_old (lt_size_of_getElem? hq)).2 hh, fun x a y hx ha hgx hEy => (hk x a y hx ha hgx hEy).app _⟩
  · intro y y' b hb
    obtain ⟨h1, h2, h3⟩ := own y b hb
    refine ⟨fun hS => ?_, fun hne hb' => (h.disj y y' b h1).2 hne (own y' b hb').1⟩
    rcases sh y' b hS with h4 | h4 | h4
    · exact (h.disj y y' b h1).1 h4
    · exact (h.disj y i b h1).1 h4
    · exact (h.disj y i b h1).2 h2 h4
  · intro y b hb
    rcases hb with hb | hb
    · rcases sh y b hb with h4 | h4
      · exact h.bnd y b (.inl h4)
      · exact h.bnd i b h4
    · exact h.bnd y b (.inr (own y b hb).1)
  · intro c' E y hE hy
    have := h.cov c' E y hE hy
    exact ⟨Nat.lt_succ_of_lt this.1, stopped y this.1 this.2⟩
  · intro x y hD
    have hD1 : (if x = N.n then N.D i y else N.D x y) := hD
    have := if hx : x = N.n then h.dst i y (by rwa [if_pos hx] at hD1) else h.dst x y (by rwa [if_neg hx] at hD1)
    exact ⟨Nat.lt_succ_of_lt this.1, stopped y this.1 this.2⟩
theorem TI.look {N : Net} {γ : Nat → So} {sz tp : Nat} {t : Trace} (h : TI N γ sz tp t) {j : Nat} (hj : j < N.n) (hl : N.pr j ≠ .stop) (c : Nat) (fn : FuncId) (pos : String) :
    TI N γ sz tp (t ++ #[{ g := j, fn, pos, act := .access ⟨.obj c, false, true⟩ }]) := by
  have hpl : Plainly #[({ g := j, fn, pos, act := .access ⟨.obj c, false, true⟩ } : MemOp)] := by
    intro op hop m
    simp only [List.mem_toArray, List.mem_singleton] at hop
    subst hop; simp
  have hcase : ∀ i a, touchAt (t ++ #[({ g := j, fn, pos, act := .access ⟨.obj c, false, true⟩ } : MemOp)]) i = some a → (touchAt t i = some a ∧ (t ++ #[({ g := j, fn, pos, act := .access ⟨.obj c, false, true⟩ } : MemOp)]).g? i = t.g? i) ∨ (t.size ≤ i ∧ (t ++ #[({ g := j, fn, pos, act := .access ⟨.obj c, false, true⟩ } : MemOp)]).g? i = some j ∧ a = ⟨.obj c, false, .atomic⟩) := by
    intro i a ha
    obtain ⟨x, hx, hxa⟩ := touch_of ha
    rcases getElem?_append_cases hx with ⟨hlt, hx'⟩ | ⟨hge, hxu⟩
    · exact .inl ⟨by rw [touchAt_of hx']; exact hxa, g?_old hlt⟩
    · simp only [List.mem_toArray, List.mem_singleton] at hxu
      subst hxu
      simp [MemAct.touch?] at hxa
      exact .inr ⟨hge, by unfold Trace.g?; rw [hx]; rfl, hxa.symm⟩
  refine ⟨fun said => ?_, fun k hk => by rw [Deaf_plainly hpl]; exact h.hears k hk, ?_, ?_, ?_, ?_, ?_, ?_, ?_, ?_, h.disj, h.bnd, h.cov, h.dst, ?_⟩
  · refine noRace_append (h.clean said) (g := j) (fun op hop => by simp only [List.mem_toArray, List.mem_singleton] at hop; subst hop; rfl) fun i a ha op hop b hb hc => ?_
    simp only [List.mem_toArray, List.mem_singleton] at hop
    subst hop
    simp [MemAct.touch?] at hb
    subst hb
    rcases Nat.lt_or_ge i tp with hi | hi
    · exact h.pre i a j hi ha hc.2.1 hl hj
    · exfalso
      rcases h.obj i a hi ha with ⟨b, hb⟩ | ⟨hw, _⟩
      · rw [hc.1] at hb; cases hb
      · rcases hc.2.2.1 with h1 | h1
        · grind
        · cases h1
  · intro i a k hi ha hm hlk hk
    rcases hcase i a ha with ⟨ha', _⟩ | ⟨hge, _, _⟩
    · exact (h.pre i a k hi ha' hm hlk hk).app _
    · have := h.tpl; omega
  · intro i a b k hi ha hloc hb
    rcases hcase i a ha with ⟨ha', hg⟩ | ⟨_, _, rfl⟩
    · rw [hg]; exact h.own i a b k hi ha' hloc hb
    · cases hloc
  · intro i a b k hi ha hloc haw hb hlk hk
    rcases hcase i a ha with ⟨ha', hg⟩ | ⟨_, _, rfl⟩
    · exact (h.shr i a b k hi ha' hloc haw hb hlk hk).app _
    · cases hloc
  · intro i a b hi ha hloc
    rcases hcase i a ha with ⟨ha', hg⟩ | ⟨_, _, rfl⟩
    · exact h.low i a b hi ha' hloc
    · cases hloc
  · intro i a hi ha
    rcases hcase i a ha with ⟨ha', hg⟩ | ⟨_, _, rfl⟩
    · exact h.obj i a hi ha'
    · grind
  · intro i k hi hg
    unfold Trace.g? at hg
    obtain ⟨z, hz, rfl⟩ := Option.map_eq_some_iff.1 hg
    rcases getElem?_append_cases hz with ⟨hlt, hz'⟩ | ⟨_, hzu⟩
    · exact h.num i z.g hi (by simp [Trace.g?, hz'])
    · grind
  · intro i a k x hi ha hg hs hD hx hxn
    rcases hcase i a ha with ⟨ha', hg'⟩ | ⟨_, hg', _⟩
    · rw [hg'] at hg
      exact (h.kn i a k x hi ha' hg hs hD hx hxn).app _
    · grind
  · intro c E hE
    obtain ⟨q, z, hq, hz, hh, hk⟩ := h.kc c E hE
    refine ⟨q, z, by rw [getElem?_append_old (lt_size_of_getElem? hq)]; exact hq, hz, (heard_old (lt_size_of_getElem? hq)).2 hh, fun i a k hi ha hg hEk => ?_⟩
    rcases hcase i a ha with ⟨ha', hg'⟩ | ⟨_, hg', _⟩
    · rw [hg'] at hg
      exact (hk i a k hi ha' hg hEk).app _
    · rw [hg'] at hg
      cases hg
      exact absurd (h.cov c E j hE hEk).2 hl
  · have := h.tpl
    simp; omega
theorem TI.shut {N : Net} {γ : Nat → So} {sz tp : Nat} {t : Trace} (h0 : TI N γ sz tp t) {i c : Nat} {k : Pc} (hi : i < N.n) (hg : N.pr i = .close c k) (fn : FuncId) (pos : String) :
    TI (N.shut i c k) γ sz tp (t ++ MemOp.ofEvents i fn pos (closeEvents c)) := by
  have hli : N.pr i ≠ .stop := by rw [hg]; simp
  have h := h0.look hi hli c fn pos
  have e : t ++ MemOp.ofEvents i fn pos (closeEvents c) = (t ++ #[{ g := i, fn, pos, act := .access ⟨.obj c, false, true⟩ }]) ++ #[{ g := i, fn, pos, act := .close c }] := by
    rw [ofEvents_eq, Array.append_assoc]
    congr 1
    simp [closeEvents, MemAct.ofEvent]
  rw [e]
  generalize t ++ #[{ g := i, fn, pos, act := .access ⟨.obj c, false, true⟩ }] = t at h
  have hpl : Plainly #[({ g := i, fn, pos, act := .close c } : MemOp)] := by
    intro op hop m
    simp only [List.mem_toArray, List.mem_singleton] at hop
    subst hop; simp
  have hdi := h.hears i (.inl hli)
  have hpr : ∀ y, y ≠ i → (N.shut i c k).pr y = N.pr y := fun y h1 => upd_ne _ _ h1
  have hpi : (N.shut i c k).pr i = k := upd_same _ _ _
  have live : ∀ y, (N.shut i c k).pr y ≠ .stop → N.pr y ≠ .stop := fun y hy => by
    by_cases h1 : y = i
    · grind
    · grind
  have stopped : ∀ y, N.pr y = .stop → (N.shut i c k).pr y = .stop := fun y hy => by
    have h1 : y ≠ i := fun e => hli (e ▸ hy)
    rw [hpr y h1, hy]
  refine h.move (N' := N.shut i c k) (fun op hop => by simp only [List.mem_toArray, List.mem_singleton] at hop; subst hop; rfl) (fun y hy => ?_) (Nat.le_refl _) (fun op hop => by simp only [List.mem_toArray, List.mem_singleton] at hop; subst hop; exact hi) (fun y hy hyn => ⟨y, hyn, live y hy, fun x hx => hx.app _, fun b hb => .inl hb⟩) (fun _ _ hb => hb) ?_ ?_ h.disj h.bnd ?_ ?_
  · rw [Deaf_plainly hpl]
    exact h.hears y (hy.imp (live y) id)
  · intro x y hD hy hx hxn q a hq ha hgq
    exact (h.kn q a y x hq ha hgq (h.dst x y hD).2 hD (hx.imp id (live x)) hxn).app _
  · intro c' E hE
    by_cases hc : c' = c
    · subst hc
      have hE' : (fun y => N.D i y ∨ (y = i ∧ k = .stop)) = E := by
        have : upd N.cl c' (some fun y => N.D i y ∨ (y = i ∧ k = .stop)) c' = some E := hE
        rw [upd_same] at this
        exact Option.some.inj this
      subst hE'
      refine ⟨t.size + 0, _, getElem?_new rfl, rfl, heard_plainly hpl (k := 0) rfl hdi, fun x a y hx ha hgx hEy => ?_⟩
      have hk : Knows t i x := by
        rcases hEy with h1 | ⟨rfl, _⟩
        · exact h.kn x a y i hx ha hgx (h.dst i y h1).2 h1 (.inr hli) hi
        · exact g?_own hgx
      exact .inr (hk.hb_new (Nat.le_refl _) (getElem?_new (k := 0) rfl) rfl)
    · have hE' : N.cl c' = some E := by
        have : upd N.cl c (some fun y => N.D i y ∨ (y = i ∧ k = .stop)) c' = some E := hE
        rwa [upd_ne _ _ hc] at this
      obtain ⟨q, z, hq, hz, hh, hk⟩ := h.kc c' E hE'
      exact ⟨q, z, by rw [getElem?_append_old (lt_size_of_getElem? hq)]; exact hq, hz, (heard_old (lt_size_of_getElem? hq)).2 hh, fun x a y hx ha hgx hEy => (hk x a y hx ha hgx hEy).app _⟩
  · intro c' E y hE hy
    by_cases hc : c' = c
    · subst hc
      have hE' : (fun y => N.D i y ∨ (y = i ∧ k = .stop)) = E := by
        have : upd N.cl c' (some fun y => N.D i y ∨ (y = i ∧ k = .stop)) c' = some E := hE
        rw [upd_same] at this
        exact Option.some.inj this
      subst hE'
      rcases hy with h1 | ⟨rfl, h1⟩
      · exact ⟨(h.dst i y h1).1, stopped y (h.dst i y h1).2⟩
      · exact ⟨hi, by rw [hpi]; exact h1⟩
    · have hE' : N.cl c' = some E := by
        have : upd N.cl c (some fun y => N.D i y ∨ (y = i ∧ k = .stop)) c' = some E := hE
        rwa [upd_ne _ _ hc] at this
      exact ⟨(h.cov c' E y hE' hy).1, stopped y (h.cov c' E y hE' hy).2⟩
  · intro x y hD
    exact ⟨(h.dst x y hD).1, stopped y (h.dst x y hD).2⟩
theorem TI.hear {N : Net} {γ : Nat → So} {sz tp : Nat} {t : Trace} (h : TI N γ sz tp t) {j c : Nat} {ok : Bool} {z : Value} {kr : Option Value → Pc} {k : Pc} {E : Nat → Prop} (hj : j < N.n) (hg : N.pr j = .recv c ok z kr) (hE : N.cl c = some E) (fn : FuncId) (pos : String) :
    TI (N.hear j k E) γ sz tp (t ++ #[{ g := j, fn, pos, act := .recvClosed c }]) := by
  have hlj : N.pr j ≠ .stop := by rw [hg]; simp
  have hpl : Plainly #[({ g := j, fn, pos, act := .recvClosed c } : MemOp)] := by
    intro op hop m
    simp only [List.mem_toArray, List.mem_singleton] at hop
    subst hop; simp
  have hdj := h.hears j (.inl hlj)
  have hpr : ∀ y, y ≠ j → (N.hear j k E).pr y = N.pr y := fun y h1 => upd_ne _ _ h1
  have live : ∀ y, (N.hear j k E).pr y ≠ .stop → N.pr y ≠ .stop := fun y hy => by
    by_cases h1 : y = j
    · grind
    · grind
  have stopped : ∀ y, N.pr y = .stop → (N.hear j k E).pr y = .stop := fun y hy => by
    have h1 : y ≠ j := fun e => hlj (e ▸ hy)
    rw [hpr y h1, hy]
  refine h.move (N' := N.hear j k E) (fun op hop => by simp only [List.mem_toArray, List.mem_singleton] at hop; subst hop; rfl) (fun y hy => ?_) (Nat.le_refl _) (fun op hop => by simp only [List.mem_toArray, List.mem_singleton] at hop; subst hop; exact hj) (fun y hy hyn => ⟨y, hyn, live y hy, fun x hx => hx.app _, fun b hb => .inl hb⟩) (fun _ _ hb => hb) ?_ ?_ h.disj h.bnd ?_ ?_
  · rw [Deaf_plainly hpl]
    exact h.hears y (hy.imp (live y) id)
  · intro x y hD hy hx hxn q a hq ha hgq
    have hD1 : (if x = j then N.D j y ∨ E y else N.D x y) := hD
    by_cases hxj : x = j
    · rw [if_pos hxj] at hD1
      subst hxj
      rcases hD1 with h1 | h1
      · exact (h.kn q a y x hq ha hgq (h.dst x y h1).2 h1 (.inr hlj) hxn).app _
      · obtain ⟨p, zp, hp, hzp, hh, hk⟩ := h.kc c E hE
        have hb := hk q a y hq ha hgq h1
        have hps := lt_size_of_getElem? hp
        refine ⟨t.size + 0, _, getElem?_new rfl, rfl, .inr (hb.app _ |>.hb (.single (.inr ⟨?_, (heard_old hps).2 hh, heard_plainly hpl (k := 0) rfl hdj⟩)))⟩
        refine .closed (c := c) ?_ (by rw [act?_of (getElem?_new (t := t) (k := 0) rfl)]; rfl)
        rw [act?_old hps, act?_of hp, hzp]
    · rw [if_neg hxj] at hD1
      exact (h.kn q a y x hq ha hgq (h.dst x y hD1).2 hD1 (hx.imp id (live x)) hxn).app _
  · intro c' E' hE'
    obtain ⟨q, z, hq, hz, hh, hk⟩ := h.kc c' E' hE'
    exact ⟨q, z, by rw [getElem?_append_old (lt_size_of_getElem? hq)]; exact hq, hz, (heard_old (lt_size_of_getElem? hq)).2 hh, fun x a y hx ha hgx hEy => (hk x a y hx ha hgx hEy).app _⟩
  · intro c' E' y hE' hy
    exact ⟨(h.cov c' E' y hE' hy).1, stopped y (h.cov c' E' y hE' hy).2⟩
  · intro x y hD
    have hD1 : (if x = j then N.D j y ∨ E y else N.D x y) := hD
    by_cases hxj : x = j
    · rw [if_pos hxj] at hD1
      rcases hD1 with h1 | h1
      · exact ⟨(h.dst j y h1).1, stopped y (h.dst j y h1).2⟩
      · exact ⟨(h.cov c E y hE h1).1, stopped y (h.cov c E y hE h1).2⟩
    · rw [if_neg hxj] at hD1
      exact ⟨(h.dst x y hD1).1, stopped y (h.dst x y hD1).2⟩
end Go.Co
end
