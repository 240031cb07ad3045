/- The law CutKnown: part 1: Cd2 Cd3. By an AI agent. -/
import Derived.Test.YtadeehilamokkaaGreatDoorPk00
import Derived.Laws.AppendOwn
import Derived.Conc.Machine
section
namespace Go.Di
open Go
structure Cx where
  w : World
  μ : Nat → Nat
  κ : Nat → Nat
  Fz : Nat → Nat → Prop
  S : Store
def Live (S : Store) (i : Nat) : Prop := ∃ b, S[i]? = some b ∧ b ≠ .none
def View (x : Cx) (rows : List DV) (A : Option Addr) (s : Nat) (vs : Nat → Value) : Prop :=
  (∀ r ∈ rows, r.cells.length = s) ∧ ∀ j c, (flat rows)[j]? = some c → c.pure1 = true ∧ ∃ b o, A = some ⟨b, o, none⟩ ∧ x.Fz b (o + j) ∧ x.w.cell? ⟨b, o + j, none⟩ = some (vs j)
def TokOf (x : Cx) (tok : Option Nat) (rows : List DV) (A : Option Addr) (cap : Nat) : Prop :=
  ∀ t, tok = some t → ∃ e s n, x.S[t]? = some (.tail e s n) ∧ rows.length * s ≤ n ∧ (∀ r ∈ rows, r.cells.length = s) ∧ (rows.length * s = n → A = some ⟨x.μ t, 0, none⟩ ∧ cap = x.κ t)
def NilOf (f : SF) (A : Option Addr) : Prop := ∀ b, f.isNil = some b → A.isNone = b
inductive RV (x : Cx) : DV → Value → Prop
  | val {v : Value} : plainV v = true → RV x (.val v) v
  | agg {l : List DV} {vs : Array Value} : vs.size = l.length → (∀ j c, l[j]? = some c → RV x c (vs.getD j undef)) → RV x (.agg l) (.agg vs)
  | tup {l : List DV} {vs : Array Value} : vs.size = l.length → (∀ j c, l[j]? = some c → RV x c (vs.getD j undef)) → RV x (.tup l) (.tuple vs)
  | sl {rows : List DV} {tok : Option Nat} {full : SF} {A : Option Addr} {cap s : Nat} {vs : Nat → Value} : View x rows A s vs → (∀ j c, (flat rows)[j]? = some c → RV x c (vs j)) → rows.length ≤ cap → ((full.full = true → cap = rows.length) ∧ NilOf full A) → (A = none → cap = 0) → (∀ ad, A = some ad → 0 < cap → ad.spot = none) → TokOf x tok rows A cap →
      RV x (.sl rows tok full) (.slice A rows.length cap)
  | ptr {id off : Nat} {l : List DV} : x.S[id]? = some (.cells l) → RV x (.ptr id off) (.pointer (some ⟨x.μ id, off, none⟩))
  | eptr {rows : List DV} {i off b o s : Nat} {vs : Nat → Value} : View x rows (some ⟨b, o, none⟩) s vs → (∀ j c, (flat rows)[j]? = some c → RV x c (vs j)) → RV x (.eptr rows i off) (.pointer (some ⟨b, o + (i * s + off), none⟩))
  | fn {f : FuncId} {first captured : List DV} {fs cs : Array Value} : fs.size = first.length → cs.size = captured.length → (∀ j c, first[j]? = some c → RV x c (fs.getD j undef)) → (∀ j c, captured[j]? = some c → RV x c (cs.getD j undef)) → RV x (.fn f first captured) (.func (.func f) fs cs)
  | map {id : Nat} {es : List (Value × Value)} : x.S[id]? = some (.map es) → RV x (.map id) (.map (some (x.μ id)))
  | yld {id : Nat} {r : DLoop} : x.S[id]? = some (.loop r) → RV x (.yld id) (.func (.yield (x.μ id)) #[] #[])
  | slo {id n : Nat} {agg : Bool} {e : TypeId} {s : Nat} {l : List DV} {z : Bool} {A : Option Addr} {cap : Nat} : x.S[id]? = some (.op e s l z) → n * s ≤ l.length → (n * s = l.length → A = some ⟨x.μ id, 0, none⟩ ∧ cap = x.κ id) → RV x (.slo id n agg) (.slice A n cap)
  | optr {id n off : Nat} {e : TypeId} {s : Nat} {l : List DV} {z : Bool} {A : Option Addr} : x.S[id]? = some (.op e s l z) → n * s ≤ l.length → (n * s = l.length → A = some ⟨x.μ id, off, none⟩) → RV x (.optr id n off) (.pointer A)
def RVs (x : Cx) (l : List DV) (arr : Array Value) : Prop := arr.size = l.length ∧ ∀ j c, l[j]? = some c → RV x c (arr.getD j undef)
def DB.isObj : DB → Bool
  | .map _ | .defer | .loop _ => true
  | _ => false
def ObjOK (x : Cx) : DB → Obj → Prop
  | .map es, .map ents _ => ents.toList.map (fun e => (e.key, e.val)) = es
  | .defer, .deferred _ => True
  | .loop r, .loop l => l.state = r.st ∧ l.pending = r.pend ∧ l.fn = r.fn ∧ RVs x r.env l.tmps ∧ l.params = r.params.toArray ∧ l.assign = r.assign ∧ l.body = r.body ∧ l.defers = x.μ r.dfr ∧ x.S[r.dfr]? = some .defer
  | _, _ => False
def DB.like : DB → DB → Prop
  | .map _, .map _ => True
  | .defer, .defer => True
  | .loop r, .loop r' => r' = { r with st := r'.st, pend := r'.pend }
  | _, _ => False
theorem like_refl : ∀ {b : DB}, b.isObj = true → b.like b
  | .map _, _ => trivial
  | .defer, _ => trivial
  | .loop _, _ => rfl
  | .none, h => by cases h
  | .cells _, h => by cases h
  | .tail .., h => by cases h
  | .op .., h => by cases h
theorem like_obj : ∀ {b c : DB}, b.like c → b.isObj = true ∧ c.isObj = true
  | .map _, .map _, _ => ⟨rfl, rfl⟩
  | .defer, .defer, _ => ⟨rfl, rfl⟩
  | .loop _, .loop _, _ => ⟨rfl, rfl⟩
theorem like_trans : ∀ {a b c : DB}, a.like b → b.like c → a.like c
  | .map _, .map _, .map _, _, _ => trivial
  | .defer, .defer, .defer, _, _ => trivial
  | .loop r, .loop r', .loop r'', h, k => by
    simp only [DB.like] at h k ⊢
    rw [k, h]
theorem obj_live {b : DB} (h : b.isObj = true) : b ≠ .none := by rintro rfl; cases h
def errT : Value := .iface 196 (.agg #[.pointer (some ⟨4, 91, none⟩)])
def Glob (x : Cx) : Prop := (x.Fz 0 0 ∧ x.w.cell? ⟨0, 0, none⟩ = some errT) ∧ x.Fz 1 0 ∧ ∃ m, x.w.cell? ⟨1, 0, none⟩ = some (.int .i64 m)
theorem Glob.keep {x y : Cx} (h : Glob x) (hF : ∀ b o, x.Fz b o → y.Fz b o ∧ y.w.cell? ⟨b, o, none⟩ = x.w.cell? ⟨b, o, none⟩) : Glob y :=
  ⟨⟨(hF _ _ h.1.1).1, (hF _ _ h.1.1).2.trans h.1.2⟩, (hF _ _ h.2.1).1, h.2.2.imp fun _ hm => (hF _ _ h.2.1).2.trans hm⟩
structure Rel (x : Cx) : Prop where
  cells : ∀ id l, x.S[id]? = some (.cells l) → ∃ arr e, x.w.heap[x.μ id]? = some (.cells arr e (0, 0)) ∧ arr.size = l.length ∧ ∀ j c, l[j]? = some c → RV x c (arr.getD j undef)
  tails : ∀ id e s n, x.S[id]? = some (.tail e s n) → ∃ arr, x.w.heap[x.μ id]? = some (.cells arr e (0, 0)) ∧ arr.size = x.κ id * s ∧ n ≤ arr.size ∧ x.κ id ≤ maxLen
  objs : ∀ id b, x.S[id]? = some b → b.isObj = true → ∃ o, x.w.heap[x.μ id]? = some o ∧ ObjOK x b o
  inj : ∀ i j, Live x.S i → Live x.S j → x.μ i = x.μ j → i = j
  frz : ∀ b o, x.Fz b o → ∃ v, x.w.cell? ⟨b, o, none⟩ = some v
  sep : ∀ id, (∃ l, x.S[id]? = some (.cells l)) → ∀ o, ¬ x.Fz (x.μ id) o
  sept : ∀ id e s n, x.S[id]? = some (.tail e s n) → ∀ o, x.Fz (x.μ id) o → o < n
  ops : ∀ id e s l z, x.S[id]? = some (.op e s l z) → ∃ arr, x.w.heap[x.μ id]? = some (.cells arr e (0, 0)) ∧ arr.size = x.κ id * s ∧ l.length ≤ arr.size ∧ x.κ id ≤ maxLen ∧ (∀ j c, l[j]? = some c → c.pure1 = true ∧ RV x c (arr.getD j undef)) ∧ (z = true → ∀ j, j < l.length → x.Fz (x.μ id) j) ∧ (z = false → ∀ o, ¬ x.Fz (x.μ id) o)
  glob : Glob x
structure Mono (x y : Cx) : Prop where
  size : x.w.heap.size ≤ y.w.heap.size
  env : y.w.os = x.w.os ∧ y.w.output = x.w.output
  fz : ∀ b o, x.Fz b o → y.Fz b o ∧ y.w.cell? ⟨b, o, none⟩ = x.w.cell? ⟨b, o, none⟩
  nfz : ∀ b o, y.Fz b o → x.Fz b o ∨ x.w.heap.size ≤ b ∨ ∃ i, Live x.S i ∧ x.μ i = b
  old : ∀ b, b < x.w.heap.size → (∀ i, Live x.S i → x.μ i ≠ b) → y.w.heap[b]? = x.w.heap[b]?
  len : x.S.length ≤ y.S.length
  cells : ∀ id l, x.S[id]? = some (.cells l) → y.μ id = x.μ id ∧ ∃ l', y.S[id]? = some (.cells l')
  objs : ∀ id b, x.S[id]? = some b → b.isObj = true → y.μ id = x.μ id ∧ (∃ b', y.S[id]? = some b' ∧ b.like b') ∧ (b = .defer → y.w.heap[x.μ id]? = x.w.heap[x.μ id]?)
  tails : ∀ t e s n, x.S[t]? = some (.tail e s n) → ∃ n', y.S[t]? = some (.tail e s n') ∧ n ≤ n' ∧ (n' = n → y.μ t = x.μ t ∧ y.κ t = x.κ t)
  live : ∀ i, Live y.S i → (Live x.S i ∧ y.μ i = x.μ i) ∨ x.w.heap.size ≤ y.μ i
  ops : ∀ t e s l z, x.S[t]? = some (.op e s l z) → ∃ l' z', y.S[t]? = some (.op e s l' z') ∧ l.length ≤ l'.length ∧ (z = true → l' = l ∧ z' = true) ∧ (l'.length = l.length → y.μ t = x.μ t ∧ y.κ t = x.κ t)
theorem Mono.refl (x : Cx) : Mono x x :=
  ⟨Nat.le_refl _, ⟨rfl, rfl⟩, fun _ _ h => ⟨h, rfl⟩, fun _ _ h => .inl h, fun _ _ _ => rfl, Nat.le_refl _, fun _ l h => ⟨rfl, l, h⟩, fun _ b h hb => ⟨rfl, ⟨b, h, like_refl hb⟩, fun _ => rfl⟩, fun _ _ _ n h => ⟨n, h, Nat.le_refl _, fun _ => ⟨rfl, rfl⟩⟩, fun _ h => .inl ⟨h, rfl⟩, fun _ _ _ l z h => ⟨l, z, h, Nat.le_refl _, fun e => ⟨rfl, e⟩, fun _ => ⟨rfl, rfl⟩⟩⟩
theorem Mono.trans {x y z : Cx} (h : Mono x y) (k : Mono y z) : Mono x z where
  size := Nat.le_trans h.size k.size
  env := ⟨k.env.1.trans h.env.1, k.env.2.trans h.env.2⟩
  fz := fun b o hb => ⟨(k.fz b o (h.fz b o hb).1).1, (k.fz b o (h.fz b o hb).1).2.trans (h.fz b o hb).2⟩
  nfz := fun b o hb => by
    rcases k.nfz b o hb with h1 | h1 | ⟨i, h1, h2⟩
    · exact h.nfz b o h1
    · exact .inr (.inl (Nat.le_trans h.size h1))
    · rcases h.live i h1 with ⟨h3, h4⟩ | h3
      · grind
      · grind
  old := fun b hb hn => by
    refine (k.old b (Nat.lt_of_lt_of_le hb h.size) fun i hi he => ?_).trans (h.old b hb hn)
    rcases h.live i hi with ⟨h3, h4⟩ | h3
    · grind
    · omega
  len := Nat.le_trans h.len k.len
  cells := fun id l hl => by
    obtain ⟨h1, l', h2⟩ := h.cells id l hl
    obtain ⟨h3, l'', h4⟩ := k.cells id l' h2
    exact ⟨h3.trans h1, l'', h4⟩
  objs := fun id b hl hb => by
    obtain ⟨h1, ⟨b', h2, h5⟩, h6⟩ := h.objs id b hl hb
    obtain ⟨h3, ⟨b'', h4, h7⟩, h8⟩ := k.objs id b' h2 (like_obj h5).2
    refine ⟨h3.trans h1, ⟨b'', h4, like_trans h5 h7⟩, fun hd => ?_⟩
    subst hd
    have : b' = .defer := by cases b' <;> first | rfl | exact h5.elim
    rw [← h6 rfl, ← h1]; exact h8 this
  tails := fun t e s n ht => by
    obtain ⟨n', h1, h2, h3⟩ := h.tails t e s n ht
    obtain ⟨n'', h4, h5, h6⟩ := k.tails t e s n' h1
    refine ⟨n'', h4, Nat.le_trans h2 h5, fun he => ?_⟩
    have e1 : n' = n := by omega
    have e2 : n'' = n' := by omega
    exact ⟨(h6 e2).1.trans (h3 e1).1, (h6 e2).2.trans (h3 e1).2⟩
  live := fun i hi => by
    rcases k.live i hi with ⟨h1, h2⟩ | h1
    · rcases h.live i h1 with ⟨h3, h4⟩ | h3
      · grind
      · grind
    · exact .inr (Nat.le_trans h.size h1)
  ops := fun t e s l z ht => by
    obtain ⟨l1, z1, h1, h2, h3, h4⟩ := h.ops t e s l z ht
    obtain ⟨l2, z2, k1, k2, k3, k4⟩ := k.ops t e s l1 z1 h1
    refine ⟨l2, z2, k1, Nat.le_trans h2 k2, fun hz => ?_, fun he => ?_⟩
    · grind
    · grind
theorem View.mono {x y : Cx} {rows : List DV} {A : Option Addr} {s : Nat} {vs : Nat → Value} (hF : ∀ b o, x.Fz b o → y.Fz b o ∧ y.w.cell? ⟨b, o, none⟩ = x.w.cell? ⟨b, o, none⟩) (h : View x rows A s vs) : View y rows A s vs :=
  ⟨h.1, fun j c hc => by
    obtain ⟨h1, b, o, h2, h3, h4⟩ := h.2 j c hc
    exact ⟨h1, b, o, h2, (hF _ _ h3).1, (hF _ _ h3).2.trans h4⟩⟩
theorem RV.mono {x y : Cx} (M : Mono x y) {d : DV} {v : Value} (h : RV x d v) : RV y d v := by
  induction h with
  | val h => exact .val h
  | agg h _ ih => exact .agg h ih
  | tup h _ ih => exact .tup h ih
  | sl hv _ h1 h2 h3 hsp h4 ih =>
    refine .sl (hv.mono M.fz) ih h1 h2 h3 hsp fun t ht => ?_
    obtain ⟨e, s, n, k1, k2, k3, k4⟩ := h4 t ht
    obtain ⟨n', m1, m2, m3⟩ := M.tails t e s n k1
    refine ⟨e, s, n', m1, Nat.le_trans k2 m2, k3, fun he => ?_⟩
    have e1 : n' = n := by omega
    rw [(m3 e1).1, (m3 e1).2]
    exact k4 (he.trans e1)
  | ptr h =>
    obtain ⟨h1, l', h2⟩ := M.cells _ _ h
    rw [← h1]
    exact .ptr h2
  | eptr hv _ ih => exact .eptr (hv.mono M.fz) ih
  | fn h1 h2 _ _ ih1 ih2 => exact .fn h1 h2 ih1 ih2
  | map h =>
    obtain ⟨h1, ⟨b', h2, h3⟩, -⟩ := M.objs _ _ h rfl
    rw [← h1]
    cases b' with
    | map es => exact .map h2
    | _ => exact h3.elim
  | yld h =>
    obtain ⟨h1, ⟨b', h2, h3⟩, -⟩ := M.objs _ _ h rfl
    rw [← h1]
    cases b' with
    | loop r => exact .yld h2
    | _ => exact h3.elim
  | slo h hn hl =>
    obtain ⟨l', z', h1, h2, -, h4⟩ := M.ops _ _ _ _ _ h
    refine .slo h1 (by omega) fun he => ?_
    have e1 := h4 (by omega)
    rw [e1.1, e1.2]
    exact hl (by omega)
  | optr h hn hl =>
    obtain ⟨l', z', h1, h2, -, h4⟩ := M.ops _ _ _ _ _ h
    refine .optr h1 (by omega) fun he => ?_
    rw [(h4 (by omega)).1]
    exact hl (by omega)
theorem RVs.mono {x y : Cx} (M : Mono x y) {l : List DV} {arr : Array Value} (h : RVs x l arr) : RVs y l arr := ⟨h.1, fun j c hc => (h.2 j c hc).mono M⟩
theorem ObjOK.mono {x y : Cx} (M : Mono x y) : ∀ {b : DB} {o : Obj}, ObjOK x b o → ObjOK y b o
  | .map _, .map _ _, h => h
  | .defer, .deferred _, _ => trivial
  | .loop r, .loop l, ⟨h1, h2, h3, h4, h5, h6, h7, h8, h9⟩ => by
    obtain ⟨k1, ⟨b', k2, k3⟩, -⟩ := M.objs _ _ h9 rfl
    have : b' = .defer := by cases b' <;> first | rfl | exact k3.elim
    subst this
    exact ⟨h1, h2, h3, h4.mono M, h5, h6, h7, by rw [h8, k1], k2⟩
theorem RV.pure1_mono {x y : Cx} (hF : ∀ b o, x.Fz b o → y.Fz b o ∧ y.w.cell? ⟨b, o, none⟩ = x.w.cell? ⟨b, o, none⟩) {d : DV} {v : Value} (h : RV x d v) (hp : d.pure1 = true) : RV y d v := by
  induction h with
  | val h => exact .val h
  | agg h _ ih => simp [DV.pure1] at hp
  | tup h _ ih => simp [DV.pure1] at hp
  | @sl rows tok full A cap s vs hv _ h1 h2 h3 hsp h4 ih =>
    refine .sl (hv.mono hF) (fun j c hc => ih j c hc (hv.2 j c hc).1) h1 h2 h3 hsp fun t ht => ?_
    subst ht
    simp [DV.pure1] at hp
  | ptr h => simp [DV.pure1] at hp
  | eptr hv _ ih => simp [DV.pure1] at hp
  | fn h1 h2 _ _ ih1 ih2 => simp [DV.pure1] at hp
  | map h => simp [DV.pure1] at hp
  | yld h => simp [DV.pure1] at hp
  | slo => simp [DV.pure1] at hp
  | optr => simp [DV.pure1] at hp
theorem pure1_of_mem {l : List DV} (h : l.all DV.pure1 = true) {j : Nat} {c : DV} (hc : l[j]? = some c) : c.pure1 = true := List.all_eq_true.1 h c (List.mem_of_getElem? hc)
theorem RV.pure2_mono {x y : Cx} (hF : ∀ b o, x.Fz b o → y.Fz b o ∧ y.w.cell? ⟨b, o, none⟩ = x.w.cell? ⟨b, o, none⟩) {d : DV} {v : Value} (h : RV x d v) (hp : d.pure2 = true) : RV y d v := by
  cases h with
  | val h => exact .val h
  | agg h hl => exact .agg h fun j c hc => (hl j c hc).pure1_mono hF (pure1_of_mem hp hc)
  | tup h hl => simp [DV.pure2] at hp
  | @sl rows tok full A cap s vs hv hr h1 h2 h3 hsp h4 =>
    cases tok with
    | none => exact (RV.sl hv hr h1 h2 h3 hsp h4).pure1_mono hF rfl
    | some t => simp [DV.pure2] at hp
  | ptr h => simp [DV.pure2] at hp
  | eptr hv _ => simp [DV.pure2] at hp
  | fn h1 h2 _ _ => simp [DV.pure2] at hp
  | map h => simp [DV.pure2] at hp
  | yld h => simp [DV.pure2] at hp
  | slo => simp [DV.pure2] at hp
  | optr => simp [DV.pure2] at hp
theorem pure_of {d : DV} (hp : d.pure = true) : (∃ l, d = .tup l ∧ l.all DV.pure2 = true) ∨ d.pure2 = true := by
  cases d with
  | tup l => exact .inl ⟨l, rfl, hp⟩
  | _ => exact .inr hp
theorem RV.pure_mono {x y : Cx} (hF : ∀ b o, x.Fz b o → y.Fz b o ∧ y.w.cell? ⟨b, o, none⟩ = x.w.cell? ⟨b, o, none⟩) {d : DV} {v : Value} (h : RV x d v) (hp : d.pure = true) : RV y d v := by
  rcases pure_of hp with ⟨l, rfl, hl⟩ | hp
  · cases h with
    | tup h hr => exact .tup h fun j c hc => (hr j c hc).pure2_mono hF (List.all_eq_true.1 hl c (List.mem_of_getElem? hc))
  · exact h.pure2_mono hF hp
theorem RV.strip1 {x : Cx} {d : DV} {v : Value} (h : RV x d v) : RV x d.strip1 v := by
  cases h with
  | sl hv hr h1 h2 h3 hsp h4 => exact .sl hv hr h1 ⟨by simp, h2.2⟩ h3 hsp fun t ht => (by cases ht)
  | val h => exact .val h
  | agg h hl => exact .agg h hl
  | tup h hl => exact .tup h hl
  | ptr h => exact .ptr h
  | eptr hv hr => exact .eptr hv hr
  | fn h1 h2 h3 h4 => exact .fn h1 h2 h3 h4
  | map h => exact .map h
  | yld h => exact .yld h
  | slo h h1 h2 => exact .slo h h1 h2
  | optr h h1 h2 => exact .optr h h1 h2
theorem RV.strip2 {x : Cx} {d : DV} {v : Value} (h : RV x d v) : RV x d.strip2 v := by
  cases h with
  | sl hv hr h1 h2 h3 hsp h4 => exact .sl hv hr h1 ⟨by simp, h2.2⟩ h3 hsp fun t ht => (by cases ht)
  | val h => exact .val h
  | @agg l vs h hl =>
    refine .agg (by simpa using h) fun j c hc => ?_
    simp only [List.getElem?_map, Option.map_eq_some_iff] at hc
    obtain ⟨c', h1, rfl⟩ := hc
    exact (hl j c' h1).strip1
  | tup h hl => exact .tup h hl
  | ptr h => exact .ptr h
  | eptr hv hr => exact .eptr hv hr
  | fn h1 h2 h3 h4 => exact .fn h1 h2 h3 h4
  | map h => exact .map h
  | yld h => exact .yld h
  | slo h h1 h2 => exact .slo h h1 h2
  | optr h h1 h2 => exact .optr h h1 h2
theorem RV.strip {x : Cx} {d : DV} {v : Value} (h : RV x d v) : RV x d.strip v := by
  cases d with
  | tup l =>
    cases h with
    | tup h hl =>
      refine .tup (by simpa using h) fun j c hc => ?_
      simp only [List.getElem?_map, Option.map_eq_some_iff] at hc
      obtain ⟨c', h1, rfl⟩ := hc
      exact (hl j c' h1).strip2
  | _ => exact h.strip2
def Cx.bare (x : Cx) : Cx := { x with S := [] }
def Cx.behind (x y : Cx) : Cx := { x with w := y.w, Fz := y.Fz }
theorem not_live_nil (i : Nat) : ¬ Live [] i := by rintro ⟨b, h, -⟩; simp at h
theorem Rel.bare {x : Cx} (h : Rel x) : Rel x.bare where
  cells := fun id l hl => by simp [Cx.bare] at hl
  tails := fun id e s n hl => by simp [Cx.bare] at hl
  objs := fun id b hl => by simp [Cx.bare] at hl
  inj := fun i j hi => (not_live_nil i hi).elim
  frz := h.frz
  sep := fun id ⟨l, hl⟩ => by simp [Cx.bare] at hl
  sept := fun id e s n hl => by simp [Cx.bare] at hl
  ops := fun id e s l z hl => by simp [Cx.bare] at hl
  glob := h.glob
theorem mono_behind {x y : Cx} (hR : Rel x) (M : Mono x.bare y) : Mono x (x.behind y) where
  size := M.size
  env := M.env
  fz := M.fz
  nfz := fun b o hb => by
    rcases M.nfz b o hb with h | h | ⟨i, h, -⟩
    · exact .inl h
    · exact .inr (.inl h)
    · exact (not_live_nil i h).elim
  old := fun b hb _ => M.old b hb fun i hi => (not_live_nil i hi).elim
  len := Nat.le_refl _
  cells := fun id l hl => ⟨rfl, l, hl⟩
  objs := fun id b hl hb => ⟨rfl, ⟨b, hl, like_refl hb⟩, fun _ => M.old _ (by
    obtain ⟨o, h1, -⟩ := hR.objs id b hl hb
    exact (Array.getElem?_eq_some_iff.1 h1).1) fun i hi => (not_live_nil i hi).elim⟩
  tails := fun t e s n ht => ⟨n, ht, Nat.le_refl _, fun _ => ⟨rfl, rfl⟩⟩
  live := fun i hi => .inl ⟨hi, rfl⟩
  ops := fun _ _ _ l z h => ⟨l, z, h, Nat.le_refl _, fun e => ⟨rfl, e⟩, fun _ => ⟨rfl, rfl⟩⟩
theorem heap_lt {w : World} {b : Nat} {o : Obj} (h : w.heap[b]? = some o) : b < w.heap.size := (Array.getElem?_eq_some_iff.1 h).1
theorem Rel.behind {x y : Cx} (h : Rel x) (M : Mono x.bare y) (k : Rel y) : Rel (x.behind y) := by
  have hM := mono_behind h M
  have hold : ∀ b, b < x.w.heap.size → y.w.heap[b]? = x.w.heap[b]? := fun b hb => M.old b hb fun i hi => (not_live_nil i hi).elim
  have hfz : ∀ b o, b < x.w.heap.size → y.Fz b o → x.Fz b o := fun b o hb hy => by
    rcases M.nfz b o hy with h | h | ⟨i, h, -⟩
    · exact h
    · exact absurd h (by have : (x.bare).w = x.w := rfl; rw [this]; omega)
    · exact (not_live_nil i h).elim
  exact {
    cells := fun id l hl => by
      obtain ⟨arr, e, h1, h2, h3⟩ := h.cells id l hl
      exact ⟨arr, e, (hold _ (heap_lt h1)).trans h1, h2, fun j c hc => (h3 j c hc).mono hM⟩
    tails := fun id e s n hl => by
      obtain ⟨arr, h1, h2⟩ := h.tails id e s n hl
      exact ⟨arr, (hold _ (heap_lt h1)).trans h1, h2⟩
    objs := fun id b hl hb => by
      obtain ⟨o, h1, h2⟩ := h.objs id b hl hb
      exact ⟨o, (hold _ (heap_lt h1)).trans h1, h2.mono hM⟩
    inj := h.inj
    frz := k.frz
    sep := fun id hl o ho => by
      obtain ⟨l, hl⟩ := hl
      obtain ⟨arr, e, h1, -⟩ := h.cells id l hl
      exact h.sep id ⟨l, hl⟩ o (hfz _ _ (heap_lt h1) ho)
    sept := fun id e s n hl o ho => by
      obtain ⟨arr, h1, -⟩ := h.tails id e s n hl
      exact h.sept id e s n hl o (hfz _ _ (heap_lt h1) ho)
    ops := fun id e s l z hl => by
      obtain ⟨arr, h1, h2, h3, h4, h5, h6, h7⟩ := h.ops id e s l z hl
      exact ⟨arr, (hold _ (heap_lt h1)).trans h1, h2, h3, h4, fun j c hc => ⟨(h5 j c hc).1, (h5 j c hc).2.mono hM⟩, fun hz j hj => (M.fz _ _ (h6 hz j hj)).1, fun hz o ho => h7 hz o (hfz _ _ (heap_lt h1) ho)⟩
    glob := k.glob }
def Cx.dr (x : Cx) (d : Nat) : Cx := { x with w := x.w.at d }
theorem mono_dr (x : Cx) (d : Nat) : Mono x (x.dr d) :=
  ⟨Nat.le_refl _, ⟨rfl, rfl⟩, fun _ _ h => ⟨h, rfl⟩, fun _ _ h => .inl h, fun _ _ _ => rfl, Nat.le_refl _, fun _ l h => ⟨rfl, l, h⟩, fun _ b h hb => ⟨rfl, ⟨b, h, like_refl hb⟩, fun _ => rfl⟩, fun _ _ _ n h => ⟨n, h, Nat.le_refl _, fun _ => ⟨rfl, rfl⟩⟩, fun _ h => .inl ⟨h, rfl⟩, fun _ _ _ l z h => ⟨l, z, h, Nat.le_refl _, fun e => ⟨rfl, e⟩, fun _ => ⟨rfl, rfl⟩⟩⟩
theorem Rel.dr {x : Cx} (h : Rel x) (d : Nat) : Rel (x.dr d) where
  cells := fun id l hl => by
    obtain ⟨arr, e, h1, h2, h3⟩ := h.cells id l hl
    exact ⟨arr, e, h1, h2, fun j c hc => (h3 j c hc).mono (mono_dr x d)⟩
  tails := h.tails
  objs := fun id b hl hb => by
    obtain ⟨o, h1, h2⟩ := h.objs id b hl hb
    exact ⟨o, h1, h2.mono (mono_dr x d)⟩
  inj := h.inj
  frz := h.frz
  sep := h.sep
  sept := h.sept
  ops := fun id e s l z hl => by
    obtain ⟨arr, h1, h2, h3, h4, h5, h6⟩ := h.ops id e s l z hl
    exact ⟨arr, h1, h2, h3, h4, fun j c hc => ⟨(h5 j c hc).1, (h5 j c hc).2.mono (mono_dr x d)⟩, h6⟩
  glob := h.glob.keep (mono_dr x d).fz
end Go.Di
end
section
namespace Go.Di
open Go
variable {P : Program} {ty : Tys} {x : Cx} {w' : World}
theorem pureS_run {α : Type} {s : Sem α} {a : α} (h : pureS P s = some a) (w : World) : s.run P w = .ok a w := by
  induction s generalizing a with
  | pure b => simp only [pureS, Option.some.injEq] at h; subst h; rfl
  | program k ih => simp only [pureS] at h; simpa [Sem.run] using ih P h
  | _ => simp [pureS] at h
theorem rv_nil (tok : Option Nat) (h : tok = none) : RV x (.sl [] tok ⟨true, some true⟩) (.slice none 0 0) := by
  subst h
  exact RV.sl (rows := []) (A := none) (cap := 0) (s := 0) (vs := fun _ => undef) ⟨by simp, by simp [flat]⟩ (by simp [flat]) (Nat.le_refl _) ⟨fun _ => rfl, fun b h => by cases h; rfl⟩ (fun _ => rfl) (fun _ h _ => by cases h) (fun t ht => by cases ht)
theorem rv_ofCell {v : Value} {d : DV} (h : ofCell v = some d) : RV x d v := by
  unfold ofCell at h
  split at h
  · cases h; exact rv_nil _ rfl
  · split at h
    · cases h; exact .val ‹_›
    · cases h
theorem rv_ofCells : ∀ {vs : List Value} {l : List DV}, ofCells vs = some l → vs.length = l.length ∧ ∀ j c, l[j]? = some c → RV x c (vs.getD j undef)
  | [], l, h => by simp only [ofCells, Option.some.injEq] at h; subst h; simp
  | v :: vs, l, h => by
    unfold ofCells at h
    split at h
    · rename_i d r h1 h2
      cases h
      obtain ⟨h3, h4⟩ := rv_ofCells h2
      refine ⟨by simp [h3], fun j c hc => ?_⟩
      cases j with
      | zero => simp at hc; subst hc; exact rv_ofCell h1
      | succ j => simpa using h4 j c (by simpa using hc)
    · cases h
theorem rv_ofVal {v : Value} {d : DV} (h : ofVal v = some d) : RV x d v := by
  unfold ofVal at h
  split at h
  · simp only [Option.map_eq_some_iff] at h
    obtain ⟨l, h1, rfl⟩ := h
    obtain ⟨h3, h4⟩ := rv_ofCells (x := x) h1
    exact .agg (by simpa using h3) fun j c hc => by simpa [Array.getD_eq_getD_getElem?, List.getD_eq_getElem?_getD] using h4 j c hc
  · split at h
    · rename_i f fs cs hz
      simp only [Bool.and_eq_true, decide_eq_true_eq] at hz
      cases h
      exact .fn hz.1 hz.2 (by simp) (by simp)
    · cases h
  · exact rv_ofCell h
theorem toCells_spec : ∀ {l : List DV} {r : List Value}, toCells l = some r → l = r.map .val
  | [], r, h => by simp only [toCells, Option.some.injEq] at h; subst h; rfl
  | d :: l, r, h => by
    cases d <;> simp only [toCells, Option.map_eq_some_iff] at h
    all_goals first | (obtain ⟨r', h1, rfl⟩ := h; simp [toCells_spec h1]; done) | cases h
theorem rv_val {v u : Value} (h : RV x (.val u) v) : v = u := by cases h; rfl
theorem rv_toVal {d : DV} {v u : Value} (h : RV x d v) (hu : toVal d = some u) : v = u := by
  cases d <;> simp only [toVal, Option.map_eq_some_iff, reduceCtorEq] at hu
  · simp only [Option.some.injEq] at hu; subst hu; exact rv_val h
  · obtain ⟨r, h1, rfl⟩ := hu
    have := toCells_spec h1
    subst this
    cases h with
    | @agg _ vs hs hl =>
      congr 1
      refine Array.ext (by simpa using hs) fun j h1 h2 => ?_
      have := hl j (.val r[j]) (by simp [List.getElem?_eq_getElem (show j < r.length by simpa using h2)])
      have := rv_val this
      simpa [Array.getD_eq_getD_getElem?, h1] using this
theorem rv_toVals : ∀ {l : List DV} {vs r : List Value}, toVals l = some r → vs.length = l.length → (∀ j c, l[j]? = some c → RV x c (vs.getD j undef)) → vs = r
  | [], vs, r, h, hl, _ => by
    simp only [toVals, Option.some.injEq] at h
    subst h
    exact List.eq_nil_of_length_eq_zero (by simpa using hl)
  | d :: l, vs, r, h, hl, hr => by
    cases vs with
    | nil => simp at hl
    | cons v vs =>
      unfold toVals at h
      split at h
      · rename_i v' r' h1 h2
        cases h
        have := rv_toVal (by simpa using hr 0 d rfl) h1
        subst this
        congr 1
        exact rv_toVals h2 (by simpa using hl) fun j c hc => by simpa using hr (j + 1) c (by simpa using hc)
      · cases h
def Nid (S : Store) (nid : Nat) : Prop := nid = S.length ∨ S[nid]? = some .none
theorem Nid.le {S : Store} {nid : Nat} (h : Nid S nid) : nid ≤ S.length := by
  rcases h with h | h
  · omega
  · grind
theorem Nid.ne {S : Store} {nid id : Nat} {b : DB} (h : Nid S nid) (hb : S[id]? = some b) (hne : b ≠ .none) : id ≠ nid := by
  rintro rfl
  rcases h with h | h
  · grind
  · grind
theorem setS_get {S : Store} {i : Nat} (h : i ≤ S.length) (b : DB) (j : Nat) : (setS S i b)[j]? = if j = i then some b else S[j]? := by
  unfold setS
  split
  · grind
  · grind
theorem setS_len {S : Store} {i : Nat} (b : DB) : S.length ≤ (setS S i b).length := by unfold setS; split <;> simp
theorem live_of {S : Store} {i : Nat} {b : DB} (h : S[i]? = some b) (hb : b ≠ .none) : Live S i := ⟨b, h, hb⟩
theorem Rel.live_lt (h : Rel x) {i : Nat} (hi : Live x.S i) : x.μ i < x.w.heap.size := by
  obtain ⟨b, hb, hne⟩ := hi
  cases b with
  | none => exact absurd rfl hne
  | cells l => obtain ⟨arr, e, h1, -⟩ := h.cells i l hb; exact heap_lt h1
  | tail e s n => obtain ⟨arr, h1, -⟩ := h.tails i e s n hb; exact heap_lt h1
  | map es => obtain ⟨o, h1, -⟩ := h.objs i _ hb rfl; exact heap_lt h1
  | defer => obtain ⟨o, h1, -⟩ := h.objs i _ hb rfl; exact heap_lt h1
  | loop r => obtain ⟨o, h1, -⟩ := h.objs i _ hb rfl; exact heap_lt h1
  | op e s l z => obtain ⟨arr, h1, -⟩ := h.ops i e s l z hb; exact heap_lt h1
theorem Rel.fz_lt (h : Rel x) {b o : Nat} (hf : x.Fz b o) : b < x.w.heap.size := by
  obtain ⟨v, hv⟩ := h.frz b o hf
  exact World.block_lt_of_cell? x.w ⟨b, o, none⟩ hv
structure Push (w w' : World) (ob : Obj) : Prop where
  heap : w'.heap = w.heap.push ob
  env : w'.os = w.os ∧ w'.output = w.output
theorem push_alloc (w : World) (ob : Obj) : Push w (w.alloc ob) ob := ⟨rfl, rfl, rfl⟩
theorem Push.lt {w w' : World} {ob : Obj} (h : Push w w' ob) {b : Nat} (hb : b < w.heap.size) : w'.heap[b]? = w.heap[b]? := by rw [h.heap, Array.getElem?_push_lt hb, Array.getElem?_eq_getElem hb]
theorem Push.new {w w' : World} {ob : Obj} (h : Push w w' ob) : w'.heap[w.heap.size]? = some ob := by rw [h.heap, Array.getElem?_push_size]
theorem cell_of_block {w w' : World} {b : Nat} (h : w'.heap[b]? = w.heap[b]?) (o : Nat) : w'.cell? ⟨b, o, none⟩ = w.cell? ⟨b, o, none⟩ := by simp [World.cell?, h]
def Cx.fresh (x : Cx) (w' : World) (nid k : Nat) (F : Nat → Prop) (b : DB) : Cx :=
  ⟨w', fun i => if i = nid then x.w.heap.size else x.μ i, fun i => if i = nid then k else x.κ i, fun c o => x.Fz c o ∨ (c = x.w.heap.size ∧ F o), setS x.S nid b⟩
theorem mono_fresh {nid k : Nat} {F : Nat → Prop} {ob : Obj} {b : DB} (hR : Rel x) (hn : Nid x.S nid) (hp : Push x.w w' ob) : Mono x (x.fresh w' nid k F b) where
  size := by show _ ≤ w'.heap.size; rw [hp.heap]; simp
  env := hp.env
  fz := fun c o h => ⟨.inl h, cell_of_block (hp.lt (hR.fz_lt h)) o⟩
  nfz := fun c o h => by
    rcases h with h | h
    · grind
    · grind
  old := fun c hc _ => hp.lt hc
  len := setS_len b
  cells := fun id l hl => by
    have hne := hn.ne hl (by simp)
    exact ⟨if_neg hne, l, by show (setS _ _ _)[_]? = _; rw [setS_get hn.le, if_neg hne]; exact hl⟩
  objs := fun id c hl hc => by
    have hne := hn.ne hl (obj_live hc)
    exact ⟨if_neg hne, ⟨c, by show (setS _ _ _)[_]? = _; rw [setS_get hn.le, if_neg hne]; exact hl, like_refl hc⟩, fun _ => by
      obtain ⟨o, h1, -⟩ := hR.objs id c hl hc
      exact hp.lt (heap_lt h1)⟩
  tails := fun t e s n ht => by
    have hne := hn.ne ht (by simp)
    exact ⟨n, by show (setS _ _ _)[_]? = _; rw [setS_get hn.le, if_neg hne]; exact ht, Nat.le_refl _, fun _ => ⟨if_neg hne, if_neg hne⟩⟩
  live := fun i hi => by
    by_cases h : i = nid
    · subst h; right; show _ ≤ (if _ then _ else _); rw [if_pos rfl]; exact Nat.le_refl _
    · left
      obtain ⟨c, hc, hne⟩ := hi
      have hc : (setS x.S nid b)[i]? = some c := hc
      rw [setS_get hn.le, if_neg h] at hc
      exact ⟨⟨c, hc, hne⟩, if_neg h⟩
  ops := fun t e s l z ht => by
    have hne := hn.ne ht (by simp)
    exact ⟨l, z, by show (setS _ _ _)[_]? = _; rw [setS_get hn.le, if_neg hne]; exact ht, Nat.le_refl _, fun e => ⟨rfl, e⟩, fun _ => ⟨if_neg hne, if_neg hne⟩⟩
theorem rel_fresh {nid k : Nat} {F : Nat → Prop} {ob : Obj} {b : DB} (hR : Rel x) (hn : Nid x.S nid) (hp : Push x.w w' ob)
    (hF : ∀ o, F o → ∃ v, w'.cell? ⟨x.w.heap.size, o, none⟩ = some v)
    (hb : (∃ l arr e, b = .cells l ∧ ob = .cells arr e (0, 0) ∧ arr.size = l.length ∧ (∀ o, ¬ F o) ∧ ∀ j c, l[j]? = some c → RV x c (arr.getD j undef)) ∨
      (∃ e s n arr, b = .tail e s n ∧ ob = .cells arr e (0, 0) ∧ arr.size = k * s ∧ n ≤ arr.size ∧ k ≤ maxLen ∧ ∀ o, F o → o < n) ∨ (b.isObj = true ∧ (∀ o, ¬ F o) ∧ ObjOK (x.fresh w' nid k F b) b ob) ∨
      (∃ e s l arr, b = .op e s l false ∧ ob = .cells arr e (0, 0) ∧ arr.size = k * s ∧ l.length ≤ arr.size ∧ k ≤ maxLen ∧ (∀ o, ¬ F o) ∧ ∀ j c, l[j]? = some c → c.pure1 = true ∧ RV x c (arr.getD j undef))) :
    Rel (x.fresh w' nid k F b) := by
  have M := mono_fresh (k := k) (F := F) (b := b) hR hn hp
  have hget : ∀ i, (x.fresh w' nid k F b).S[i]? = if i = nid then some b else x.S[i]? := fun i => setS_get hn.le b i
  have hμ : ∀ i, i ≠ nid → (x.fresh w' nid k F b).μ i = x.μ i := fun i h => if_neg h
  have hκ : ∀ i, i ≠ nid → (x.fresh w' nid k F b).κ i = x.κ i := fun i h => if_neg h
  have hμn : (x.fresh w' nid k F b).μ nid = x.w.heap.size := if_pos rfl
  have hκn : (x.fresh w' nid k F b).κ nid = k := if_pos rfl
  have hliv : ∀ i, i ≠ nid → Live (x.fresh w' nid k F b).S i → Live x.S i := by
    rintro i h ⟨c, hc, hne⟩
    rw [hget, if_neg h] at hc
    exact ⟨c, hc, hne⟩
  constructor
  case glob => exact hR.glob.keep M.fz
  · intro id l hl
    rw [hget] at hl
    by_cases h : id = nid
    · subst h
      rw [if_pos rfl] at hl
      cases hl
      rcases hb with ⟨l', arr, e, h1, rfl, h3, h4, h5⟩ | ⟨e, s, n, arr, h1, -⟩ | ⟨h1, -⟩ | ⟨e, s, n, arr, h1, -⟩
      · cases h1
        rw [hμn]
        exact ⟨arr, e, hp.new, h3, fun j c hc => (h5 j c hc).mono M⟩
      all_goals cases h1
    · rw [if_neg h] at hl
      obtain ⟨arr, e, h1, h2, h3⟩ := hR.cells id l hl
      rw [hμ id h]
      exact ⟨arr, e, (hp.lt (heap_lt h1)).trans h1, h2, fun j c hc => (h3 j c hc).mono M⟩
  · intro id e s n hl
    rw [hget] at hl
    by_cases h : id = nid
    · subst h
      rw [if_pos rfl] at hl
      cases hl
      rcases hb with ⟨l', arr, e', h1, -⟩ | ⟨e', s', n', arr, h1, rfl, h3, h4, h5, -⟩ | ⟨h1, -⟩ | ⟨e', s', n', arr, h1, -⟩
      · cases h1
      · cases h1
        rw [hμn, hκn]
        exact ⟨arr, hp.new, h3, h4, h5⟩
      all_goals cases h1
    · rw [if_neg h] at hl
      obtain ⟨arr, h1, h2⟩ := hR.tails id e s n hl
      rw [hμ id h, hκ id h]
      exact ⟨arr, (hp.lt (heap_lt h1)).trans h1, h2⟩
  · intro id c hl hc
    rw [hget] at hl
    by_cases h : id = nid
    · subst h
      rw [if_pos rfl] at hl
      cases hl
      rcases hb with ⟨l', arr, e, h1, -⟩ | ⟨e', s', n', arr, h1, -⟩ | ⟨-, -, h1⟩ | ⟨e', s', n', arr, h1, -⟩
      · subst h1; cases hc
      · subst h1; cases hc
      · rw [hμn]
        exact ⟨ob, hp.new, h1⟩
      · subst h1; cases hc
    · rw [if_neg h] at hl
      obtain ⟨o, h1, h2⟩ := hR.objs id c hl hc
      rw [hμ id h]
      exact ⟨o, (hp.lt (heap_lt h1)).trans h1, h2.mono M⟩
  · intro i j hi hj he
    by_cases h1 : i = nid
    · by_cases h2 : j = nid
      · grind
      · rw [h1, hμn, hμ j h2] at he
        have := hR.live_lt (hliv j h2 hj)
        omega
    · by_cases h2 : j = nid
      · rw [h2, hμn, hμ i h1] at he
        have := hR.live_lt (hliv i h1 hi)
        omega
      · rw [hμ i h1, hμ j h2] at he
        exact hR.inj i j (hliv i h1 hi) (hliv j h2 hj) he
  · intro c o h
    rcases h with h | ⟨rfl, h⟩
    · obtain ⟨v, hv⟩ := hR.frz c o h
      exact ⟨v, (M.fz c o h).2.trans hv⟩
    · exact hF o h
  · rintro id ⟨l, hl⟩ o ho
    rw [hget] at hl
    by_cases h : id = nid
    · subst h
      rw [if_pos rfl] at hl
      cases hl
      rcases hb with ⟨l', arr, e, h1, -, -, h4, -⟩ | ⟨e', s', n', arr, h1, -⟩ | ⟨h1, -⟩ | ⟨e', s', n', arr, h1, -⟩
      · rw [hμn] at ho
        rcases ho with ho | ⟨-, ho⟩
        · have := hR.fz_lt ho; omega
        · grind
      all_goals cases h1
    · rw [if_neg h] at hl
      rw [hμ id h] at ho
      rcases ho with ho | ⟨ho, -⟩
      · exact hR.sep id ⟨l, hl⟩ o ho
      · have := hR.live_lt (live_of hl (by simp)); omega
  · intro id e s n hl o ho
    rw [hget] at hl
    by_cases h : id = nid
    · subst h
      rw [if_pos rfl] at hl
      cases hl
      rcases hb with ⟨l', arr, e', h1, -⟩ | ⟨e', s', n', arr, h1, -, -, -, -, h6⟩ | ⟨h1, -⟩ | ⟨e', s', n', arr, h1, -⟩
      · cases h1
      · cases h1
        rw [hμn] at ho
        rcases ho with ho | ⟨-, ho⟩
        · have := hR.fz_lt ho; omega
        · grind
      all_goals cases h1
    · rw [if_neg h] at hl
      rw [hμ id h] at ho
      rcases ho with ho | ⟨ho, -⟩
      · exact hR.sept id e s n hl o ho
      · have := hR.live_lt (live_of hl (by simp)); omega
  · intro id e s l z hl
    rw [hget] at hl
    by_cases h : id = nid
    · subst h
      rw [if_pos rfl] at hl
      cases hl
      rcases hb with ⟨l', arr, e', h1, -⟩ | ⟨e', s', n', arr, h1, -⟩ | ⟨h1, -⟩ | ⟨e', s', n', arr, h1, rfl, h3, h4, h5, h6, h7⟩
      · cases h1
      · cases h1
      · cases h1
      · cases h1
        rw [hμn, hκn]
        refine ⟨arr, hp.new, h3, h4, h5, fun j c hc => ⟨(h7 j c hc).1, (h7 j c hc).2.mono M⟩, by simp, fun _ o ho => ?_⟩
        rcases ho with ho | ⟨-, ho⟩
        · have := hR.fz_lt ho; omega
        · grind
    · rw [if_neg h] at hl
      obtain ⟨arr, h1, h2, h3, h4, h5, h6, h7⟩ := hR.ops id e s l z hl
      rw [hμ id h, hκ id h]
      refine ⟨arr, (hp.lt (heap_lt h1)).trans h1, h2, h3, h4, fun j c hc => ⟨(h5 j c hc).1, (h5 j c hc).2.mono M⟩, fun hz j hj => .inl (h6 hz j hj), fun hz o ho => ?_⟩
      rcases ho with ho | ⟨ho, -⟩
      · grind
      · grind
end Go.Di
end
