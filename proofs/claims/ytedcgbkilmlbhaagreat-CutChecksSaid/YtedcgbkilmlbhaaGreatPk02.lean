import Derived.Test.YtedcgbkilmlbhaaGreatPk01
section
namespace Go.Tv
open Go Go.Di
def TV.cells : TV → List TV
 | .agg l => l
 | v => [v]
def TV.known : TV → Bool
 | .unk => false
 | _ => true
def TV.yH : TV → Bool
 | .unk | .ep _ => false
 | _ => true
def tB : DV → TV
 | .val v => .val v
 | .sl [] none ⟨true, some true⟩ => .eu
 | _ => .unk
def VB : DV → TV
 | .agg l => .agg (l.map tB)
 | .fn f [] [] => .fn f [] []
 | d => tB d
inductive TB where
 | none
 | cells (l : List TV)
 | own (e s : Nat)
 | map (kt : TT) (l : List kt.den)
 | rows (t : TT) (e : Nat) (l : List t.den) (z : Bool)
instance : Inhabited TB := ⟨.none⟩
section
variable (P : Program) (ty : eY) (tt : TypeId → Option TT)
def fG (te : List TV) : Operand → Option TV
 | .tmp t => some (te.getD t .unk)
 | .const v => (wu v).map VB
 | .func f => some (.fn f [] [])
 | .global _ => none
def lP (te : List TV) : List Operand → Option (List TV)
 | [] => some []
 | x :: l => match fG te x, lP te l with
  | some d, some r => some (d :: r)
  | _, _ => none
def vc (te : List TV) : List (Nat × Operand) → Option (List (Nat × TV))
 | [] => some []
 | (i, x) :: l => match fG te x, vc te l with
  | some d, some r => some ((i, d) :: r)
  | _, _ => none
def fH : List TV → Option (List Value)
 | [] => some []
 | .val v :: l => (fH l).map (v :: ·)
 | _ => none
def fR : TV → Option Value
 | .val v => some v
 | .agg l => (fH l).map fun r => .agg r.toArray
 | _ => none
def tO : List TV → Option (List Value)
 | [] => some []
 | d :: l => match fR d, tO l with
  | some v, some r => some (v :: r)
  | _, _ => none
def DR (te : List TV) (x : Operand) : Option Int :=
 match fG te x with
 | some (.val (.int _ n)) => some n
 | _ => none
def ia (t : TypeId) (v : TV) : TV :=
 match v with
 | .eu => match tt t with
  | some (.sl e) => .sl e [] .full
  | _ => .eu
 | v => v
def Wc (l : List TV) (off n : Nat) : Option (List TV) := if off + n ≤ l.length then some ((l.drop off).take n) else none
def Mr (l : List TV) (off : Nat) (cs : List TV) : Option (List TV) := if off + cs.length ≤ l.length then some (l.take off ++ cs ++ l.drop (off + cs.length)) else none
def wo (agg : Bool) (size : Nat) (l : List TV) (off : Nat) : Option TV := if agg then (Wc l off size).map .agg else l[off]?
def Ek (place : Nat → Option (Nat × Nat)) (cs : List TV) : List (Nat × TV) → Option (List TV)
 | [] => some cs
 | (i, v) :: r => match place i with
  | none => none
  | some (off, size) => if v.known && v.cells.length == size then match Mr cs off v.cells with
    | some gL => Ek place gL r
    | none => none
   else none
def s9 : Option DV → Option TV
 | some (.val v) => some (.val v)
 | _ => none
def yF (t : TT) (i : Nat) : List (Nat × TV) → Option (List t.den)
 | [] => some []
 | (j, v) :: r => if j == i && v.yH then match t.of v.cells, yF t (i + 1) r with
   | some (x, []), some l => some (x :: l)
   | _, _ => none
  else none
def MR (t : Bool) : Option TV → Option TV → Option TV
 | some (.val (.bool x)), some (.val (.bool y)) => some (.val (.bool (bif t then x else y)))
 | some (.val (.int k x)), some (.val (.int k' y)) => if k' = k then some (.val (.int k (bif t then x else y))) else none
 | a, b => match t with
  | true => a
  | false => b
def yI (te : List TV) : Option Operand → Option (Option Int)
 | none => some none
 | some x => (DR te x).map some
def acX (o : Option Int) (cM : Nat) : Prop :=
 match o with
 | none => True
 | some n => 0 ≤ n ∧ n ≤ (cM : Int)
def Nz (t : TT) (l : List t.den) (lo hi mx : Option Int) : TV × Prop :=
 match mx with
 | none => match hi with
  | none => match lo with
   | none => (.sl t l .no, True)
   | some a => (.sl t (l.drop a.toNat) .no, 0 ≤ a ∧ a ≤ (l.length : Int))
  | some h => match lo with
   | none => (.sl t (l.take h.toNat) .no, 0 ≤ h ∧ h ≤ (l.length : Int))
   | some a => (.sl t ((l.take h.toNat).drop a.toNat) .no, 0 ≤ a ∧ a ≤ h ∧ h ≤ (l.length : Int))
 | some m => match hi with
  | none => (.unk, False)
  | some h => match lo with
   | none => (.sl t (l.take h.toNat) .full, 0 ≤ h ∧ h = m ∧ h ≤ (l.length : Int))
   | some a => (.sl t ((l.take h.toNat).drop a.toNat) .full, 0 ≤ a ∧ a ≤ h ∧ h = m ∧ h ≤ (l.length : Int))
def aZ (te : List TV) (tS : List TB) (o : Oper) : Option (TV × Prop) :=
 match o.op with
 | .move x | .assign x => (fG te x).map fun v => (ia tt o.type v, True)
 | .pick c a b => match fG te c with
  | some (.val (.bool t)) => (MR t (fG te a) (fG te b)).map (·, True)
  | _ => none
 | .build t ps => match ty t, vc te ps.toList with
  | some ⟨.struct fs, _, some z⟩, some l => (Ek (fun i => (fs[i]?).map fun f => (f.1, f.2.1)) (z.map tB) l).map fun cs => (.agg cs, True)
  | some ⟨.array _ s _, _, some z⟩, some l => (Ek (fun i => some (i * s, s)) (z.map tB) l).map fun cs => (.agg cs, True)
  | _, _ => none
 | .buildSlice t n ps => match ty t, vc te ps.toList, tt t with
  | some ⟨.slice e s _ agg, _, _⟩, some l, some (.sl k) => match ty e with
   | some ⟨_, _, some z⟩ => if decide (0 < s) && decide (n * s ≤ 16777216) && l.length == n && z.length == s && k.size == s && k.agg == agg && (agg || s == 1) && ty.h o != 1 then
     (yF k 0 l).map fun l => (.sl k l .full, True)
    else none
   | _ => none
  | _, _, _ => none
 | .load t a => match ty t, fG te a with
  | some d, some (.ptr id off) => match tS[id]? with
   | some (.cells l) => (wo d.k.isAgg d.size l off).map fun v => (ia tt t v, True)
   | _ => none
  | some d, some (.cV e l i off) => (wo d.k.isAgg d.size (e.cells (l.getD i e.Vn)) off).map fun v => (ia tt t v, True)
  | _, _ => none
 | .nilCheck x => match fG te x with
  | some (.ptr id off) => some (.ptr id off, True)
  | _ => none
 | .binOp op t x y _ => match (fG te x).bind fR, (fG te y).bind fR with
  | some a, some b => (s9 (gU P (do eqGuard op t x y a b; binOp op t a b))).map (·, True)
  | _, _ => none
 | .unOp op _ x => match (fG te x).bind fR with
  | some a => (s9 (gU P (Op.unary op a))).map (·, True)
  | none => none
 | .convert s d x => match (fG te x).bind fR with
  | some a => (s9 (gU P (Go.convert s d a))).map (·, True)
  | none => none
 | .makeFunc (.func f) fs cs => match lP te fs.toList, lP te cs.toList with
  | some a, some b => some (.fn f a b, True)
  | _, _ => none
 | .slice t x lo hi mx => match ty t, (fG te x).map (ia tt t), yI te lo, yI te hi, yI te mx with
  | some ⟨.slice _ s _ _, _, _⟩, some (.sl k l _), some lo, some hi, some mx => if k.size == s then some (Nz k l lo hi mx) else none
  | _, _, _, _, _ => none
 | .fieldAddr t x f => match ty t, fG te x with
  | some ⟨.struct fs, _, _⟩, some (.ptr id off) => match fs[f]? with
   | some (o, s, _) => if 0 < s then some (.ptr id (off + o), True) else none
   | none => none
  | some ⟨.struct fs, _, _⟩, some (.cV k l i off) => match fs[f]? with
   | some (o, s, _) => if 0 < s then some (.cV k l i (off + o), True) else none
   | none => none
  | _, _ => none
 | .field t x f => match ty t, fG te x with
  | some ⟨.struct fs, _, _⟩, some (.agg l) => match fs[f]? with
   | some (off, s, agg) => (wo agg s l off).map (·, True)
   | none => none
  | _, _ => none
 | .indexAddr t x i => match ty t, (fG te x).map (ia tt t), DR te i with
  | some ⟨.slice _ s _ _, _, _⟩, some (.sl k l _), some n => if k.size == s then some (.cV k l n.toNat 0, 0 ≤ n ∧ n < (l.length : Int)) else none
  | some ⟨.array k s _, _, _⟩, some (.ptr id off), some n => if 0 ≤ n ∧ n.toNat < k then some (.ptr id (off + n.toNat * s), True) else none
  | some ⟨.array k s _, _, _⟩, some (.cV e l j off), some n => if 0 ≤ n ∧ n.toNat < k then some (.cV e l j (off + n.toNat * s), True) else none
  | _, _, _ => none
 | .index t x i => match ty t, fG te x, DR te i with
  | some ⟨.array k s agg, _, _⟩, some (.agg l), some n => if 0 ≤ n ∧ n.toNat < k then (wo agg s l (n.toNat * s)).map (·, True) else none
  | _, _, _ => none
 | .extract t i => match fG te t with
  | some (.ep l) => (l[i]?).map fun v => (ia tt o.type v, True)
  | _ => none
 | .call { callee := .builtin b, args, argTypes } => match b, args.toList, argTypes.toList with
  | .len, [x], [t] => match ty t, (fG te x).map (ia tt t) with
   | some ⟨.slice _ _ _ _, _, _⟩, some (.sl _ l _) => some (.val (.int .i64 (l.length : Nat)), True)
   | some ⟨.array n _ _, _, _⟩, _ => some (.val (.int .i64 n), True)
   | _, some (.val v) => (s9 (gU P (Builtin.len_ #[t] o.type #[v]))).map (·, True)
   | _, _ => none
  | .min, xs, _ => match (lP te xs).bind tO with
   | some vs => (s9 (gU P (Builtin.min_ argTypes o.type vs.toArray))).map (·, True)
   | none => none
  | .max, xs, _ => match (lP te xs).bind tO with
   | some vs => (s9 (gU P (Builtin.max_ argTypes o.type vs.toArray))).map (·, True)
   | none => none
  | _, _, _ => none
 | _ => none
end
section
variable {P : Program} {ty : eY} {tt : TypeId → Option TT} {ι : jE} {S : ak} {te : List TV} {env : List DV} {tS : List TB}
theorem o8 {v : TV} {d : DV} (hk : v.known = true) (h : RT ι S v d) : cq ι S v.cells d.cells := by
 cases v <;> cases d <;> simp only [RT] at h <;> first | (cases hk; done) | exact h | (refine dA ?_; simp only [RT]; exact h)
theorem NF (d : DV) : RT ι S (tB d) d := by
 unfold tB
 split <;> simp [RT]
theorem qf : ∀ l : List DV, cq ι S (l.map tB) l
 | [] => bI
 | d :: l => aD (NF d) (qf l)
theorem aap (d : DV) : RT ι S (VB d) d := by
 unfold VB
 split
 ·simp only [RT]; exact qf _
 ·simp only [RT, cq, and_true]
 ·exact NF _
theorem aS (h : cq ι S te env) {x : Operand} {v : TV} (hx : fG te x = some v) : ∃ d, ga env x = some d ∧ RT ι S v d := by
 cases x with
 | tmp t => cases hx; exact ⟨_, rfl, o7 h t⟩
 | const u =>
  simp only [fG, Option.map_eq_some_iff] at hx
  obtain ⟨d, h1, rfl⟩ := hx
  exact ⟨d, h1, aap d⟩
 | func f => cases hx; exact ⟨_, rfl, by simp only [RT, cq, and_true]⟩
 | global g => cases hx
theorem ql (h : cq ι S te env) : ∀ {xs : List Operand} {vs : List TV}, lP te xs = some vs → ∃ ds, evs (ga env) xs = some ds ∧ cq ι S vs ds
 | [], _, hx => by cases hx; exact ⟨[], rfl, bI⟩
 | x :: l, vs, hx => by
  simp only [lP] at hx
  split at hx
  ·rename_i d r h1 h2
   cases hx
   obtain ⟨d', k1, k2⟩ := aS h h1
   obtain ⟨ds, k3, k4⟩ := ql h h2
   exact ⟨d' :: ds, by simp only [evs, k1, k3], aD k2 k4⟩
  ·cases hx
def yM (ι : jE) (S : ak) : List (Nat × TV) → List (Nat × DV) → Prop
 | [], [] => True
 | (i, v) :: l, (j, d) :: m => (j = i ∧ RT ι S v d) ∧ yM ι S l m
 | _, _ => False
theorem ni (h : cq ι S te env) : ∀ {xs : List (Nat × Operand)} {vs : List (Nat × TV)}, vc te xs = some vs → ∃ ds, ic (ga env) xs = some ds ∧ yM ι S vs ds
 | [], _, hx => by cases hx; exact ⟨[], rfl, trivial⟩
 | (i, x) :: l, vs, hx => by
  simp only [vc] at hx
  split at hx
  ·rename_i d r h1 h2
   cases hx
   obtain ⟨d', k1, k2⟩ := aS h h1
   obtain ⟨ds, k3, k4⟩ := ni h h2
   exact ⟨(i, d') :: ds, by simp only [ic, k1, k3], ⟨rfl, k2⟩, k4⟩
  ·cases hx
theorem wI : ∀ {l : List TV} {m : List DV} {vs : List Value}, cq ι S l m → fH l = some vs → nJ m = some vs
 | [], m, vs, h, hx => by rw [aF h]; exact hx
 | a :: l, m, vs, h, hx => by
  obtain ⟨d, m', rfl, h1, h2⟩ := ai h
  unfold fH at hx
  split at hx
  ·rename_i e; cases e
  ·rename_i v l' e
   cases e
   simp only [Option.map_eq_some_iff] at hx
   obtain ⟨r, h3, rfl⟩ := hx
   cases d <;> simp only [RT] at h1
   subst h1
   simp only [nJ, wI h2 h3, Option.map_some]
  ·cases hx
theorem Bg {v : TV} {d : DV} {u : Value} (h : RT ι S v d) (hx : fR v = some u) : we d = some u := by
 unfold fR at hx
 split at hx
 ·cases hx
  cases d <;> simp only [RT] at h
  subst h
  rfl
 ·simp only [Option.map_eq_some_iff] at hx
  obtain ⟨r, h1, rfl⟩ := hx
  cases d <;> simp only [RT] at h
  simp only [we, wI h h1, Option.map_some]
 ·cases hx
theorem sk : ∀ {l : List TV} {m : List DV} {vs : List Value}, cq ι S l m → tO l = some vs → oU m = some vs
 | [], m, vs, h, hx => by rw [aF h]; exact hx
 | a :: l, m, vs, h, hx => by
  obtain ⟨d, m', rfl, h1, h2⟩ := ai h
  simp only [tO] at hx
  split at hx
  ·rename_i v r e1 e2
   cases hx
   simp only [oU, Bg h1 e1, sk h2 e2]
  ·cases hx
theorem ei (h : cq ι S te env) {x : Operand} {u : Value} (hx : (fG te x).bind fR = some u) : valOf (ga env) x = some u := by
 cases h1 : fG te x with
 | none => rw [h1] at hx; cases hx
 | some v =>
  rw [h1] at hx
  obtain ⟨d, h2, h3⟩ := aS h h1
  simp only [valOf, h2, Option.bind_some]
  exact Bg h3 hx
theorem mc (h : cq ι S te env) {x : Operand} {n : Int} (hx : DR te x = some n) : intOf (ga env) x = some n := by
 unfold DR at hx
 split at hx
 ·rename_i k m h1
  cases hx
  obtain ⟨d, h2, h3⟩ := aS h h1
  cases d <;> simp only [RT] at h3
  subst h3
  simp only [intOf, h2]
 ·cases hx
theorem bO {t : TypeId} {v : TV} {d : DV} (h : RT ι S v d) : RT ι S (ia tt t v) d := by
 unfold ia
 split
 ·split
  ·cases d <;> simp only [RT] at h
   obtain ⟨rfl, rfl, rfl⟩ := h
   simp only [RT, de, qV, and_self]
  ·exact h
 ·exact h
theorem SR {l : List TV} {m : List DV} (h : cq ι S l m) {off n : Nat} {r : List TV} (hx : Wc l off n = some r) : ∃ r', MG m off n = some r' ∧ cq ι S r r' := by
 unfold Wc at hx
 split at hx
 ·cases hx
  rename_i hle
  exact ⟨_, if_pos (by rw [fu h]; exact hle), yS _ (yT _ h)⟩
 ·cases hx
theorem CU {l : List TV} {m : List DV} (h : cq ι S l m) {cs : List TV} {ds : List DV} (hc : cq ι S cs ds) {off : Nat} {r : List TV} (hx : Mr l off cs = some r) : ∃ r', qK m off ds = some r' ∧ cq ι S r r' := by
 unfold Mr at hx
 split at hx
 ·cases hx
  rename_i hle
  refine ⟨_, if_pos (by rw [fu h, fu hc]; exact hle), dI (dI (yS _ h) hc) ?_⟩
  rw [fu hc]
  exact yT _ h
 ·cases hx
theorem mU {l : List TV} {m : List DV} (h : cq ι S l m) {agg : Bool} {size off : Nat} {r : TV} (hx : wo agg size l off = some r) : ∃ r', kg agg size m off = some r' ∧ RT ι S r r' := by
 unfold wo at hx
 split at hx
 ·rename_i ha
  simp only [Option.map_eq_some_iff] at hx
  obtain ⟨r1, h1, rfl⟩ := hx
  obtain ⟨r', h2, h3⟩ := SR h h1
  exact ⟨.agg r', by simp only [kg, ha, if_true, h2, Option.map_some], by simp only [RT]; exact h3⟩
 ·rename_i ha
  obtain ⟨d, h1, h2⟩ := qg h hx
  exact ⟨d, by simp only [kg, ha, h1]; rfl, h2⟩
theorem ze {place : Nat → Option (Nat × Nat)} : ∀ {ps : List (Nat × TV)} {qs : List (Nat × DV)} {l : List TV} {m : List DV} {r : List TV}, yM ι S ps qs → cq ι S l m → Ek place l ps = some r → ∃ r', iH place m qs = some r' ∧ cq ι S r r'
 | [], [], l, m, r, _, h, hx => by cases hx; exact ⟨m, rfl, h⟩
 | (i, v) :: ps, (j, d) :: qs, l, m, r, hp, h, hx => by
  obtain ⟨⟨rfl, hv⟩, hp⟩ := hp
  simp only [Ek] at hx
  split at hx
  ·cases hx
  ·rename_i off size vV
   split at hx
   ·rename_i hc
    simp only [Bool.and_eq_true, beq_iff_eq] at hc
    have lR := o8 hc.1 hv
    split at hx
    ·rename_i gL kS
     obtain ⟨m', h1, h2⟩ := CU h lR kS
     obtain ⟨r', h3, h4⟩ := ze hp h2 hx
     refine ⟨r', ?_, h4⟩
     simp only [iH, vV, fu lR, hc.2, if_true, h1, h3]
    ·cases hx
   ·cases hx
theorem qb {o : Option DV} {v : TV} (h : s9 o = some v) : ∃ d, o = some d ∧ RT ι S v d := by
 unfold s9 at h
 split at h
 ·cases h; exact ⟨_, rfl, by simp only [RT]⟩
 ·cases h
theorem OW {t : Bool} {a b : Option TV} {v : TV} {a' b' : Option DV} (ha : ∀ v, a = some v → ∃ d, a' = some d ∧ RT ι S v d) (hb : ∀ v, b = some v → ∃ d, b' = some d ∧ RT ι S v d) (h : MR t a b = some v) : ∃ d, (if t then a' else b') = some d ∧ RT ι S v d := by
 unfold MR at h
 split at h
 ·cases h
  obtain ⟨d, h1, h2⟩ := ha _ rfl
  obtain ⟨e, h3, h4⟩ := hb _ rfl
  cases t
  ·exact ⟨e, h3, h4⟩
  ·exact ⟨d, h1, h2⟩
 ·split at h
  ·rename_i hk
   subst hk
   cases h
   obtain ⟨d, h1, h2⟩ := ha _ rfl
   obtain ⟨e, h3, h4⟩ := hb _ rfl
   cases t
   ·exact ⟨e, h3, h4⟩
   ·exact ⟨d, h1, h2⟩
  ·cases h
 ·split at h
  ·exact ha _ h
  ·exact hb _ h
end
end Go.Tv
end
section
namespace Go.Tv
open Go Go.Di
variable {P:Program} {ty:eY} {tt:TypeId→Option TT} {ι:jE} {S:ak} {te:List TV} {env:List DV} {tS:List TB} {aC:bk} {call:aW} {yf:dR} {o:Oper} {ay:Nat} {v:TV} {c:Prop}
def GW (ι:jE) (S:ak) (tS:List TB):Prop:=∀ k l,tS[k]? = some (.cells l)→∃ k' ds,ι k=some k'∧S[k']? = some (.cells ds)∧cq ι S l ds
theorem Ss (hE:cq ι S te env) (hP:GW ι S tS) {t:TypeId} {a:Operand} (ho:o.op = .load t a) (h:aZ P ty tt te tS o=some (v,c)):∃ d,ah P ty aC call yf (ga env) o S ay=some (d,S)∧RT ι S v d:=by
 simp only[aZ,ho] at h
 split at h
 ·rename_i td id off h1 h2
  split at h
  ·rename_i l h3
   simp only[Option.map_eq_some_iff,Prod.mk.injEq] at h
   obtain⟨w,h4,rfl,-⟩:=h
   obtain⟨d,k1,k2⟩:=aS hE h2
   obtain⟨gJ,ds,k3,k4,k5⟩:=hP _ _ h3
   cases d<;>simp only[RT] at k2
   obtain⟨k6,rfl⟩:=k2
   rw[k3] at k6
   cases k6
   obtain⟨r,k7,k8⟩:=mU k5 h4
   exact⟨r,by simp only[ah,ho,k1,iq,h1,k4,k7,Option.map_some],bO k8⟩
  ·cases h
 ·rename_i td e l i off h1 h2
  simp only[Option.map_eq_some_iff,Prod.mk.injEq] at h
  obtain⟨w,h4,rfl,-⟩:=h
  obtain⟨d,k1,k2⟩:=aS hE h2
  cases d<;>simp only[RT] at k2
  obtain⟨k3,rfl,rfl,k4⟩:=k2
  obtain⟨r,m1,m2,-⟩:=yU k3 (List.getElem?_eq_getElem k4)
  rename_i j j'
  have hg:l.getD j e.Vn=l[j]:=by simp[List.getD_eq_getElem?_getD,k4]
  rw[hg] at h4
  obtain⟨r',m3,m4⟩:=mU (lH (ι:=ι) (S:=S) m2) h4
  exact⟨r',by simp only[ah,ho,k1,iq,h1,m1,m3,Option.map_some],bO m4⟩
 ·cases h
def Be (t:TT):Nat→List (Nat×DV)→List t.den→Prop
 | _,[],[]=>True
 | i,(j,d)::qs,x::l=>(j=i∧CR t x d.strip.cells)∧Be t (i+1) qs l
 | _,_,_=>False
theorem Fy {v:TV} {d:DV} (hk:v.yH=true) (h:RT ι S v d):d.strip.cells=d.cells.map DV.aH:=by
 cases v<;>cases d<;>simp only[RT] at h<;>first | (cases hk; done) | rfl
theorem E7 {v:TV} (hk:v.yH=true):v.known=true:=by cases v<;>first | rfl | cases hk
theorem zi {t:TT}:∀ {ps:List (Nat×TV)} {qs:List (Nat×DV)} {i:Nat} {l:List t.den},yM ι S ps qs→yF t i ps=some l→Be t i qs l∧l.length=ps.length
 | [],[],i,l,_,h=>by cases h; exact⟨trivial,rfl⟩
 | (j,v)::ps,(j',d)::qs,i,l,hp,h=>by
  obtain⟨⟨rfl,hv⟩,hp⟩:=hp
  simp only[yF] at h
  split at h
  ·rename_i hc
   simp only[Bool.and_eq_true,beq_iff_eq] at hc
   obtain⟨rfl,hk⟩:=hc
   split at h
   ·rename_i x l' h1 h2
    cases h
    obtain⟨cs,m',e1,e2,e3⟩:=A4 h1 (o8 (E7 hk) hv)
    rw[aF e3,List.append_nil] at e1
    obtain⟨k1,k2⟩:=zi hp h2
    exact⟨⟨⟨rfl,by rw[Fy hk hv,e1]; exact e2⟩,k1⟩,by simp[k2]⟩
   ·cases h
  ·cases h
def gv (qs:List (Nat×DV)):List DV:=qs.flatMap fun q=>q.2.strip.cells
theorem sR {t:TT} {s:Nat} (hs:t.size=s):∀ {qs:List (Nat×DV)} {i:Nat} {l:List t.den} {pre post:List DV},Be t i qs l→pre.length=i*s→post.length=qs.length*s →
  iH (fun i=>some (i*s,s)) (pre++post) (qs.map fun(i,v)=>(i,v.strip))=some (pre++gv qs)
 | [],i,[],pre,post,_,hp,hq=>by
  have:post=[]:=List.eq_nil_of_length_eq_zero (by simpa using hq)
  subst this
  simp[iH,gv]
 | (j,d)::qs,i,x::l,pre,post,h,hp,hq=>by
  obtain⟨⟨rfl,hc⟩,h⟩:=h
  have hl:d.strip.cells.length=s:=(j4 hc).trans hs
  have F9:post.length=qs.length*s+s:=by rw[hq,List.length_cons,Nat.add_mul,Nat.one_mul]
  have kS:qK (pre++post) (j*s) d.strip.cells=some ((pre++d.strip.cells)++post.drop s):=by
   unfold qK
   rw[if_pos (by rw[List.length_append,hp,hl]; omega),hl,← hp,List.take_left' rfl,List.drop_append,List.drop_eq_nil_of_le (by omega)]
   simp
  simp only[List.map_cons,iH,hl,if_true,kS]
  rw[sR hs h (by rw[List.length_append,hp,hl,Nat.add_mul,Nat.one_mul]) (by rw[List.length_drop,F9]; omega)]
  simp[gv]
theorem row_one {t:TT} {x:t.den} {cs:List DV} (h:CR t x cs) (ha:t.agg=false):CR t x (cs.getD 0 aO).cells∧tK t.agg (cs.getD 0 aO):=by
 cases t with
 | unit | pair=>cases ha
 | sl t =>
  simp only[CR] at h
  obtain⟨rows,f,rfl,h⟩:=h
  exact⟨by simp only[CR,List.getD_cons_zero,DV.cells]; exact⟨rows,f,rfl,h⟩,by simp[tK,TT.agg]⟩
 | _ =>
  simp only[CR] at h
  subst h
  exact⟨by simp only[CR,List.getD_cons_zero,DV.cells],by simp[tK,TT.agg]⟩
theorem wN {s:Nat} {agg:Bool} {c r:List DV} {n:Nat} (hc:c.length=s):rowsOf s agg (c++r) (n+1)=(if agg then .agg c else (c++r).getD 0 aO)::rowsOf s agg r n:=by
 unfold rowsOf
 rw[List.range_succ_eq_map,List.map_cons,List.map_map]
 congr 1
 ·unfold rowOf
  split
  ·rw[Nat.zero_mul,List.drop_zero,List.take_left' hc]
  ·rw[Nat.zero_mul]
 ·refine List.map_congr_left fun i _ => ?_
  simp only[Function.comp,rowOf,Nat.succ_eq_add_one,Nat.add_mul,Nat.one_mul]
  rw[Nat.add_comm (i*s) s,← hc,List.drop_append,List.drop_eq_nil_of_le (Nat.le_add_right _ _),Nat.add_sub_cancel_left,List.nil_append,List.getD_eq_getElem?_getD,List.getD_eq_getElem?_getD,List.getElem?_append_right (Nat.le_add_right _ _),Nat.add_sub_cancel_left]
theorem zH {t:TT} {s:Nat} (hs:t.size=s) (h1:t.agg=true∨s=1):∀ {qs:List (Nat×DV)} {i:Nat} {l:List t.den},Be t i qs l→de (CR t) t.agg l (rowsOf s t.agg (gv qs) l.length)
 | [],_,[],_=>by simp[rowsOf,de]
 | (j,d)::qs,i,x::l,h=>by
  obtain⟨⟨rfl,hc⟩,h⟩:=h
  have hl:d.strip.cells.length=s:=(j4 hc).trans hs
  have e:gv ((j,d)::qs)=d.strip.cells++gv qs:=by simp[gv]
  rw[e,List.length_cons,wN hl]
  refine⟨?_,zH hs h1 h⟩
  cases ha:t.agg with
  | true=>exact⟨hc,by simp[tK]⟩
  | false =>
   have:=row_one hc ha
   rw[ha] at this
   have h2:0<d.strip.cells.length:=by rw[hl]; rcases h1 with h1 | h1<;>first | (rw[ha] at h1; cases h1; done) | omega
   have e2:(d.strip.cells++gv qs).getD 0 aO=d.strip.cells.getD 0 aO:=by
    simp only[List.getD_eq_getElem?_getD,List.getElem?_append_left h2]
   simp only[Bool.false_eq_true,if_false]
   rw[e2]
   exact this
theorem sD {t:TT}:∀ {qs:List (Nat×DV)} {i:Nat} {l:List t.den},Be t i qs l→(gv qs).all DV.bn=true
 | [],_,[],_=>rfl
 | (j,d)::qs,i,x::l,h=>by
  obtain⟨⟨rfl,hc⟩,h⟩:=h
  have e:gv ((j,d)::qs)=d.strip.cells++gv qs:=by simp[gv]
  rw[e,List.all_append,nN hc,sD h]; rfl
theorem vH:∀ {ps:List (Nat×TV)} {qs:List (Nat×DV)},yM ι S ps qs→qs.length=ps.length
 | [],[],_=>rfl
 | _::ps,_::qs,h=>by simp[vH h.2]
theorem AP (hE:cq ι S te env) {t:TypeId} {n:Nat} {ps:Array (Nat×Operand)} (ho:o.op = .buildSlice t n ps) (h:aZ P ty tt te tS o=some (v,c)):∃ d,ah P ty aC call yf (ga env) o S ay=some (d,S)∧RT ι S v d:=by
 simp only[aZ,ho] at h
 split at h
 ·rename_i e s ji agg sz z0 l k h1 h2 h3
  split at h
  ·rename_i k0 sz' z h4
   split at h
   ·rename_i hc
    simp only[Bool.and_eq_true,beq_iff_eq,Bool.or_eq_true,decide_eq_true_eq] at hc
    obtain⟨⟨⟨⟨⟨⟨⟨c1,c2⟩,c3⟩,c4⟩,c5⟩,c6⟩,c7⟩,c8⟩:=hc
    have c8:ty.h o≠1:=by simpa using c8
    simp only[Option.map_eq_some_iff,Prod.mk.injEq] at h
    obtain⟨w,h5,rfl,-⟩:=h
    obtain⟨ds,k1,k2⟩:=ni hE h2
    obtain⟨k3,k4⟩:=zi k2 h5
    have hlen:ds.length=n:=by rw[vH k2,c3]
    have VQ:((List.replicate n z).flatten).length=ds.length*s:=by
     rw[hlen,List.length_flatten,List.map_replicate,c4,List.sum_replicate_nat]
    have hf:=sR (pre:=[]) (post:=(List.replicate n z).flatten) c5 k3 (by simp) VQ
    rw[List.nil_append,List.nil_append] at hf
    have hn:w.length=n:=by rw[k4,c3]
    have hr:=zH c5 (by rw[c6]; exact c7) k3
    rw[c6,hn] at hr
    have c7':(agg||s==1)=true:=by simpa using c7
    refine⟨.sl (rowsOf s agg (gv ds) n) none ⟨true,some false⟩,?_,?_⟩
    ·simp only[ah,ho,h1,k1,h4,decide_eq_true c1,decide_eq_true c2,Bool.and_self,if_true,hf,sD k3,c7',c8]
    ·simp only[RT,qV,and_self,and_true]
     rw[c6]
     exact hr
   ·cases h
  ·cases h
 ·cases h
theorem Ov (hE:cq ι S te env) {t:TypeId} {x:Operand} {lo hi mx:Option Operand} (ho:o.op = .slice t x lo hi mx) (h:aZ P ty tt te tS o=some (v,c)) (hc:c):∃ d,ah P ty aC call yf (ga env) o S ay=some (d,S)∧RT ι S v d:=by
 have hb:∀ {y:Option Operand} {b:Option Int},yI te y=some b→(y=none∧b=none)∨∃ z n,y=some z∧b=some n∧intOf (ga env) z=some n:=by
  intro y b hy
  cases y with
  | none=>cases hy; exact .inl ⟨rfl,rfl⟩
  | some z =>
   simp only[yI,Option.map_eq_some_iff] at hy
   obtain⟨n,h1,rfl⟩:=hy
   exact .inr ⟨z,n,rfl,rfl,mc hE h1⟩
 simp only[aZ,ho] at h
 split at h
 ·rename_i e s ji agg sz z0 k l ap lo' H9 mx' h1 h2 h3 h4 h5
  split at h
  ·rename_i hs
   simp only[beq_iff_eq] at hs
   simp only[Option.map_eq_some_iff] at h2
   obtain⟨u,h6,h7⟩:=h2
   obtain⟨d,k1,k2⟩:=aS hE h6
   have k3:=bO (tt:=tt) (t:=t) k2
   rw[h7] at k3
   cases d<;>simp only[RT] at k3
   rename_i rows tok f
   obtain⟨k3,k4⟩:=k3
   have hlen:=ja k3
   have dG:(rows.all fun r=>decide (r.cells.length=s))=true:=List.all_eq_true.2 fun r hr=>decide_eq_true ((gF k3 r hr).trans hs)
   simp only[Option.some.injEq] at h
   rcases hb h3 with ⟨rfl,rfl⟩ | ⟨zl,nl,rfl,rfl,el⟩<;>rcases hb h4 with ⟨rfl,rfl⟩ | ⟨zh,nh,rfl,rfl,eh⟩<;>rcases hb h5 with ⟨rfl,rfl⟩ | ⟨zm,nm,rfl,rfl,em⟩ <;>
    simp only[Nz,Prod.mk.injEq] at h<;>obtain⟨rfl,rfl⟩:=h
   ·exact⟨_,by simp only[ah,ho,h1,k1,dG,eU,Nat.zero_le,nC,if_true,Bool.not_true,Bool.false_eq_true,if_false,Option.isNone,Option.isSome,Bool.and_false,Option.map_none,Option.map_some]; rfl,by simp only[RT,qV,and_true,List.drop_zero,List.take_length]; exact k3⟩
   ·exact hc.elim
   ·have a1:0≤nh∧nh.toNat≤rows.length:=⟨hc.1,by rw[hlen]; omega⟩
    exact⟨_,by simp only[ah,ho,h1,k1,dG,eU,eh,a1,Nat.zero_le,nC,if_true,Bool.not_true,Bool.false_eq_true,if_false,Option.isNone,Option.isSome,Bool.and_false,Option.map_none,Option.map_some,and_self]; rfl,by simp only[RT,qV,and_true,List.drop_zero]; exact mY _ k3⟩
   ·obtain⟨b1,rfl,b2⟩:=hc
    have a1:0≤nh∧nh.toNat≤rows.length:=⟨b1,by rw[hlen]; omega⟩
    exact⟨_,by simp only[ah,ho,h1,k1,dG,eU,eh,em,a1,Nat.zero_le,nC,if_true,Bool.not_true,Bool.false_eq_true,if_false,Option.isNone,Option.isSome,Bool.and_true,Option.map_some,and_self,Nat.le_refl]; rfl,by simp only[RT,qV,and_true,List.drop_zero,beq_self_eq_true]; exact mY _ k3⟩
   ·have a1:0≤nl∧nl.toNat≤rows.length:=⟨hc.1,by rw[hlen]; omega⟩
    exact⟨_,by simp only[ah,ho,h1,k1,dG,eU,el,a1,nC,if_true,Bool.not_true,Bool.false_eq_true,if_false,Option.isNone,Option.isSome,Bool.and_false,Option.map_none,Option.map_some,and_self]; rfl,by simp only[RT,qV,and_true,List.take_length]; exact qw _ k3⟩
   ·exact hc.elim
   ·have a1:0≤nh∧nh.toNat≤rows.length:=⟨by omega,by rw[hlen]; omega⟩
    have a2:0≤nl∧nl.toNat≤nh.toNat:=⟨hc.1,by omega⟩
    exact⟨_,by simp only[ah,ho,h1,k1,dG,eU,eh,el,a1,a2,nC,if_true,Bool.not_true,Bool.false_eq_true,if_false,Option.isNone,Option.isSome,Bool.and_false,Option.map_none,Option.map_some,and_self]; rfl,by simp only[RT,qV,and_true]; exact qw _ (mY _ k3)⟩
   ·obtain⟨b0,b1,rfl,b2⟩:=hc
    have a1:0≤nh∧nh.toNat≤rows.length:=⟨by omega,by rw[hlen]; omega⟩
    have a2:0≤nl∧nl.toNat≤nh.toNat:=⟨b0,by omega⟩
    exact⟨_,by simp only[ah,ho,h1,k1,dG,eU,eh,el,em,a1,a2,nC,if_true,Bool.not_true,Bool.false_eq_true,if_false,Option.isNone,Option.isSome,Bool.and_true,Option.map_some,and_self,Nat.le_refl]; rfl,by simp only[RT,qV,and_true,beq_self_eq_true]; exact qw _ (mY _ k3)⟩
  ·cases h
 ·cases h
theorem ES (hE:cq ι S te env) (hP:GW ι S tS) (h:aZ P ty tt te tS o=some (v,c)) (hc:c):∃ d,ah P ty aC call yf (ga env) o S ay=some (d,S)∧RT ι S v d:=by
 cases ho:o.op with
 | load t a=>exact Ss hE hP ho h
 | buildSlice t n ps=>exact AP hE ho h
 | slice t x lo hi mx=>exact Ov hE ho h hc
 | move x | assign x =>
  simp only[aZ,ho,Option.map_eq_some_iff,Prod.mk.injEq] at h
  obtain⟨u,h1,rfl,-⟩:=h
  obtain⟨d,k1,k2⟩:=aS hE h1
  exact⟨d,by simp only[ah,ho,k1,Option.map_some],bO k2⟩
 | pick a b d =>
  simp only[aZ,ho] at h
  split at h
  ·rename_i t h1
   simp only[Option.map_eq_some_iff,Prod.mk.injEq] at h
   obtain⟨u,h2,rfl,-⟩:=h
   obtain⟨e,k1,k2⟩:=aS hE h1
   cases e<;>simp only[RT] at k2
   subst k2
   obtain⟨e,k3,k4⟩:=OW (fun v h=>aS hE h) (fun v h=>aS hE h) h2
   exact⟨e,by simp only[ah,ho,k1,k3,Option.map_some],k4⟩
  ·cases h
 | build t ps =>
  simp only[aZ,ho] at h
  split at h
  ·rename_i fs sz z l h1 h2
   simp only[Option.map_eq_some_iff,Prod.mk.injEq] at h
   obtain⟨cs,h3,rfl,-⟩:=h
   obtain⟨ds,k1,k2⟩:=ni hE h2
   obtain⟨r,k3,k4⟩:=ze k2 (qf _) h3
   exact⟨.agg r,by simp only[ah,ho,h1,k1,k3,Option.map_some],by simp only[RT]; exact k4⟩
  ·rename_i n s agg sz z l h1 h2
   simp only[Option.map_eq_some_iff,Prod.mk.injEq] at h
   obtain⟨cs,h3,rfl,-⟩:=h
   obtain⟨ds,k1,k2⟩:=ni hE h2
   obtain⟨r,k3,k4⟩:=ze k2 (qf _) h3
   exact⟨.agg r,by simp only[ah,ho,h1,k1,k3,Option.map_some],by simp only[RT]; exact k4⟩
  ·cases h
 | nilCheck x =>
  simp only[aZ,ho] at h
  split at h
  ·rename_i id off h1
   cases h
   obtain⟨d,k1,k2⟩:=aS hE h1
   cases d<;>simp only[RT] at k2
   exact⟨_,by simp only[ah,ho,k1]; rfl,by simp only[RT]; exact k2⟩
  ·cases h
 | binOp op t x y u =>
  simp only[aZ,ho] at h
  split at h
  ·rename_i a b h1 h2
   simp only[Option.map_eq_some_iff,Prod.mk.injEq] at h
   obtain⟨w,h3,rfl,-⟩:=h
   obtain⟨d,k1,k2⟩:=qb (ι:=ι) (S:=S) h3
   exact⟨d,by simp only[ah,ho,ei hE h1,ei hE h2,k1,Option.map_some],k2⟩
  ·cases h
 | unOp op t x =>
  simp only[aZ,ho] at h
  split at h
  ·rename_i a h1
   simp only[Option.map_eq_some_iff,Prod.mk.injEq] at h
   obtain⟨w,h3,rfl,-⟩:=h
   obtain⟨d,k1,k2⟩:=qb (ι:=ι) (S:=S) h3
   exact⟨d,by simp only[ah,ho,ei hE h1,k1,Option.map_some],k2⟩
  ·cases h
 | convert s t x =>
  simp only[aZ,ho] at h
  split at h
  ·rename_i a h1
   simp only[Option.map_eq_some_iff,Prod.mk.injEq] at h
   obtain⟨w,h3,rfl,-⟩:=h
   obtain⟨d,k1,k2⟩:=qb (ι:=ι) (S:=S) h3
   exact⟨d,by simp only[ah,ho,ei hE h1,k1,Option.map_some],k2⟩
  ·cases h
 | makeFunc f fs cs =>
  cases f with
  | func f =>
   simp only[aZ,ho] at h
   split at h
   ·rename_i a b h1 h2
    cases h
    obtain⟨d,k1,k2⟩:=ql hE h1
    obtain⟨e,k3,k4⟩:=ql hE h2
    exact⟨_,by simp only[ah,ho,k1,k3]; rfl,by simp only[RT]; exact⟨trivial,k2,k4⟩⟩
   ·cases h
  | _=>simp only[aZ,ho] at h; cases h
 | fieldAddr t x f =>
  simp only[aZ,ho] at h
  split at h
  ·rename_i fs sz z id off h1 h2
   split at h
   ·rename_i oo s ag h3
    split at h
    ·rename_i h4
     cases h
     obtain⟨d,k1,k2⟩:=aS hE h2
     cases d<;>simp only[RT] at k2
     obtain⟨k3,rfl⟩:=k2
     exact⟨_,by simp only[ah,ho,h1,k1,h3,h4,if_true]; rfl,by simp only[RT]; exact⟨k3,trivial⟩⟩
    ·cases h
   ·cases h
  ·rename_i fs sz z k l i off h1 h2
   split at h
   ·rename_i oo s ag h3
    split at h
    ·rename_i h4
     cases h
     obtain⟨d,k1,k2⟩:=aS hE h2
     cases d<;>simp only[RT] at k2
     obtain⟨k3,rfl,rfl,k4⟩:=k2
     exact⟨_,by simp only[ah,ho,h1,k1,h3,h4,if_true]; rfl,by simp only[RT]; exact⟨k3,trivial,trivial,k4⟩⟩
    ·cases h
   ·cases h
  ·cases h
 | field t x f =>
  simp only[aZ,ho] at h
  split at h
  ·rename_i fs sz z l h1 h2
   split at h
   ·rename_i off s ag h3
    simp only[Option.map_eq_some_iff,Prod.mk.injEq] at h
    obtain⟨w,h4,rfl,-⟩:=h
    obtain⟨d,k1,k2⟩:=aS hE h2
    cases d<;>simp only[RT] at k2
    obtain⟨r,k3,k4⟩:=mU k2 h4
    exact⟨r,by simp only[ah,ho,h1,k1,h3,k3,Option.map_some],k4⟩
   ·cases h
  ·cases h
 | indexAddr t x i =>
  simp only[aZ,ho] at h
  split at h
  ·rename_i e s ji ag sz z k l ap n h1 h2 h3
   split at h
   ·rename_i hs
    simp only[beq_iff_eq] at hs
    cases h
    simp only[Option.map_eq_some_iff] at h2
    obtain⟨u,h6,h7⟩:=h2
    obtain⟨d,k1,k2⟩:=aS hE h6
    have k3:=bO (tt:=tt) (t:=t) k2
    rw[h7] at k3
    cases d<;>simp only[RT] at k3
    obtain⟨k3,-⟩:=k3
    have hlt:n.toNat<l.length:=by omega
    obtain⟨r,m1,m2,-⟩:=yU k3 (List.getElem?_eq_getElem hlt)
    exact⟨_,by simp only[ah,ho,h1,k1,mc hE h3,hc.1,if_true,m1,(j4 m2).trans hs]; rfl,by simp only[RT]; exact⟨k3,trivial,trivial,hlt⟩⟩
   ·cases h
  ·rename_i k s ag sz z id off n h1 h2 h3
   split at h
   ·rename_i h4
    cases h
    simp only[Option.map_eq_some_iff] at h2
    obtain⟨u,h6,h7⟩:=h2
    obtain⟨d,k1,k2⟩:=aS hE h6
    have k3:=bO (tt:=tt) (t:=t) k2
    rw[h7] at k3
    cases d<;>simp only[RT] at k3
    obtain⟨k5,rfl⟩:=k3
    exact⟨_,by simp only[ah,ho,h1,k1,mc hE h3,h4,and_self,if_true]; rfl,by simp only[RT]; exact⟨k5,trivial⟩⟩
   ·cases h
  ·rename_i k s ag sz z e l j off n h1 h2 h3
   split at h
   ·rename_i h4
    cases h
    simp only[Option.map_eq_some_iff] at h2
    obtain⟨u,h6,h7⟩:=h2
    obtain⟨d,k1,k2⟩:=aS hE h6
    have k3:=bO (tt:=tt) (t:=t) k2
    rw[h7] at k3
    cases d<;>simp only[RT] at k3
    obtain⟨k5,rfl,rfl,k6⟩:=k3
    exact⟨_,by simp only[ah,ho,h1,k1,mc hE h3,h4,and_self,if_true]; rfl,by simp only[RT]; exact⟨k5,trivial,trivial,k6⟩⟩
   ·cases h
  ·cases h
 | index t x i =>
  simp only[aZ,ho] at h
  split at h
  ·rename_i k s ag sz z l n h1 h2 h3
   split at h
   ·rename_i h5
    simp only[Option.map_eq_some_iff,Prod.mk.injEq] at h
    obtain⟨w,h4,rfl,-⟩:=h
    obtain⟨d,k1,k2⟩:=aS hE h2
    cases d<;>simp only[RT] at k2
    obtain⟨r,k3,k4⟩:=mU k2 h4
    exact⟨r,by simp only[ah,ho,h1,k1,mc hE h3,h5,and_self,if_true,k3,Option.map_some],k4⟩
   ·cases h
  ·cases h
 | extract t i =>
  simp only[aZ,ho] at h
  split at h
  ·rename_i l h1
   simp only[Option.map_eq_some_iff,Prod.mk.injEq] at h
   obtain⟨w,h4,rfl,-⟩:=h
   obtain⟨d,k1,k2⟩:=aS hE h1
   cases d<;>simp only[RT] at k2
   obtain⟨r,k3,k4⟩:=qg k2 h4
   exact⟨r,by simp only[ah,ho,k1,k3,Option.map_some],bO k4⟩
  ·cases h
 | call cl =>
  obtain⟨callee,args,argTypes⟩:=cl
  cases callee with
  | builtin b =>
   simp only[aZ,ho] at h
   split at h
   ·rename_i x t ha ht
    split at h
    ·rename_i e s ji ag sz z k l ap h1 h2
     cases h
     simp only[Option.map_eq_some_iff] at h2
     obtain⟨u,h6,h7⟩:=h2
     obtain⟨d,k1,k2⟩:=aS hE h6
     have k3:=bO (tt:=tt) (t:=t) k2
     rw[h7] at k3
     cases d<;>simp only[RT] at k3
     exact⟨_,by simp only[ah,ho,ha,ht,h1,k1]; rfl,by simp only[RT]; rw[ja k3.1]⟩
    ·rename_i n s ag sz z h1
     cases h
     exact⟨_,by simp only[ah,ho,ha,ht,h1]; rfl,by simp only[RT]⟩
    ·rename_i w h2 hn2
     simp only[Option.map_eq_some_iff,Prod.mk.injEq] at h h2
     obtain⟨r,h4,rfl,-⟩:=h
     obtain⟨u,h6,h7⟩:=h2
     obtain⟨d,k1,k2⟩:=aS hE h6
     have k3:=bO (tt:=tt) (t:=t) k2
     rw[h7] at k3
     cases d<;>simp only[RT] at k3
     subst k3
     obtain⟨d,k5,k6⟩:=qb (ι:=ι) (S:=S) h4
     exact⟨d,by simp only[ah,ho,ha,ht,k1,k5,Option.map_some],k6⟩
    ·cases h
   ·split at h
    ·rename_i vs h1
     simp only[Option.map_eq_some_iff,Prod.mk.injEq] at h
     obtain⟨r,h4,rfl,-⟩:=h
     simp only[Option.bind_eq_some_iff] at h1
     obtain⟨us,h5,h6⟩:=h1
     obtain⟨ds,k1,k2⟩:=ql hE h5
     obtain⟨d,k5,k6⟩:=qb (ι:=ι) (S:=S) h4
     exact⟨d,by simp only[ah,ho,k1,Option.bind_some,sk k2 h6,k5,Option.map_some],k6⟩
    ·cases h
   ·split at h
    ·rename_i vs h1
     simp only[Option.map_eq_some_iff,Prod.mk.injEq] at h
     obtain⟨r,h4,rfl,-⟩:=h
     simp only[Option.bind_eq_some_iff] at h1
     obtain⟨us,h5,h6⟩:=h1
     obtain⟨ds,k1,k2⟩:=ql hE h5
     obtain⟨d,k5,k6⟩:=qb (ι:=ι) (S:=S) h4
     exact⟨d,by simp only[ah,ho,k1,Option.bind_some,sk k2 h6,k5,Option.map_some],k6⟩
    ·cases h
   ·cases h
  | _=>simp only[aZ,ho] at h; cases h
 | _=>simp only[aZ,ho] at h; cases h
end Go.Tv
end
section
namespace Go.Tv
open Go Go.Di
mutual
def F3 (g:Nat):TV→TV
 | .sl t l (.oC k)=>if k=g then .sl t l .no else .sl t l (.oC k)
 | .ptr id off=>if id=g then .unk else .ptr id off
 | .mp id=>if id=g then .unk else .mp id
 | .so id t=>if id=g then .unk else .so id t
 | .sp id t i off=>if id=g then .unk else .sp id t i off
 | .agg l => .agg (tj g l)
 | .ep l => .ep (tj g l)
 | .fn f a b => .fn f (tj g a) (tj g b)
 | v=>v
def tj (g:Nat):List TV→List TV
 | []=>[]
 | a::l=>F3 g a::tj g l
end
def oz (g:Nat):TB→TB
 | .cells l => .cells (tj g l)
 | b=>b
def oH (tS:List TB) (i:Nat) (b:TB):List TB:=if i<tS.length then tS.set i b else tS++[b]
def Zv:TV→Bool
 | .val v => !(v matches .tuple _)
 | .unk | .agg _ | .ep _=>false
 | _=>true
def NW {α β:Type} (l:List α) (m:List β):Bool :=
 match l with
 | []=>true
 | _::_=>match m with
  | []=>false
  | _::_=>true
structure TR where
 v:TV
 te:List TV
 tS:List TB
 Cj:List Nat
 c:Prop
section
variable (P:Program) (ty:eY) (tt:TypeId→Option TT)
def rT (te:List TV) (o:Oper):List Nat :=
 match o.op with
 | .load _ a=>match fG te a with
  | some (.ptr id _)=>[id]
  | _=>[]
 | _=>[]
def stepT (te:List TV) (tS:List TB) (o:Oper) (nT:Nat):Option TR :=
 match o.op with
 | .alloc e=>match ty e with
  | some ⟨_,_,some z⟩=>some ⟨.ptr nT 0,te,oH tS nT (.cells (z.map tB)),[nT],True⟩
  | _=>none
 | .box _ x=>match fG te x with
  | some d=>if d.known then some ⟨.ptr nT 0,te,oH tS nT (.cells d.cells),[nT],True⟩ else none
  | none=>none
 | .store t a x=>match ty t,fG te a,(fG te x).map (ia tt t) with
  | some d,some (.ptr id off),some v=>match tS[id]? with
   | some (.cells l)=>if v.known&&v.cells.length==d.size&&v.cells.all Zv then (Mr l off v.cells).map fun l'=>⟨.unk,te,tS.set id (.cells l'),[id],True⟩ else none
   | _=>none
  | _,_,_=>none
 | .call { callee := .builtin .append,args,argTypes }=>match args.toList,argTypes.toList with
  | [x,y],[t,u]=>if t=u∧ty.h o≠1 then match ty t,(fG te x).map (ia tt t),(fG te y).map (ia tt t) with
   | some ⟨.slice e s ji _,_,_⟩,some (.sl k l ap),some (.sl k' m _)=>match ty e with
    | some ⟨_,_,some _⟩=>if h:k'=k then
     if decide (0<s)&&decide (ji≤100000)&&k.size==s then match ap with
      | .no=>none
      | .full=>if NW l m then some ⟨.sl k (l++(h▸m)) (.oC nT),te,oH tS nT (.own e s),[nT],l.length+m.length≤1000000000⟩ else none
      | .oC g=>match tS[g]? with
       | some (.own e' s')=>if e'==e&&s'==s then some ⟨.sl k (l++(h▸m)) (.oC g),tj g te,tS.map (oz g),[g,nT],l.length+m.length≤1000000000⟩ else none
       | _=>none
     else none
     else none
    | _=>none
   | _,_,_=>none
   else none
  | _,_=>none
 | _=>(aZ P ty tt te tS o).map fun r=>⟨r.1,te,tS,rT te o,r.2⟩
end
def eS (ρ:Operand→Option DV) (o:Oper) (ay:Nat):List Nat :=
 match o.op with
 | .alloc _ | .box .. => [ay]
 | .store _ a _=>match ρ a with
  | some (.ptr id _)=>[id]
  | _=>[]
 | .load _ a=>match ρ a with
  | some (.ptr id _)=>[id]
  | some (.dM id _ _)=>[id]
  | _=>[]
 | .call { callee := .builtin .append,args,.. }=>match (args[0]?).bind ρ with
  | some (.sl _ (some t) _)=>[t,ay]
  | _=>[ay]
 | _=>[]
def AY:(t:TT)→t.den→List Value
 | .int k,n=>[.int k n]
 | .bool,b=>[.bool b]
 | .str,s=>[.string s]
 | .unit,_=>[]
 | .pair a b,x=>AY a x.1++AY b x.2
 | .sl _,_=>[]
def DO (t:TT) (x:t.den):Value := .agg (AY t x).toArray
def xu (t:TT) (l:List t.den):List (Value×Value):=l.map fun x=>(DO t x,.bool true)
def dO (t:TT):List t.den→List DV→Prop
 | [],ds=>ds=[]
 | x::l,ds=>∃ c m,ds=c++m∧CR t x c∧dO t l m
def Wm:TB→Option DB→Prop
 | .map kt l,b=>b=some (.map (xu kt l))
 | .rows t e l z,b=>0<t.size∧(t.agg||t.size==1)=true∧∃ ds,b=some (.op e t.size ds z)∧dO t l ds
 | _,_=>True
structure bL (ι:jE) (te:List TV) (tS:List TB) (env:List DV) (S:ak):Prop where
 env:cq ι S te env
 cells:GW ι S tS
 own:∀ k e s,tS[k]? = some (.own e s)→∀ t,ι k=some t→∃ n,S[t]? = some (.tail e s n)
 uP:∀ k k',ι k=some k'→∃ b,tS[k]? = some b∧b ≠ .none
 inj:∀ i j k',ι i=some k'→ι j=some k'→i=j
 mp:∀ k b,tS[k]? = some b→∀ t,ι k=some t→Wm b S[t]?
def P9 (ι:jE) (w:jE):Prop:=∀ k k',ι k=some k'→w k'=some k
section
variable {P:Program} {ty:eY} {tt:TypeId→Option TT} {ι ι' w:jE} {S S':ak} {te:List TV} {env:List DV} {tS:List TB} {aC:bk} {call:aW} {yf:dR} {o:Oper} {ay nT:Nat} {r:TR}
def GV (a b:Option DB):Prop:=(∀ e s n,a=some (.tail e s n)→b=some (.tail e s n))∧∀ e s l z,a=some (.op e s l z)→∃ l' z',b=some (.op e s l' z')∧l'.length=l.length
theorem dX {a b:Option DB} (h:b=a):GV a b:=by subst h; exact⟨fun _ _ _ h=>h,fun _ _ l z h=>⟨l,z,h,rfl⟩⟩
theorem tR {a b:Option DB} (h1:∀ e s n,a≠some (.tail e s n)) (h2:∀ e s l z,a≠some (.op e s l z)):GV a b:=⟨fun _ _ _ h=>absurd h (h1 _ _ _),fun _ _ _ _ h=>absurd h (h2 _ _ _ _)⟩
def jo (ι:jE) (S:ak) (ι':jE) (S':ak) (bad:Nat→Prop):Prop:=∀ k k',¬ bad k→ι k=some k'→ι' k=some k'∧GV S[k']? S'[k']?
theorem JE {n:Nat} {tok:Option Nat} {f:SF} {ap:Ap} {bad:Nat→Prop} (h:jo ι S ι' S' bad) (hb:∀ g,ap = .oC g→¬ bad g) (k:qV ι S n tok f ap):qV ι' S' n tok f ap:=by
 cases ap with
 | no=>trivial
 | full=>exact k
 | oC g =>
  refine k.imp id fun⟨t,e,s,h1,h2,h3⟩ => ?_
  obtain⟨h4,h5⟩:=h g t (hb g rfl) h1
  exact⟨t,e,s,h4,h2,h5.1 _ _ _ h3⟩
mutual
theorem RX (h:jo ι S ι' S' fun _=>False):∀ (v:TV) (d:DV),RT ι S v d→RT ι' S' v d
 | .unk,_,_=>by simp only[RT]
 | .val _,d,k=>by cases d<;>simp only[RT] at k ⊢; exact k
 | .eu,d,k=>by cases d<;>simp only[RT] at k ⊢; exact k
 | .agg l,d,k=>by cases d<;>simp only[RT] at k ⊢; exact aY h l _ k
 | .ep l,d,k=>by cases d<;>simp only[RT] at k ⊢; exact aY h l _ k
 | .sl t l ap,d,k=>by cases d<;>simp only[RT] at k ⊢; exact⟨k.1,JE h (fun _ _=>id) k.2⟩
 | .ptr id off,d,k=>by cases d<;>simp only[RT] at k ⊢; exact⟨(h _ _ (fun e=>e) k.1).1,k.2⟩
 | .cV t l i off,d,k=>by cases d<;>simp only[RT] at k ⊢; exact k
 | .mp id,d,k=>by cases d<;>simp only[RT] at k ⊢; exact(h _ _ (fun e=>e) k).1
 | .so g t,d,k=>by
  cases d<;>simp only[RT] at k ⊢
  obtain⟨k1,k2,e,s,l,z,k3,k4⟩:=k
  obtain⟨h1,h2⟩:=h _ _ (fun e=>e) k1
  obtain⟨l',z',h3,h4⟩:=h2.2 e s l z k3
  exact⟨h1,k2,e,s,l',z',h3,by omega⟩
 | .sp g t i off,d,k=>by
  cases d<;>simp only[RT] at k ⊢
  obtain⟨k1,k2,e,s,l,z,k3,k4,k5⟩:=k
  obtain⟨h1,h2⟩:=h _ _ (fun e=>e) k1
  obtain⟨l',z',h3,h4⟩:=h2.2 e s l z k3
  exact⟨h1,k2,e,s,l',z',h3,by omega,by omega⟩
 | .fn f a b,d,k=>by cases d<;>simp only[RT] at k ⊢; exact⟨k.1,aY h a _ k.2.1,aY h b _ k.2.2⟩
theorem aY (h:jo ι S ι' S' fun _=>False):∀ (l:List TV) (m:List DV),cq ι S l m→cq ι' S' l m
 | [],m,k=>by rw[aF k]; exact bI
 | a::l,m,k=>by
  obtain⟨d,m',rfl,h1,h2⟩:=ai k
  exact aD (RX h a d h1) (aY h l m' h2)
end
mutual
theorem Xf {g:Nat} (h:jo ι S ι' S' fun k=>k=g):∀ (v:TV) (d:DV),RT ι S v d→RT ι' S' (F3 g v) d
 | .unk,_,_=>by simp only[F3,RT]
 | .val _,d,k=>by cases d<;>simp only[RT,F3] at k ⊢; exact k
 | .eu,d,k=>by cases d<;>simp only[RT,F3] at k ⊢; exact k
 | .agg l,d,k=>by cases d<;>simp only[RT,F3] at k ⊢; exact kB h l _ k
 | .ep l,d,k=>by cases d<;>simp only[RT,F3] at k ⊢; exact kB h l _ k
 | .sl t l .no,d,k=>by cases d<;>simp only[RT,F3] at k ⊢; exact⟨k.1,trivial⟩
 | .sl t l .full,d,k=>by cases d<;>simp only[RT,F3] at k ⊢; exact k
 | .sl t l (.oC j),d,k=>by
  cases d<;>simp only[RT] at k
  simp only[F3]
  split
  ·simp only[RT]; exact⟨k.1,trivial⟩
  ·rename_i hj
   simp only[RT]; exact⟨k.1,JE h (fun g' e=>by cases e; exact hj) k.2⟩
 | .ptr id off,d,k=>by
  cases d<;>simp only[RT] at k
  simp only[F3]
  split
  ·simp only[RT]
  ·rename_i hj
   simp only[RT]; exact⟨(h _ _ hj k.1).1,k.2⟩
 | .cV t l i off,d,k=>by cases d<;>simp only[RT,F3] at k ⊢; exact k
 | .mp id,d,k=>by
  cases d<;>simp only[RT] at k
  simp only[F3]
  split
  ·simp only[RT]
  ·rename_i hj
   simp only[RT]; exact(h _ _ hj k).1
 | .so j t,d,k=>by
  cases d<;>simp only[RT] at k
  simp only[F3]
  split
  ·simp only[RT]
  ·rename_i hj
   simp only[RT]
   obtain⟨k1,k2,e,s,l,z,k3,k4⟩:=k
   obtain⟨h1,h2⟩:=h _ _ hj k1
   obtain⟨l',z',h3,h4⟩:=h2.2 e s l z k3
   exact⟨h1,k2,e,s,l',z',h3,by omega⟩
 | .sp j t i off,d,k=>by
  cases d<;>simp only[RT] at k
  simp only[F3]
  split
  ·simp only[RT]
  ·rename_i hj
   simp only[RT]
   obtain⟨k1,k2,e,s,l,z,k3,k4,k5⟩:=k
   obtain⟨h1,h2⟩:=h _ _ hj k1
   obtain⟨l',z',h3,h4⟩:=h2.2 e s l z k3
   exact⟨h1,k2,e,s,l',z',h3,by omega,by omega⟩
 | .fn f a b,d,k=>by cases d<;>simp only[RT,F3] at k ⊢; exact⟨k.1,kB h a _ k.2.1,kB h b _ k.2.2⟩
theorem kB {g:Nat} (h:jo ι S ι' S' fun k=>k=g):∀ (l:List TV) (m:List DV),cq ι S l m→cq ι' S' (tj g l) m
 | [],m,k=>by rw[aF k]; simp only[tj]; exact bI
 | a::l,m,k=>by
  obtain⟨d,m',rfl,h1,h2⟩:=ai k
  simp only[tj]
  exact aD (Xf h a d h1) (kB h l m' h2)
end
def u5 (tS:List TB) (nT:Nat):Prop:=tS[nT]? = some .none∨nT=tS.length
def u6 (S:ak) (ay:Nat):Prop:=S[ay]? = some .none∨ay=S.length
theorem bM {b:TB} (h:u5 tS nT) (j:Nat):(oH tS nT b)[j]? = if j=nT then some b else tS[j]? := by
 unfold oH
 rcases h with h | h
 ·have hlt:=(List.getElem?_eq_some_iff.1 h).1
  rw[if_pos hlt,List.getElem?_set]
  by_cases e:nT=j
  ·subst e; rw[if_pos rfl,if_pos hlt,if_pos rfl]
  ·rw[if_neg e,if_neg (Ne.symm e)]
 ·subst h
  rw[if_neg (Nat.lt_irrefl _),List.getElem?_append]
  by_cases e:j=tS.length
  ·subst e; rw[if_neg (Nat.lt_irrefl _),if_pos rfl]; simp
  ·rw[if_neg e]
   split
   ·rfl
   ·rw[List.getElem?_eq_none (by simp; omega),List.getElem?_eq_none (by omega)]
theorem aR {b:DB} (h:u6 S ay) (j:Nat):(di S ay b)[j]? = if j=ay then some b else S[j]? := by
 unfold di
 rcases h with h | h
 ·have hlt:=(List.getElem?_eq_some_iff.1 h).1
  rw[if_pos hlt,List.getElem?_set]
  by_cases e:ay=j
  ·subst e; rw[if_pos rfl,if_pos hlt,if_pos rfl]
  ·rw[if_neg e,if_neg (Ne.symm e)]
 ·subst h
  rw[if_neg (Nat.lt_irrefl _),List.getElem?_append]
  by_cases e:j=S.length
  ·subst e; rw[if_neg (Nat.lt_irrefl _),if_pos rfl]; simp
  ·rw[if_neg e]
   split
   ·rfl
   ·rw[List.getElem?_eq_none (by simp; omega),List.getElem?_eq_none (by omega)]
def upd (ι:jE) (k k':Nat):jE:=fun j=>if j=k then some k' else ι j
theorem bL.live (h:bL ι te tS env S) {k k':Nat} (hk:ι k=some k'):∃ b,S[k']? = some b∧b ≠ .none:=by
 obtain⟨b,h1,h2⟩:=h.uP k k' hk
 cases b with
 | none=>exact(h2 rfl).elim
 | cells l =>
  obtain⟨k'',ds,h3,h4,-⟩:=h.cells k l h1
  rw[hk] at h3
  cases h3
  exact⟨_,h4,fun e=>by cases e⟩
 | own e s =>
  obtain⟨n,h3⟩:=h.own k e s h1 k' hk
  exact⟨_,h3,fun e=>by cases e⟩
 | map kt l=>exact⟨_,h.mp k _ h1 k' hk,fun e=>by cases e⟩
 | rows t e l z =>
  obtain⟨-,-,ds,h3,-⟩:=h.mp k _ h1 k' hk
  exact⟨_,h3,fun e=>by cases e⟩
theorem bL.cz (h:bL ι te tS env S) (hn:u6 S ay) {k k':Nat} (hk:ι k=some k'):k'≠ay:=by
 rintro rfl
 obtain⟨b,h1,h2⟩:=h.live hk
 rcases hn with hn | hn
 ·rw[hn] at h1; cases h1; exact h2 rfl
 ·have:=(List.getElem?_eq_some_iff.1 h1).1; omega
theorem bL.new (h:bL ι te tS env S) (hn:u5 tS nT):ι nT=none:=by
 cases hk:ι nT with
 | none=>rfl
 | some k' =>
  obtain⟨b,h1,h2⟩:=h.uP _ _ hk
  rcases hn with hn | hn
  ·rw[hn] at h1; cases h1; exact(h2 rfl).elim
  ·have:=(List.getElem?_eq_some_iff.1 h1).1; omega
theorem qz (h:bL ι te tS env S) (hT:u5 tS nT) (hn:u6 S ay) (b:DB):jo ι S (upd ι nT ay) (di S ay b) fun _=>False:=by
 intro k k' _ hk
 have h1:k≠nT:=by rintro rfl; rw[h.new hT] at hk; cases hk
 exact⟨by simp only[upd,h1,if_false]; exact hk,dX (by rw[aR hn,if_neg (h.cz hn hk)])⟩
theorem nI (h:bL ι te tS env S) (hn:u6 S ay) (hT:u5 tS nT) (hw:P9 ι w):P9 (upd ι nT ay) (upd w ay nT):=by
 intro k k' hk
 unfold upd at hk ⊢
 split at hk
 ·rename_i e
  subst e
  cases hk
  simp
 ·rw[if_neg (h.cz hn hk)]
  exact hw k k' hk
theorem rC (h:bL ι te tS env S) (hT:u5 tS nT) (hn:u6 S ay) {ts:List TV} {ds:List DV} (hc:cq ι S ts ds):bL (upd ι nT ay) te (oH tS nT (.cells ts)) env (di S ay (.cells ds)):=by
 have K:=qz h hT hn (.cells ds)
 refine⟨aY K _ _ h.env,fun k l hk => ?_,fun k e s hk t ht => ?_,fun k k' hk => ?_,fun i j k' hi hj => ?_,fun k b hk t ht => ?_⟩
 ·rw[bM hT] at hk
  split at hk
  ·rename_i e
   subst e
   cases hk
   exact⟨ay,ds,by simp[upd],by rw[aR hn,if_pos rfl],aY K _ _ hc⟩
  ·rename_i e
   obtain⟨k',eM,h1,h2,h3⟩:=h.cells k l hk
   exact⟨k',eM,by simp only[upd,e,if_false]; exact h1,by rw[aR hn,if_neg (h.cz hn h1)]; exact h2,aY K _ _ h3⟩
 ·rw[bM hT] at hk
  split at hk
  ·cases hk
  ·rename_i e'
   simp only[upd,e',if_false] at ht
   obtain⟨n,h1⟩:=h.own k e s hk t ht
   exact⟨n,by rw[aR hn,if_neg (h.cz hn ht)]; exact h1⟩
 ·rw[bM hT]
  split
  ·exact⟨_,rfl,fun e=>by cases e⟩
  ·rename_i e
   simp only[upd,e,if_false] at hk
   exact h.uP k k' hk
 ·unfold upd at hi hj
  split at hi<;>split at hj
  ·omega
  ·cases hi; exact(h.cz hn hj rfl).elim
  ·cases hj; exact(h.cz hn hi rfl).elim
  ·exact h.inj i j k' hi hj
 ·rw[bM hT] at hk
  split at hk
  ·cases hk; trivial
  ·rename_i e'
   simp only[upd,e',if_false] at ht
   rw[aR hn,if_neg (h.cz hn ht)]
   exact h.mp k b hk t ht
def Lv (S:ak) (i:Nat):Prop:=∃ b,S[i]? = some b∧b ≠ .none
structure Fr (B:List Nat) (ι:jE) (S:ak) (ι':jE) (S':ak):Prop where
 rest:∀ k',Lv S k'→(∀ k,ι k≠some k')→S'[k']? = S[k']?
 ours:∀ k k',ι' k=some k'→(∃ j,ι j=some k')∨¬ Lv S k'
 base:∀ k,k∈B→ι' k=ι k
def mo (B:List Nat) (tS:List TB):Prop:=∀ k,k∈B→∃ l,tS[k]? = some (.cells l)
theorem Fr.refl (B:List Nat) (ι:jE) (S:ak):Fr B ι S ι S:=⟨fun _ _ _=>rfl,fun k _ h => .inl ⟨k,h⟩,fun _ _=>rfl⟩
theorem Fr.trans {B:List Nat} {ι'':jE} {rH:ak} (h:Fr B ι S ι' S') (k:Fr B ι' S' ι'' rH):Fr B ι S ι'' rH where
 rest:=fun k' hl hn=>by
  have h1:=h.rest k' hl hn
  have gK:Lv S' k':=by obtain⟨b,h2,h3⟩:=hl; exact⟨b,h1.trans h2,h3⟩
  refine(k.rest k' gK fun j hj => ?_).trans h1
  rcases h.ours j k' hj with ⟨i,h2⟩ | h2
  ·exact hn i h2
  ·exact h2 hl
 ours:=fun j k' hj=>by
  rcases k.ours j k' hj with ⟨i,h1⟩ | h1
  ·exact h.ours i k' h1
  ·by_cases hl:Lv S k'
   ·by_cases hn:∃ j,ι j=some k'
    ·exact .inl hn
    ·refine(h1 ?_).elim
     obtain⟨b,h2,h3⟩:=hl
     exact⟨b,(h.rest k' ⟨b,h2,h3⟩ fun i hi=>hn ⟨i,hi⟩).trans h2,h3⟩
   ·exact .inr hl
 base:=fun j hj=>(k.base j hj).trans (h.base j hj)
theorem uI (hn:u6 S ay):¬ Lv S ay:=by
 rintro⟨b,h1,h2⟩
 rcases hn with hn | hn
 ·rw[hn] at h1; cases h1; exact h2 rfl
 ·have:=(List.getElem?_eq_some_iff.1 h1).1; omega
theorem oZ {B:List Nat} {g:Nat} {b:DB} (hn:u6 S ay) (hg:g ∉ B):Fr B ι S (upd ι g ay) (di S ay b) where
 rest:=fun k' hl _=>by
  rw[aR hn,if_neg]
  rintro rfl
  exact uI hn hl
 ours:=fun k k' hk=>by
  unfold upd at hk
  split at hk
  ·cases hk; exact .inr (uI hn)
  ·exact .inl ⟨k,hk⟩
 base:=fun k hk=>by unfold upd; rw[if_neg (fun e:k=g=>hg (e▸hk))]
theorem vp {B:List Nat} {k0 id:Nat} {b:DB} (hk:ι k0=some id):Fr B ι S ι (S.set id b) where
 rest:=fun k' _ hn=>by
  rw[List.getElem?_set,if_neg]
  rintro rfl
  exact hn k0 hk
 ours:=fun k _ h => .inl ⟨k,h⟩
 base:=fun _ _=>rfl
theorem kH {B:List Nat} (hB:mo B tS) (hT:u5 tS nT):nT ∉ B:=by
 intro hlt
 obtain⟨l,h1⟩:=hB _ hlt
 rcases hT with hT | hT
 ·rw[hT] at h1; cases h1
 ·have:=(List.getElem?_eq_some_iff.1 h1).1; omega
theorem je {B:List Nat} {b:TB} (hB:mo B tS) (hT:u5 tS nT):mo B (oH tS nT b):=by
 intro k hk
 have:=kH hB hT
 rw[bM hT,if_neg (fun e:k=nT=>this (e▸hk))]
 exact hB k hk
theorem S6 {B:List Nat} {g e s:Nat} (hB:mo B tS) (h:tS[g]? = some (.own e s)):g ∉ B:=by
 intro hlt
 obtain⟨l,h1⟩:=hB _ hlt
 rw[h] at h1; cases h1
def Nn (i:Nat) (S S':ak):Prop:=S.length≤S'.length∧∀ j,j≠i→S[j]? = some .none→S'[j]? = some .none
theorem ew (i:Nat) (S:ak):Nn i S S:=⟨Nat.le_refl _,fun _ _ h=>h⟩
theorem lZ {b:DB} (hn:u6 S ay):Nn ay S (di S ay b):=by
 refine⟨?_,fun j hj h=>by rw[aR hn,if_neg hj]; exact h⟩
 unfold di
 split<;>simp
theorem ve {i id:Nat} {b b':DB} (h:S[id]? = some b) (hb:b ≠ .none):Nn i S (S.set id b'):=by
 refine⟨by simp,fun j _ hj => ?_⟩
 rw[List.getElem?_set,if_neg]
 ·exact hj
 ·rintro rfl
  rw[h] at hj
  cases hj
  exact hb rfl
end
end Go.Tv
end
