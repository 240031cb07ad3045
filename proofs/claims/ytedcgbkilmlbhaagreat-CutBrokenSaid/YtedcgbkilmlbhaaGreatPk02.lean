import Derived.Test.YtedcgbkilmlbhaaGreatPk01
section
namespace Go.Tv
open Go Go.Di
def TV.cells : TV → List TV
 | .agg l => l
 | v => [v]
def TV.known : TV → Bool
 | .unk => false
 | _ => true
def TV.yp : TV → Bool
 | .unk | .ee _ => false
 | _ => true
def tg : DV → TV
 | .val v => .val v
 | .sl [] none ⟨true, some true⟩ => .ei
 | _ => .unk
def Vl : DV → TV
 | .agg l => .agg (l.map tg)
 | .fn f [] [] => .fn f [] []
 | d => tg d
inductive TB where
 | none
 | cells (l : List TV)
 | own (e s : Nat)
 | map (kt : TT) (l : List kt.den)
 | rows (t : TT) (e : Nat) (l : List t.den) (z : Bool)
instance : Inhabited TB := ⟨.none⟩
section
variable (P : Program) (ty : eV) (tt : TypeId → Option TT)
def fD (te : List TV) : Operand → Option TV
 | .tmp t => some (te.getD t .unk)
 | .const v => (vQ v).map Vl
 | .func f => some (.fn f [] [])
 | .global _ => none
def lH (te : List TV) : List Operand → Option (List TV)
 | [] => some []
 | x :: l => match fD te x, lH te l with
  | some d, some r => some (d :: r)
  | _, _ => none
def uR (te : List TV) : List (Nat × Operand) → Option (List (Nat × TV))
 | [] => some []
 | (i, x) :: l => match fD te x, uR te l with
  | some d, some r => some ((i, d) :: r)
  | _, _ => none
def fE : List TV → Option (List Value)
 | [] => some []
 | .val v :: l => (fE l).map (v :: ·)
 | _ => none
def fS : TV → Option Value
 | .val v => some v
 | .agg l => (fE l).map fun r => .agg r.toArray
 | _ => none
def tE : List TV → Option (List Value)
 | [] => some []
 | d :: l => match fS d, tE l with
  | some v, some r => some (v :: r)
  | _, _ => none
def Dy (te : List TV) (x : Operand) : Option Int :=
 match fD te x with
 | some (.val (.int _ n)) => some n
 | _ => none
def gW (t : TypeId) (v : TV) : TV :=
 match v with
 | .ei => match tt t with
  | some (.sl e) => .sl e [] .full
  | _ => .ei
 | v => v
def VY (l : List TV) (off n : Nat) : Option (List TV) := if off + n ≤ l.length then some ((l.drop off).take n) else none
def LQ (l : List TV) (off : Nat) (cs : List TV) : Option (List TV) := if off + cs.length ≤ l.length then some (l.take off ++ cs ++ l.drop (off + cs.length)) else none
def vO (agg : Bool) (size : Nat) (l : List TV) (off : Nat) : Option TV := if agg then (VY l off size).map .agg else l[off]?
def D7 (place : Nat → Option (Nat × Nat)) (cs : List TV) : List (Nat × TV) → Option (List TV)
 | [] => some cs
 | (i, v) :: r => match place i with
  | none => none
  | some (off, size) => if v.known && v.cells.length == size then match LQ cs off v.cells with
    | some jw => D7 place jw r
    | none => none
   else none
def sY : Option DV → Option TV
 | some (.val v) => some (.val v)
 | _ => none
def yl (t : TT) (i : Nat) : List (Nat × TV) → Option (List t.den)
 | [] => some []
 | (j, v) :: r => if j == i && v.yp then match t.of v.cells, yl t (i + 1) r with
   | some (x, []), some l => some (x :: l)
   | _, _ => none
  else none
def Mj (t : Bool) : Option TV → Option TV → Option TV
 | some (.val (.bool x)), some (.val (.bool y)) => some (.val (.bool (bif t then x else y)))
 | some (.val (.int k x)), some (.val (.int k' y)) => if k' = k then some (.val (.int k (bif t then x else y))) else none
 | a, b => match t with
  | true => a
  | false => b
def yq (te : List TV) : Option Operand → Option (Option Int)
 | none => some none
 | some x => (Dy te x).map some
def acv (o : Option Int) (cM : Nat) : Prop :=
 match o with
 | none => True
 | some n => 0 ≤ n ∧ n ≤ (cM : Int)
def MT (t : TT) (l : List t.den) (lo hi mx : Option Int) : TV × Prop :=
 match mx with
 | none => match hi with
  | none => match lo with
   | none => (.sl t l .no, True)
   | some a => (.sl t (l.drop a.toNat) .no, 0 ≤ a ∧ a ≤ (l.length : Int))
  | some h => match lo with
   | none => (.sl t (l.take h.toNat) .no, 0 ≤ h ∧ h ≤ (l.length : Int))
   | some a => (.sl t ((l.take h.toNat).drop a.toNat) .no, 0 ≤ a ∧ a ≤ h ∧ h ≤ (l.length : Int))
 | some m => match hi with
  | none => (.unk, False)
  | some h => match lo with
   | none => (.sl t (l.take h.toNat) .full, 0 ≤ h ∧ h = m ∧ h ≤ (l.length : Int))
   | some a => (.sl t ((l.take h.toNat).drop a.toNat) .full, 0 ≤ a ∧ a ≤ h ∧ h = m ∧ h ≤ (l.length : Int))
def bg (te : List TV) (tS : List TB) (o : Oper) : Option (TV × Prop) :=
 match o.op with
 | .move x | .assign x => (fD te x).map fun v => (gW tt o.type v, True)
 | .pick c a b => match fD te c with
  | some (.val (.bool t)) => (Mj t (fD te a) (fD te b)).map (·, True)
  | _ => none
 | .build t ps => match ty t, uR te ps.toList with
  | some ⟨.struct fs, _, some z⟩, some l => (D7 (fun i => (fs[i]?).map fun f => (f.1, f.2.1)) (z.map tg) l).map fun cs => (.agg cs, True)
  | some ⟨.array _ s _, _, some z⟩, some l => (D7 (fun i => some (i * s, s)) (z.map tg) l).map fun cs => (.agg cs, True)
  | _, _ => none
 | .buildSlice t n ps => match ty t, uR te ps.toList, tt t with
  | some ⟨.slice e s _ agg, _, _⟩, some l, some (.sl k) => match ty e with
   | some ⟨_, _, some z⟩ => if decide (0 < s) && decide (n * s ≤ 16777216) && l.length == n && z.length == s && k.size == s && k.agg == agg && (agg || s == 1) && ty.h o != 1 then
     (yl k 0 l).map fun l => (.sl k l .full, True)
    else none
   | _ => none
  | _, _, _ => none
 | .load t a => match ty t, fD te a with
  | some d, some (.ptr id off) => match tS[id]? with
   | some (.cells l) => (vO d.k.isAgg d.size l off).map fun v => (gW tt t v, True)
   | _ => none
  | some d, some (.cU e l i off) => (vO d.k.isAgg d.size (e.cells (l.getD i e.U4)) off).map fun v => (gW tt t v, True)
  | _, _ => none
 | .nilCheck x => match fD te x with
  | some (.ptr id off) => some (.ptr id off, True)
  | _ => none
 | .binOp op t x y _ => match (fD te x).bind fS, (fD te y).bind fS with
  | some a, some b => (sY (gO P (do eqGuard op t x y a b; binOp op t a b))).map (·, True)
  | _, _ => none
 | .unOp op _ x => match (fD te x).bind fS with
  | some a => (sY (gO P (Op.unary op a))).map (·, True)
  | none => none
 | .convert s d x => match (fD te x).bind fS with
  | some a => (sY (gO P (Go.convert s d a))).map (·, True)
  | none => none
 | .makeFunc (.func f) fs cs => match lH te fs.toList, lH te cs.toList with
  | some a, some b => some (.fn f a b, True)
  | _, _ => none
 | .slice t x lo hi mx => match ty t, (fD te x).map (gW tt t), yq te lo, yq te hi, yq te mx with
  | some ⟨.slice _ s _ _, _, _⟩, some (.sl k l _), some lo, some hi, some mx => if k.size == s then some (MT k l lo hi mx) else none
  | _, _, _, _, _ => none
 | .fieldAddr t x f => match ty t, fD te x with
  | some ⟨.struct fs, _, _⟩, some (.ptr id off) => match fs[f]? with
   | some (o, s, _) => if 0 < s then some (.ptr id (off + o), True) else none
   | none => none
  | some ⟨.struct fs, _, _⟩, some (.cU k l i off) => match fs[f]? with
   | some (o, s, _) => if 0 < s then some (.cU k l i (off + o), True) else none
   | none => none
  | _, _ => none
 | .field t x f => match ty t, fD te x with
  | some ⟨.struct fs, _, _⟩, some (.agg l) => match fs[f]? with
   | some (off, s, agg) => (vO agg s l off).map (·, True)
   | none => none
  | _, _ => none
 | .indexAddr t x i => match ty t, (fD te x).map (gW tt t), Dy te i with
  | some ⟨.slice _ s _ _, _, _⟩, some (.sl k l _), some n => if k.size == s then some (.cU k l n.toNat 0, 0 ≤ n ∧ n < (l.length : Int)) else none
  | some ⟨.array k s _, _, _⟩, some (.ptr id off), some n => if 0 ≤ n ∧ n.toNat < k then some (.ptr id (off + n.toNat * s), True) else none
  | some ⟨.array k s _, _, _⟩, some (.cU e l j off), some n => if 0 ≤ n ∧ n.toNat < k then some (.cU e l j (off + n.toNat * s), True) else none
  | _, _, _ => none
 | .index t x i => match ty t, fD te x, Dy te i with
  | some ⟨.array k s agg, _, _⟩, some (.agg l), some n => if 0 ≤ n ∧ n.toNat < k then (vO agg s l (n.toNat * s)).map (·, True) else none
  | _, _, _ => none
 | .extract t i => match fD te t with
  | some (.ee l) => (l[i]?).map fun v => (gW tt o.type v, True)
  | _ => none
 | .call { callee := .builtin b, args, argTypes } => match b, args.toList, argTypes.toList with
  | .len, [x], [t] => match ty t, (fD te x).map (gW tt t) with
   | some ⟨.slice _ _ _ _, _, _⟩, some (.sl _ l _) => some (.val (.int .i64 (l.length : Nat)), True)
   | some ⟨.array n _ _, _, _⟩, _ => some (.val (.int .i64 n), True)
   | _, some (.val v) => (sY (gO P (Builtin.len_ #[t] o.type #[v]))).map (·, True)
   | _, _ => none
  | .min, xs, _ => match (lH te xs).bind tE with
   | some vs => (sY (gO P (Builtin.min_ argTypes o.type vs.toArray))).map (·, True)
   | none => none
  | .max, xs, _ => match (lH te xs).bind tE with
   | some vs => (sY (gO P (Builtin.max_ argTypes o.type vs.toArray))).map (·, True)
   | none => none
  | _, _, _ => none
 | _ => none
end
section
variable {P : Program} {ty : eV} {tt : TypeId → Option TT} {ι : jF} {S : ak} {te : List TV} {env : List DV} {tS : List TB}
theorem oV {v : TV} {d : DV} (hk : v.known = true) (h : RT ι S v d) : cA ι S v.cells d.cells := by
 cases v <;> cases d <;> simp only [RT] at h <;> first | (cases hk; done) | exact h | (refine di ?_; simp only [RT]; exact h)
theorem M0 (d : DV) : RT ι S (tg d) d := by
 unfold tg
 split <;> simp [RT]
theorem pW : ∀ l : List DV, cA ι S (l.map tg) l
 | [] => bJ
 | d :: l => aG (M0 d) (pW l)
theorem Z8 (d : DV) : RT ι S (Vl d) d := by
 unfold Vl
 split
 ·simp only [RT]; exact pW _
 ·simp only [RT, cA, and_true]
 ·exact M0 _
theorem aT (h : cA ι S te env) {x : Operand} {v : TV} (hx : fD te x = some v) : ∃ d, ga env x = some d ∧ RT ι S v d := by
 cases x with
 | tmp t => cases hx; exact ⟨_, rfl, oU h t⟩
 | const u =>
  simp only [fD, Option.map_eq_some_iff] at hx
  obtain ⟨d, h1, rfl⟩ := hx
  exact ⟨d, h1, Z8 d⟩
 | func f => cases hx; exact ⟨_, rfl, by simp only [RT, cA, and_true]⟩
 | global g => cases hx
theorem qa (h : cA ι S te env) : ∀ {xs : List Operand} {vs : List TV}, lH te xs = some vs → ∃ ds, evs (ga env) xs = some ds ∧ cA ι S vs ds
 | [], _, hx => by cases hx; exact ⟨[], rfl, bJ⟩
 | x :: l, vs, hx => by
  simp only [lH] at hx
  split at hx
  ·rename_i d r h1 h2
   cases hx
   obtain ⟨d', k1, k2⟩ := aT h h1
   obtain ⟨ds, k3, k4⟩ := qa h h2
   exact ⟨d' :: ds, by simp only [evs, k1, k3], aG k2 k4⟩
  ·cases hx
def yx (ι : jF) (S : ak) : List (Nat × TV) → List (Nat × DV) → Prop
 | [], [] => True
 | (i, v) :: l, (j, d) :: m => (j = i ∧ RT ι S v d) ∧ yx ι S l m
 | _, _ => False
theorem mU (h : cA ι S te env) : ∀ {xs : List (Nat × Operand)} {vs : List (Nat × TV)}, uR te xs = some vs → ∃ ds, gX (ga env) xs = some ds ∧ yx ι S vs ds
 | [], _, hx => by cases hx; exact ⟨[], rfl, trivial⟩
 | (i, x) :: l, vs, hx => by
  simp only [uR] at hx
  split at hx
  ·rename_i d r h1 h2
   cases hx
   obtain ⟨d', k1, k2⟩ := aT h h1
   obtain ⟨ds, k3, k4⟩ := mU h h2
   exact ⟨(i, d') :: ds, by simp only [gX, k1, k3], ⟨rfl, k2⟩, k4⟩
  ·cases hx
theorem we : ∀ {l : List TV} {m : List DV} {vs : List Value}, cA ι S l m → fE l = some vs → nF m = some vs
 | [], m, vs, h, hx => by rw [aJ h]; exact hx
 | a :: l, m, vs, h, hx => by
  obtain ⟨d, m', rfl, h1, h2⟩ := aj h
  unfold fE at hx
  split at hx
  ·rename_i e; cases e
  ·rename_i v l' e
   cases e
   simp only [Option.map_eq_some_iff] at hx
   obtain ⟨r, h3, rfl⟩ := hx
   cases d <;> simp only [RT] at h1
   subst h1
   simp only [nF, we h2 h3, Option.map_some]
  ·cases hx
theorem A4 {v : TV} {d : DV} {u : Value} (h : RT ι S v d) (hx : fS v = some u) : vK d = some u := by
 unfold fS at hx
 split at hx
 ·cases hx
  cases d <;> simp only [RT] at h
  subst h
  rfl
 ·simp only [Option.map_eq_some_iff] at hx
  obtain ⟨r, h1, rfl⟩ := hx
  cases d <;> simp only [RT] at h
  simp only [vK, we h h1, Option.map_some]
 ·cases hx
theorem rS : ∀ {l : List TV} {m : List DV} {vs : List Value}, cA ι S l m → tE l = some vs → oO m = some vs
 | [], m, vs, h, hx => by rw [aJ h]; exact hx
 | a :: l, m, vs, h, hx => by
  obtain ⟨d, m', rfl, h1, h2⟩ := aj h
  simp only [tE] at hx
  split at hx
  ·rename_i v r e1 e2
   cases hx
   simp only [oO, A4 h1 e1, rS h2 e2]
  ·cases hx
theorem dO (h : cA ι S te env) {x : Operand} {u : Value} (hx : (fD te x).bind fS = some u) : valOf (ga env) x = some u := by
 cases h1 : fD te x with
 | none => rw [h1] at hx; cases hx
 | some v =>
  rw [h1] at hx
  obtain ⟨d, h2, h3⟩ := aT h h1
  simp only [valOf, h2, Option.bind_some]
  exact A4 h3 hx
theorem lT (h : cA ι S te env) {x : Operand} {n : Int} (hx : Dy te x = some n) : intOf (ga env) x = some n := by
 unfold Dy at hx
 split at hx
 ·rename_i k m h1
  cases hx
  obtain ⟨d, h2, h3⟩ := aT h h1
  cases d <;> simp only [RT] at h3
  subst h3
  simp only [intOf, h2]
 ·cases hx
theorem bN {t : TypeId} {v : TV} {d : DV} (h : RT ι S v d) : RT ι S (gW tt t v) d := by
 unfold gW
 split
 ·split
  ·cases d <;> simp only [RT] at h
   obtain ⟨rfl, rfl, rfl⟩ := h
   simp only [RT, dK, qK, and_self]
  ·exact h
 ·exact h
theorem Sj {l : List TV} {m : List DV} (h : cA ι S l m) {off n : Nat} {r : List TV} (hx : VY l off n = some r) : ∃ r', L9 m off n = some r' ∧ cA ι S r r' := by
 unfold VY at hx
 split at hx
 ·cases hx
  rename_i hle
  exact ⟨_, if_pos (by rw [ff h]; exact hle), yD _ (yE _ h)⟩
 ·cases hx
theorem CG {l : List TV} {m : List DV} (h : cA ι S l m) {cs : List TV} {ds : List DV} (hc : cA ι S cs ds) {off : Nat} {r : List TV} (hx : LQ l off cs = some r) : ∃ r', qC m off ds = some r' ∧ cA ι S r r' := by
 unfold LQ at hx
 split at hx
 ·cases hx
  rename_i hle
  refine ⟨_, if_pos (by rw [ff h, ff hc]; exact hle), dA (dA (yD _ h) hc) ?_⟩
  rw [ff hc]
  exact yE _ h
 ·cases hx
theorem mL {l : List TV} {m : List DV} (h : cA ι S l m) {agg : Bool} {size off : Nat} {r : TV} (hx : vO agg size l off = some r) : ∃ r', j4 agg size m off = some r' ∧ RT ι S r r' := by
 unfold vO at hx
 split at hx
 ·rename_i ha
  simp only [Option.map_eq_some_iff] at hx
  obtain ⟨r1, h1, rfl⟩ := hx
  obtain ⟨r', h2, h3⟩ := Sj h h1
  exact ⟨.agg r', by simp only [j4, ha, if_true, h2, Option.map_some], by simp only [RT]; exact h3⟩
 ·rename_i ha
  obtain ⟨d, h1, h2⟩ := pX h hx
  exact ⟨d, by simp only [j4, ha, h1]; rfl, h2⟩
theorem yU {place : Nat → Option (Nat × Nat)} : ∀ {ps : List (Nat × TV)} {qs : List (Nat × DV)} {l : List TV} {m : List DV} {r : List TV}, yx ι S ps qs → cA ι S l m → D7 place l ps = some r → ∃ r', iB place m qs = some r' ∧ cA ι S r r'
 | [], [], l, m, r, _, h, hx => by cases hx; exact ⟨m, rfl, h⟩
 | (i, v) :: ps, (j, d) :: qs, l, m, r, hp, h, hx => by
  obtain ⟨⟨rfl, hv⟩, hp⟩ := hp
  simp only [D7] at hx
  split at hx
  ·cases hx
  ·rename_i off size vF
   split at hx
   ·rename_i hc
    simp only [Bool.and_eq_true, beq_iff_eq] at hc
    have jW := oV hc.1 hv
    split at hx
    ·rename_i jw kN
     obtain ⟨m', h1, h2⟩ := CG h jW kN
     obtain ⟨r', h3, h4⟩ := yU hp h2 hx
     refine ⟨r', ?_, h4⟩
     simp only [iB, vF, ff jW, hc.2, if_true, h1, h3]
    ·cases hx
   ·cases hx
theorem pS {o : Option DV} {v : TV} (h : sY o = some v) : ∃ d, o = some d ∧ RT ι S v d := by
 unfold sY at h
 split at h
 ·cases h; exact ⟨_, rfl, by simp only [RT]⟩
 ·cases h
theorem Oo {t : Bool} {a b : Option TV} {v : TV} {a' b' : Option DV} (ha : ∀ v, a = some v → ∃ d, a' = some d ∧ RT ι S v d) (hb : ∀ v, b = some v → ∃ d, b' = some d ∧ RT ι S v d) (h : Mj t a b = some v) : ∃ d, (if t then a' else b') = some d ∧ RT ι S v d := by
 unfold Mj at h
 split at h
 ·cases h
  obtain ⟨d, h1, h2⟩ := ha _ rfl
  obtain ⟨e, h3, h4⟩ := hb _ rfl
  cases t
  ·exact ⟨e, h3, h4⟩
  ·exact ⟨d, h1, h2⟩
 ·split at h
  ·rename_i hk
   subst hk
   cases h
   obtain ⟨d, h1, h2⟩ := ha _ rfl
   obtain ⟨e, h3, h4⟩ := hb _ rfl
   cases t
   ·exact ⟨e, h3, h4⟩
   ·exact ⟨d, h1, h2⟩
  ·cases h
 ·split at h
  ·exact ha _ h
  ·exact hb _ h
end
end Go.Tv
end
section
namespace Go.Tv
open Go Go.Di
variable {P:Program} {ty:eV} {tt:TypeId→Option TT} {ι:jF} {S:ak} {te:List TV} {env:List DV} {tS:List TB} {aD:bn} {call:aW} {yf:dH} {o:Oper} {aA:Nat} {v:TV} {c:Prop}
def GC (ι:jF) (S:ak) (tS:List TB):Prop:=∀ k l,tS[k]? = some (.cells l)→∃ k' ds,ι k=some k'∧S[k']? = some (.cells ds)∧cA ι S l ds
theorem RQ (hE:cA ι S te env) (hP:GC ι S tS) {t:TypeId} {a:Operand} (ho:o.op = .load t a) (h:bg P ty tt te tS o=some (v,c)):∃ d,ai P ty aD call yf (ga env) o S aA=some (d,S)∧RT ι S v d:=by
 simp only[bg,ho] at h
 split at h
 ·rename_i td id off h1 h2
  split at h
  ·rename_i l h3
   simp only[Option.map_eq_some_iff,Prod.mk.injEq] at h
   obtain⟨w,h4,rfl,-⟩:=h
   obtain⟨d,k1,k2⟩:=aT hE h2
   obtain⟨gE,ds,k3,k4,k5⟩:=hP _ _ h3
   cases d<;>simp only[RT] at k2
   obtain⟨k6,rfl⟩:=k2
   rw[k3] at k6
   cases k6
   obtain⟨r,k7,k8⟩:=mL k5 h4
   exact⟨r,by simp only[ai,ho,k1,ic,h1,k4,k7,Option.map_some],bN k8⟩
  ·cases h
 ·rename_i td e l i off h1 h2
  simp only[Option.map_eq_some_iff,Prod.mk.injEq] at h
  obtain⟨w,h4,rfl,-⟩:=h
  obtain⟨d,k1,k2⟩:=aT hE h2
  cases d<;>simp only[RT] at k2
  obtain⟨k3,rfl,rfl,k4⟩:=k2
  obtain⟨r,m1,m2,-⟩:=yF k3 (List.getElem?_eq_getElem k4)
  rename_i j j'
  have hg:l.getD j e.U4=l[j]:=by simp[List.getD_eq_getElem?_getD,k4]
  rw[hg] at h4
  obtain⟨r',m3,m4⟩:=mL (mP (ι:=ι) (S:=S) m2) h4
  exact⟨r',by simp only[ai,ho,k1,ic,h1,m1,m3,Option.map_some],bN m4⟩
 ·cases h
def A1 (t:TT):Nat→List (Nat×DV)→List t.den→Prop
 | _,[],[]=>True
 | i,(j,d)::qs,x::l=>(j=i∧CR t x d.strip.cells)∧A1 t (i+1) qs l
 | _,_,_=>False
theorem Fc {v:TV} {d:DV} (hk:v.yp=true) (h:RT ι S v d):d.strip.cells=d.cells.map DV.aI:=by
 cases v<;>cases d<;>simp only[RT] at h<;>first | (cases hk; done) | rfl
theorem EP {v:TV} (hk:v.yp=true):v.known=true:=by cases v<;>first | rfl | cases hk
theorem yX {t:TT}:∀ {ps:List (Nat×TV)} {qs:List (Nat×DV)} {i:Nat} {l:List t.den},yx ι S ps qs→yl t i ps=some l→A1 t i qs l∧l.length=ps.length
 | [],[],i,l,_,h=>by cases h; exact⟨trivial,rfl⟩
 | (j,v)::ps,(j',d)::qs,i,l,hp,h=>by
  obtain⟨⟨rfl,hv⟩,hp⟩:=hp
  simp only[yl] at h
  split at h
  ·rename_i hc
   simp only[Bool.and_eq_true,beq_iff_eq] at hc
   obtain⟨rfl,hk⟩:=hc
   split at h
   ·rename_i x l' h1 h2
    cases h
    obtain⟨cs,m',e1,e2,e3⟩:=AQ h1 (oV (EP hk) hv)
    rw[aJ e3,List.append_nil] at e1
    obtain⟨k1,k2⟩:=yX hp h2
    exact⟨⟨⟨rfl,by rw[Fc hk hv,e1]; exact e2⟩,k1⟩,by simp[k2]⟩
   ·cases h
  ·cases h
def gn (qs:List (Nat×DV)):List DV:=qs.flatMap fun q=>q.2.strip.cells
theorem sI {t:TT} {s:Nat} (hs:t.size=s):∀ {qs:List (Nat×DV)} {i:Nat} {l:List t.den} {pre post:List DV},A1 t i qs l→pre.length=i*s→post.length=qs.length*s →
  iB (fun i=>some (i*s,s)) (pre++post) (qs.map fun(i,v)=>(i,v.strip))=some (pre++gn qs)
 | [],i,[],pre,post,_,hp,hq=>by
  have:post=[]:=List.eq_nil_of_length_eq_zero (by simpa using hq)
  subst this
  simp[iB,gn]
 | (j,d)::qs,i,x::l,pre,post,h,hp,hq=>by
  obtain⟨⟨rfl,hc⟩,h⟩:=h
  have hl:d.strip.cells.length=s:=(mm hc).trans hs
  have FQ:post.length=qs.length*s+s:=by rw[hq,List.length_cons,Nat.add_mul,Nat.one_mul]
  have kN:qC (pre++post) (j*s) d.strip.cells=some ((pre++d.strip.cells)++post.drop s):=by
   unfold qC
   rw[if_pos (by rw[List.length_append,hp,hl]; omega),hl,← hp,List.take_left' rfl,List.drop_append,List.drop_eq_nil_of_le (by omega)]
   simp
  simp only[List.map_cons,iB,hl,if_true,kN]
  rw[sI hs h (by rw[List.length_append,hp,hl,Nat.add_mul,Nat.one_mul]) (by rw[List.length_drop,FQ]; omega)]
  simp[gn]
theorem row_one {t:TT} {x:t.den} {cs:List DV} (h:CR t x cs) (ha:t.agg=false):CR t x (cs.getD 0 aP).cells∧x8 t.agg (cs.getD 0 aP):=by
 cases t with
 | unit | pair=>cases ha
 | sl t =>
  simp only[CR] at h
  obtain⟨rows,f,rfl,h⟩:=h
  exact⟨by simp only[CR,List.getD_cons_zero,DV.cells]; exact⟨rows,f,rfl,h⟩,by simp[x8,TT.agg]⟩
 | _ =>
  simp only[CR] at h
  subst h
  exact⟨by simp only[CR,List.getD_cons_zero,DV.cells],by simp[x8,TT.agg]⟩
theorem wq {s:Nat} {agg:Bool} {c r:List DV} {n:Nat} (hc:c.length=s):rowsOf s agg (c++r) (n+1)=(if agg then .agg c else (c++r).getD 0 aP)::rowsOf s agg r n:=by
 unfold rowsOf
 rw[List.range_succ_eq_map,List.map_cons,List.map_map]
 congr 1
 ·unfold rowOf
  split
  ·rw[Nat.zero_mul,List.drop_zero,List.take_left' hc]
  ·rw[Nat.zero_mul]
 ·refine List.map_congr_left fun i _ => ?_
  simp only[Function.comp,rowOf,Nat.succ_eq_add_one,Nat.add_mul,Nat.one_mul]
  rw[Nat.add_comm (i*s) s,← hc,List.drop_append,List.drop_eq_nil_of_le (Nat.le_add_right _ _),Nat.add_sub_cancel_left,List.nil_append,List.getD_eq_getElem?_getD,List.getD_eq_getElem?_getD,List.getElem?_append_right (Nat.le_add_right _ _),Nat.add_sub_cancel_left]
theorem zi {t:TT} {s:Nat} (hs:t.size=s) (h1:t.agg=true∨s=1):∀ {qs:List (Nat×DV)} {i:Nat} {l:List t.den},A1 t i qs l→dK (CR t) t.agg l (rowsOf s t.agg (gn qs) l.length)
 | [],_,[],_=>by simp[rowsOf,dK]
 | (j,d)::qs,i,x::l,h=>by
  obtain⟨⟨rfl,hc⟩,h⟩:=h
  have hl:d.strip.cells.length=s:=(mm hc).trans hs
  have e:gn ((j,d)::qs)=d.strip.cells++gn qs:=by simp[gn]
  rw[e,List.length_cons,wq hl]
  refine⟨?_,zi hs h1 h⟩
  cases ha:t.agg with
  | true=>exact⟨hc,by simp[x8]⟩
  | false =>
   have:=row_one hc ha
   rw[ha] at this
   have h2:0<d.strip.cells.length:=by rw[hl]; rcases h1 with h1 | h1<;>first | (rw[ha] at h1; cases h1; done) | omega
   have e2:(d.strip.cells++gn qs).getD 0 aP=d.strip.cells.getD 0 aP:=by
    simp only[List.getD_eq_getElem?_getD,List.getElem?_append_left h2]
   simp only[Bool.false_eq_true,if_false]
   rw[e2]
   exact this
theorem si {t:TT}:∀ {qs:List (Nat×DV)} {i:Nat} {l:List t.den},A1 t i qs l→(gn qs).all DV.bt=true
 | [],_,[],_=>rfl
 | (j,d)::qs,i,x::l,h=>by
  obtain⟨⟨rfl,hc⟩,h⟩:=h
  have e:gn ((j,d)::qs)=d.strip.cells++gn qs:=by simp[gn]
  rw[e,List.all_append,qb hc,si h]; rfl
theorem vo:∀ {ps:List (Nat×TV)} {qs:List (Nat×DV)},yx ι S ps qs→qs.length=ps.length
 | [],[],_=>rfl
 | _::ps,_::qs,h=>by simp[vo h.2]
theorem Az (hE:cA ι S te env) {t:TypeId} {n:Nat} {ps:Array (Nat×Operand)} (ho:o.op = .buildSlice t n ps) (h:bg P ty tt te tS o=some (v,c)):∃ d,ai P ty aD call yf (ga env) o S aA=some (d,S)∧RT ι S v d:=by
 simp only[bg,ho] at h
 split at h
 ·rename_i e s iZ agg sz z0 l k h1 h2 h3
  split at h
  ·rename_i k0 sz' z h4
   split at h
   ·rename_i hc
    simp only[Bool.and_eq_true,beq_iff_eq,Bool.or_eq_true,decide_eq_true_eq] at hc
    obtain⟨⟨⟨⟨⟨⟨⟨c1,c2⟩,c3⟩,c4⟩,c5⟩,c6⟩,c7⟩,c8⟩:=hc
    have c8:ty.h o≠1:=by simpa using c8
    simp only[Option.map_eq_some_iff,Prod.mk.injEq] at h
    obtain⟨w,h5,rfl,-⟩:=h
    obtain⟨ds,k1,k2⟩:=mU hE h2
    obtain⟨k3,k4⟩:=yX k2 h5
    have hlen:ds.length=n:=by rw[vo k2,c3]
    have Vy:((List.replicate n z).flatten).length=ds.length*s:=by
     rw[hlen,List.length_flatten,List.map_replicate,c4,List.sum_replicate_nat]
    have hf:=sI (pre:=[]) (post:=(List.replicate n z).flatten) c5 k3 (by simp) Vy
    rw[List.nil_append,List.nil_append] at hf
    have hn:w.length=n:=by rw[k4,c3]
    have hr:=zi c5 (by rw[c6]; exact c7) k3
    rw[c6,hn] at hr
    have c7':(agg||s==1)=true:=by simpa using c7
    refine⟨.sl (rowsOf s agg (gn ds) n) none ⟨true,some false⟩,?_,?_⟩
    ·simp only[ai,ho,h1,k1,h4,decide_eq_true c1,decide_eq_true c2,Bool.and_self,if_true,hf,si k3,c7',c8]
    ·simp only[RT,qK,and_self,and_true]
     rw[c6]
     exact hr
   ·cases h
  ·cases h
 ·cases h
theorem NW (hE:cA ι S te env) {t:TypeId} {x:Operand} {lo hi mx:Option Operand} (ho:o.op = .slice t x lo hi mx) (h:bg P ty tt te tS o=some (v,c)) (hc:c):∃ d,ai P ty aD call yf (ga env) o S aA=some (d,S)∧RT ι S v d:=by
 have hb:∀ {y:Option Operand} {b:Option Int},yq te y=some b→(y=none∧b=none)∨∃ z n,y=some z∧b=some n∧intOf (ga env) z=some n:=by
  intro y b hy
  cases y with
  | none=>cases hy; exact .inl ⟨rfl,rfl⟩
  | some z =>
   simp only[yq,Option.map_eq_some_iff] at hy
   obtain⟨n,h1,rfl⟩:=hy
   exact .inr ⟨z,n,rfl,rfl,lT hE h1⟩
 simp only[bg,ho] at h
 split at h
 ·rename_i e s iZ agg sz z0 k l ap lo' HJ mx' h1 h2 h3 h4 h5
  split at h
  ·rename_i hs
   simp only[beq_iff_eq] at hs
   simp only[Option.map_eq_some_iff] at h2
   obtain⟨u,h6,h7⟩:=h2
   obtain⟨d,k1,k2⟩:=aT hE h6
   have k3:=bN (tt:=tt) (t:=t) k2
   rw[h7] at k3
   cases d<;>simp only[RT] at k3
   rename_i rows tok f
   obtain⟨k3,k4⟩:=k3
   have hlen:=iS k3
   have dx:(rows.all fun r=>decide (r.cells.length=s))=true:=List.all_eq_true.2 fun r hr=>decide_eq_true ((gA k3 r hr).trans hs)
   simp only[Option.some.injEq] at h
   rcases hb h3 with ⟨rfl,rfl⟩ | ⟨zl,nl,rfl,rfl,el⟩<;>rcases hb h4 with ⟨rfl,rfl⟩ | ⟨zh,nh,rfl,rfl,eh⟩<;>rcases hb h5 with ⟨rfl,rfl⟩ | ⟨zm,nm,rfl,rfl,em⟩ <;>
    simp only[MT,Prod.mk.injEq] at h<;>obtain⟨rfl,rfl⟩:=h
   ·exact⟨_,by simp only[ai,ho,h1,k1,dx,eO,Nat.zero_le,nw,if_true,Bool.not_true,Bool.false_eq_true,if_false,Option.isNone,Option.isSome,Bool.and_false,Option.map_none,Option.map_some]; rfl,by simp only[RT,qK,and_true,List.drop_zero,List.take_length]; exact k3⟩
   ·exact hc.elim
   ·have a1:0≤nh∧nh.toNat≤rows.length:=⟨hc.1,by rw[hlen]; omega⟩
    exact⟨_,by simp only[ai,ho,h1,k1,dx,eO,eh,a1,Nat.zero_le,nw,if_true,Bool.not_true,Bool.false_eq_true,if_false,Option.isNone,Option.isSome,Bool.and_false,Option.map_none,Option.map_some,and_self]; rfl,by simp only[RT,qK,and_true,List.drop_zero]; exact mQ _ k3⟩
   ·obtain⟨b1,rfl,b2⟩:=hc
    have a1:0≤nh∧nh.toNat≤rows.length:=⟨b1,by rw[hlen]; omega⟩
    exact⟨_,by simp only[ai,ho,h1,k1,dx,eO,eh,em,a1,Nat.zero_le,nw,if_true,Bool.not_true,Bool.false_eq_true,if_false,Option.isNone,Option.isSome,Bool.and_true,Option.map_some,and_self,Nat.le_refl]; rfl,by simp only[RT,qK,and_true,List.drop_zero,beq_self_eq_true]; exact mQ _ k3⟩
   ·have a1:0≤nl∧nl.toNat≤rows.length:=⟨hc.1,by rw[hlen]; omega⟩
    exact⟨_,by simp only[ai,ho,h1,k1,dx,eO,el,a1,nw,if_true,Bool.not_true,Bool.false_eq_true,if_false,Option.isNone,Option.isSome,Bool.and_false,Option.map_none,Option.map_some,and_self]; rfl,by simp only[RT,qK,and_true,List.take_length]; exact ql _ k3⟩
   ·exact hc.elim
   ·have a1:0≤nh∧nh.toNat≤rows.length:=⟨by omega,by rw[hlen]; omega⟩
    have a2:0≤nl∧nl.toNat≤nh.toNat:=⟨hc.1,by omega⟩
    exact⟨_,by simp only[ai,ho,h1,k1,dx,eO,eh,el,a1,a2,nw,if_true,Bool.not_true,Bool.false_eq_true,if_false,Option.isNone,Option.isSome,Bool.and_false,Option.map_none,Option.map_some,and_self]; rfl,by simp only[RT,qK,and_true]; exact ql _ (mQ _ k3)⟩
   ·obtain⟨b0,b1,rfl,b2⟩:=hc
    have a1:0≤nh∧nh.toNat≤rows.length:=⟨by omega,by rw[hlen]; omega⟩
    have a2:0≤nl∧nl.toNat≤nh.toNat:=⟨b0,by omega⟩
    exact⟨_,by simp only[ai,ho,h1,k1,dx,eO,eh,el,em,a1,a2,nw,if_true,Bool.not_true,Bool.false_eq_true,if_false,Option.isNone,Option.isSome,Bool.and_true,Option.map_some,and_self,Nat.le_refl]; rfl,by simp only[RT,qK,and_true,beq_self_eq_true]; exact ql _ (mQ _ k3)⟩
  ·cases h
 ·cases h
theorem EC (hE:cA ι S te env) (hP:GC ι S tS) (h:bg P ty tt te tS o=some (v,c)) (hc:c):∃ d,ai P ty aD call yf (ga env) o S aA=some (d,S)∧RT ι S v d:=by
 cases ho:o.op with
 | load t a=>exact RQ hE hP ho h
 | buildSlice t n ps=>exact Az hE ho h
 | slice t x lo hi mx=>exact NW hE ho h hc
 | move x | assign x =>
  simp only[bg,ho,Option.map_eq_some_iff,Prod.mk.injEq] at h
  obtain⟨u,h1,rfl,-⟩:=h
  obtain⟨d,k1,k2⟩:=aT hE h1
  exact⟨d,by simp only[ai,ho,k1,Option.map_some],bN k2⟩
 | pick a b d =>
  simp only[bg,ho] at h
  split at h
  ·rename_i t h1
   simp only[Option.map_eq_some_iff,Prod.mk.injEq] at h
   obtain⟨u,h2,rfl,-⟩:=h
   obtain⟨e,k1,k2⟩:=aT hE h1
   cases e<;>simp only[RT] at k2
   subst k2
   obtain⟨e,k3,k4⟩:=Oo (fun v h=>aT hE h) (fun v h=>aT hE h) h2
   exact⟨e,by simp only[ai,ho,k1,k3,Option.map_some],k4⟩
  ·cases h
 | build t ps =>
  simp only[bg,ho] at h
  split at h
  ·rename_i fs sz z l h1 h2
   simp only[Option.map_eq_some_iff,Prod.mk.injEq] at h
   obtain⟨cs,h3,rfl,-⟩:=h
   obtain⟨ds,k1,k2⟩:=mU hE h2
   obtain⟨r,k3,k4⟩:=yU k2 (pW _) h3
   exact⟨.agg r,by simp only[ai,ho,h1,k1,k3,Option.map_some],by simp only[RT]; exact k4⟩
  ·rename_i n s agg sz z l h1 h2
   simp only[Option.map_eq_some_iff,Prod.mk.injEq] at h
   obtain⟨cs,h3,rfl,-⟩:=h
   obtain⟨ds,k1,k2⟩:=mU hE h2
   obtain⟨r,k3,k4⟩:=yU k2 (pW _) h3
   exact⟨.agg r,by simp only[ai,ho,h1,k1,k3,Option.map_some],by simp only[RT]; exact k4⟩
  ·cases h
 | nilCheck x =>
  simp only[bg,ho] at h
  split at h
  ·rename_i id off h1
   cases h
   obtain⟨d,k1,k2⟩:=aT hE h1
   cases d<;>simp only[RT] at k2
   exact⟨_,by simp only[ai,ho,k1]; rfl,by simp only[RT]; exact k2⟩
  ·cases h
 | binOp op t x y u =>
  simp only[bg,ho] at h
  split at h
  ·rename_i a b h1 h2
   simp only[Option.map_eq_some_iff,Prod.mk.injEq] at h
   obtain⟨w,h3,rfl,-⟩:=h
   obtain⟨d,k1,k2⟩:=pS (ι:=ι) (S:=S) h3
   exact⟨d,by simp only[ai,ho,dO hE h1,dO hE h2,k1,Option.map_some],k2⟩
  ·cases h
 | unOp op t x =>
  simp only[bg,ho] at h
  split at h
  ·rename_i a h1
   simp only[Option.map_eq_some_iff,Prod.mk.injEq] at h
   obtain⟨w,h3,rfl,-⟩:=h
   obtain⟨d,k1,k2⟩:=pS (ι:=ι) (S:=S) h3
   exact⟨d,by simp only[ai,ho,dO hE h1,k1,Option.map_some],k2⟩
  ·cases h
 | convert s t x =>
  simp only[bg,ho] at h
  split at h
  ·rename_i a h1
   simp only[Option.map_eq_some_iff,Prod.mk.injEq] at h
   obtain⟨w,h3,rfl,-⟩:=h
   obtain⟨d,k1,k2⟩:=pS (ι:=ι) (S:=S) h3
   exact⟨d,by simp only[ai,ho,dO hE h1,k1,Option.map_some],k2⟩
  ·cases h
 | makeFunc f fs cs =>
  cases f with
  | func f =>
   simp only[bg,ho] at h
   split at h
   ·rename_i a b h1 h2
    cases h
    obtain⟨d,k1,k2⟩:=qa hE h1
    obtain⟨e,k3,k4⟩:=qa hE h2
    exact⟨_,by simp only[ai,ho,k1,k3]; rfl,by simp only[RT]; exact⟨trivial,k2,k4⟩⟩
   ·cases h
  | _=>simp only[bg,ho] at h; cases h
 | fieldAddr t x f =>
  simp only[bg,ho] at h
  split at h
  ·rename_i fs sz z id off h1 h2
   split at h
   ·rename_i oo s ag h3
    split at h
    ·rename_i h4
     cases h
     obtain⟨d,k1,k2⟩:=aT hE h2
     cases d<;>simp only[RT] at k2
     obtain⟨k3,rfl⟩:=k2
     exact⟨_,by simp only[ai,ho,h1,k1,h3,h4,if_true]; rfl,by simp only[RT]; exact⟨k3,trivial⟩⟩
    ·cases h
   ·cases h
  ·rename_i fs sz z k l i off h1 h2
   split at h
   ·rename_i oo s ag h3
    split at h
    ·rename_i h4
     cases h
     obtain⟨d,k1,k2⟩:=aT hE h2
     cases d<;>simp only[RT] at k2
     obtain⟨k3,rfl,rfl,k4⟩:=k2
     exact⟨_,by simp only[ai,ho,h1,k1,h3,h4,if_true]; rfl,by simp only[RT]; exact⟨k3,trivial,trivial,k4⟩⟩
    ·cases h
   ·cases h
  ·cases h
 | field t x f =>
  simp only[bg,ho] at h
  split at h
  ·rename_i fs sz z l h1 h2
   split at h
   ·rename_i off s ag h3
    simp only[Option.map_eq_some_iff,Prod.mk.injEq] at h
    obtain⟨w,h4,rfl,-⟩:=h
    obtain⟨d,k1,k2⟩:=aT hE h2
    cases d<;>simp only[RT] at k2
    obtain⟨r,k3,k4⟩:=mL k2 h4
    exact⟨r,by simp only[ai,ho,h1,k1,h3,k3,Option.map_some],k4⟩
   ·cases h
  ·cases h
 | indexAddr t x i =>
  simp only[bg,ho] at h
  split at h
  ·rename_i e s iZ ag sz z k l ap n h1 h2 h3
   split at h
   ·rename_i hs
    simp only[beq_iff_eq] at hs
    cases h
    simp only[Option.map_eq_some_iff] at h2
    obtain⟨u,h6,h7⟩:=h2
    obtain⟨d,k1,k2⟩:=aT hE h6
    have k3:=bN (tt:=tt) (t:=t) k2
    rw[h7] at k3
    cases d<;>simp only[RT] at k3
    obtain⟨k3,-⟩:=k3
    have hlt:n.toNat<l.length:=by omega
    obtain⟨r,m1,m2,-⟩:=yF k3 (List.getElem?_eq_getElem hlt)
    exact⟨_,by simp only[ai,ho,h1,k1,lT hE h3,hc.1,if_true,m1,(mm m2).trans hs]; rfl,by simp only[RT]; exact⟨k3,trivial,trivial,hlt⟩⟩
   ·cases h
  ·rename_i k s ag sz z id off n h1 h2 h3
   split at h
   ·rename_i h4
    cases h
    simp only[Option.map_eq_some_iff] at h2
    obtain⟨u,h6,h7⟩:=h2
    obtain⟨d,k1,k2⟩:=aT hE h6
    have k3:=bN (tt:=tt) (t:=t) k2
    rw[h7] at k3
    cases d<;>simp only[RT] at k3
    obtain⟨k5,rfl⟩:=k3
    exact⟨_,by simp only[ai,ho,h1,k1,lT hE h3,h4,and_self,if_true]; rfl,by simp only[RT]; exact⟨k5,trivial⟩⟩
   ·cases h
  ·rename_i k s ag sz z e l j off n h1 h2 h3
   split at h
   ·rename_i h4
    cases h
    simp only[Option.map_eq_some_iff] at h2
    obtain⟨u,h6,h7⟩:=h2
    obtain⟨d,k1,k2⟩:=aT hE h6
    have k3:=bN (tt:=tt) (t:=t) k2
    rw[h7] at k3
    cases d<;>simp only[RT] at k3
    obtain⟨k5,rfl,rfl,k6⟩:=k3
    exact⟨_,by simp only[ai,ho,h1,k1,lT hE h3,h4,and_self,if_true]; rfl,by simp only[RT]; exact⟨k5,trivial,trivial,k6⟩⟩
   ·cases h
  ·cases h
 | index t x i =>
  simp only[bg,ho] at h
  split at h
  ·rename_i k s ag sz z l n h1 h2 h3
   split at h
   ·rename_i h5
    simp only[Option.map_eq_some_iff,Prod.mk.injEq] at h
    obtain⟨w,h4,rfl,-⟩:=h
    obtain⟨d,k1,k2⟩:=aT hE h2
    cases d<;>simp only[RT] at k2
    obtain⟨r,k3,k4⟩:=mL k2 h4
    exact⟨r,by simp only[ai,ho,h1,k1,lT hE h3,h5,and_self,if_true,k3,Option.map_some],k4⟩
   ·cases h
  ·cases h
 | extract t i =>
  simp only[bg,ho] at h
  split at h
  ·rename_i l h1
   simp only[Option.map_eq_some_iff,Prod.mk.injEq] at h
   obtain⟨w,h4,rfl,-⟩:=h
   obtain⟨d,k1,k2⟩:=aT hE h1
   cases d<;>simp only[RT] at k2
   obtain⟨r,k3,k4⟩:=pX k2 h4
   exact⟨r,by simp only[ai,ho,k1,k3,Option.map_some],bN k4⟩
  ·cases h
 | call cl =>
  obtain⟨callee,args,argTypes⟩:=cl
  cases callee with
  | builtin b =>
   simp only[bg,ho] at h
   split at h
   ·rename_i x t ha ht
    split at h
    ·rename_i e s iZ ag sz z k l ap h1 h2
     cases h
     simp only[Option.map_eq_some_iff] at h2
     obtain⟨u,h6,h7⟩:=h2
     obtain⟨d,k1,k2⟩:=aT hE h6
     have k3:=bN (tt:=tt) (t:=t) k2
     rw[h7] at k3
     cases d<;>simp only[RT] at k3
     exact⟨_,by simp only[ai,ho,ha,ht,h1,k1]; rfl,by simp only[RT]; rw[iS k3.1]⟩
    ·rename_i n s ag sz z h1
     cases h
     exact⟨_,by simp only[ai,ho,ha,ht,h1]; rfl,by simp only[RT]⟩
    ·rename_i w h2 hn2
     simp only[Option.map_eq_some_iff,Prod.mk.injEq] at h h2
     obtain⟨r,h4,rfl,-⟩:=h
     obtain⟨u,h6,h7⟩:=h2
     obtain⟨d,k1,k2⟩:=aT hE h6
     have k3:=bN (tt:=tt) (t:=t) k2
     rw[h7] at k3
     cases d<;>simp only[RT] at k3
     subst k3
     obtain⟨d,k5,k6⟩:=pS (ι:=ι) (S:=S) h4
     exact⟨d,by simp only[ai,ho,ha,ht,k1,k5,Option.map_some],k6⟩
    ·cases h
   ·split at h
    ·rename_i vs h1
     simp only[Option.map_eq_some_iff,Prod.mk.injEq] at h
     obtain⟨r,h4,rfl,-⟩:=h
     simp only[Option.bind_eq_some_iff] at h1
     obtain⟨us,h5,h6⟩:=h1
     obtain⟨ds,k1,k2⟩:=qa hE h5
     obtain⟨d,k5,k6⟩:=pS (ι:=ι) (S:=S) h4
     exact⟨d,by simp only[ai,ho,k1,Option.bind_some,rS k2 h6,k5,Option.map_some],k6⟩
    ·cases h
   ·split at h
    ·rename_i vs h1
     simp only[Option.map_eq_some_iff,Prod.mk.injEq] at h
     obtain⟨r,h4,rfl,-⟩:=h
     simp only[Option.bind_eq_some_iff] at h1
     obtain⟨us,h5,h6⟩:=h1
     obtain⟨ds,k1,k2⟩:=qa hE h5
     obtain⟨d,k5,k6⟩:=pS (ι:=ι) (S:=S) h4
     exact⟨d,by simp only[ai,ho,k1,Option.bind_some,rS k2 h6,k5,Option.map_some],k6⟩
    ·cases h
   ·cases h
  | _=>simp only[bg,ho] at h; cases h
 | _=>simp only[bg,ho] at h; cases h
end Go.Tv
end
section
namespace Go.Tv
open Go Go.Di
mutual
def FK (g:Nat):TV→TV
 | .sl t l (.qA k)=>if k=g then .sl t l .no else .sl t l (.qA k)
 | .ptr id off=>if id=g then .unk else .ptr id off
 | .mp id=>if id=g then .unk else .mp id
 | .so id t=>if id=g then .unk else .so id t
 | .sp id t i off=>if id=g then .unk else .sp id t i off
 | .agg l => .agg (s6 g l)
 | .ee l => .ee (s6 g l)
 | .fn f a b => .fn f (s6 g a) (s6 g b)
 | v=>v
def s6 (g:Nat):List TV→List TV
 | []=>[]
 | a::l=>FK g a::s6 g l
end
def ou (g:Nat):TB→TB
 | .cells l => .cells (s6 g l)
 | b=>b
def oB (tS:List TB) (i:Nat) (b:TB):List TB:=if i<tS.length then tS.set i b else tS++[b]
def Zi:TV→Bool
 | .val v => !(v matches .tuple _)
 | .unk | .agg _ | .ee _=>false
 | _=>true
def Nl {α β:Type} (l:List α) (m:List β):Bool :=
 match l with
 | []=>true
 | _::_=>match m with
  | []=>false
  | _::_=>true
structure TR where
 v:TV
 te:List TV
 tS:List TB
 B4:List Nat
 c:Prop
section
variable (P:Program) (ty:eV) (tt:TypeId→Option TT)
def rJ (te:List TV) (o:Oper):List Nat :=
 match o.op with
 | .load _ a=>match fD te a with
  | some (.ptr id _)=>[id]
  | _=>[]
 | _=>[]
def stepT (te:List TV) (tS:List TB) (o:Oper) (nT:Nat):Option TR :=
 match o.op with
 | .alloc e=>match ty e with
  | some ⟨_,_,some z⟩=>some ⟨.ptr nT 0,te,oB tS nT (.cells (z.map tg)),[nT],True⟩
  | _=>none
 | .box _ x=>match fD te x with
  | some d=>if d.known then some ⟨.ptr nT 0,te,oB tS nT (.cells d.cells),[nT],True⟩ else none
  | none=>none
 | .store t a x=>match ty t,fD te a,(fD te x).map (gW tt t) with
  | some d,some (.ptr id off),some v=>match tS[id]? with
   | some (.cells l)=>if v.known&&v.cells.length==d.size&&v.cells.all Zi then (LQ l off v.cells).map fun l'=>⟨.unk,te,tS.set id (.cells l'),[id],True⟩ else none
   | _=>none
  | _,_,_=>none
 | .call { callee := .builtin .append,args,argTypes }=>match args.toList,argTypes.toList with
  | [x,y],[t,u]=>if t=u∧ty.h o≠1 then match ty t,(fD te x).map (gW tt t),(fD te y).map (gW tt t) with
   | some ⟨.slice e s iZ _,_,_⟩,some (.sl k l ap),some (.sl k' m _)=>match ty e with
    | some ⟨_,_,some _⟩=>if h:k'=k then
     if decide (0<s)&&decide (iZ≤100000)&&k.size==s then match ap with
      | .no=>none
      | .full=>if Nl l m then some ⟨.sl k (l++(h▸m)) (.qA nT),te,oB tS nT (.own e s),[nT],l.length+m.length≤1000000000⟩ else none
      | .qA g=>match tS[g]? with
       | some (.own e' s')=>if e'==e&&s'==s then some ⟨.sl k (l++(h▸m)) (.qA g),s6 g te,tS.map (ou g),[g,nT],l.length+m.length≤1000000000⟩ else none
       | _=>none
     else none
     else none
    | _=>none
   | _,_,_=>none
   else none
  | _,_=>none
 | _=>(bg P ty tt te tS o).map fun r=>⟨r.1,te,tS,rJ te o,r.2⟩
end
def eL (ρ:Operand→Option DV) (o:Oper) (aA:Nat):List Nat :=
 match o.op with
 | .alloc _ | .box .. => [aA]
 | .store _ a _=>match ρ a with
  | some (.ptr id _)=>[id]
  | _=>[]
 | .load _ a=>match ρ a with
  | some (.ptr id _)=>[id]
  | some (.dB id _ _)=>[id]
  | _=>[]
 | .call { callee := .builtin .append,args,.. }=>match (args[0]?).bind ρ with
  | some (.sl _ (some t) _)=>[t,aA]
  | _=>[aA]
 | _=>[]
def AL:(t:TT)→t.den→List Value
 | .int k,n=>[.int k n]
 | .bool,b=>[.bool b]
 | .str,s=>[.string s]
 | .unit,_=>[]
 | .pair a b,x=>AL a x.1++AL b x.2
 | .sl _,_=>[]
def Dx (t:TT) (x:t.den):Value := .agg (AL t x).toArray
def wU (t:TT) (l:List t.den):List (Value×Value):=l.map fun x=>(Dx t x,.bool true)
def dF (t:TT):List t.den→List DV→Prop
 | [],ds=>ds=[]
 | x::l,ds=>∃ c m,ds=c++m∧CR t x c∧dF t l m
def V4:TB→Option DB→Prop
 | .map kt l,b=>b=some (.map (wU kt l))
 | .rows t e l z,b=>0<t.size∧(t.agg||t.size==1)=true∧∃ ds,b=some (.op e t.size ds z)∧dF t l ds
 | _,_=>True
structure bK (ι:jF) (te:List TV) (tS:List TB) (env:List DV) (S:ak):Prop where
 env:cA ι S te env
 cells:GC ι S tS
 own:∀ k e s,tS[k]? = some (.own e s)→∀ t,ι k=some t→∃ n,S[t]? = some (.tail e s n)
 uE:∀ k k',ι k=some k'→∃ b,tS[k]? = some b∧b ≠ .none
 inj:∀ i j k',ι i=some k'→ι j=some k'→i=j
 mp:∀ k b,tS[k]? = some b→∀ t,ι k=some t→V4 b S[t]?
def PG (ι:jF) (w:jF):Prop:=∀ k k',ι k=some k'→w k'=some k
section
variable {P:Program} {ty:eV} {tt:TypeId→Option TT} {ι ι' w:jF} {S S':ak} {te:List TV} {env:List DV} {tS:List TB} {aD:bn} {call:aW} {yf:dH} {o:Oper} {aA nT:Nat} {r:TR}
def GB (a b:Option DB):Prop:=(∀ e s n,a=some (.tail e s n)→b=some (.tail e s n))∧∀ e s l z,a=some (.op e s l z)→∃ l' z',b=some (.op e s l' z')∧l'.length=l.length
theorem dM {a b:Option DB} (h:b=a):GB a b:=by subst h; exact⟨fun _ _ _ h=>h,fun _ _ l z h=>⟨l,z,h,rfl⟩⟩
theorem tH {a b:Option DB} (h1:∀ e s n,a≠some (.tail e s n)) (h2:∀ e s l z,a≠some (.op e s l z)):GB a b:=⟨fun _ _ _ h=>absurd h (h1 _ _ _),fun _ _ _ _ h=>absurd h (h2 _ _ _ _)⟩
def jg (ι:jF) (S:ak) (ι':jF) (S':ak) (bad:Nat→Prop):Prop:=∀ k k',¬ bad k→ι k=some k'→ι' k=some k'∧GB S[k']? S'[k']?
theorem I9 {n:Nat} {tok:Option Nat} {f:SF} {ap:Ap} {bad:Nat→Prop} (h:jg ι S ι' S' bad) (hb:∀ g,ap = .qA g→¬ bad g) (k:qK ι S n tok f ap):qK ι' S' n tok f ap:=by
 cases ap with
 | no=>trivial
 | full=>exact k
 | qA g =>
  refine k.imp id fun⟨t,e,s,h1,h2,h3⟩ => ?_
  obtain⟨h4,h5⟩:=h g t (hb g rfl) h1
  exact⟨t,e,s,h4,h2,h5.1 _ _ _ h3⟩
mutual
theorem Rm (h:jg ι S ι' S' fun _=>False):∀ (v:TV) (d:DV),RT ι S v d→RT ι' S' v d
 | .unk,_,_=>by simp only[RT]
 | .val _,d,k=>by cases d<;>simp only[RT] at k ⊢; exact k
 | .ei,d,k=>by cases d<;>simp only[RT] at k ⊢; exact k
 | .agg l,d,k=>by cases d<;>simp only[RT] at k ⊢; exact aY h l _ k
 | .ee l,d,k=>by cases d<;>simp only[RT] at k ⊢; exact aY h l _ k
 | .sl t l ap,d,k=>by cases d<;>simp only[RT] at k ⊢; exact⟨k.1,I9 h (fun _ _=>id) k.2⟩
 | .ptr id off,d,k=>by cases d<;>simp only[RT] at k ⊢; exact⟨(h _ _ (fun e=>e) k.1).1,k.2⟩
 | .cU t l i off,d,k=>by cases d<;>simp only[RT] at k ⊢; exact k
 | .mp id,d,k=>by cases d<;>simp only[RT] at k ⊢; exact(h _ _ (fun e=>e) k).1
 | .so g t,d,k=>by
  cases d<;>simp only[RT] at k ⊢
  obtain⟨k1,k2,e,s,l,z,k3,k4⟩:=k
  obtain⟨h1,h2⟩:=h _ _ (fun e=>e) k1
  obtain⟨l',z',h3,h4⟩:=h2.2 e s l z k3
  exact⟨h1,k2,e,s,l',z',h3,by omega⟩
 | .sp g t i off,d,k=>by
  cases d<;>simp only[RT] at k ⊢
  obtain⟨k1,k2,e,s,l,z,k3,k4,k5⟩:=k
  obtain⟨h1,h2⟩:=h _ _ (fun e=>e) k1
  obtain⟨l',z',h3,h4⟩:=h2.2 e s l z k3
  exact⟨h1,k2,e,s,l',z',h3,by omega,by omega⟩
 | .fn f a b,d,k=>by cases d<;>simp only[RT] at k ⊢; exact⟨k.1,aY h a _ k.2.1,aY h b _ k.2.2⟩
theorem aY (h:jg ι S ι' S' fun _=>False):∀ (l:List TV) (m:List DV),cA ι S l m→cA ι' S' l m
 | [],m,k=>by rw[aJ k]; exact bJ
 | a::l,m,k=>by
  obtain⟨d,m',rfl,h1,h2⟩:=aj k
  exact aG (Rm h a d h1) (aY h l m' h2)
end
mutual
theorem WS {g:Nat} (h:jg ι S ι' S' fun k=>k=g):∀ (v:TV) (d:DV),RT ι S v d→RT ι' S' (FK g v) d
 | .unk,_,_=>by simp only[FK,RT]
 | .val _,d,k=>by cases d<;>simp only[RT,FK] at k ⊢; exact k
 | .ei,d,k=>by cases d<;>simp only[RT,FK] at k ⊢; exact k
 | .agg l,d,k=>by cases d<;>simp only[RT,FK] at k ⊢; exact ko h l _ k
 | .ee l,d,k=>by cases d<;>simp only[RT,FK] at k ⊢; exact ko h l _ k
 | .sl t l .no,d,k=>by cases d<;>simp only[RT,FK] at k ⊢; exact⟨k.1,trivial⟩
 | .sl t l .full,d,k=>by cases d<;>simp only[RT,FK] at k ⊢; exact k
 | .sl t l (.qA j),d,k=>by
  cases d<;>simp only[RT] at k
  simp only[FK]
  split
  ·simp only[RT]; exact⟨k.1,trivial⟩
  ·rename_i hj
   simp only[RT]; exact⟨k.1,I9 h (fun g' e=>by cases e; exact hj) k.2⟩
 | .ptr id off,d,k=>by
  cases d<;>simp only[RT] at k
  simp only[FK]
  split
  ·simp only[RT]
  ·rename_i hj
   simp only[RT]; exact⟨(h _ _ hj k.1).1,k.2⟩
 | .cU t l i off,d,k=>by cases d<;>simp only[RT,FK] at k ⊢; exact k
 | .mp id,d,k=>by
  cases d<;>simp only[RT] at k
  simp only[FK]
  split
  ·simp only[RT]
  ·rename_i hj
   simp only[RT]; exact(h _ _ hj k).1
 | .so j t,d,k=>by
  cases d<;>simp only[RT] at k
  simp only[FK]
  split
  ·simp only[RT]
  ·rename_i hj
   simp only[RT]
   obtain⟨k1,k2,e,s,l,z,k3,k4⟩:=k
   obtain⟨h1,h2⟩:=h _ _ hj k1
   obtain⟨l',z',h3,h4⟩:=h2.2 e s l z k3
   exact⟨h1,k2,e,s,l',z',h3,by omega⟩
 | .sp j t i off,d,k=>by
  cases d<;>simp only[RT] at k
  simp only[FK]
  split
  ·simp only[RT]
  ·rename_i hj
   simp only[RT]
   obtain⟨k1,k2,e,s,l,z,k3,k4,k5⟩:=k
   obtain⟨h1,h2⟩:=h _ _ hj k1
   obtain⟨l',z',h3,h4⟩:=h2.2 e s l z k3
   exact⟨h1,k2,e,s,l',z',h3,by omega,by omega⟩
 | .fn f a b,d,k=>by cases d<;>simp only[RT,FK] at k ⊢; exact⟨k.1,ko h a _ k.2.1,ko h b _ k.2.2⟩
theorem ko {g:Nat} (h:jg ι S ι' S' fun k=>k=g):∀ (l:List TV) (m:List DV),cA ι S l m→cA ι' S' (s6 g l) m
 | [],m,k=>by rw[aJ k]; simp only[s6]; exact bJ
 | a::l,m,k=>by
  obtain⟨d,m',rfl,h1,h2⟩:=aj k
  simp only[s6]
  exact aG (WS h a d h1) (ko h l m' h2)
end
def uN (tS:List TB) (nT:Nat):Prop:=tS[nT]? = some .none∨nT=tS.length
def uO (S:ak) (aA:Nat):Prop:=S[aA]? = some .none∨aA=S.length
theorem bL {b:TB} (h:uN tS nT) (j:Nat):(oB tS nT b)[j]? = if j=nT then some b else tS[j]? := by
 unfold oB
 rcases h with h | h
 ·have hlt:=(List.getElem?_eq_some_iff.1 h).1
  rw[if_pos hlt,List.getElem?_set]
  by_cases e:nT=j
  ·subst e; rw[if_pos rfl,if_pos hlt,if_pos rfl]
  ·rw[if_neg e,if_neg (Ne.symm e)]
 ·subst h
  rw[if_neg (Nat.lt_irrefl _),List.getElem?_append]
  by_cases e:j=tS.length
  ·subst e; rw[if_neg (Nat.lt_irrefl _),if_pos rfl]; simp
  ·rw[if_neg e]
   split
   ·rfl
   ·rw[List.getElem?_eq_none (by simp; omega),List.getElem?_eq_none (by omega)]
theorem aS {b:DB} (h:uO S aA) (j:Nat):(de S aA b)[j]? = if j=aA then some b else S[j]? := by
 unfold de
 rcases h with h | h
 ·have hlt:=(List.getElem?_eq_some_iff.1 h).1
  rw[if_pos hlt,List.getElem?_set]
  by_cases e:aA=j
  ·subst e; rw[if_pos rfl,if_pos hlt,if_pos rfl]
  ·rw[if_neg e,if_neg (Ne.symm e)]
 ·subst h
  rw[if_neg (Nat.lt_irrefl _),List.getElem?_append]
  by_cases e:j=S.length
  ·subst e; rw[if_neg (Nat.lt_irrefl _),if_pos rfl]; simp
  ·rw[if_neg e]
   split
   ·rfl
   ·rw[List.getElem?_eq_none (by simp; omega),List.getElem?_eq_none (by omega)]
def upd (ι:jF) (k k':Nat):jF:=fun j=>if j=k then some k' else ι j
theorem bK.live (h:bK ι te tS env S) {k k':Nat} (hk:ι k=some k'):∃ b,S[k']? = some b∧b ≠ .none:=by
 obtain⟨b,h1,h2⟩:=h.uE k k' hk
 cases b with
 | none=>exact(h2 rfl).elim
 | cells l =>
  obtain⟨k'',ds,h3,h4,-⟩:=h.cells k l h1
  rw[hk] at h3
  cases h3
  exact⟨_,h4,fun e=>by cases e⟩
 | own e s =>
  obtain⟨n,h3⟩:=h.own k e s h1 k' hk
  exact⟨_,h3,fun e=>by cases e⟩
 | map kt l=>exact⟨_,h.mp k _ h1 k' hk,fun e=>by cases e⟩
 | rows t e l z =>
  obtain⟨-,-,ds,h3,-⟩:=h.mp k _ h1 k' hk
  exact⟨_,h3,fun e=>by cases e⟩
theorem bK.cz (h:bK ι te tS env S) (hn:uO S aA) {k k':Nat} (hk:ι k=some k'):k'≠aA:=by
 rintro rfl
 obtain⟨b,h1,h2⟩:=h.live hk
 rcases hn with hn | hn
 ·rw[hn] at h1; cases h1; exact h2 rfl
 ·have:=(List.getElem?_eq_some_iff.1 h1).1; omega
theorem bK.new (h:bK ι te tS env S) (hn:uN tS nT):ι nT=none:=by
 cases hk:ι nT with
 | none=>rfl
 | some k' =>
  obtain⟨b,h1,h2⟩:=h.uE _ _ hk
  rcases hn with hn | hn
  ·rw[hn] at h1; cases h1; exact(h2 rfl).elim
  ·have:=(List.getElem?_eq_some_iff.1 h1).1; omega
theorem qo (h:bK ι te tS env S) (hT:uN tS nT) (hn:uO S aA) (b:DB):jg ι S (upd ι nT aA) (de S aA b) fun _=>False:=by
 intro k k' _ hk
 have h1:k≠nT:=by rintro rfl; rw[h.new hT] at hk; cases hk
 exact⟨by simp only[upd,h1,if_false]; exact hk,dM (by rw[aS hn,if_neg (h.cz hn hk)])⟩
theorem nE (h:bK ι te tS env S) (hn:uO S aA) (hT:uN tS nT) (hw:PG ι w):PG (upd ι nT aA) (upd w aA nT):=by
 intro k k' hk
 unfold upd at hk ⊢
 split at hk
 ·rename_i e
  subst e
  cases hk
  simp
 ·rw[if_neg (h.cz hn hk)]
  exact hw k k' hk
theorem qU (h:bK ι te tS env S) (hT:uN tS nT) (hn:uO S aA) {ts:List TV} {ds:List DV} (hc:cA ι S ts ds):bK (upd ι nT aA) te (oB tS nT (.cells ts)) env (de S aA (.cells ds)):=by
 have K:=qo h hT hn (.cells ds)
 refine⟨aY K _ _ h.env,fun k l hk => ?_,fun k e s hk t ht => ?_,fun k k' hk => ?_,fun i j k' hi hj => ?_,fun k b hk t ht => ?_⟩
 ·rw[bL hT] at hk
  split at hk
  ·rename_i e
   subst e
   cases hk
   exact⟨aA,ds,by simp[upd],by rw[aS hn,if_pos rfl],aY K _ _ hc⟩
  ·rename_i e
   obtain⟨k',eE,h1,h2,h3⟩:=h.cells k l hk
   exact⟨k',eE,by simp only[upd,e,if_false]; exact h1,by rw[aS hn,if_neg (h.cz hn h1)]; exact h2,aY K _ _ h3⟩
 ·rw[bL hT] at hk
  split at hk
  ·cases hk
  ·rename_i e'
   simp only[upd,e',if_false] at ht
   obtain⟨n,h1⟩:=h.own k e s hk t ht
   exact⟨n,by rw[aS hn,if_neg (h.cz hn ht)]; exact h1⟩
 ·rw[bL hT]
  split
  ·exact⟨_,rfl,fun e=>by cases e⟩
  ·rename_i e
   simp only[upd,e,if_false] at hk
   exact h.uE k k' hk
 ·unfold upd at hi hj
  split at hi<;>split at hj
  ·omega
  ·cases hi; exact(h.cz hn hj rfl).elim
  ·cases hj; exact(h.cz hn hi rfl).elim
  ·exact h.inj i j k' hi hj
 ·rw[bL hT] at hk
  split at hk
  ·cases hk; trivial
  ·rename_i e'
   simp only[upd,e',if_false] at ht
   rw[aS hn,if_neg (h.cz hn ht)]
   exact h.mp k b hk t ht
def Lv (S:ak) (i:Nat):Prop:=∃ b,S[i]? = some b∧b ≠ .none
structure Fr (B:List Nat) (ι:jF) (S:ak) (ι':jF) (S':ak):Prop where
 rest:∀ k',Lv S k'→(∀ k,ι k≠some k')→S'[k']? = S[k']?
 ours:∀ k k',ι' k=some k'→(∃ j,ι j=some k')∨¬ Lv S k'
 base:∀ k,k∈B→ι' k=ι k
def lY (B:List Nat) (tS:List TB):Prop:=∀ k,k∈B→∃ l,tS[k]? = some (.cells l)
theorem Fr.refl (B:List Nat) (ι:jF) (S:ak):Fr B ι S ι S:=⟨fun _ _ _=>rfl,fun k _ h => .inl ⟨k,h⟩,fun _ _=>rfl⟩
theorem Fr.trans {B:List Nat} {ι'':jF} {ry:ak} (h:Fr B ι S ι' S') (k:Fr B ι' S' ι'' ry):Fr B ι S ι'' ry where
 rest:=fun k' hl hn=>by
  have h1:=h.rest k' hl hn
  have gF:Lv S' k':=by obtain⟨b,h2,h3⟩:=hl; exact⟨b,h1.trans h2,h3⟩
  refine(k.rest k' gF fun j hj => ?_).trans h1
  rcases h.ours j k' hj with ⟨i,h2⟩ | h2
  ·exact hn i h2
  ·exact h2 hl
 ours:=fun j k' hj=>by
  rcases k.ours j k' hj with ⟨i,h1⟩ | h1
  ·exact h.ours i k' h1
  ·by_cases hl:Lv S k'
   ·by_cases hn:∃ j,ι j=some k'
    ·exact .inl hn
    ·refine(h1 ?_).elim
     obtain⟨b,h2,h3⟩:=hl
     exact⟨b,(h.rest k' ⟨b,h2,h3⟩ fun i hi=>hn ⟨i,hi⟩).trans h2,h3⟩
   ·exact .inr hl
 base:=fun j hj=>(k.base j hj).trans (h.base j hj)
theorem uv (hn:uO S aA):¬ Lv S aA:=by
 rintro⟨b,h1,h2⟩
 rcases hn with hn | hn
 ·rw[hn] at h1; cases h1; exact h2 rfl
 ·have:=(List.getElem?_eq_some_iff.1 h1).1; omega
theorem oR {B:List Nat} {g:Nat} {b:DB} (hn:uO S aA) (hg:g ∉ B):Fr B ι S (upd ι g aA) (de S aA b) where
 rest:=fun k' hl _=>by
  rw[aS hn,if_neg]
  rintro rfl
  exact uv hn hl
 ours:=fun k k' hk=>by
  unfold upd at hk
  split at hk
  ·cases hk; exact .inr (uv hn)
  ·exact .inl ⟨k,hk⟩
 base:=fun k hk=>by unfold upd; rw[if_neg (fun e:k=g=>hg (e▸hk))]
theorem uW {B:List Nat} {k0 id:Nat} {b:DB} (hk:ι k0=some id):Fr B ι S ι (S.set id b) where
 rest:=fun k' _ hn=>by
  rw[List.getElem?_set,if_neg]
  rintro rfl
  exact hn k0 hk
 ours:=fun k _ h => .inl ⟨k,h⟩
 base:=fun _ _=>rfl
theorem kD {B:List Nat} (hB:lY B tS) (hT:uN tS nT):nT ∉ B:=by
 intro hlt
 obtain⟨l,h1⟩:=hB _ hlt
 rcases hT with hT | hT
 ·rw[hT] at h1; cases h1
 ·have:=(List.getElem?_eq_some_iff.1 h1).1; omega
theorem iV {B:List Nat} {b:TB} (hB:lY B tS) (hT:uN tS nT):lY B (oB tS nT b):=by
 intro k hk
 have:=kD hB hT
 rw[bL hT,if_neg (fun e:k=nT=>this (e▸hk))]
 exact hB k hk
theorem SA {B:List Nat} {g e s:Nat} (hB:lY B tS) (h:tS[g]? = some (.own e s)):g ∉ B:=by
 intro hlt
 obtain⟨l,h1⟩:=hB _ hlt
 rw[h] at h1; cases h1
def Nn (i:Nat) (S S':ak):Prop:=S.length≤S'.length∧∀ j,j≠i→S[j]? = some .none→S'[j]? = some .none
theorem ek (i:Nat) (S:ak):Nn i S S:=⟨Nat.le_refl _,fun _ _ h=>h⟩
theorem lR {b:DB} (hn:uO S aA):Nn aA S (de S aA b):=by
 refine⟨?_,fun j hj h=>by rw[aS hn,if_neg hj]; exact h⟩
 unfold de
 split<;>simp
theorem uS {i id:Nat} {b b':DB} (h:S[id]? = some b) (hb:b ≠ .none):Nn i S (S.set id b'):=by
 refine⟨by simp,fun j _ hj => ?_⟩
 rw[List.getElem?_set,if_neg]
 ·exact hj
 ·rintro rfl
  rw[h] at hj
  cases hj
  exact hb rfl
end
end Go.Tv
end
