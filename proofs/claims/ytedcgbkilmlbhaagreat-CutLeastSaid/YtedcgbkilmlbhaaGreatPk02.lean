import Derived.Test.YtedcgbkilmlbhaaGreatPk01
section
namespace Go.Tv
open Go Go.Di
def TV.cells : TV → List TV
 | .agg l => l
 | v => [v]
def TV.known : TV → Bool
 | .unk => false
 | _ => true
def TV.Ad : TV → Bool
 | .unk | .gI _ => false
 | _ => true
def uV : DV → TV
 | .val v => .val v
 | .sl [] none ⟨true, some true⟩ => .gZ
 | _ => .unk
def Xg : DV → TV
 | .agg l => .agg (l.map uV)
 | .fn f [] [] => .fn f [] []
 | d => uV d
inductive TB where
 | none
 | cells (l : List TV)
 | own (e s : Nat)
 | map (kt : TT) (l : List kt.den)
 | rows (t : TT) (e : Nat) (l : List t.den) (z : Bool)
instance : Inhabited TB := ⟨.none⟩
section
variable (P : Program) (ty : gF) (tt : TypeId → Option TT)
def gE (te : List TV) : Operand → Option TV
 | .tmp t => some (te.getD t .unk)
 | .const v => (xP v).map Xg
 | .func f => some (.fn f [] [])
 | .global _ => none
def nP (te : List TV) : List Operand → Option (List TV)
 | [] => some []
 | x :: l => match gE te x, nP te l with
  | some d, some r => some (d :: r)
  | _, _ => none
def wM (te : List TV) : List (Nat × Operand) → Option (List (Nat × TV))
 | [] => some []
 | (i, x) :: l => match gE te x, wM te l with
  | some d, some r => some ((i, d) :: r)
  | _, _ => none
def gR : List TV → Option (List Value)
 | [] => some []
 | .val v :: l => (gR l).map (v :: ·)
 | _ => none
def gJ : TV → Option Value
 | .val v => some v
 | .agg l => (gR l).map fun r => .agg r.toArray
 | _ => none
def vg : List TV → Option (List Value)
 | [] => some []
 | d :: l => match gJ d, vg l with
  | some v, some r => some (v :: r)
  | _, _ => none
def Fi (te : List TV) (x : Operand) : Option Int :=
 match gE te x with
 | some (.val (.int _ n)) => some n
 | _ => none
def jo (t : TypeId) (v : TV) : TV :=
 match v with
 | .gZ => match tt t with
  | some (.sl e) => .sl e [] .full
  | _ => .gZ
 | v => v
def XK (l : List TV) (off n : Nat) : Option (List TV) := if off + n ≤ l.length then some ((l.drop off).take n) else none
def NU (l : List TV) (off : Nat) (cs : List TV) : Option (List TV) := if off + cs.length ≤ l.length then some (l.take off ++ cs ++ l.drop (off + cs.length)) else none
def xN (agg : Bool) (size : Nat) (l : List TV) (off : Nat) : Option TV := if agg then (XK l off size).map .agg else l[off]?
def FF (place : Nat → Option (Nat × Nat)) (cs : List TV) : List (Nat × TV) → Option (List TV)
 | [] => some cs
 | (i, v) :: r => match place i with
  | none => none
  | some (off, size) => if v.known && v.cells.length == size then match NU cs off v.cells with
    | some iU => FF place iU r
    | none => none
   else none
def tK : Option DV → Option TV
 | some (.val v) => some (.val v)
 | _ => none
def Ab (t : TT) (i : Nat) : List (Nat × TV) → Option (List t.den)
 | [] => some []
 | (j, v) :: r => if j == i && v.Ad then match t.of v.cells, Ab t (i + 1) r with
   | some (x, []), some l => some (x :: l)
   | _, _ => none
  else none
def Ol (t : Bool) : Option TV → Option TV → Option TV
 | some (.val (.bool x)), some (.val (.bool y)) => some (.val (.bool (bif t then x else y)))
 | some (.val (.int k x)), some (.val (.int k' y)) => if k' = k then some (.val (.int k (bif t then x else y))) else none
 | a, b => match t with
  | true => a
  | false => b
def Af (te : List TV) : Option Operand → Option (Option Int)
 | none => some none
 | some x => (Fi te x).map some
def adO (o : Option Int) (dO : Nat) : Prop :=
 match o with
 | none => True
 | some n => 0 ≤ n ∧ n ≤ (dO : Int)
def O6 (t : TT) (l : List t.den) (lo hi mx : Option Int) : TV × Prop :=
 match mx with
 | none => match hi with
  | none => match lo with
   | none => (.sl t l .no, True)
   | some a => (.sl t (l.drop a.toNat) .no, 0 ≤ a ∧ a ≤ (l.length : Int))
  | some h => match lo with
   | none => (.sl t (l.take h.toNat) .no, 0 ≤ h ∧ h ≤ (l.length : Int))
   | some a => (.sl t ((l.take h.toNat).drop a.toNat) .no, 0 ≤ a ∧ a ≤ h ∧ h ≤ (l.length : Int))
 | some m => match hi with
  | none => (.unk, False)
  | some h => match lo with
   | none => (.sl t (l.take h.toNat) .full, 0 ≤ h ∧ h = m ∧ h ≤ (l.length : Int))
   | some a => (.sl t ((l.take h.toNat).drop a.toNat) .full, 0 ≤ a ∧ a ≤ h ∧ h = m ∧ h ≤ (l.length : Int))
def bL (te : List TV) (tS : List TB) (o : Oper) : Option (TV × Prop) :=
 match o.op with
 | .move x | .assign x => (gE te x).map fun v => (jo tt o.type v, True)
 | .pick c a b => match gE te c with
  | some (.val (.bool t)) => (Ol t (gE te a) (gE te b)).map (·, True)
  | _ => none
 | .build t ps => match ty t, wM te ps.toList with
  | some ⟨.struct fs, _, some z⟩, some l => (FF (fun i => (fs[i]?).map fun f => (f.1, f.2.1)) (z.map uV) l).map fun cs => (.agg cs, True)
  | some ⟨.array _ s _, _, some z⟩, some l => (FF (fun i => some (i * s, s)) (z.map uV) l).map fun cs => (.agg cs, True)
  | _, _ => none
 | .buildSlice t n ps => match ty t, wM te ps.toList, tt t with
  | some ⟨.slice e s _ agg, _, _⟩, some l, some (.sl k) => match ty e with
   | some ⟨_, _, some z⟩ => if decide (0 < s) && decide (n * s ≤ 16777216) && l.length == n && z.length == s && k.size == s && k.agg == agg && (agg || s == 1) && ty.h o != 1 then
     (Ab k 0 l).map fun l => (.sl k l .full, True)
    else none
   | _ => none
  | _, _, _ => none
 | .load t a => match ty t, gE te a with
  | some d, some (.ptr id off) => match tS[id]? with
   | some (.cells l) => (xN d.k.isAgg d.size l off).map fun v => (jo tt t v, True)
   | _ => none
  | some d, some (.eS e l i off) => (xN d.k.isAgg d.size (e.cells (l.getD i e.WX)) off).map fun v => (jo tt t v, True)
  | _, _ => none
 | .nilCheck x => match gE te x with
  | some (.ptr id off) => some (.ptr id off, True)
  | _ => none
 | .binOp op t x y _ => match (gE te x).bind gJ, (gE te y).bind gJ with
  | some a, some b => (tK (iE P (do eqGuard op t x y a b; binOp op t a b))).map (·, True)
  | _, _ => none
 | .unOp op _ x => match (gE te x).bind gJ with
  | some a => (tK (iE P (Op.unary op a))).map (·, True)
  | none => none
 | .convert s d x => match (gE te x).bind gJ with
  | some a => (tK (iE P (Go.convert s d a))).map (·, True)
  | none => none
 | .makeFunc (.func f) fs cs => match nP te fs.toList, nP te cs.toList with
  | some a, some b => some (.fn f a b, True)
  | _, _ => none
 | .slice t x lo hi mx => match ty t, (gE te x).map (jo tt t), Af te lo, Af te hi, Af te mx with
  | some ⟨.slice _ s _ _, _, _⟩, some (.sl k l _), some lo, some hi, some mx => if k.size == s then some (O6 k l lo hi mx) else none
  | _, _, _, _, _ => none
 | .fieldAddr t x f => match ty t, gE te x with
  | some ⟨.struct fs, _, _⟩, some (.ptr id off) => match fs[f]? with
   | some (o, s, _) => if 0 < s then some (.ptr id (off + o), True) else none
   | none => none
  | some ⟨.struct fs, _, _⟩, some (.eS k l i off) => match fs[f]? with
   | some (o, s, _) => if 0 < s then some (.eS k l i (off + o), True) else none
   | none => none
  | _, _ => none
 | .field t x f => match ty t, gE te x with
  | some ⟨.struct fs, _, _⟩, some (.agg l) => match fs[f]? with
   | some (off, s, agg) => (xN agg s l off).map (·, True)
   | none => none
  | _, _ => none
 | .indexAddr t x i => match ty t, (gE te x).map (jo tt t), Fi te i with
  | some ⟨.slice _ s _ _, _, _⟩, some (.sl k l _), some n => if k.size == s then some (.eS k l n.toNat 0, 0 ≤ n ∧ n < (l.length : Int)) else none
  | some ⟨.array k s _, _, _⟩, some (.ptr id off), some n => if 0 ≤ n ∧ n.toNat < k then some (.ptr id (off + n.toNat * s), True) else none
  | some ⟨.array k s _, _, _⟩, some (.eS e l j off), some n => if 0 ≤ n ∧ n.toNat < k then some (.eS e l j (off + n.toNat * s), True) else none
  | _, _, _ => none
 | .index t x i => match ty t, gE te x, Fi te i with
  | some ⟨.array k s agg, _, _⟩, some (.agg l), some n => if 0 ≤ n ∧ n.toNat < k then (xN agg s l (n.toNat * s)).map (·, True) else none
  | _, _, _ => none
 | .extract t i => match gE te t with
  | some (.gI l) => (l[i]?).map fun v => (jo tt o.type v, True)
  | _ => none
 | .call { callee := .builtin b, args, argTypes } => match b, args.toList, argTypes.toList with
  | .len, [x], [t] => match ty t, (gE te x).map (jo tt t) with
   | some ⟨.slice _ _ _ _, _, _⟩, some (.sl _ l _) => some (.val (.int .i64 (l.length : Nat)), True)
   | some ⟨.array n _ _, _, _⟩, _ => some (.val (.int .i64 n), True)
   | _, some (.val v) => (tK (iE P (Builtin.len_ #[t] o.type #[v]))).map (·, True)
   | _, _ => none
  | .min, xs, _ => match (nP te xs).bind vg with
   | some vs => (tK (iE P (Builtin.min_ argTypes o.type vs.toArray))).map (·, True)
   | none => none
  | .max, xs, _ => match (nP te xs).bind vg with
   | some vs => (tK (iE P (Builtin.max_ argTypes o.type vs.toArray))).map (·, True)
   | none => none
  | _, _, _ => none
 | _ => none
end
section
variable {P : Program} {ty : gF} {tt : TypeId → Option TT} {ι : lW} {S : av} {te : List TV} {env : List DV} {tS : List TB}
theorem ry {v : TV} {d : DV} (hk : v.known = true) (h : RT ι S v d) : dg ι S v.cells d.cells := by
 cases v <;> cases d <;> simp only [RT] at h <;> first | (cases hk; done) | exact h | (refine iW ?_; simp only [RT]; exact h)
theorem O8 (d : DV) : RT ι S (uV d) d := by
 unfold uV
 split <;> simp [RT]
theorem rV : ∀ l : List DV, dg ι S (l.map uV) l
 | [] => cz
 | d :: l => aY (O8 d) (rV l)
theorem aa5 (d : DV) : RT ι S (Xg d) d := by
 unfold Xg
 split
 ·simp only [RT]; exact rV _
 ·simp only [RT, dg, and_true]
 ·exact O8 _
theorem bt (h : dg ι S te env) {x : Operand} {v : TV} (hx : gE te x = some v) : ∃ d, iB env x = some d ∧ RT ι S v d := by
 cases x with
 | tmp t => cases hx; exact ⟨_, rfl, Ar h t⟩
 | const u =>
  simp only [gE, ah] at hx
  obtain ⟨d, h1, rfl⟩ := hx
  exact ⟨d, h1, aa5 d⟩
 | func f => cases hx; exact ⟨_, rfl, by simp only [RT, dg, and_true]⟩
 | global g => cases hx
theorem rZ (h : dg ι S te env) : ∀ {xs : List Operand} {vs : List TV}, nP te xs = some vs → ∃ ds, evs (iB env) xs = some ds ∧ dg ι S vs ds
 | [], _, hx => by cases hx; exact ⟨[], rfl, cz⟩
 | x :: l, vs, hx => by
  simp only [nP] at hx
  split at hx
  ·rename_i d r h1 h2
   cases hx
   obtain ⟨d', k1, k2⟩ := bt h h1
   obtain ⟨ds, k3, k4⟩ := rZ h h2
   exact ⟨d' :: ds, by simp only [evs, k1, k3], aY k2 k4⟩
  ·cases hx
def Aj (ι : lW) (S : av) : List (Nat × TV) → List (Nat × DV) → Prop
 | [], [] => True
 | (i, v) :: l, (j, d) :: m => (j = i ∧ RT ι S v d) ∧ Aj ι S l m
 | _, _ => False
theorem pn (h : dg ι S te env) : ∀ {xs : List (Nat × Operand)} {vs : List (Nat × TV)}, wM te xs = some vs → ∃ ds, jq (iB env) xs = some ds ∧ Aj ι S vs ds
 | [], _, hx => by cases hx; exact ⟨[], rfl, trivial⟩
 | (i, x) :: l, vs, hx => by
  simp only [wM] at hx
  split at hx
  ·rename_i d r h1 h2
   cases hx
   obtain ⟨d', k1, k2⟩ := bt h h1
   obtain ⟨ds, k3, k4⟩ := pn h h2
   exact ⟨(i, d') :: ds, by simp only [jq, k1, k3], ⟨rfl, k2⟩, k4⟩
  ·cases hx
theorem x7 : ∀ {l : List TV} {m : List DV} {vs : List Value}, dg ι S l m → gR l = some vs → pQ m = some vs
 | [], m, vs, h, hx => by rw [aW h]; exact hx
 | a :: l, m, vs, h, hx => by
  obtain ⟨d, m', rfl, h1, h2⟩ := ak h
  unfold gR at hx
  split at hx
  ·rename_i e; cases e
  ·rename_i v l' e
   cases e
   simp only [ah] at hx
   obtain ⟨r, h3, rfl⟩ := hx
   cases d <;> simp only [RT] at h1
   subst h1
   simp only [pQ, x7 h2 h3, Option.map_some]
  ·cases hx
theorem Cw {v : TV} {d : DV} {u : Value} (h : RT ι S v d) (hx : gJ v = some u) : xI d = some u := by
 unfold gJ at hx
 split at hx
 ·cases hx
  cases d <;> simp only [RT] at h
  subst h
  rfl
 ·simp only [ah] at hx
  obtain ⟨r, h1, rfl⟩ := hx
  cases d <;> simp only [RT] at h
  simp only [xI, x7 h h1, Option.map_some]
 ·cases hx
theorem uc : ∀ {l : List TV} {m : List DV} {vs : List Value}, dg ι S l m → vg l = some vs → qU m = some vs
 | [], m, vs, h, hx => by rw [aW h]; exact hx
 | a :: l, m, vs, h, hx => by
  obtain ⟨d, m', rfl, h1, h2⟩ := ak h
  simp only [vg] at hx
  split at hx
  ·rename_i v r e1 e2
   cases hx
   simp only [qU, Cw h1 e1, uc h2 e2]
  ·cases hx
theorem ff (h : dg ι S te env) {x : Operand} {u : Value} (hx : (gE te x).bind gJ = some u) : valOf (iB env) x = some u := by
 cases h1 : gE te x with
 | none => rw [h1] at hx; cases hx
 | some v =>
  rw [h1] at hx
  obtain ⟨d, h2, h3⟩ := bt h h1
  simp only [valOf, h2, Option.bind_some]
  exact Cw h3 hx
theorem oc (h : dg ι S te env) {x : Operand} {n : Int} (hx : Fi te x = some n) : intOf (iB env) x = some n := by
 unfold Fi at hx
 split at hx
 ·rename_i k m h1
  cases hx
  obtain ⟨d, h2, h3⟩ := bt h h1
  cases d <;> simp only [RT] at h3
  subst h3
  simp only [intOf, h2]
 ·cases hx
theorem cE {t : TypeId} {v : TV} {d : DV} (h : RT ι S v d) : RT ι S (jo tt t v) d := by
 unfold jo
 split
 ·split
  ·cases d <;> simp only [RT] at h
   obtain ⟨rfl, rfl, rfl⟩ := h
   simp only [RT, ek, s4, and_self]
  ·exact h
 ·exact h
theorem UN {l : List TV} {m : List DV} (h : dg ι S l m) {off n : Nat} {r : List TV} (hx : XK l off n = some r) : ∃ r', N9 m off n = some r' ∧ dg ι S r r' := by
 unfold XK at hx
 split at hx
 ·cases hx
  rename_i hle
  exact ⟨_, if_pos (by rw [ig h]; exact hle), Aq _ (As _ h)⟩
 ·cases hx
theorem Ek {l : List TV} {m : List DV} (h : dg ι S l m) {cs : List TV} {ds : List DV} (hc : dg ι S cs ds) {off : Nat} {r : List TV} (hx : NU l off cs = some r) : ∃ r', sR m off ds = some r' ∧ dg ι S r r' := by
 unfold NU at hx
 split at hx
 ·cases hx
  rename_i hle
  refine ⟨_, if_pos (by rw [ig h, ig hc]; exact hle), fu (fu (Aq _ h) hc) ?_⟩
  rw [ig hc]
  exact As _ h
 ·cases hx
theorem oZ {l : List TV} {m : List DV} (h : dg ι S l m) {agg : Bool} {size off : Nat} {r : TV} (hx : xN agg size l off = some r) : ∃ r', nv agg size m off = some r' ∧ RT ι S r r' := by
 unfold xN at hx
 split at hx
 ·rename_i ha
  simp only [ah] at hx
  obtain ⟨r1, h1, rfl⟩ := hx
  obtain ⟨r', h2, h3⟩ := UN h h1
  exact ⟨.agg r', by simp only [nv, ha, if_true, h2, Option.map_some], by simp only [RT]; exact h3⟩
 ·rename_i ha
  obtain ⟨d, h1, h2⟩ := rW h hx
  exact ⟨d, by simp only [nv, ha, h1]; rfl, h2⟩
theorem AL {place : Nat → Option (Nat × Nat)} : ∀ {ps : List (Nat × TV)} {qs : List (Nat × DV)} {l : List TV} {m : List DV} {r : List TV}, Aj ι S ps qs → dg ι S l m → FF place l ps = some r → ∃ r', jO place m qs = some r' ∧ dg ι S r r'
 | [], [], l, m, r, _, h, hx => by cases hx; exact ⟨m, rfl, h⟩
 | (i, v) :: ps, (j, d) :: qs, l, m, r, hp, h, hx => by
  obtain ⟨⟨rfl, hv⟩, hp⟩ := hp
  simp only [FF] at hx
  split at hx
  ·cases hx
  ·rename_i off size xF
   split at hx
   ·rename_i hc
    simp only [aG, dX] at hc
    have ov := ry hc.1 hv
    split at hx
    ·rename_i iU ni
     obtain ⟨m', h1, h2⟩ := Ek h ov ni
     obtain ⟨r', h3, h4⟩ := AL hp h2 hx
     refine ⟨r', ?_, h4⟩
     simp only [jO, xF, ig ov, hc.2, if_true, h1, h3]
    ·cases hx
   ·cases hx
theorem rT {o : Option DV} {v : TV} (h : tK o = some v) : ∃ d, o = some d ∧ RT ι S v d := by
 unfold tK at h
 split at h
 ·cases h; exact ⟨_, rfl, by simp only [RT]⟩
 ·cases h
theorem QH {t : Bool} {a b : Option TV} {v : TV} {a' b' : Option DV} (ha : ∀ v, a = some v → ∃ d, a' = some d ∧ RT ι S v d) (hb : ∀ v, b = some v → ∃ d, b' = some d ∧ RT ι S v d) (h : Ol t a b = some v) : ∃ d, (if t then a' else b') = some d ∧ RT ι S v d := by
 unfold Ol at h
 split at h
 ·cases h
  obtain ⟨d, h1, h2⟩ := ha _ rfl
  obtain ⟨e, h3, h4⟩ := hb _ rfl
  cases t
  ·exact ⟨e, h3, h4⟩
  ·exact ⟨d, h1, h2⟩
 ·split at h
  ·rename_i hk
   subst hk
   cases h
   obtain ⟨d, h1, h2⟩ := ha _ rfl
   obtain ⟨e, h3, h4⟩ := hb _ rfl
   cases t
   ·exact ⟨e, h3, h4⟩
   ·exact ⟨d, h1, h2⟩
  ·cases h
 ·split at h
  ·exact ha _ h
  ·exact hb _ h
end
end Go.Tv
end
section
namespace Go.Tv
open Go Go.Di
variable {P:Program} {ty:gF} {tt:TypeId→Option TT} {ι:lW} {S:av} {te:List TV} {env:List DV} {tS:List TB} {aI:bP} {call:bM} {yf:eW} {o:Oper} {aB:Nat} {v:TV} {c:Prop}
def Iz (ι:lW) (S:av) (tS:List TB):Prop:=∀ k l,tS[k]? = some (.cells l)→∃ k' ds,ι k=some k'∧S[k']? = some (.cells ds)∧dg ι S l ds
theorem Uu (hE:dg ι S te env) (hP:Iz ι S tS) {t:TypeId} {a:Operand} (ho:o.op = .load t a) (h:bL P ty tt te tS o=some (v,c)):∃ d,af P ty aI call yf (iB env) o S aB=some (d,S)∧RT ι S v d:=by
 simp only[bL,ho] at h
 split at h
 ·rename_i td id off h1 h2
  split at h
  ·rename_i l h3
   simp only[ah,ax] at h
   obtain⟨w,h4,rfl,-⟩:=h
   obtain⟨d,k1,k2⟩:=bt hE h2
   obtain⟨iT,ds,k3,k4,k5⟩:=hP _ _ h3
   cases d<;>simp only[RT] at k2
   obtain⟨k6,rfl⟩:=k2
   rw[k3] at k6
   cases k6
   obtain⟨r,k7,k8⟩:=oZ k5 h4
   exact⟨r,by simp only[af,ho,k1,jN,h1,k4,k7,Option.map_some],cE k8⟩
  ·cases h
 ·rename_i td e l i off h1 h2
  simp only[ah,ax] at h
  obtain⟨w,h4,rfl,-⟩:=h
  obtain⟨d,k1,k2⟩:=bt hE h2
  cases d<;>simp only[RT] at k2
  obtain⟨k3,rfl,rfl,k4⟩:=k2
  obtain⟨r,m1,m2,-⟩:=Au k3 (bK k4)
  rename_i j j'
  have hg:l.getD j e.WX=l[j]:=by simp[aL,k4]
  rw[hg] at h4
  obtain⟨r',m3,m4⟩:=oZ (nM (ι:=ι) (S:=S) m2) h4
  exact⟨r',by simp only[af,ho,k1,jN,h1,m1,m3,Option.map_some],cE m4⟩
 ·cases h
def Cu (t:TT):Nat→List (Nat×DV)→List t.den→Prop
 | _,[],[]=>True
 | i,(j,d)::qs,x::l=>(j=i∧CR t x d.strip.cells)∧Cu t (i+1) qs l
 | _,_,_=>False
theorem GM {v:TV} {d:DV} (hk:v.Ad=true) (h:RT ι S v d):d.strip.cells=d.cells.map DV.aQ:=by
 cases v<;>cases d<;>simp only[RT] at h<;>first | (cases hk; done) | rfl
theorem Gq {v:TV} (hk:v.Ad=true):v.known=true:=by cases v<;>first | rfl | cases hk
theorem AP {t:TT}:∀ {ps:List (Nat×TV)} {qs:List (Nat×DV)} {i:Nat} {l:List t.den},Aj ι S ps qs→Ab t i ps=some l→Cu t i qs l∧l.length=ps.length
 | [],[],i,l,_,h=>by cases h; exact⟨trivial,rfl⟩
 | (j,v)::ps,(j',d)::qs,i,l,hp,h=>by
  obtain⟨⟨rfl,hv⟩,hp⟩:=hp
  simp only[Ab] at h
  split at h
  ·rename_i hc
   simp only[aG,dX] at hc
   obtain⟨rfl,hk⟩:=hc
   split at h
   ·rename_i x l' h1 h2
    cases h
    obtain⟨cs,m',e1,e2,e3⟩:=Ci h1 (ry (Gq hk) hv)
    rw[aW e3,eU] at e1
    obtain⟨k1,k2⟩:=AP hp h2
    exact⟨⟨⟨rfl,by rw[GM hk hv,e1]; exact e2⟩,k1⟩,by simp[k2]⟩
   ·cases h
  ·cases h
def iJ (qs:List (Nat×DV)):List DV:=qs.flatMap fun q=>q.2.strip.cells
theorem uE {t:TT} {s:Nat} (hs:t.size=s):∀ {qs:List (Nat×DV)} {i:Nat} {l:List t.den} {pre post:List DV},Cu t i qs l→pre.length=i*s→post.length=qs.length*s →
  jO (fun i=>some (i*s,s)) (pre++post) (qs.map fun(i,v)=>(i,v.strip))=some (pre++iJ qs)
 | [],i,[],pre,post,_,hp,hq=>by
  have:post=[]:=dY (by simpa using hq)
  subst this
  simp[jO,iJ]
 | (j,d)::qs,i,x::l,pre,post,h,hp,hq=>by
  obtain⟨⟨rfl,hc⟩,h⟩:=h
  have hl:d.strip.cells.length=s:=(lT hc).trans hs
  have NA:post.length=qs.length*s+s:=by rw[hq,List.length_cons,iZ,Nat.one_mul]
  have ni:sR (pre++post) (j*s) d.strip.cells=some ((pre++d.strip.cells)++post.drop s):=by
   unfold sR
   rw[if_pos (by rw[bU,hp,hl]; omega),hl,← hp,List.take_left' rfl,List.drop_append,ja (by omega)]
   simp
  simp only[bT,jO,hl,if_true,ni]
  rw[uE hs h (by rw[bU,hp,hl,iZ,Nat.one_mul]) (by rw[List.length_drop,NA]; omega)]
  simp[iJ]
theorem row_one {t:TT} {x:t.den} {cs:List DV} (h:CR t x cs) (ha:t.agg=false):CR t x (cs.getD 0 bz).cells∧u9 t.agg (cs.getD 0 bz):=by
 cases t with
 | unit | pair=>cases ha
 | sl t =>
  simp only[CR] at h
  obtain⟨rows,f,rfl,h⟩:=h
  exact⟨by simp only[CR,List.getD_cons_zero,DV.cells]; exact⟨rows,f,rfl,h⟩,by simp[u9,TT.agg]⟩
 | _ =>
  simp only[CR] at h
  subst h
  exact⟨by simp only[CR,List.getD_cons_zero,DV.cells],by simp[u9,TT.agg]⟩
theorem yc {s:Nat} {agg:Bool} {c r:List DV} {n:Nat} (hc:c.length=s):rowsOf s agg (c++r) (n+1)=(if agg then .agg c else (c++r).getD 0 bz)::rowsOf s agg r n:=by
 unfold rowsOf
 rw[List.range_succ_eq_map,bT,List.map_map]
 congr 1
 ·unfold rowOf
  split
  ·rw[Nat.zero_mul,lq,List.take_left' hc]
  ·rw[Nat.zero_mul]
 ·refine List.map_congr_left fun i _ => ?_
  simp only[Function.comp,rowOf,Nat.succ_eq_add_one,iZ,Nat.one_mul]
  rw[Nat.add_comm (i*s) s,← hc,List.drop_append,ja (Nat.le_add_right _ _),om,List.nil_append,aL,aL,gr (Nat.le_add_right _ _),om]
theorem A5 {t:TT} {s:Nat} (hs:t.size=s) (h1:t.agg=true∨s=1):∀ {qs:List (Nat×DV)} {i:Nat} {l:List t.den},Cu t i qs l→ek (CR t) t.agg l (rowsOf s t.agg (iJ qs) l.length)
 | [],_,[],_=>by simp[rowsOf,ek]
 | (j,d)::qs,i,x::l,h=>by
  obtain⟨⟨rfl,hc⟩,h⟩:=h
  have hl:d.strip.cells.length=s:=(lT hc).trans hs
  have e:iJ ((j,d)::qs)=d.strip.cells++iJ qs:=by simp[iJ]
  rw[e,List.length_cons,yc hl]
  refine⟨?_,A5 hs h1 h⟩
  cases ha:t.agg with
  | true=>exact⟨hc,by simp[u9]⟩
  | false =>
   have:=row_one hc ha
   rw[ha] at this
   have h2:0<d.strip.cells.length:=by rw[hl]; rcases h1 with h1 | h1<;>first | (rw[ha] at h1; cases h1; done) | omega
   have e2:(d.strip.cells++iJ qs).getD 0 bz=d.strip.cells.getD 0 bz:=by
    simp only[aL,eG h2]
   simp only[aD,if_false]
   rw[e2]
   exact this
theorem uj {t:TT}:∀ {qs:List (Nat×DV)} {i:Nat} {l:List t.den},Cu t i qs l→(iJ qs).all DV.bS=true
 | [],_,[],_=>rfl
 | (j,d)::qs,i,x::l,h=>by
  obtain⟨⟨rfl,hc⟩,h⟩:=h
  have e:iJ ((j,d)::qs)=d.strip.cells++iJ qs:=by simp[iJ]
  rw[e,lu,pU hc,uj h]; rfl
theorem xk:∀ {ps:List (Nat×TV)} {qs:List (Nat×DV)},Aj ι S ps qs→qs.length=ps.length
 | [],[],_=>rfl
 | _::ps,_::qs,h=>by simp[xk h.2]
theorem B2 (hE:dg ι S te env) {t:TypeId} {n:Nat} {ps:Array (Nat×Operand)} (ho:o.op = .buildSlice t n ps) (h:bL P ty tt te tS o=some (v,c)):∃ d,af P ty aI call yf (iB env) o S aB=some (d,S)∧RT ι S v d:=by
 simp only[bL,ho] at h
 split at h
 ·rename_i e s kF agg sz z0 l k h1 h2 h3
  split at h
  ·rename_i k0 sz' z h4
   split at h
   ·rename_i hc
    simp only[aG,dX,iq,bI] at hc
    obtain⟨⟨⟨⟨⟨⟨⟨c1,c2⟩,c3⟩,c4⟩,c5⟩,c6⟩,c7⟩,c8⟩:=hc
    have c8:ty.h o≠1:=by simpa using c8
    simp only[ah,ax] at h
    obtain⟨w,h5,rfl,-⟩:=h
    obtain⟨ds,k1,k2⟩:=pn hE h2
    obtain⟨k3,k4⟩:=AP k2 h5
    have hlen:ds.length=n:=by rw[xk k2,c3]
    have Xs:((List.replicate n z).flatten).length=ds.length*s:=by
     rw[hlen,List.length_flatten,List.map_replicate,c4,List.sum_replicate_nat]
    have hf:=uE (pre:=[]) (post:=(List.replicate n z).flatten) c5 k3 (by simp) Xs
    rw[List.nil_append,List.nil_append] at hf
    have hn:w.length=n:=by rw[k4,c3]
    have hr:=A5 c5 (by rw[c6]; exact c7) k3
    rw[c6,hn] at hr
    have c7':(agg||s==1)=true:=by simpa using c7
    refine⟨.sl (rowsOf s agg (iJ ds) n) none ⟨true,some false⟩,?_,?_⟩
    ·simp only[af,ho,h1,k1,h4,fM c1,fM c2,gm,if_true,hf,uj k3,c7',c8]
    ·simp only[RT,s4,and_self,and_true]
     rw[c6]
     exact hr
   ·cases h
  ·cases h
 ·cases h
theorem Qd (hE:dg ι S te env) {t:TypeId} {x:Operand} {lo hi mx:Option Operand} (ho:o.op = .slice t x lo hi mx) (h:bL P ty tt te tS o=some (v,c)) (hc:c):∃ d,af P ty aI call yf (iB env) o S aB=some (d,S)∧RT ι S v d:=by
 have hb:∀ {y:Option Operand} {b:Option Int},Af te y=some b→(y=none∧b=none)∨∃ z n,y=some z∧b=some n∧intOf (iB env) z=some n:=by
  intro y b hy
  cases y with
  | none=>cases hy; exact .inl ⟨rfl,rfl⟩
  | some z =>
   simp only[Af,ah] at hy
   obtain⟨n,h1,rfl⟩:=hy
   exact .inr ⟨z,n,rfl,rfl,oc hE h1⟩
 simp only[bL,ho] at h
 split at h
 ·rename_i e s kF agg sz z0 k l ap lo' EU mx' h1 h2 h3 h4 h5
  split at h
  ·rename_i hs
   simp only[dX] at hs
   simp only[ah] at h2
   obtain⟨u,h6,h7⟩:=h2
   obtain⟨d,k1,k2⟩:=bt hE h6
   have k3:=cE (tt:=tt) (t:=t) k2
   rw[h7] at k3
   cases d<;>simp only[RT] at k3
   rename_i rows tok f
   obtain⟨k3,k4⟩:=k3
   have hlen:=kz k3
   have eL:(rows.all fun r=>decide (r.cells.length=s))=true:=bh.2 fun r hr=>fM ((iQ k3 r hr).trans hs)
   simp only[az] at h
   rcases hb h3 with ⟨rfl,rfl⟩ | ⟨zl,nl,rfl,rfl,el⟩<;>rcases hb h4 with ⟨rfl,rfl⟩ | ⟨zh,nh,rfl,rfl,eh⟩<;>rcases hb h5 with ⟨rfl,rfl⟩ | ⟨zm,nm,rfl,rfl,em⟩ <;>
    simp only[O6,ax] at h<;>obtain⟨rfl,rfl⟩:=h
   ·exact⟨_,by simp only[af,ho,h1,k1,eL,gz,jD,pL,if_true,fD,aD,if_false,Option.isNone,Option.isSome,mI,Option.map_none,Option.map_some]; rfl,by simp only[RT,s4,and_true,lq,dc]; exact k3⟩
   ·exact hc.elim
   ·have a1:0≤nh∧nh.toNat≤rows.length:=⟨hc.1,by rw[hlen]; omega⟩
    exact⟨_,by simp only[af,ho,h1,k1,eL,gz,eh,a1,jD,pL,if_true,fD,aD,if_false,Option.isNone,Option.isSome,mI,Option.map_none,Option.map_some,and_self]; rfl,by simp only[RT,s4,and_true,lq]; exact o8 _ k3⟩
   ·obtain⟨b1,rfl,b2⟩:=hc
    have a1:0≤nh∧nh.toNat≤rows.length:=⟨b1,by rw[hlen]; omega⟩
    exact⟨_,by simp only[af,ho,h1,k1,eL,gz,eh,em,a1,jD,pL,if_true,fD,aD,if_false,Option.isNone,Option.isSome,Bool.and_true,Option.map_some,and_self,ai]; rfl,by simp only[RT,s4,and_true,lq,beq_self_eq_true]; exact o8 _ k3⟩
   ·have a1:0≤nl∧nl.toNat≤rows.length:=⟨hc.1,by rw[hlen]; omega⟩
    exact⟨_,by simp only[af,ho,h1,k1,eL,gz,el,a1,pL,if_true,fD,aD,if_false,Option.isNone,Option.isSome,mI,Option.map_none,Option.map_some,and_self]; rfl,by simp only[RT,s4,and_true,dc]; exact sC _ k3⟩
   ·exact hc.elim
   ·have a1:0≤nh∧nh.toNat≤rows.length:=⟨by omega,by rw[hlen]; omega⟩
    have a2:0≤nl∧nl.toNat≤nh.toNat:=⟨hc.1,by omega⟩
    exact⟨_,by simp only[af,ho,h1,k1,eL,gz,eh,el,a1,a2,pL,if_true,fD,aD,if_false,Option.isNone,Option.isSome,mI,Option.map_none,Option.map_some,and_self]; rfl,by simp only[RT,s4,and_true]; exact sC _ (o8 _ k3)⟩
   ·obtain⟨b0,b1,rfl,b2⟩:=hc
    have a1:0≤nh∧nh.toNat≤rows.length:=⟨by omega,by rw[hlen]; omega⟩
    have a2:0≤nl∧nl.toNat≤nh.toNat:=⟨b0,by omega⟩
    exact⟨_,by simp only[af,ho,h1,k1,eL,gz,eh,el,em,a1,a2,pL,if_true,fD,aD,if_false,Option.isNone,Option.isSome,Bool.and_true,Option.map_some,and_self,ai]; rfl,by simp only[RT,s4,and_true,beq_self_eq_true]; exact sC _ (o8 _ k3)⟩
  ·cases h
 ·cases h
theorem F8 (hE:dg ι S te env) (hP:Iz ι S tS) (h:bL P ty tt te tS o=some (v,c)) (hc:c):∃ d,af P ty aI call yf (iB env) o S aB=some (d,S)∧RT ι S v d:=by
 cases ho:o.op with
 | load t a=>exact Uu hE hP ho h
 | buildSlice t n ps=>exact B2 hE ho h
 | slice t x lo hi mx=>exact Qd hE ho h hc
 | move x | assign x =>
  simp only[bL,ho,ah,ax] at h
  obtain⟨u,h1,rfl,-⟩:=h
  obtain⟨d,k1,k2⟩:=bt hE h1
  exact⟨d,by simp only[af,ho,k1,Option.map_some],cE k2⟩
 | pick a b d =>
  simp only[bL,ho] at h
  split at h
  ·rename_i t h1
   simp only[ah,ax] at h
   obtain⟨u,h2,rfl,-⟩:=h
   obtain⟨e,k1,k2⟩:=bt hE h1
   cases e<;>simp only[RT] at k2
   subst k2
   obtain⟨e,k3,k4⟩:=QH (fun v h=>bt hE h) (fun v h=>bt hE h) h2
   exact⟨e,by simp only[af,ho,k1,k3,Option.map_some],k4⟩
  ·cases h
 | build t ps =>
  simp only[bL,ho] at h
  split at h
  ·rename_i fs sz z l h1 h2
   simp only[ah,ax] at h
   obtain⟨cs,h3,rfl,-⟩:=h
   obtain⟨ds,k1,k2⟩:=pn hE h2
   obtain⟨r,k3,k4⟩:=AL k2 (rV _) h3
   exact⟨.agg r,by simp only[af,ho,h1,k1,k3,Option.map_some],by simp only[RT]; exact k4⟩
  ·rename_i n s agg sz z l h1 h2
   simp only[ah,ax] at h
   obtain⟨cs,h3,rfl,-⟩:=h
   obtain⟨ds,k1,k2⟩:=pn hE h2
   obtain⟨r,k3,k4⟩:=AL k2 (rV _) h3
   exact⟨.agg r,by simp only[af,ho,h1,k1,k3,Option.map_some],by simp only[RT]; exact k4⟩
  ·cases h
 | nilCheck x =>
  simp only[bL,ho] at h
  split at h
  ·rename_i id off h1
   cases h
   obtain⟨d,k1,k2⟩:=bt hE h1
   cases d<;>simp only[RT] at k2
   exact⟨_,by simp only[af,ho,k1]; rfl,by simp only[RT]; exact k2⟩
  ·cases h
 | binOp op t x y u =>
  simp only[bL,ho] at h
  split at h
  ·rename_i a b h1 h2
   simp only[ah,ax] at h
   obtain⟨w,h3,rfl,-⟩:=h
   obtain⟨d,k1,k2⟩:=rT (ι:=ι) (S:=S) h3
   exact⟨d,by simp only[af,ho,ff hE h1,ff hE h2,k1,Option.map_some],k2⟩
  ·cases h
 | unOp op t x =>
  simp only[bL,ho] at h
  split at h
  ·rename_i a h1
   simp only[ah,ax] at h
   obtain⟨w,h3,rfl,-⟩:=h
   obtain⟨d,k1,k2⟩:=rT (ι:=ι) (S:=S) h3
   exact⟨d,by simp only[af,ho,ff hE h1,k1,Option.map_some],k2⟩
  ·cases h
 | convert s t x =>
  simp only[bL,ho] at h
  split at h
  ·rename_i a h1
   simp only[ah,ax] at h
   obtain⟨w,h3,rfl,-⟩:=h
   obtain⟨d,k1,k2⟩:=rT (ι:=ι) (S:=S) h3
   exact⟨d,by simp only[af,ho,ff hE h1,k1,Option.map_some],k2⟩
  ·cases h
 | makeFunc f fs cs =>
  cases f with
  | func f =>
   simp only[bL,ho] at h
   split at h
   ·rename_i a b h1 h2
    cases h
    obtain⟨d,k1,k2⟩:=rZ hE h1
    obtain⟨e,k3,k4⟩:=rZ hE h2
    exact⟨_,by simp only[af,ho,k1,k3]; rfl,by simp only[RT]; exact⟨trivial,k2,k4⟩⟩
   ·cases h
  | _=>simp only[bL,ho] at h; cases h
 | fieldAddr t x f =>
  simp only[bL,ho] at h
  split at h
  ·rename_i fs sz z id off h1 h2
   split at h
   ·rename_i oo s ag h3
    split at h
    ·rename_i h4
     cases h
     obtain⟨d,k1,k2⟩:=bt hE h2
     cases d<;>simp only[RT] at k2
     obtain⟨k3,rfl⟩:=k2
     exact⟨_,by simp only[af,ho,h1,k1,h3,h4,if_true]; rfl,by simp only[RT]; exact⟨k3,trivial⟩⟩
    ·cases h
   ·cases h
  ·rename_i fs sz z k l i off h1 h2
   split at h
   ·rename_i oo s ag h3
    split at h
    ·rename_i h4
     cases h
     obtain⟨d,k1,k2⟩:=bt hE h2
     cases d<;>simp only[RT] at k2
     obtain⟨k3,rfl,rfl,k4⟩:=k2
     exact⟨_,by simp only[af,ho,h1,k1,h3,h4,if_true]; rfl,by simp only[RT]; exact⟨k3,trivial,trivial,k4⟩⟩
    ·cases h
   ·cases h
  ·cases h
 | field t x f =>
  simp only[bL,ho] at h
  split at h
  ·rename_i fs sz z l h1 h2
   split at h
   ·rename_i off s ag h3
    simp only[ah,ax] at h
    obtain⟨w,h4,rfl,-⟩:=h
    obtain⟨d,k1,k2⟩:=bt hE h2
    cases d<;>simp only[RT] at k2
    obtain⟨r,k3,k4⟩:=oZ k2 h4
    exact⟨r,by simp only[af,ho,h1,k1,h3,k3,Option.map_some],k4⟩
   ·cases h
  ·cases h
 | indexAddr t x i =>
  simp only[bL,ho] at h
  split at h
  ·rename_i e s kF ag sz z k l ap n h1 h2 h3
   split at h
   ·rename_i hs
    simp only[dX] at hs
    cases h
    simp only[ah] at h2
    obtain⟨u,h6,h7⟩:=h2
    obtain⟨d,k1,k2⟩:=bt hE h6
    have k3:=cE (tt:=tt) (t:=t) k2
    rw[h7] at k3
    cases d<;>simp only[RT] at k3
    obtain⟨k3,-⟩:=k3
    have hlt:n.toNat<l.length:=by omega
    obtain⟨r,m1,m2,-⟩:=Au k3 (bK hlt)
    exact⟨_,by simp only[af,ho,h1,k1,oc hE h3,hc.1,if_true,m1,(lT m2).trans hs]; rfl,by simp only[RT]; exact⟨k3,trivial,trivial,hlt⟩⟩
   ·cases h
  ·rename_i k s ag sz z id off n h1 h2 h3
   split at h
   ·rename_i h4
    cases h
    simp only[ah] at h2
    obtain⟨u,h6,h7⟩:=h2
    obtain⟨d,k1,k2⟩:=bt hE h6
    have k3:=cE (tt:=tt) (t:=t) k2
    rw[h7] at k3
    cases d<;>simp only[RT] at k3
    obtain⟨k5,rfl⟩:=k3
    exact⟨_,by simp only[af,ho,h1,k1,oc hE h3,h4,and_self,if_true]; rfl,by simp only[RT]; exact⟨k5,trivial⟩⟩
   ·cases h
  ·rename_i k s ag sz z e l j off n h1 h2 h3
   split at h
   ·rename_i h4
    cases h
    simp only[ah] at h2
    obtain⟨u,h6,h7⟩:=h2
    obtain⟨d,k1,k2⟩:=bt hE h6
    have k3:=cE (tt:=tt) (t:=t) k2
    rw[h7] at k3
    cases d<;>simp only[RT] at k3
    obtain⟨k5,rfl,rfl,k6⟩:=k3
    exact⟨_,by simp only[af,ho,h1,k1,oc hE h3,h4,and_self,if_true]; rfl,by simp only[RT]; exact⟨k5,trivial,trivial,k6⟩⟩
   ·cases h
  ·cases h
 | index t x i =>
  simp only[bL,ho] at h
  split at h
  ·rename_i k s ag sz z l n h1 h2 h3
   split at h
   ·rename_i h5
    simp only[ah,ax] at h
    obtain⟨w,h4,rfl,-⟩:=h
    obtain⟨d,k1,k2⟩:=bt hE h2
    cases d<;>simp only[RT] at k2
    obtain⟨r,k3,k4⟩:=oZ k2 h4
    exact⟨r,by simp only[af,ho,h1,k1,oc hE h3,h5,and_self,if_true,k3,Option.map_some],k4⟩
   ·cases h
  ·cases h
 | extract t i =>
  simp only[bL,ho] at h
  split at h
  ·rename_i l h1
   simp only[ah,ax] at h
   obtain⟨w,h4,rfl,-⟩:=h
   obtain⟨d,k1,k2⟩:=bt hE h1
   cases d<;>simp only[RT] at k2
   obtain⟨r,k3,k4⟩:=rW k2 h4
   exact⟨r,by simp only[af,ho,k1,k3,Option.map_some],cE k4⟩
  ·cases h
 | call cl =>
  obtain⟨callee,args,argTypes⟩:=cl
  cases callee with
  | builtin b =>
   simp only[bL,ho] at h
   split at h
   ·rename_i x t ha ht
    split at h
    ·rename_i e s kF ag sz z k l ap h1 h2
     cases h
     simp only[ah] at h2
     obtain⟨u,h6,h7⟩:=h2
     obtain⟨d,k1,k2⟩:=bt hE h6
     have k3:=cE (tt:=tt) (t:=t) k2
     rw[h7] at k3
     cases d<;>simp only[RT] at k3
     exact⟨_,by simp only[af,ho,ha,ht,h1,k1]; rfl,by simp only[RT]; rw[kz k3.1]⟩
    ·rename_i n s ag sz z h1
     cases h
     exact⟨_,by simp only[af,ho,ha,ht,h1]; rfl,by simp only[RT]⟩
    ·rename_i w h2 hn2
     simp only[ah,ax] at h h2
     obtain⟨r,h4,rfl,-⟩:=h
     obtain⟨u,h6,h7⟩:=h2
     obtain⟨d,k1,k2⟩:=bt hE h6
     have k3:=cE (tt:=tt) (t:=t) k2
     rw[h7] at k3
     cases d<;>simp only[RT] at k3
     subst k3
     obtain⟨d,k5,k6⟩:=rT (ι:=ι) (S:=S) h4
     exact⟨d,by simp only[af,ho,ha,ht,k1,k5,Option.map_some],k6⟩
    ·cases h
   ·split at h
    ·rename_i vs h1
     simp only[ah,ax] at h
     obtain⟨r,h4,rfl,-⟩:=h
     simp only[ko] at h1
     obtain⟨us,h5,h6⟩:=h1
     obtain⟨ds,k1,k2⟩:=rZ hE h5
     obtain⟨d,k5,k6⟩:=rT (ι:=ι) (S:=S) h4
     exact⟨d,by simp only[af,ho,k1,Option.bind_some,uc k2 h6,k5,Option.map_some],k6⟩
    ·cases h
   ·split at h
    ·rename_i vs h1
     simp only[ah,ax] at h
     obtain⟨r,h4,rfl,-⟩:=h
     simp only[ko] at h1
     obtain⟨us,h5,h6⟩:=h1
     obtain⟨ds,k1,k2⟩:=rZ hE h5
     obtain⟨d,k5,k6⟩:=rT (ι:=ι) (S:=S) h4
     exact⟨d,by simp only[af,ho,k1,Option.bind_some,uc k2 h6,k5,Option.map_some],k6⟩
    ·cases h
   ·cases h
  | _=>simp only[bL,ho] at h; cases h
 | _=>simp only[bL,ho] at h; cases h
end Go.Tv
end
section
namespace Go.Tv
open Go Go.Di
mutual
def Hw (g:Nat):TV→TV
 | .sl t l (.nQ k)=>if k=g then .sl t l .no else .sl t l (.nQ k)
 | .ptr id off=>if id=g then .unk else .ptr id off
 | .mp id=>if id=g then .unk else .mp id
 | .so id t=>if id=g then .unk else .so id t
 | .sp id t i off=>if id=g then .unk else .sp id t i off
 | .agg l => .agg (uR g l)
 | .gI l => .gI (uR g l)
 | .fn f a b => .fn f (uR g a) (uR g b)
 | v=>v
def uR (g:Nat):List TV→List TV
 | []=>[]
 | a::l=>Hw g a::uR g l
end
def qC (g:Nat):TB→TB
 | .cells l => .cells (uR g l)
 | b=>b
def qI (tS:List TB) (i:Nat) (b:TB):List TB:=if i<tS.length then tS.set i b else tS++[b]
def aaf:TV→Bool
 | .val v => !(v matches .tuple _)
 | .unk | .agg _ | .gI _=>false
 | _=>true
def Pw {α β:Type} (l:List α) (m:List β):Bool :=
 match l with
 | []=>true
 | _::_=>match m with
  | []=>false
  | _::_=>true
structure TR where
 v:TV
 te:List TV
 tS:List TB
 DC:List Nat
 c:Prop
section
variable (P:Program) (ty:gF) (tt:TypeId→Option TT)
def tU (te:List TV) (o:Oper):List Nat :=
 match o.op with
 | .load _ a=>match gE te a with
  | some (.ptr id _)=>[id]
  | _=>[]
 | _=>[]
def stepT (te:List TV) (tS:List TB) (o:Oper) (nT:Nat):Option TR :=
 match o.op with
 | .alloc e=>match ty e with
  | some ⟨_,_,some z⟩=>some ⟨.ptr nT 0,te,qI tS nT (.cells (z.map uV)),[nT],True⟩
  | _=>none
 | .box _ x=>match gE te x with
  | some d=>if d.known then some ⟨.ptr nT 0,te,qI tS nT (.cells d.cells),[nT],True⟩ else none
  | none=>none
 | .store t a x=>match ty t,gE te a,(gE te x).map (jo tt t) with
  | some d,some (.ptr id off),some v=>match tS[id]? with
   | some (.cells l)=>if v.known&&v.cells.length==d.size&&v.cells.all aaf then (NU l off v.cells).map fun l'=>⟨.unk,te,tS.set id (.cells l'),[id],True⟩ else none
   | _=>none
  | _,_,_=>none
 | .call { callee := .builtin .append,args,argTypes }=>match args.toList,argTypes.toList with
  | [x,y],[t,u]=>if t=u∧ty.h o≠1 then match ty t,(gE te x).map (jo tt t),(gE te y).map (jo tt t) with
   | some ⟨.slice e s kF _,_,_⟩,some (.sl k l ap),some (.sl k' m _)=>match ty e with
    | some ⟨_,_,some _⟩=>if h:k'=k then
     if decide (0<s)&&decide (kF≤100000)&&k.size==s then match ap with
      | .no=>none
      | .full=>if Pw l m then some ⟨.sl k (l++(h▸m)) (.nQ nT),te,qI tS nT (.own e s),[nT],l.length+m.length≤1000000000⟩ else none
      | .nQ g=>match tS[g]? with
       | some (.own e' s')=>if e'==e&&s'==s then some ⟨.sl k (l++(h▸m)) (.nQ g),uR g te,tS.map (qC g),[g,nT],l.length+m.length≤1000000000⟩ else none
       | _=>none
     else none
     else none
    | _=>none
   | _,_,_=>none
   else none
  | _,_=>none
 | _=>(bL P ty tt te tS o).map fun r=>⟨r.1,te,tS,tU te o,r.2⟩
end
def gu (ρ:Operand→Option DV) (o:Oper) (aB:Nat):List Nat :=
 match o.op with
 | .alloc _ | .box .. => [aB]
 | .store _ a _=>match ρ a with
  | some (.ptr id _)=>[id]
  | _=>[]
 | .load _ a=>match ρ a with
  | some (.ptr id _)=>[id]
  | some (.fW id _ _)=>[id]
  | _=>[]
 | .call { callee := .builtin .append,args,.. }=>match (args[0]?).bind ρ with
  | some (.sl _ (some t) _)=>[t,aB]
  | _=>[aB]
 | _=>[]
def Cb:(t:TT)→t.den→List Value
 | .int k,n=>[.int k n]
 | .bool,b=>[.bool b]
 | .str,s=>[.string s]
 | .unit,_=>[]
 | .pair a b,x=>Cb a x.1++Cb b x.2
 | .sl _,_=>[]
def Fg (t:TT) (x:t.den):Value := .agg (Cb t x).toArray
def yG (t:TT) (l:List t.den):List (Value×Value):=l.map fun x=>(Fg t x,.bool true)
def eP (t:TT):List t.den→List DV→Prop
 | [],ds=>ds=[]
 | x::l,ds=>∃ c m,ds=c++m∧CR t x c∧eP t l m
def XQ:TB→Option DB→Prop
 | .map kt l,b=>b=some (.map (yG kt l))
 | .rows t e l z,b=>0<t.size∧(t.agg||t.size==1)=true∧∃ ds,b=some (.op e t.size ds z)∧eP t l ds
 | _,_=>True
structure cM (ι:lW) (te:List TV) (tS:List TB) (env:List DV) (S:av):Prop where
 env:dg ι S te env
 cells:Iz ι S tS
 own:∀ k e s,tS[k]? = some (.own e s)→∀ t,ι k=some t→∃ n,S[t]? = some (.tail e s n)
 xH:∀ k k',ι k=some k'→∃ b,tS[k]? = some b∧b ≠ .none
 inj:∀ i j k',ι i=some k'→ι j=some k'→i=j
 mp:∀ k b,tS[k]? = some b→∀ t,ι k=some t→XQ b S[t]?
def RZ (ι:lW) (w:lW):Prop:=∀ k k',ι k=some k'→w k'=some k
section
variable {P:Program} {ty:gF} {tt:TypeId→Option TT} {ι ι' w:lW} {S S':av} {te:List TV} {env:List DV} {tS:List TB} {aI:bP} {call:bM} {yf:eW} {o:Oper} {aB nT:Nat} {r:TR}
def Iy (a b:Option DB):Prop:=(∀ e s n,a=some (.tail e s n)→b=some (.tail e s n))∧∀ e s l z,a=some (.op e s l z)→∃ l' z',b=some (.op e s l' z')∧l'.length=l.length
theorem fH {a b:Option DB} (h:b=a):Iy a b:=by subst h; exact⟨fun _ _ _ h=>h,fun _ _ l z h=>⟨l,z,h,rfl⟩⟩
theorem y9 {a b:Option DB} (h1:∀ e s n,a≠some (.tail e s n)) (h2:∀ e s l z,a≠some (.op e s l z)):Iy a b:=⟨fun _ _ _ h=>absurd h (h1 _ _ _),fun _ _ _ _ h=>absurd h (h2 _ _ _ _)⟩
def lH (ι:lW) (S:av) (ι':lW) (S':av) (bad:Nat→Prop):Prop:=∀ k k',¬ bad k→ι k=some k'→ι' k=some k'∧Iy S[k']? S'[k']?
theorem K7 {n:Nat} {tok:Option Nat} {f:SF} {ap:Ap} {bad:Nat→Prop} (h:lH ι S ι' S' bad) (hb:∀ g,ap = .nQ g→¬ bad g) (k:s4 ι S n tok f ap):s4 ι' S' n tok f ap:=by
 cases ap with
 | no=>trivial
 | full=>exact k
 | nQ g =>
  refine k.imp id fun⟨t,e,s,h1,h2,h3⟩ => ?_
  obtain⟨h4,h5⟩:=h g t (hb g rfl) h1
  exact⟨t,e,s,h4,h2,h5.1 _ _ _ h3⟩
mutual
theorem TW (h:lH ι S ι' S' fun _=>False):∀ (v:TV) (d:DV),RT ι S v d→RT ι' S' v d
 | .unk,_,_=>by simp only[RT]
 | .val _,d,k=>by cases d<;>simp only[RT] at k ⊢; exact k
 | .gZ,d,k=>by cases d<;>simp only[RT] at k ⊢; exact k
 | .agg l,d,k=>by cases d<;>simp only[RT] at k ⊢; exact bW h l _ k
 | .gI l,d,k=>by cases d<;>simp only[RT] at k ⊢; exact bW h l _ k
 | .sl t l ap,d,k=>by cases d<;>simp only[RT] at k ⊢; exact⟨k.1,K7 h (fun _ _=>id) k.2⟩
 | .ptr id off,d,k=>by cases d<;>simp only[RT] at k ⊢; exact⟨(h _ _ (fun e=>e) k.1).1,k.2⟩
 | .eS t l i off,d,k=>by cases d<;>simp only[RT] at k ⊢; exact k
 | .mp id,d,k=>by cases d<;>simp only[RT] at k ⊢; exact(h _ _ (fun e=>e) k).1
 | .so g t,d,k=>by
  cases d<;>simp only[RT] at k ⊢
  obtain⟨k1,k2,e,s,l,z,k3,k4⟩:=k
  obtain⟨h1,h2⟩:=h _ _ (fun e=>e) k1
  obtain⟨l',z',h3,h4⟩:=h2.2 e s l z k3
  exact⟨h1,k2,e,s,l',z',h3,by omega⟩
 | .sp g t i off,d,k=>by
  cases d<;>simp only[RT] at k ⊢
  obtain⟨k1,k2,e,s,l,z,k3,k4,k5⟩:=k
  obtain⟨h1,h2⟩:=h _ _ (fun e=>e) k1
  obtain⟨l',z',h3,h4⟩:=h2.2 e s l z k3
  exact⟨h1,k2,e,s,l',z',h3,by omega,by omega⟩
 | .fn f a b,d,k=>by cases d<;>simp only[RT] at k ⊢; exact⟨k.1,bW h a _ k.2.1,bW h b _ k.2.2⟩
theorem bW (h:lH ι S ι' S' fun _=>False):∀ (l:List TV) (m:List DV),dg ι S l m→dg ι' S' l m
 | [],m,k=>by rw[aW k]; exact cz
 | a::l,m,k=>by
  obtain⟨d,m',rfl,h1,h2⟩:=ak k
  exact aY (TW h a d h1) (bW h l m' h2)
end
mutual
theorem Yz {g:Nat} (h:lH ι S ι' S' fun k=>k=g):∀ (v:TV) (d:DV),RT ι S v d→RT ι' S' (Hw g v) d
 | .unk,_,_=>by simp only[Hw,RT]
 | .val _,d,k=>by cases d<;>simp only[RT,Hw] at k ⊢; exact k
 | .gZ,d,k=>by cases d<;>simp only[RT,Hw] at k ⊢; exact k
 | .agg l,d,k=>by cases d<;>simp only[RT,Hw] at k ⊢; exact mw h l _ k
 | .gI l,d,k=>by cases d<;>simp only[RT,Hw] at k ⊢; exact mw h l _ k
 | .sl t l .no,d,k=>by cases d<;>simp only[RT,Hw] at k ⊢; exact⟨k.1,trivial⟩
 | .sl t l .full,d,k=>by cases d<;>simp only[RT,Hw] at k ⊢; exact k
 | .sl t l (.nQ j),d,k=>by
  cases d<;>simp only[RT] at k
  simp only[Hw]
  split
  ·simp only[RT]; exact⟨k.1,trivial⟩
  ·rename_i hj
   simp only[RT]; exact⟨k.1,K7 h (fun g' e=>by cases e; exact hj) k.2⟩
 | .ptr id off,d,k=>by
  cases d<;>simp only[RT] at k
  simp only[Hw]
  split
  ·simp only[RT]
  ·rename_i hj
   simp only[RT]; exact⟨(h _ _ hj k.1).1,k.2⟩
 | .eS t l i off,d,k=>by cases d<;>simp only[RT,Hw] at k ⊢; exact k
 | .mp id,d,k=>by
  cases d<;>simp only[RT] at k
  simp only[Hw]
  split
  ·simp only[RT]
  ·rename_i hj
   simp only[RT]; exact(h _ _ hj k).1
 | .so j t,d,k=>by
  cases d<;>simp only[RT] at k
  simp only[Hw]
  split
  ·simp only[RT]
  ·rename_i hj
   simp only[RT]
   obtain⟨k1,k2,e,s,l,z,k3,k4⟩:=k
   obtain⟨h1,h2⟩:=h _ _ hj k1
   obtain⟨l',z',h3,h4⟩:=h2.2 e s l z k3
   exact⟨h1,k2,e,s,l',z',h3,by omega⟩
 | .sp j t i off,d,k=>by
  cases d<;>simp only[RT] at k
  simp only[Hw]
  split
  ·simp only[RT]
  ·rename_i hj
   simp only[RT]
   obtain⟨k1,k2,e,s,l,z,k3,k4,k5⟩:=k
   obtain⟨h1,h2⟩:=h _ _ hj k1
   obtain⟨l',z',h3,h4⟩:=h2.2 e s l z k3
   exact⟨h1,k2,e,s,l',z',h3,by omega,by omega⟩
 | .fn f a b,d,k=>by cases d<;>simp only[RT,Hw] at k ⊢; exact⟨k.1,mw h a _ k.2.1,mw h b _ k.2.2⟩
theorem mw {g:Nat} (h:lH ι S ι' S' fun k=>k=g):∀ (l:List TV) (m:List DV),dg ι S l m→dg ι' S' (uR g l) m
 | [],m,k=>by rw[aW k]; simp only[uR]; exact cz
 | a::l,m,k=>by
  obtain⟨d,m',rfl,h1,h2⟩:=ak k
  simp only[uR]
  exact aY (Yz h a d h1) (mw h l m' h2)
end
def wF (tS:List TB) (nT:Nat):Prop:=tS[nT]? = some .none∨nT=tS.length
def wG (S:av) (aB:Nat):Prop:=S[aB]? = some .none∨aB=S.length
theorem cC {b:TB} (h:wF tS nT) (j:Nat):(qI tS nT b)[j]? = if j=nT then some b else tS[j]? := by
 unfold qI
 rcases h with h | h
 ·have hlt:=(aJ.1 h).1
  rw[if_pos hlt,aP]
  by_cases e:nT=j
  ·subst e; rw[if_pos rfl,if_pos hlt,if_pos rfl]
  ·rw[if_neg e,if_neg (Ne.symm e)]
 ·subst h
  rw[if_neg (Nat.lt_irrefl _),pX]
  by_cases e:j=tS.length
  ·subst e; rw[if_neg (Nat.lt_irrefl _),if_pos rfl]; simp
  ·rw[if_neg e]
   split
   ·rfl
   ·rw[fE (by simp; omega),fE (by omega)]
theorem bn {b:DB} (h:wG S aB) (j:Nat):(ez S aB b)[j]? = if j=aB then some b else S[j]? := by
 unfold ez
 rcases h with h | h
 ·have hlt:=(aJ.1 h).1
  rw[if_pos hlt,aP]
  by_cases e:aB=j
  ·subst e; rw[if_pos rfl,if_pos hlt,if_pos rfl]
  ·rw[if_neg e,if_neg (Ne.symm e)]
 ·subst h
  rw[if_neg (Nat.lt_irrefl _),pX]
  by_cases e:j=S.length
  ·subst e; rw[if_neg (Nat.lt_irrefl _),if_pos rfl]; simp
  ·rw[if_neg e]
   split
   ·rfl
   ·rw[fE (by simp; omega),fE (by omega)]
def upd (ι:lW) (k k':Nat):lW:=fun j=>if j=k then some k' else ι j
theorem cM.live (h:cM ι te tS env S) {k k':Nat} (hk:ι k=some k'):∃ b,S[k']? = some b∧b ≠ .none:=by
 obtain⟨b,h1,h2⟩:=h.xH k k' hk
 cases b with
 | none=>exact(h2 rfl).elim
 | cells l =>
  obtain⟨k'',ds,h3,h4,-⟩:=h.cells k l h1
  rw[hk] at h3
  cases h3
  exact⟨_,h4,fun e=>by cases e⟩
 | own e s =>
  obtain⟨n,h3⟩:=h.own k e s h1 k' hk
  exact⟨_,h3,fun e=>by cases e⟩
 | map kt l=>exact⟨_,h.mp k _ h1 k' hk,fun e=>by cases e⟩
 | rows t e l z =>
  obtain⟨-,-,ds,h3,-⟩:=h.mp k _ h1 k' hk
  exact⟨_,h3,fun e=>by cases e⟩
theorem cM.dn (h:cM ι te tS env S) (hn:wG S aB) {k k':Nat} (hk:ι k=some k'):k'≠aB:=by
 rintro rfl
 obtain⟨b,h1,h2⟩:=h.live hk
 rcases hn with hn | hn
 ·rw[hn] at h1; cases h1; exact h2 rfl
 ·have:=(aJ.1 h1).1; omega
theorem cM.new (h:cM ι te tS env S) (hn:wF tS nT):ι nT=none:=by
 cases hk:ι nT with
 | none=>rfl
 | some k' =>
  obtain⟨b,h1,h2⟩:=h.xH _ _ hk
  rcases hn with hn | hn
  ·rw[hn] at h1; cases h1; exact(h2 rfl).elim
  ·have:=(aJ.1 h1).1; omega
theorem sE (h:cM ι te tS env S) (hT:wF tS nT) (hn:wG S aB) (b:DB):lH ι S (upd ι nT aB) (ez S aB b) fun _=>False:=by
 intro k k' _ hk
 have h1:k≠nT:=by rintro rfl; rw[h.new hT] at hk; cases hk
 exact⟨by simp only[upd,h1,if_false]; exact hk,fH (by rw[bn hn,if_neg (h.dn hn hk)])⟩
theorem pP (h:cM ι te tS env S) (hn:wG S aB) (hT:wF tS nT) (hw:RZ ι w):RZ (upd ι nT aB) (upd w aB nT):=by
 intro k k' hk
 unfold upd at hk ⊢
 split at hk
 ·rename_i e
  subst e
  cases hk
  simp
 ·rw[if_neg (h.dn hn hk)]
  exact hw k k' hk
theorem tC (h:cM ι te tS env S) (hT:wF tS nT) (hn:wG S aB) {ts:List TV} {ds:List DV} (hc:dg ι S ts ds):cM (upd ι nT aB) te (qI tS nT (.cells ts)) env (ez S aB (.cells ds)):=by
 have K:=sE h hT hn (.cells ds)
 refine⟨bW K _ _ h.env,fun k l hk => ?_,fun k e s hk t ht => ?_,fun k k' hk => ?_,fun i j k' hi hj => ?_,fun k b hk t ht => ?_⟩
 ·rw[cC hT] at hk
  split at hk
  ·rename_i e
   subst e
   cases hk
   exact⟨aB,ds,by simp[upd],by rw[bn hn,if_pos rfl],bW K _ _ hc⟩
  ·rename_i e
   obtain⟨k',gW,h1,h2,h3⟩:=h.cells k l hk
   exact⟨k',gW,by simp only[upd,e,if_false]; exact h1,by rw[bn hn,if_neg (h.dn hn h1)]; exact h2,bW K _ _ h3⟩
 ·rw[cC hT] at hk
  split at hk
  ·cases hk
  ·rename_i e'
   simp only[upd,e',if_false] at ht
   obtain⟨n,h1⟩:=h.own k e s hk t ht
   exact⟨n,by rw[bn hn,if_neg (h.dn hn ht)]; exact h1⟩
 ·rw[cC hT]
  split
  ·exact⟨_,rfl,fun e=>by cases e⟩
  ·rename_i e
   simp only[upd,e,if_false] at hk
   exact h.xH k k' hk
 ·unfold upd at hi hj
  split at hi<;>split at hj
  ·omega
  ·cases hi; exact(h.dn hn hj rfl).elim
  ·cases hj; exact(h.dn hn hi rfl).elim
  ·exact h.inj i j k' hi hj
 ·rw[cC hT] at hk
  split at hk
  ·cases hk; trivial
  ·rename_i e'
   simp only[upd,e',if_false] at ht
   rw[bn hn,if_neg (h.dn hn ht)]
   exact h.mp k b hk t ht
def Lv (S:av) (i:Nat):Prop:=∃ b,S[i]? = some b∧b ≠ .none
structure Fr (B:List Nat) (ι:lW) (S:av) (ι':lW) (S':av):Prop where
 rest:∀ k',Lv S k'→(∀ k,ι k≠some k')→S'[k']? = S[k']?
 ours:∀ k k',ι' k=some k'→(∃ j,ι j=some k')∨¬ Lv S k'
 base:∀ k,k∈B→ι' k=ι k
def ow (B:List Nat) (tS:List TB):Prop:=∀ k,k∈B→∃ l,tS[k]? = some (.cells l)
theorem Fr.refl (B:List Nat) (ι:lW) (S:av):Fr B ι S ι S:=⟨fun _ _ _=>rfl,fun k _ h => .inl ⟨k,h⟩,fun _ _=>rfl⟩
theorem Fr.trans {B:List Nat} {ι'':lW} {tI:av} (h:Fr B ι S ι' S') (k:Fr B ι' S' ι'' tI):Fr B ι S ι'' tI where
 rest:=fun k' hl hn=>by
  have h1:=h.rest k' hl hn
  have js:Lv S' k':=by obtain⟨b,h2,h3⟩:=hl; exact⟨b,h1.trans h2,h3⟩
  refine(k.rest k' js fun j hj => ?_).trans h1
  rcases h.ours j k' hj with ⟨i,h2⟩ | h2
  ·exact hn i h2
  ·exact h2 hl
 ours:=fun j k' hj=>by
  rcases k.ours j k' hj with ⟨i,h1⟩ | h1
  ·exact h.ours i k' h1
  ·by_cases hl:Lv S k'
   ·by_cases hn:∃ j,ι j=some k'
    ·exact .inl hn
    ·refine(h1 ?_).elim
     obtain⟨b,h2,h3⟩:=hl
     exact⟨b,(h.rest k' ⟨b,h2,h3⟩ fun i hi=>hn ⟨i,hi⟩).trans h2,h3⟩
   ·exact .inr hl
 base:=fun j hj=>(k.base j hj).trans (h.base j hj)
theorem vY (hn:wG S aB):¬ Lv S aB:=by
 rintro⟨b,h1,h2⟩
 rcases hn with hn | hn
 ·rw[hn] at h1; cases h1; exact h2 rfl
 ·have:=(aJ.1 h1).1; omega
theorem qY {B:List Nat} {g:Nat} {b:DB} (hn:wG S aB) (hg:g ∉ B):Fr B ι S (upd ι g aB) (ez S aB b) where
 rest:=fun k' hl _=>by
  rw[bn hn,if_neg]
  rintro rfl
  exact vY hn hl
 ours:=fun k k' hk=>by
  unfold upd at hk
  split at hk
  ·cases hk; exact .inr (vY hn)
  ·exact .inl ⟨k,hk⟩
 base:=fun k hk=>by unfold upd; rw[if_neg (fun e:k=g=>hg (e▸hk))]
theorem wS {B:List Nat} {k0 id:Nat} {b:DB} (hk:ι k0=some id):Fr B ι S ι (S.set id b) where
 rest:=fun k' _ hn=>by
  rw[aP,if_neg]
  rintro rfl
  exact hn k0 hk
 ours:=fun k _ h => .inl ⟨k,h⟩
 base:=fun _ _=>rfl
theorem mG {B:List Nat} (hB:ow B tS) (hT:wF tS nT):nT ∉ B:=by
 intro hlt
 obtain⟨l,h1⟩:=hB _ hlt
 rcases hT with hT | hT
 ·rw[hT] at h1; cases h1
 ·have:=(aJ.1 h1).1; omega
theorem kB {B:List Nat} {b:TB} (hB:ow B tS) (hT:wF tS nT):ow B (qI tS nT b):=by
 intro k hk
 have:=mG hB hT
 rw[cC hT,if_neg (fun e:k=nT=>this (e▸hk))]
 exact hB k hk
theorem UY {B:List Nat} {g e s:Nat} (hB:ow B tS) (h:tS[g]? = some (.own e s)):g ∉ B:=by
 intro hlt
 obtain⟨l,h1⟩:=hB _ hlt
 rw[h] at h1; cases h1
def Nn (i:Nat) (S S':av):Prop:=S.length≤S'.length∧∀ j,j≠i→S[j]? = some .none→S'[j]? = some .none
theorem fJ (i:Nat) (S:av):Nn i S S:=⟨ai _,fun _ _ h=>h⟩
theorem nZ {b:DB} (hn:wG S aB):Nn aB S (ez S aB b):=by
 refine⟨?_,fun j hj h=>by rw[bn hn,if_neg hj]; exact h⟩
 unfold ez
 split<;>simp
theorem wN {i id:Nat} {b b':DB} (h:S[id]? = some b) (hb:b ≠ .none):Nn i S (S.set id b'):=by
 refine⟨by simp,fun j _ hj => ?_⟩
 rw[aP,if_neg]
 ·exact hj
 ·rintro rfl
  rw[h] at hj
  cases hj
  exact hb rfl
end
end Go.Tv
end
