import Derived.Test.YtedcgbkilmlbhaaGreatPk01
section
namespace Go.Tv
open Go Go.Di
def TV.cells : TV → List TV
 | .agg l => l
 | v => [v]
def TV.known : TV → Bool
 | .unk => false
 | _ => true
def TV.Aa : TV → Bool
 | .unk | .tup _ => false
 | _ => true
def uO : DV → TV
 | .val v => .val v
 | .sl [] none ⟨true, some true⟩ => .gY
 | _ => .unk
def Wz : DV → TV
 | .agg l => .agg (l.map uO)
 | .fn f [] [] => .fn f [] []
 | d => uO d
inductive TB where
 | none
 | cells (l : List TV)
 | own (e s : Nat)
 | map (kt : TT) (l : List kt.den)
 | rows (t : TT) (e : Nat) (l : List t.den) (z : Bool)
instance : Inhabited TB := ⟨.none⟩
section
variable (P : Program) (ty : fI) (tt : TypeId → Option TT)
def gd (te : List TV) : Operand → Option TV
 | .tmp t => some (te.getD t .unk)
 | .const v => (xQ v).map Wz
 | .func f => some (.fn f [] [])
 | .global _ => none
def mG (te : List TV) : List Operand → Option (List TV)
 | [] => some []
 | x :: l => match gd te x, mG te l with
  | some d, some r => some (d :: r)
  | _, _ => none
def wF (te : List TV) : List (Nat × Operand) → Option (List (Nat × TV))
 | [] => some []
 | (i, x) :: l => match gd te x, wF te l with
  | some d, some r => some ((i, d) :: r)
  | _, _ => none
def gF : List TV → Option (List Value)
 | [] => some []
 | .val v :: l => (gF l).map (v :: ·)
 | _ => none
def gn : TV → Option Value
 | .val v => some v
 | .agg l => (gF l).map fun r => .agg r.toArray
 | _ => none
def uY : List TV → Option (List Value)
 | [] => some []
 | d :: l => match gn d, uY l with
  | some v, some r => some (v :: r)
  | _, _ => none
def E2 (te : List TV) (x : Operand) : Option Int :=
 match gd te x with
 | some (.val (.int _ n)) => some n
 | _ => none
def iR (t : TypeId) (v : TV) : TV :=
 match v with
 | .gY => match tt t with
  | some (.sl e) => .sl e [] .full
  | _ => .gY
 | v => v
def Xh (l : List TV) (off n : Nat) : Option (List TV) := if off + n ≤ l.length then some ((l.drop off).take n) else none
def NG (l : List TV) (off : Nat) (cs : List TV) : Option (List TV) := if off + cs.length ≤ l.length then some (l.take off ++ cs ++ l.drop (off + cs.length)) else none
def xO (agg : Bool) (size : Nat) (l : List TV) (off : Nat) : Option TV := if agg then (Xh l off size).map .agg else l[off]?
def Fq (place : Nat → Option (Nat × Nat)) (cs : List TV) : List (Nat × TV) → Option (List TV)
 | [] => some cs
 | (i, v) :: r => match place i with
  | none => none
  | some (off, size) => if v.known && v.cells.length == size then match NG cs off v.cells with
    | some iB => Fq place iB r
    | none => none
   else none
def tq : Option DV → Option TV
 | some (.val v) => some (.val v)
 | _ => none
def z7 (t : TT) (i : Nat) : List (Nat × TV) → Option (List t.den)
 | [] => some []
 | (j, v) :: r => if j == i && v.Aa then match t.of v.cells, z7 t (i + 1) r with
   | some (x, []), some l => some (x :: l)
   | _, _ => none
  else none
def N3 (t : Bool) : Option TV → Option TV → Option TV
 | some (.val (.bool x)), some (.val (.bool y)) => some (.val (.bool (bif t then x else y)))
 | some (.val (.int k x)), some (.val (.int k' y)) => if k' = k then some (.val (.int k (bif t then x else y))) else none
 | a, b => match t with
  | true => a
  | false => b
def Ab (te : List TV) : Option Operand → Option (Option Int)
 | none => some none
 | some x => (E2 te x).map some
def adu (o : Option Int) (dF : Nat) : Prop :=
 match o with
 | none => True
 | some n => 0 ≤ n ∧ n ≤ (dF : Int)
def OK (t : TT) (l : List t.den) (lo hi mx : Option Int) : TV × Prop :=
 match mx with
 | none => match hi with
  | none => match lo with
   | none => (.sl t l .no, True)
   | some a => (.sl t (l.drop a.toNat) .no, 0 ≤ a ∧ a ≤ (l.length : Int))
  | some h => match lo with
   | none => (.sl t (l.take h.toNat) .no, 0 ≤ h ∧ h ≤ (l.length : Int))
   | some a => (.sl t ((l.take h.toNat).drop a.toNat) .no, 0 ≤ a ∧ a ≤ h ∧ h ≤ (l.length : Int))
 | some m => match hi with
  | none => (.unk, False)
  | some h => match lo with
   | none => (.sl t (l.take h.toNat) .full, 0 ≤ h ∧ h = m ∧ h ≤ (l.length : Int))
   | some a => (.sl t ((l.take h.toNat).drop a.toNat) .full, 0 ≤ a ∧ a ≤ h ∧ h = m ∧ h ≤ (l.length : Int))
def bI (te : List TV) (tS : List TB) (o : Oper) : Option (TV × Prop) :=
 match o.op with
 | .move x | .assign x => (gd te x).map fun v => (iR tt o.type v, True)
 | .pick c a b => match gd te c with
  | some (.val (.bool t)) => (N3 t (gd te a) (gd te b)).map (·, True)
  | _ => none
 | .build t ps => match ty t, wF te ps.toList with
  | some ⟨.struct fs, _, some z⟩, some l => (Fq (fun i => (fs[i]?).map fun f => (f.1, f.2.1)) (z.map uO) l).map fun cs => (.agg cs, True)
  | some ⟨.array _ s _, _, some z⟩, some l => (Fq (fun i => some (i * s, s)) (z.map uO) l).map fun cs => (.agg cs, True)
  | _, _ => none
 | .buildSlice t n ps => match ty t, wF te ps.toList, tt t with
  | some ⟨.slice e s _ agg, _, _⟩, some l, some (.sl k) => match ty e with
   | some ⟨_, _, some z⟩ => if decide (0 < s) && decide (n * s ≤ 16777216) && l.length == n && z.length == s && k.size == s && k.agg == agg && (agg || s == 1) && ty.h o != 1 then
     (z7 k 0 l).map fun l => (.sl k l .full, True)
    else none
   | _ => none
  | _, _, _ => none
 | .load t a => match ty t, gd te a with
  | some d, some (.ptr id off) => match tS[id]? with
   | some (.cells l) => (xO d.k.isAgg d.size l off).map fun v => (iR tt t v, True)
   | _ => none
  | some d, some (.ey e l i off) => (xO d.k.isAgg d.size (e.cells (l.getD i e.Wn)) off).map fun v => (iR tt t v, True)
  | _, _ => none
 | .nilCheck x => match gd te x with
  | some (.ptr id off) => some (.ptr id off, True)
  | _ => none
 | .binOp op t x y _ => match (gd te x).bind gn, (gd te y).bind gn with
  | some a, some b => (tq (gZ P (do eqGuard op t x y a b; binOp op t a b))).map (·, True)
  | _, _ => none
 | .unOp op _ x => match (gd te x).bind gn with
  | some a => (tq (gZ P (Op.unary op a))).map (·, True)
  | none => none
 | .convert s d x => match (gd te x).bind gn with
  | some a => (tq (gZ P (Go.convert s d a))).map (·, True)
  | none => none
 | .makeFunc (.func f) fs cs => match mG te fs.toList, mG te cs.toList with
  | some a, some b => some (.fn f a b, True)
  | _, _ => none
 | .slice t x lo hi mx => match ty t, (gd te x).map (iR tt t), Ab te lo, Ab te hi, Ab te mx with
  | some ⟨.slice _ s _ _, _, _⟩, some (.sl k l _), some lo, some hi, some mx => if k.size == s then some (OK k l lo hi mx) else none
  | _, _, _, _, _ => none
 | .fieldAddr t x f => match ty t, gd te x with
  | some ⟨.struct fs, _, _⟩, some (.ptr id off) => match fs[f]? with
   | some (o, s, _) => if 0 < s then some (.ptr id (off + o), True) else none
   | none => none
  | some ⟨.struct fs, _, _⟩, some (.ey k l i off) => match fs[f]? with
   | some (o, s, _) => if 0 < s then some (.ey k l i (off + o), True) else none
   | none => none
  | _, _ => none
 | .field t x f => match ty t, gd te x with
  | some ⟨.struct fs, _, _⟩, some (.agg l) => match fs[f]? with
   | some (off, s, agg) => (xO agg s l off).map (·, True)
   | none => none
  | _, _ => none
 | .indexAddr t x i => match ty t, (gd te x).map (iR tt t), E2 te i with
  | some ⟨.slice _ s _ _, _, _⟩, some (.sl k l _), some n => if k.size == s then some (.ey k l n.toNat 0, 0 ≤ n ∧ n < (l.length : Int)) else none
  | some ⟨.array k s _, _, _⟩, some (.ptr id off), some n => if 0 ≤ n ∧ n.toNat < k then some (.ptr id (off + n.toNat * s), True) else none
  | some ⟨.array k s _, _, _⟩, some (.ey e l j off), some n => if 0 ≤ n ∧ n.toNat < k then some (.ey e l j (off + n.toNat * s), True) else none
  | _, _, _ => none
 | .index t x i => match ty t, gd te x, E2 te i with
  | some ⟨.array k s agg, _, _⟩, some (.agg l), some n => if 0 ≤ n ∧ n.toNat < k then (xO agg s l (n.toNat * s)).map (·, True) else none
  | _, _, _ => none
 | .extract t i => match gd te t with
  | some (.tup l) => (l[i]?).map fun v => (iR tt o.type v, True)
  | _ => none
 | .call { callee := .builtin b, args, argTypes } => match b, args.toList, argTypes.toList with
  | .len, [x], [t] => match ty t, (gd te x).map (iR tt t) with
   | some ⟨.slice _ _ _ _, _, _⟩, some (.sl _ l _) => some (.val (.int .i64 (l.length : Nat)), True)
   | some ⟨.array n _ _, _, _⟩, _ => some (.val (.int .i64 n), True)
   | _, some (.val v) => (tq (gZ P (Builtin.len_ #[t] o.type #[v]))).map (·, True)
   | _, _ => none
  | .min, xs, _ => match (mG te xs).bind uY with
   | some vs => (tq (gZ P (Builtin.min_ argTypes o.type vs.toArray))).map (·, True)
   | none => none
  | .max, xs, _ => match (mG te xs).bind uY with
   | some vs => (tq (gZ P (Builtin.max_ argTypes o.type vs.toArray))).map (·, True)
   | none => none
  | _, _, _ => none
 | _ => none
end
section
variable {P : Program} {ty : fI} {tt : TypeId → Option TT} {ι : lK} {S : ak} {te : List TV} {env : List DV} {tS : List TB}
theorem qU {v : TV} {d : DV} (hk : v.known = true) (h : RT ι S v d) : cQ ι S v.cells d.cells := by
 cases v <;> cases d <;> simp only [RT] at h <;> first | (cases hk; done) | exact h | (refine je ?_; simp only [RT]; exact h)
theorem OM (d : DV) : RT ι S (uO d) d := by
 unfold uO
 split <;> simp [RT]
theorem rL : ∀ l : List DV, cQ ι S (l.map uO) l
 | [] => bS
 | d :: l => aV (OM d) (rL l)
theorem aa0 (d : DV) : RT ι S (Wz d) d := by
 unfold Wz
 split
 ·simp only [RT]; exact rL _
 ·simp only [RT, cQ, and_true]
 ·exact OM _
theorem bg (h : cQ ι S te env) {x : Operand} {v : TV} (hx : gd te x = some v) : ∃ d, gX env x = some d ∧ RT ι S v d := by
 cases x with
 | tmp t => cases hx; exact ⟨_, rfl, Al h t⟩
 | const u =>
  simp only [gd, ah] at hx
  obtain ⟨d, h1, rfl⟩ := hx
  exact ⟨d, h1, aa0 d⟩
 | func f => cases hx; exact ⟨_, rfl, by simp only [RT, cQ, and_true]⟩
 | global g => cases hx
theorem rQ (h : cQ ι S te env) : ∀ {xs : List Operand} {vs : List TV}, mG te xs = some vs → ∃ ds, evs (gX env) xs = some ds ∧ cQ ι S vs ds
 | [], _, hx => by cases hx; exact ⟨[], rfl, bS⟩
 | x :: l, vs, hx => by
  simp only [mG] at hx
  split at hx
  ·rename_i d r h1 h2
   cases hx
   obtain ⟨d', k1, k2⟩ := bg h h1
   obtain ⟨ds, k3, k4⟩ := rQ h h2
   exact ⟨d' :: ds, by simp only [evs, k1, k3], aV k2 k4⟩
  ·cases hx
def Af (ι : lK) (S : ak) : List (Nat × TV) → List (Nat × DV) → Prop
 | [], [] => True
 | (i, v) :: l, (j, d) :: m => (j = i ∧ RT ι S v d) ∧ Af ι S l m
 | _, _ => False
theorem oI (h : cQ ι S te env) : ∀ {xs : List (Nat × Operand)} {vs : List (Nat × TV)}, wF te xs = some vs → ∃ ds, iS (gX env) xs = some ds ∧ Af ι S vs ds
 | [], _, hx => by cases hx; exact ⟨[], rfl, trivial⟩
 | (i, x) :: l, vs, hx => by
  simp only [wF] at hx
  split at hx
  ·rename_i d r h1 h2
   cases hx
   obtain ⟨d', k1, k2⟩ := bg h h1
   obtain ⟨ds, k3, k4⟩ := oI h h2
   exact ⟨(i, d') :: ds, by simp only [iS, k1, k3], ⟨rfl, k2⟩, k4⟩
  ·cases hx
theorem x7 : ∀ {l : List TV} {m : List DV} {vs : List Value}, cQ ι S l m → gF l = some vs → pz m = some vs
 | [], m, vs, h, hx => by rw [aU h]; exact hx
 | a :: l, m, vs, h, hx => by
  obtain ⟨d, m', rfl, h1, h2⟩ := ax h
  unfold gF at hx
  split at hx
  ·rename_i e; cases e
  ·rename_i v l' e
   cases e
   simp only [ah] at hx
   obtain ⟨r, h3, rfl⟩ := hx
   cases d <;> simp only [RT] at h1
   subst h1
   simp only [pz, x7 h2 h3, Option.map_some]
  ·cases hx
theorem Cp {v : TV} {d : DV} {u : Value} (h : RT ι S v d) (hx : gn v = some u) : xK d = some u := by
 unfold gn at hx
 split at hx
 ·cases hx
  cases d <;> simp only [RT] at h
  subst h
  rfl
 ·simp only [ah] at hx
  obtain ⟨r, h1, rfl⟩ := hx
  cases d <;> simp only [RT] at h
  simp only [xK, x7 h h1, Option.map_some]
 ·cases hx
theorem tQ : ∀ {l : List TV} {m : List DV} {vs : List Value}, cQ ι S l m → uY l = some vs → qQ m = some vs
 | [], m, vs, h, hx => by rw [aU h]; exact hx
 | a :: l, m, vs, h, hx => by
  obtain ⟨d, m', rfl, h1, h2⟩ := ax h
  simp only [uY] at hx
  split at hx
  ·rename_i v r e1 e2
   cases hx
   simp only [qQ, Cp h1 e1, tQ h2 e2]
  ·cases hx
theorem eL (h : cQ ι S te env) {x : Operand} {u : Value} (hx : (gd te x).bind gn = some u) : valOf (gX env) x = some u := by
 cases h1 : gd te x with
 | none => rw [h1] at hx; cases hx
 | some v =>
  rw [h1] at hx
  obtain ⟨d, h2, h3⟩ := bg h h1
  simp only [valOf, h2, Option.bind_some]
  exact Cp h3 hx
theorem nD (h : cQ ι S te env) {x : Operand} {n : Int} (hx : E2 te x = some n) : intOf (gX env) x = some n := by
 unfold E2 at hx
 split at hx
 ·rename_i k m h1
  cases hx
  obtain ⟨d, h2, h3⟩ := bg h h1
  cases d <;> simp only [RT] at h3
  subst h3
  simp only [intOf, h2]
 ·cases hx
theorem cq {t : TypeId} {v : TV} {d : DV} (h : RT ι S v d) : RT ι S (iR tt t v) d := by
 unfold iR
 split
 ·split
  ·cases d <;> simp only [RT] at h
   obtain ⟨rfl, rfl, rfl⟩ := h
   simp only [RT, dW, tH, and_self]
  ·exact h
 ·exact h
theorem Uk {l : List TV} {m : List DV} (h : cQ ι S l m) {off n : Nat} {r : List TV} (hx : Xh l off n = some r) : ∃ r', NR m off n = some r' ∧ cQ ι S r r' := by
 unfold Xh at hx
 split at hx
 ·cases hx
  rename_i hle
  exact ⟨_, if_pos (by rw [fM h]; exact hle), Ak _ (Am _ h)⟩
 ·cases hx
theorem D8 {l : List TV} {m : List DV} (h : cQ ι S l m) {cs : List TV} {ds : List DV} (hc : cQ ι S cs ds) {off : Nat} {r : List TV} (hx : NG l off cs = some r) : ∃ r', sK m off ds = some r' ∧ cQ ι S r r' := by
 unfold NG at hx
 split at hx
 ·cases hx
  rename_i hle
  refine ⟨_, if_pos (by rw [fM h, fM hc]; exact hle), ez (ez (Ak _ h) hc) ?_⟩
  rw [fM hc]
  exact Am _ h
 ·cases hx
theorem oA {l : List TV} {m : List DV} (h : cQ ι S l m) {agg : Bool} {size off : Nat} {r : TV} (hx : xO agg size l off = some r) : ∃ r', mJ agg size m off = some r' ∧ RT ι S r r' := by
 unfold xO at hx
 split at hx
 ·rename_i ha
  simp only [ah] at hx
  obtain ⟨r1, h1, rfl⟩ := hx
  obtain ⟨r', h2, h3⟩ := Uk h h1
  exact ⟨.agg r', by simp only [mJ, ha, if_true, h2, Option.map_some], by simp only [RT]; exact h3⟩
 ·rename_i ha
  obtain ⟨d, h1, h2⟩ := lM h hx
  exact ⟨d, by simp only [mJ, ha, h1]; rfl, h2⟩
theorem AJ {place : Nat → Option (Nat × Nat)} : ∀ {ps : List (Nat × TV)} {qs : List (Nat × DV)} {l : List TV} {m : List DV} {r : List TV}, Af ι S ps qs → cQ ι S l m → Fq place l ps = some r → ∃ r', js place m qs = some r' ∧ cQ ι S r r'
 | [], [], l, m, r, _, h, hx => by cases hx; exact ⟨m, rfl, h⟩
 | (i, v) :: ps, (j, d) :: qs, l, m, r, hp, h, hx => by
  obtain ⟨⟨rfl, hv⟩, hp⟩ := hp
  simp only [Fq] at hx
  split at hx
  ·cases hx
  ·rename_i off size xF
   split at hx
   ·rename_i hc
    simp only [aB, cV] at hc
    have nK := qU hc.1 hv
    split at hx
    ·rename_i iB mE
     obtain ⟨m', h1, h2⟩ := D8 h nK mE
     obtain ⟨r', h3, h4⟩ := AJ hp h2 hx
     refine ⟨r', ?_, h4⟩
     simp only [js, xF, fM nK, hc.2, if_true, h1, h3]
    ·cases hx
   ·cases hx
theorem rI {o : Option DV} {v : TV} (h : tq o = some v) : ∃ d, o = some d ∧ RT ι S v d := by
 unfold tq at h
 split at h
 ·cases h; exact ⟨_, rfl, by simp only [RT]⟩
 ·cases h
theorem P5 {t : Bool} {a b : Option TV} {v : TV} {a' b' : Option DV} (ha : ∀ v, a = some v → ∃ d, a' = some d ∧ RT ι S v d) (hb : ∀ v, b = some v → ∃ d, b' = some d ∧ RT ι S v d) (h : N3 t a b = some v) : ∃ d, (if t then a' else b') = some d ∧ RT ι S v d := by
 unfold N3 at h
 split at h
 ·cases h
  obtain ⟨d, h1, h2⟩ := ha _ rfl
  obtain ⟨e, h3, h4⟩ := hb _ rfl
  cases t
  ·exact ⟨e, h3, h4⟩
  ·exact ⟨d, h1, h2⟩
 ·split at h
  ·rename_i hk
   subst hk
   cases h
   obtain ⟨d, h1, h2⟩ := ha _ rfl
   obtain ⟨e, h3, h4⟩ := hb _ rfl
   cases t
   ·exact ⟨e, h3, h4⟩
   ·exact ⟨d, h1, h2⟩
  ·cases h
 ·split at h
  ·exact ha _ h
  ·exact hb _ h
end
end Go.Tv
end
section
namespace Go.Tv
open Go Go.Di
variable {P:Program} {ty:fI} {tt:TypeId→Option TT} {ι:lK} {S:ak} {te:List TV} {env:List DV} {tS:List TB} {aI:bM} {call:bz} {yf:eE} {o:Oper} {ay:Nat} {v:TV} {c:Prop}
def Im (ι:lK) (S:ak) (tS:List TB):Prop:=∀ k l,tS[k]? = some (.cells l)→∃ k' ds,ι k=some k'∧S[k']? = some (.cells ds)∧cQ ι S l ds
theorem TM (hE:cQ ι S te env) (hP:Im ι S tS) {t:TypeId} {a:Operand} (ho:o.op = .load t a) (h:bI P ty tt te tS o=some (v,c)):∃ d,af P ty aI call yf (gX env) o S ay=some (d,S)∧RT ι S v d:=by
 simp only[bI,ho] at h
 split at h
 ·rename_i td id off h1 h2
  split at h
  ·rename_i l h3
   simp only[ah,av] at h
   obtain⟨w,h4,rfl,-⟩:=h
   obtain⟨d,k1,k2⟩:=bg hE h2
   obtain⟨gR,ds,k3,k4,k5⟩:=hP _ _ h3
   cases d<;>simp only[RT] at k2
   obtain⟨k6,rfl⟩:=k2
   rw[k3] at k6
   cases k6
   obtain⟨r,k7,k8⟩:=oA k5 h4
   exact⟨r,by simp only[af,ho,k1,jr,h1,k4,k7,Option.map_some],cq k8⟩
  ·cases h
 ·rename_i td e l i off h1 h2
  simp only[ah,av] at h
  obtain⟨w,h4,rfl,-⟩:=h
  obtain⟨d,k1,k2⟩:=bg hE h2
  cases d<;>simp only[RT] at k2
  obtain⟨k3,rfl,rfl,k4⟩:=k2
  obtain⟨r,m1,m2,-⟩:=Ao k3 (bV k4)
  rename_i j j'
  have hg:l.getD j e.Wn=l[j]:=by simp[aO,k4]
  rw[hg] at h4
  obtain⟨r',m3,m4⟩:=oA (mX (ι:=ι) (S:=S) m2) h4
  exact⟨r',by simp only[af,ho,k1,jr,h1,m1,m3,Option.map_some],cq m4⟩
 ·cases h
def Cm (t:TT):Nat→List (Nat×DV)→List t.den→Prop
 | _,[],[]=>True
 | i,(j,d)::qs,x::l=>(j=i∧CR t x d.strip.cells)∧Cm t (i+1) qs l
 | _,_,_=>False
theorem GF {v:TV} {d:DV} (hk:v.Aa=true) (h:RT ι S v d):d.strip.cells=d.cells.map DV.aL:=by
 cases v<;>cases d<;>simp only[RT] at h<;>first | (cases hk; done) | rfl
theorem Ge {v:TV} (hk:v.Aa=true):v.known=true:=by cases v<;>first | rfl | cases hk
theorem AM {t:TT}:∀ {ps:List (Nat×TV)} {qs:List (Nat×DV)} {i:Nat} {l:List t.den},Af ι S ps qs→z7 t i ps=some l→Cm t i qs l∧l.length=ps.length
 | [],[],i,l,_,h=>by cases h; exact⟨trivial,rfl⟩
 | (j,v)::ps,(j',d)::qs,i,l,hp,h=>by
  obtain⟨⟨rfl,hv⟩,hp⟩:=hp
  simp only[z7] at h
  split at h
  ·rename_i hc
   simp only[aB,cV] at hc
   obtain⟨rfl,hk⟩:=hc
   split at h
   ·rename_i x l' h1 h2
    cases h
    obtain⟨cs,m',e1,e2,e3⟩:=Cb h1 (qU (Ge hk) hv)
    rw[aU e3,gu] at e1
    obtain⟨k1,k2⟩:=AM hp h2
    exact⟨⟨⟨rfl,by rw[GF hk hv,e1]; exact e2⟩,k1⟩,by simp[k2]⟩
   ·cases h
  ·cases h
def ig (qs:List (Nat×DV)):List DV:=qs.flatMap fun q=>q.2.strip.cells
theorem uu {t:TT} {s:Nat} (hs:t.size=s):∀ {qs:List (Nat×DV)} {i:Nat} {l:List t.den} {pre post:List DV},Cm t i qs l→pre.length=i*s→post.length=qs.length*s →
  js (fun i=>some (i*s,s)) (pre++post) (qs.map fun(i,v)=>(i,v.strip))=some (pre++ig qs)
 | [],i,[],pre,post,_,hp,hq=>by
  have:post=[]:=dm (by simpa using hq)
  subst this
  simp[js,ig]
 | (j,d)::qs,i,x::l,pre,post,h,hp,hq=>by
  obtain⟨⟨rfl,hc⟩,h⟩:=h
  have hl:d.strip.cells.length=s:=(lB hc).trans hs
  have Ni:post.length=qs.length*s+s:=by rw[hq,List.length_cons,jg,Nat.one_mul]
  have mE:sK (pre++post) (j*s) d.strip.cells=some ((pre++d.strip.cells)++post.drop s):=by
   unfold sK
   rw[if_pos (by rw[cO,hp,hl]; omega),hl,← hp,List.take_left' rfl,List.drop_append,gz (by omega)]
   simp
  simp only[bD,js,hl,if_true,mE]
  rw[uu hs h (by rw[cO,hp,hl,jg,Nat.one_mul]) (by rw[List.length_drop,Ni]; omega)]
  simp[ig]
theorem row_one {t:TT} {x:t.den} {cs:List DV} (h:CR t x cs) (ha:t.agg=false):CR t x (cs.getD 0 aX).cells∧s6 t.agg (cs.getD 0 aX):=by
 cases t with
 | unit | pair=>cases ha
 | sl t =>
  simp only[CR] at h
  obtain⟨rows,f,rfl,h⟩:=h
  exact⟨by simp only[CR,List.getD_cons_zero,DV.cells]; exact⟨rows,f,rfl,h⟩,by simp[s6,TT.agg]⟩
 | _ =>
  simp only[CR] at h
  subst h
  exact⟨by simp only[CR,List.getD_cons_zero,DV.cells],by simp[s6,TT.agg]⟩
theorem yc {s:Nat} {agg:Bool} {c r:List DV} {n:Nat} (hc:c.length=s):rowsOf s agg (c++r) (n+1)=(if agg then .agg c else (c++r).getD 0 aX)::rowsOf s agg r n:=by
 unfold rowsOf
 rw[List.range_succ_eq_map,bD,List.map_map]
 congr 1
 ·unfold rowOf
  split
  ·rw[Nat.zero_mul,kL,List.take_left' hc]
  ·rw[Nat.zero_mul]
 ·refine List.map_congr_left fun i _ => ?_
  simp only[Function.comp,rowOf,Nat.succ_eq_add_one,jg,Nat.one_mul]
  rw[Nat.add_comm (i*s) s,← hc,List.drop_append,gz (Nat.le_add_right _ _),nG,List.nil_append,aO,aO,fQ (Nat.le_add_right _ _),nG]
theorem A3 {t:TT} {s:Nat} (hs:t.size=s) (h1:t.agg=true∨s=1):∀ {qs:List (Nat×DV)} {i:Nat} {l:List t.den},Cm t i qs l→dW (CR t) t.agg l (rowsOf s t.agg (ig qs) l.length)
 | [],_,[],_=>by simp[rowsOf,dW]
 | (j,d)::qs,i,x::l,h=>by
  obtain⟨⟨rfl,hc⟩,h⟩:=h
  have hl:d.strip.cells.length=s:=(lB hc).trans hs
  have e:ig ((j,d)::qs)=d.strip.cells++ig qs:=by simp[ig]
  rw[e,List.length_cons,yc hl]
  refine⟨?_,A3 hs h1 h⟩
  cases ha:t.agg with
  | true=>exact⟨hc,by simp[s6]⟩
  | false =>
   have:=row_one hc ha
   rw[ha] at this
   have h2:0<d.strip.cells.length:=by rw[hl]; rcases h1 with h1 | h1<;>first | (rw[ha] at h1; cases h1; done) | omega
   have e2:(d.strip.cells++ig qs).getD 0 aX=d.strip.cells.getD 0 aX:=by
    simp only[aO,ep h2]
   simp only[aD,if_false]
   rw[e2]
   exact this
theorem tX {t:TT}:∀ {qs:List (Nat×DV)} {i:Nat} {l:List t.den},Cm t i qs l→(ig qs).all DV.bF=true
 | [],_,[],_=>rfl
 | (j,d)::qs,i,x::l,h=>by
  obtain⟨⟨rfl,hc⟩,h⟩:=h
  have e:ig ((j,d)::qs)=d.strip.cells++ig qs:=by simp[ig]
  rw[e,kM,pG hc,tX h]; rfl
theorem wZ:∀ {ps:List (Nat×TV)} {qs:List (Nat×DV)},Af ι S ps qs→qs.length=ps.length
 | [],[],_=>rfl
 | _::ps,_::qs,h=>by simp[wZ h.2]
theorem B1 (hE:cQ ι S te env) {t:TypeId} {n:Nat} {ps:Array (Nat×Operand)} (ho:o.op = .buildSlice t n ps) (h:bI P ty tt te tS o=some (v,c)):∃ d,af P ty aI call yf (gX env) o S ay=some (d,S)∧RT ι S v d:=by
 simp only[bI,ho] at h
 split at h
 ·rename_i e s jZ agg sz z0 l k h1 h2 h3
  split at h
  ·rename_i k0 sz' z h4
   split at h
   ·rename_i hc
    simp only[aB,cV,eP,bJ] at hc
    obtain⟨⟨⟨⟨⟨⟨⟨c1,c2⟩,c3⟩,c4⟩,c5⟩,c6⟩,c7⟩,c8⟩:=hc
    have c8:ty.h o≠1:=by simpa using c8
    simp only[ah,av] at h
    obtain⟨w,h5,rfl,-⟩:=h
    obtain⟨ds,k1,k2⟩:=oI hE h2
    obtain⟨k3,k4⟩:=AM k2 h5
    have hlen:ds.length=n:=by rw[wZ k2,c3]
    have WS:((List.replicate n z).flatten).length=ds.length*s:=by
     rw[hlen,List.length_flatten,List.map_replicate,c4,List.sum_replicate_nat]
    have hf:=uu (pre:=[]) (post:=(List.replicate n z).flatten) c5 k3 (by simp) WS
    rw[List.nil_append,List.nil_append] at hf
    have hn:w.length=n:=by rw[k4,c3]
    have hr:=A3 c5 (by rw[c6]; exact c7) k3
    rw[c6,hn] at hr
    have c7':(agg||s==1)=true:=by simpa using c7
    refine⟨.sl (rowsOf s agg (ig ds) n) none ⟨true,some false⟩,?_,?_⟩
    ·simp only[af,ho,h1,k1,h4,iF c1,iF c2,fP,if_true,hf,tX k3,c7',c8]
    ·simp only[RT,tH,and_self,and_true]
     rw[c6]
     exact hr
   ·cases h
  ·cases h
 ·cases h
theorem PB (hE:cQ ι S te env) {t:TypeId} {x:Operand} {lo hi mx:Option Operand} (ho:o.op = .slice t x lo hi mx) (h:bI P ty tt te tS o=some (v,c)) (hc:c):∃ d,af P ty aI call yf (gX env) o S ay=some (d,S)∧RT ι S v d:=by
 have hb:∀ {y:Option Operand} {b:Option Int},Ab te y=some b→(y=none∧b=none)∨∃ z n,y=some z∧b=some n∧intOf (gX env) z=some n:=by
  intro y b hy
  cases y with
  | none=>cases hy; exact .inl ⟨rfl,rfl⟩
  | some z =>
   simp only[Ab,ah] at hy
   obtain⟨n,h1,rfl⟩:=hy
   exact .inr ⟨z,n,rfl,rfl,nD hE h1⟩
 simp only[bI,ho] at h
 split at h
 ·rename_i e s jZ agg sz z0 k l ap lo' Bu mx' h1 h2 h3 h4 h5
  split at h
  ·rename_i hs
   simp only[cV] at hs
   simp only[ah] at h2
   obtain⟨u,h6,h7⟩:=h2
   obtain⟨d,k1,k2⟩:=bg hE h6
   have k3:=cq (tt:=tt) (t:=t) k2
   rw[h7] at k3
   cases d<;>simp only[RT] at k3
   rename_i rows tok f
   obtain⟨k3,k4⟩:=k3
   have hlen:=ja k3
   have ew:(rows.all fun r=>decide (r.cells.length=s))=true:=aW.2 fun r hr=>iF ((iw k3 r hr).trans hs)
   simp only[az] at h
   rcases hb h3 with ⟨rfl,rfl⟩ | ⟨zl,nl,rfl,rfl,el⟩<;>rcases hb h4 with ⟨rfl,rfl⟩ | ⟨zh,nh,rfl,rfl,eh⟩<;>rcases hb h5 with ⟨rfl,rfl⟩ | ⟨zm,nm,rfl,rfl,em⟩ <;>
    simp only[OK,av] at h<;>obtain⟨rfl,rfl⟩:=h
   ·exact⟨_,by simp only[af,ho,h1,k1,ew,fU,jN,o7,if_true,eO,aD,if_false,Option.isNone,Option.isSome,lX,Option.map_none,Option.map_some]; rfl,by simp only[RT,tH,and_true,kL,fo]; exact k3⟩
   ·exact hc.elim
   ·have a1:0≤nh∧nh.toNat≤rows.length:=⟨hc.1,by rw[hlen]; omega⟩
    exact⟨_,by simp only[af,ho,h1,k1,ew,fU,eh,a1,jN,o7,if_true,eO,aD,if_false,Option.isNone,Option.isSome,lX,Option.map_none,Option.map_some,and_self]; rfl,by simp only[RT,tH,and_true,kL]; exact oF _ k3⟩
   ·obtain⟨b1,rfl,b2⟩:=hc
    have a1:0≤nh∧nh.toNat≤rows.length:=⟨b1,by rw[hlen]; omega⟩
    exact⟨_,by simp only[af,ho,h1,k1,ew,fU,eh,em,a1,jN,o7,if_true,eO,aD,if_false,Option.isNone,Option.isSome,Bool.and_true,Option.map_some,and_self,ai]; rfl,by simp only[RT,tH,and_true,kL,beq_self_eq_true]; exact oF _ k3⟩
   ·have a1:0≤nl∧nl.toNat≤rows.length:=⟨hc.1,by rw[hlen]; omega⟩
    exact⟨_,by simp only[af,ho,h1,k1,ew,fU,el,a1,o7,if_true,eO,aD,if_false,Option.isNone,Option.isSome,lX,Option.map_none,Option.map_some,and_self]; rfl,by simp only[RT,tH,and_true,fo]; exact sg _ k3⟩
   ·exact hc.elim
   ·have a1:0≤nh∧nh.toNat≤rows.length:=⟨by omega,by rw[hlen]; omega⟩
    have a2:0≤nl∧nl.toNat≤nh.toNat:=⟨hc.1,by omega⟩
    exact⟨_,by simp only[af,ho,h1,k1,ew,fU,eh,el,a1,a2,o7,if_true,eO,aD,if_false,Option.isNone,Option.isSome,lX,Option.map_none,Option.map_some,and_self]; rfl,by simp only[RT,tH,and_true]; exact sg _ (oF _ k3)⟩
   ·obtain⟨b0,b1,rfl,b2⟩:=hc
    have a1:0≤nh∧nh.toNat≤rows.length:=⟨by omega,by rw[hlen]; omega⟩
    have a2:0≤nl∧nl.toNat≤nh.toNat:=⟨b0,by omega⟩
    exact⟨_,by simp only[af,ho,h1,k1,ew,fU,eh,el,em,a1,a2,o7,if_true,eO,aD,if_false,Option.isNone,Option.isSome,Bool.and_true,Option.map_some,and_self,ai]; rfl,by simp only[RT,tH,and_true,beq_self_eq_true]; exact sg _ (oF _ k3)⟩
  ·cases h
 ·cases h
theorem FX (hE:cQ ι S te env) (hP:Im ι S tS) (h:bI P ty tt te tS o=some (v,c)) (hc:c):∃ d,af P ty aI call yf (gX env) o S ay=some (d,S)∧RT ι S v d:=by
 cases ho:o.op with
 | load t a=>exact TM hE hP ho h
 | buildSlice t n ps=>exact B1 hE ho h
 | slice t x lo hi mx=>exact PB hE ho h hc
 | move x | assign x =>
  simp only[bI,ho,ah,av] at h
  obtain⟨u,h1,rfl,-⟩:=h
  obtain⟨d,k1,k2⟩:=bg hE h1
  exact⟨d,by simp only[af,ho,k1,Option.map_some],cq k2⟩
 | pick a b d =>
  simp only[bI,ho] at h
  split at h
  ·rename_i t h1
   simp only[ah,av] at h
   obtain⟨u,h2,rfl,-⟩:=h
   obtain⟨e,k1,k2⟩:=bg hE h1
   cases e<;>simp only[RT] at k2
   subst k2
   obtain⟨e,k3,k4⟩:=P5 (fun v h=>bg hE h) (fun v h=>bg hE h) h2
   exact⟨e,by simp only[af,ho,k1,k3,Option.map_some],k4⟩
  ·cases h
 | build t ps =>
  simp only[bI,ho] at h
  split at h
  ·rename_i fs sz z l h1 h2
   simp only[ah,av] at h
   obtain⟨cs,h3,rfl,-⟩:=h
   obtain⟨ds,k1,k2⟩:=oI hE h2
   obtain⟨r,k3,k4⟩:=AJ k2 (rL _) h3
   exact⟨.agg r,by simp only[af,ho,h1,k1,k3,Option.map_some],by simp only[RT]; exact k4⟩
  ·rename_i n s agg sz z l h1 h2
   simp only[ah,av] at h
   obtain⟨cs,h3,rfl,-⟩:=h
   obtain⟨ds,k1,k2⟩:=oI hE h2
   obtain⟨r,k3,k4⟩:=AJ k2 (rL _) h3
   exact⟨.agg r,by simp only[af,ho,h1,k1,k3,Option.map_some],by simp only[RT]; exact k4⟩
  ·cases h
 | nilCheck x =>
  simp only[bI,ho] at h
  split at h
  ·rename_i id off h1
   cases h
   obtain⟨d,k1,k2⟩:=bg hE h1
   cases d<;>simp only[RT] at k2
   exact⟨_,by simp only[af,ho,k1]; rfl,by simp only[RT]; exact k2⟩
  ·cases h
 | binOp op t x y u =>
  simp only[bI,ho] at h
  split at h
  ·rename_i a b h1 h2
   simp only[ah,av] at h
   obtain⟨w,h3,rfl,-⟩:=h
   obtain⟨d,k1,k2⟩:=rI (ι:=ι) (S:=S) h3
   exact⟨d,by simp only[af,ho,eL hE h1,eL hE h2,k1,Option.map_some],k2⟩
  ·cases h
 | unOp op t x =>
  simp only[bI,ho] at h
  split at h
  ·rename_i a h1
   simp only[ah,av] at h
   obtain⟨w,h3,rfl,-⟩:=h
   obtain⟨d,k1,k2⟩:=rI (ι:=ι) (S:=S) h3
   exact⟨d,by simp only[af,ho,eL hE h1,k1,Option.map_some],k2⟩
  ·cases h
 | convert s t x =>
  simp only[bI,ho] at h
  split at h
  ·rename_i a h1
   simp only[ah,av] at h
   obtain⟨w,h3,rfl,-⟩:=h
   obtain⟨d,k1,k2⟩:=rI (ι:=ι) (S:=S) h3
   exact⟨d,by simp only[af,ho,eL hE h1,k1,Option.map_some],k2⟩
  ·cases h
 | makeFunc f fs cs =>
  cases f with
  | func f =>
   simp only[bI,ho] at h
   split at h
   ·rename_i a b h1 h2
    cases h
    obtain⟨d,k1,k2⟩:=rQ hE h1
    obtain⟨e,k3,k4⟩:=rQ hE h2
    exact⟨_,by simp only[af,ho,k1,k3]; rfl,by simp only[RT]; exact⟨trivial,k2,k4⟩⟩
   ·cases h
  | _=>simp only[bI,ho] at h; cases h
 | fieldAddr t x f =>
  simp only[bI,ho] at h
  split at h
  ·rename_i fs sz z id off h1 h2
   split at h
   ·rename_i oo s ag h3
    split at h
    ·rename_i h4
     cases h
     obtain⟨d,k1,k2⟩:=bg hE h2
     cases d<;>simp only[RT] at k2
     obtain⟨k3,rfl⟩:=k2
     exact⟨_,by simp only[af,ho,h1,k1,h3,h4,if_true]; rfl,by simp only[RT]; exact⟨k3,trivial⟩⟩
    ·cases h
   ·cases h
  ·rename_i fs sz z k l i off h1 h2
   split at h
   ·rename_i oo s ag h3
    split at h
    ·rename_i h4
     cases h
     obtain⟨d,k1,k2⟩:=bg hE h2
     cases d<;>simp only[RT] at k2
     obtain⟨k3,rfl,rfl,k4⟩:=k2
     exact⟨_,by simp only[af,ho,h1,k1,h3,h4,if_true]; rfl,by simp only[RT]; exact⟨k3,trivial,trivial,k4⟩⟩
    ·cases h
   ·cases h
  ·cases h
 | field t x f =>
  simp only[bI,ho] at h
  split at h
  ·rename_i fs sz z l h1 h2
   split at h
   ·rename_i off s ag h3
    simp only[ah,av] at h
    obtain⟨w,h4,rfl,-⟩:=h
    obtain⟨d,k1,k2⟩:=bg hE h2
    cases d<;>simp only[RT] at k2
    obtain⟨r,k3,k4⟩:=oA k2 h4
    exact⟨r,by simp only[af,ho,h1,k1,h3,k3,Option.map_some],k4⟩
   ·cases h
  ·cases h
 | indexAddr t x i =>
  simp only[bI,ho] at h
  split at h
  ·rename_i e s jZ ag sz z k l ap n h1 h2 h3
   split at h
   ·rename_i hs
    simp only[cV] at hs
    cases h
    simp only[ah] at h2
    obtain⟨u,h6,h7⟩:=h2
    obtain⟨d,k1,k2⟩:=bg hE h6
    have k3:=cq (tt:=tt) (t:=t) k2
    rw[h7] at k3
    cases d<;>simp only[RT] at k3
    obtain⟨k3,-⟩:=k3
    have hlt:n.toNat<l.length:=by omega
    obtain⟨r,m1,m2,-⟩:=Ao k3 (bV hlt)
    exact⟨_,by simp only[af,ho,h1,k1,nD hE h3,hc.1,if_true,m1,(lB m2).trans hs]; rfl,by simp only[RT]; exact⟨k3,trivial,trivial,hlt⟩⟩
   ·cases h
  ·rename_i k s ag sz z id off n h1 h2 h3
   split at h
   ·rename_i h4
    cases h
    simp only[ah] at h2
    obtain⟨u,h6,h7⟩:=h2
    obtain⟨d,k1,k2⟩:=bg hE h6
    have k3:=cq (tt:=tt) (t:=t) k2
    rw[h7] at k3
    cases d<;>simp only[RT] at k3
    obtain⟨k5,rfl⟩:=k3
    exact⟨_,by simp only[af,ho,h1,k1,nD hE h3,h4,and_self,if_true]; rfl,by simp only[RT]; exact⟨k5,trivial⟩⟩
   ·cases h
  ·rename_i k s ag sz z e l j off n h1 h2 h3
   split at h
   ·rename_i h4
    cases h
    simp only[ah] at h2
    obtain⟨u,h6,h7⟩:=h2
    obtain⟨d,k1,k2⟩:=bg hE h6
    have k3:=cq (tt:=tt) (t:=t) k2
    rw[h7] at k3
    cases d<;>simp only[RT] at k3
    obtain⟨k5,rfl,rfl,k6⟩:=k3
    exact⟨_,by simp only[af,ho,h1,k1,nD hE h3,h4,and_self,if_true]; rfl,by simp only[RT]; exact⟨k5,trivial,trivial,k6⟩⟩
   ·cases h
  ·cases h
 | index t x i =>
  simp only[bI,ho] at h
  split at h
  ·rename_i k s ag sz z l n h1 h2 h3
   split at h
   ·rename_i h5
    simp only[ah,av] at h
    obtain⟨w,h4,rfl,-⟩:=h
    obtain⟨d,k1,k2⟩:=bg hE h2
    cases d<;>simp only[RT] at k2
    obtain⟨r,k3,k4⟩:=oA k2 h4
    exact⟨r,by simp only[af,ho,h1,k1,nD hE h3,h5,and_self,if_true,k3,Option.map_some],k4⟩
   ·cases h
  ·cases h
 | extract t i =>
  simp only[bI,ho] at h
  split at h
  ·rename_i l h1
   simp only[ah,av] at h
   obtain⟨w,h4,rfl,-⟩:=h
   obtain⟨d,k1,k2⟩:=bg hE h1
   cases d<;>simp only[RT] at k2
   obtain⟨r,k3,k4⟩:=lM k2 h4
   exact⟨r,by simp only[af,ho,k1,k3,Option.map_some],cq k4⟩
  ·cases h
 | call cl =>
  obtain⟨callee,args,argTypes⟩:=cl
  cases callee with
  | builtin b =>
   simp only[bI,ho] at h
   split at h
   ·rename_i x t ha ht
    split at h
    ·rename_i e s jZ ag sz z k l ap h1 h2
     cases h
     simp only[ah] at h2
     obtain⟨u,h6,h7⟩:=h2
     obtain⟨d,k1,k2⟩:=bg hE h6
     have k3:=cq (tt:=tt) (t:=t) k2
     rw[h7] at k3
     cases d<;>simp only[RT] at k3
     exact⟨_,by simp only[af,ho,ha,ht,h1,k1]; rfl,by simp only[RT]; rw[ja k3.1]⟩
    ·rename_i n s ag sz z h1
     cases h
     exact⟨_,by simp only[af,ho,ha,ht,h1]; rfl,by simp only[RT]⟩
    ·rename_i w h2 hn2
     simp only[ah,av] at h h2
     obtain⟨r,h4,rfl,-⟩:=h
     obtain⟨u,h6,h7⟩:=h2
     obtain⟨d,k1,k2⟩:=bg hE h6
     have k3:=cq (tt:=tt) (t:=t) k2
     rw[h7] at k3
     cases d<;>simp only[RT] at k3
     subst k3
     obtain⟨d,k5,k6⟩:=rI (ι:=ι) (S:=S) h4
     exact⟨d,by simp only[af,ho,ha,ht,k1,k5,Option.map_some],k6⟩
    ·cases h
   ·split at h
    ·rename_i vs h1
     simp only[ah,av] at h
     obtain⟨r,h4,rfl,-⟩:=h
     simp only[jS] at h1
     obtain⟨us,h5,h6⟩:=h1
     obtain⟨ds,k1,k2⟩:=rQ hE h5
     obtain⟨d,k5,k6⟩:=rI (ι:=ι) (S:=S) h4
     exact⟨d,by simp only[af,ho,k1,Option.bind_some,tQ k2 h6,k5,Option.map_some],k6⟩
    ·cases h
   ·split at h
    ·rename_i vs h1
     simp only[ah,av] at h
     obtain⟨r,h4,rfl,-⟩:=h
     simp only[jS] at h1
     obtain⟨us,h5,h6⟩:=h1
     obtain⟨ds,k1,k2⟩:=rQ hE h5
     obtain⟨d,k5,k6⟩:=rI (ι:=ι) (S:=S) h4
     exact⟨d,by simp only[af,ho,k1,Option.bind_some,tQ k2 h6,k5,Option.map_some],k6⟩
    ·cases h
   ·cases h
  | _=>simp only[bI,ho] at h; cases h
 | _=>simp only[bI,ho] at h; cases h
end Go.Tv
end
section
namespace Go.Tv
open Go Go.Di
mutual
def Hl (g:Nat):TV→TV
 | .sl t l (.oR k)=>if k=g then .sl t l .no else .sl t l (.oR k)
 | .ptr id off=>if id=g then .unk else .ptr id off
 | .mp id=>if id=g then .unk else .mp id
 | .so id t=>if id=g then .unk else .so id t
 | .sp id t i off=>if id=g then .unk else .sp id t i off
 | .agg l => .agg (uK g l)
 | .tup l => .tup (uK g l)
 | .fn f a b => .fn f (uK g a) (uK g b)
 | v=>v
def uK (g:Nat):List TV→List TV
 | []=>[]
 | a::l=>Hl g a::uK g l
end
def qx (g:Nat):TB→TB
 | .cells l => .cells (uK g l)
 | b=>b
def nM (tS:List TB) (i:Nat) (b:TB):List TB:=if i<tS.length then tS.set i b else tS++[b]
def aae:TV→Bool
 | .val v => !(v matches .tuple _)
 | .unk | .agg _ | .tup _=>false
 | _=>true
def O1 {α β:Type} (l:List α) (m:List β):Bool :=
 match l with
 | []=>true
 | _::_=>match m with
  | []=>false
  | _::_=>true
structure TR where
 v:TV
 te:List TV
 tS:List TB
 Dy:List Nat
 c:Prop
section
variable (P:Program) (ty:fI) (tt:TypeId→Option TT)
def tJ (te:List TV) (o:Oper):List Nat :=
 match o.op with
 | .load _ a=>match gd te a with
  | some (.ptr id _)=>[id]
  | _=>[]
 | _=>[]
def stepT (te:List TV) (tS:List TB) (o:Oper) (nT:Nat):Option TR :=
 match o.op with
 | .alloc e=>match ty e with
  | some ⟨_,_,some z⟩=>some ⟨.ptr nT 0,te,nM tS nT (.cells (z.map uO)),[nT],True⟩
  | _=>none
 | .box _ x=>match gd te x with
  | some d=>if d.known then some ⟨.ptr nT 0,te,nM tS nT (.cells d.cells),[nT],True⟩ else none
  | none=>none
 | .store t a x=>match ty t,gd te a,(gd te x).map (iR tt t) with
  | some d,some (.ptr id off),some v=>match tS[id]? with
   | some (.cells l)=>if v.known&&v.cells.length==d.size&&v.cells.all aae then (NG l off v.cells).map fun l'=>⟨.unk,te,tS.set id (.cells l'),[id],True⟩ else none
   | _=>none
  | _,_,_=>none
 | .call { callee := .builtin .append,args,argTypes }=>match args.toList,argTypes.toList with
  | [x,y],[t,u]=>if t=u∧ty.h o≠1 then match ty t,(gd te x).map (iR tt t),(gd te y).map (iR tt t) with
   | some ⟨.slice e s jZ _,_,_⟩,some (.sl k l ap),some (.sl k' m _)=>match ty e with
    | some ⟨_,_,some _⟩=>if h:k'=k then
     if decide (0<s)&&decide (jZ≤100000)&&k.size==s then match ap with
      | .no=>none
      | .full=>if O1 l m then some ⟨.sl k (l++(h▸m)) (.oR nT),te,nM tS nT (.own e s),[nT],l.length+m.length≤1000000000⟩ else none
      | .oR g=>match tS[g]? with
       | some (.own e' s')=>if e'==e&&s'==s then some ⟨.sl k (l++(h▸m)) (.oR g),uK g te,tS.map (qx g),[g,nT],l.length+m.length≤1000000000⟩ else none
       | _=>none
     else none
     else none
    | _=>none
   | _,_,_=>none
   else none
  | _,_=>none
 | _=>(bI P ty tt te tS o).map fun r=>⟨r.1,te,tS,tJ te o,r.2⟩
end
def fS (ρ:Operand→Option DV) (o:Oper) (ay:Nat):List Nat :=
 match o.op with
 | .alloc _ | .box .. => [ay]
 | .store _ a _=>match ρ a with
  | some (.ptr id _)=>[id]
  | _=>[]
 | .load _ a=>match ρ a with
  | some (.ptr id _)=>[id]
  | some (.eT id _ _)=>[id]
  | _=>[]
 | .call { callee := .builtin .append,args,.. }=>match (args[0]?).bind ρ with
  | some (.sl _ (some t) _)=>[t,ay]
  | _=>[ay]
 | _=>[]
def B7:(t:TT)→t.den→List Value
 | .int k,n=>[.int k n]
 | .bool,b=>[.bool b]
 | .str,s=>[.string s]
 | .unit,_=>[]
 | .pair a b,x=>B7 a x.1++B7 b x.2
 | .sl _,_=>[]
def E0 (t:TT) (x:t.den):Value := .agg (B7 t x).toArray
def yO (t:TT) (l:List t.den):List (Value×Value):=l.map fun x=>(E0 t x,.bool true)
def dO (t:TT):List t.den→List DV→Prop
 | [],ds=>ds=[]
 | x::l,ds=>∃ c m,ds=c++m∧CR t x c∧dO t l m
def Xm:TB→Option DB→Prop
 | .map kt l,b=>b=some (.map (yO kt l))
 | .rows t e l z,b=>0<t.size∧(t.agg||t.size==1)=true∧∃ ds,b=some (.op e t.size ds z)∧dO t l ds
 | _,_=>True
structure b9 (ι:lK) (te:List TV) (tS:List TB) (env:List DV) (S:ak):Prop where
 env:cQ ι S te env
 cells:Im ι S tS
 own:∀ k e s,tS[k]? = some (.own e s)→∀ t,ι k=some t→∃ n,S[t]? = some (.tail e s n)
 xI:∀ k k',ι k=some k'→∃ b,tS[k]? = some b∧b ≠ .none
 inj:∀ i j k',ι i=some k'→ι j=some k'→i=j
 mp:∀ k b,tS[k]? = some b→∀ t,ι k=some t→Xm b S[t]?
def Q9 (ι:lK) (w:lK):Prop:=∀ k k',ι k=some k'→w k'=some k
section
variable {P:Program} {ty:fI} {tt:TypeId→Option TT} {ι ι' w:lK} {S S':ak} {te:List TV} {env:List DV} {tS:List TB} {aI:bM} {call:bz} {yf:eE} {o:Oper} {ay nT:Nat} {r:TR}
def Il (a b:Option DB):Prop:=(∀ e s n,a=some (.tail e s n)→b=some (.tail e s n))∧∀ e s l z,a=some (.op e s l z)→∃ l' z',b=some (.op e s l' z')∧l'.length=l.length
theorem eW {a b:Option DB} (h:b=a):Il a b:=by subst h; exact⟨fun _ _ _ h=>h,fun _ _ l z h=>⟨l,z,h,rfl⟩⟩
theorem zi {a b:Option DB} (h1:∀ e s n,a≠some (.tail e s n)) (h2:∀ e s l z,a≠some (.op e s l z)):Il a b:=⟨fun _ _ _ h=>absurd h (h1 _ _ _),fun _ _ _ _ h=>absurd h (h2 _ _ _ _)⟩
def kV (ι:lK) (S:ak) (ι':lK) (S':ak) (bad:Nat→Prop):Prop:=∀ k k',¬ bad k→ι k=some k'→ι' k=some k'∧Il S[k']? S'[k']?
theorem KU {n:Nat} {tok:Option Nat} {f:SF} {ap:Ap} {bad:Nat→Prop} (h:kV ι S ι' S' bad) (hb:∀ g,ap = .oR g→¬ bad g) (k:tH ι S n tok f ap):tH ι' S' n tok f ap:=by
 cases ap with
 | no=>trivial
 | full=>exact k
 | oR g =>
  refine k.imp id fun⟨t,e,s,h1,h2,h3⟩ => ?_
  obtain⟨h4,h5⟩:=h g t (hb g rfl) h1
  exact⟨t,e,s,h4,h2,h5.1 _ _ _ h3⟩
mutual
theorem S9 (h:kV ι S ι' S' fun _=>False):∀ (v:TV) (d:DV),RT ι S v d→RT ι' S' v d
 | .unk,_,_=>by simp only[RT]
 | .val _,d,k=>by cases d<;>simp only[RT] at k ⊢; exact k
 | .gY,d,k=>by cases d<;>simp only[RT] at k ⊢; exact k
 | .agg l,d,k=>by cases d<;>simp only[RT] at k ⊢; exact bO h l _ k
 | .tup l,d,k=>by cases d<;>simp only[RT] at k ⊢; exact bO h l _ k
 | .sl t l ap,d,k=>by cases d<;>simp only[RT] at k ⊢; exact⟨k.1,KU h (fun _ _=>id) k.2⟩
 | .ptr id off,d,k=>by cases d<;>simp only[RT] at k ⊢; exact⟨(h _ _ (fun e=>e) k.1).1,k.2⟩
 | .ey t l i off,d,k=>by cases d<;>simp only[RT] at k ⊢; exact k
 | .mp id,d,k=>by cases d<;>simp only[RT] at k ⊢; exact(h _ _ (fun e=>e) k).1
 | .so g t,d,k=>by
  cases d<;>simp only[RT] at k ⊢
  obtain⟨k1,k2,e,s,l,z,k3,k4⟩:=k
  obtain⟨h1,h2⟩:=h _ _ (fun e=>e) k1
  obtain⟨l',z',h3,h4⟩:=h2.2 e s l z k3
  exact⟨h1,k2,e,s,l',z',h3,by omega⟩
 | .sp g t i off,d,k=>by
  cases d<;>simp only[RT] at k ⊢
  obtain⟨k1,k2,e,s,l,z,k3,k4,k5⟩:=k
  obtain⟨h1,h2⟩:=h _ _ (fun e=>e) k1
  obtain⟨l',z',h3,h4⟩:=h2.2 e s l z k3
  exact⟨h1,k2,e,s,l',z',h3,by omega,by omega⟩
 | .fn f a b,d,k=>by cases d<;>simp only[RT] at k ⊢; exact⟨k.1,bO h a _ k.2.1,bO h b _ k.2.2⟩
theorem bO (h:kV ι S ι' S' fun _=>False):∀ (l:List TV) (m:List DV),cQ ι S l m→cQ ι' S' l m
 | [],m,k=>by rw[aU k]; exact bS
 | a::l,m,k=>by
  obtain⟨d,m',rfl,h1,h2⟩:=ax k
  exact aV (S9 h a d h1) (bO h l m' h2)
end
mutual
theorem XY {g:Nat} (h:kV ι S ι' S' fun k=>k=g):∀ (v:TV) (d:DV),RT ι S v d→RT ι' S' (Hl g v) d
 | .unk,_,_=>by simp only[Hl,RT]
 | .val _,d,k=>by cases d<;>simp only[RT,Hl] at k ⊢; exact k
 | .gY,d,k=>by cases d<;>simp only[RT,Hl] at k ⊢; exact k
 | .agg l,d,k=>by cases d<;>simp only[RT,Hl] at k ⊢; exact lN h l _ k
 | .tup l,d,k=>by cases d<;>simp only[RT,Hl] at k ⊢; exact lN h l _ k
 | .sl t l .no,d,k=>by cases d<;>simp only[RT,Hl] at k ⊢; exact⟨k.1,trivial⟩
 | .sl t l .full,d,k=>by cases d<;>simp only[RT,Hl] at k ⊢; exact k
 | .sl t l (.oR j),d,k=>by
  cases d<;>simp only[RT] at k
  simp only[Hl]
  split
  ·simp only[RT]; exact⟨k.1,trivial⟩
  ·rename_i hj
   simp only[RT]; exact⟨k.1,KU h (fun g' e=>by cases e; exact hj) k.2⟩
 | .ptr id off,d,k=>by
  cases d<;>simp only[RT] at k
  simp only[Hl]
  split
  ·simp only[RT]
  ·rename_i hj
   simp only[RT]; exact⟨(h _ _ hj k.1).1,k.2⟩
 | .ey t l i off,d,k=>by cases d<;>simp only[RT,Hl] at k ⊢; exact k
 | .mp id,d,k=>by
  cases d<;>simp only[RT] at k
  simp only[Hl]
  split
  ·simp only[RT]
  ·rename_i hj
   simp only[RT]; exact(h _ _ hj k).1
 | .so j t,d,k=>by
  cases d<;>simp only[RT] at k
  simp only[Hl]
  split
  ·simp only[RT]
  ·rename_i hj
   simp only[RT]
   obtain⟨k1,k2,e,s,l,z,k3,k4⟩:=k
   obtain⟨h1,h2⟩:=h _ _ hj k1
   obtain⟨l',z',h3,h4⟩:=h2.2 e s l z k3
   exact⟨h1,k2,e,s,l',z',h3,by omega⟩
 | .sp j t i off,d,k=>by
  cases d<;>simp only[RT] at k
  simp only[Hl]
  split
  ·simp only[RT]
  ·rename_i hj
   simp only[RT]
   obtain⟨k1,k2,e,s,l,z,k3,k4,k5⟩:=k
   obtain⟨h1,h2⟩:=h _ _ hj k1
   obtain⟨l',z',h3,h4⟩:=h2.2 e s l z k3
   exact⟨h1,k2,e,s,l',z',h3,by omega,by omega⟩
 | .fn f a b,d,k=>by cases d<;>simp only[RT,Hl] at k ⊢; exact⟨k.1,lN h a _ k.2.1,lN h b _ k.2.2⟩
theorem lN {g:Nat} (h:kV ι S ι' S' fun k=>k=g):∀ (l:List TV) (m:List DV),cQ ι S l m→cQ ι' S' (uK g l) m
 | [],m,k=>by rw[aU k]; simp only[uK]; exact bS
 | a::l,m,k=>by
  obtain⟨d,m',rfl,h1,h2⟩:=ax k
  simp only[uK]
  exact aV (XY h a d h1) (lN h l m' h2)
end
def wA (tS:List TB) (nT:Nat):Prop:=tS[nT]? = some .none∨nT=tS.length
def wB (S:ak) (ay:Nat):Prop:=S[ay]? = some .none∨ay=S.length
theorem cg {b:TB} (h:wA tS nT) (j:Nat):(nM tS nT b)[j]? = if j=nT then some b else tS[j]? := by
 unfold nM
 rcases h with h | h
 ·have hlt:=(aJ.1 h).1
  rw[if_pos hlt,aK]
  by_cases e:nT=j
  ·subst e; rw[if_pos rfl,if_pos hlt,if_pos rfl]
  ·rw[if_neg e,if_neg (Ne.symm e)]
 ·subst h
  rw[if_neg (Nat.lt_irrefl _),pM]
  by_cases e:j=tS.length
  ·subst e; rw[if_neg (Nat.lt_irrefl _),if_pos rfl]; simp
  ·rw[if_neg e]
   split
   ·rfl
   ·rw[eS (by simp; omega),eS (by omega)]
theorem aZ {b:DB} (h:wB S ay) (j:Nat):(dP S ay b)[j]? = if j=ay then some b else S[j]? := by
 unfold dP
 rcases h with h | h
 ·have hlt:=(aJ.1 h).1
  rw[if_pos hlt,aK]
  by_cases e:ay=j
  ·subst e; rw[if_pos rfl,if_pos hlt,if_pos rfl]
  ·rw[if_neg e,if_neg (Ne.symm e)]
 ·subst h
  rw[if_neg (Nat.lt_irrefl _),pM]
  by_cases e:j=S.length
  ·subst e; rw[if_neg (Nat.lt_irrefl _),if_pos rfl]; simp
  ·rw[if_neg e]
   split
   ·rfl
   ·rw[eS (by simp; omega),eS (by omega)]
def upd (ι:lK) (k k':Nat):lK:=fun j=>if j=k then some k' else ι j
theorem b9.live (h:b9 ι te tS env S) {k k':Nat} (hk:ι k=some k'):∃ b,S[k']? = some b∧b ≠ .none:=by
 obtain⟨b,h1,h2⟩:=h.xI k k' hk
 cases b with
 | none=>exact(h2 rfl).elim
 | cells l =>
  obtain⟨k'',ds,h3,h4,-⟩:=h.cells k l h1
  rw[hk] at h3
  cases h3
  exact⟨_,h4,fun e=>by cases e⟩
 | own e s =>
  obtain⟨n,h3⟩:=h.own k e s h1 k' hk
  exact⟨_,h3,fun e=>by cases e⟩
 | map kt l=>exact⟨_,h.mp k _ h1 k' hk,fun e=>by cases e⟩
 | rows t e l z =>
  obtain⟨-,-,ds,h3,-⟩:=h.mp k _ h1 k' hk
  exact⟨_,h3,fun e=>by cases e⟩
theorem b9.dc (h:b9 ι te tS env S) (hn:wB S ay) {k k':Nat} (hk:ι k=some k'):k'≠ay:=by
 rintro rfl
 obtain⟨b,h1,h2⟩:=h.live hk
 rcases hn with hn | hn
 ·rw[hn] at h1; cases h1; exact h2 rfl
 ·have:=(aJ.1 h1).1; omega
theorem b9.new (h:b9 ι te tS env S) (hn:wA tS nT):ι nT=none:=by
 cases hk:ι nT with
 | none=>rfl
 | some k' =>
  obtain⟨b,h1,h2⟩:=h.xI _ _ hk
  rcases hn with hn | hn
  ·rw[hn] at h1; cases h1; exact(h2 rfl).elim
  ·have:=(aJ.1 h1).1; omega
theorem sk (h:b9 ι te tS env S) (hT:wA tS nT) (hn:wB S ay) (b:DB):kV ι S (upd ι nT ay) (dP S ay b) fun _=>False:=by
 intro k k' _ hk
 have h1:k≠nT:=by rintro rfl; rw[h.new hT] at hk; cases hk
 exact⟨by simp only[upd,h1,if_false]; exact hk,eW (by rw[aZ hn,if_neg (h.dc hn hk)])⟩
theorem nv (h:b9 ι te tS env S) (hn:wB S ay) (hT:wA tS nT) (hw:Q9 ι w):Q9 (upd ι nT ay) (upd w ay nT):=by
 intro k k' hk
 unfold upd at hk ⊢
 split at hk
 ·rename_i e
  subst e
  cases hk
  simp
 ·rw[if_neg (h.dc hn hk)]
  exact hw k k' hk
theorem s9 (h:b9 ι te tS env S) (hT:wA tS nT) (hn:wB S ay) {ts:List TV} {ds:List DV} (hc:cQ ι S ts ds):b9 (upd ι nT ay) te (nM tS nT (.cells ts)) env (dP S ay (.cells ds)):=by
 have K:=sk h hT hn (.cells ds)
 refine⟨bO K _ _ h.env,fun k l hk => ?_,fun k e s hk t ht => ?_,fun k k' hk => ?_,fun i j k' hi hj => ?_,fun k b hk t ht => ?_⟩
 ·rw[cg hT] at hk
  split at hk
  ·rename_i e
   subst e
   cases hk
   exact⟨ay,ds,by simp[upd],by rw[aZ hn,if_pos rfl],bO K _ _ hc⟩
  ·rename_i e
   obtain⟨k',gT,h1,h2,h3⟩:=h.cells k l hk
   exact⟨k',gT,by simp only[upd,e,if_false]; exact h1,by rw[aZ hn,if_neg (h.dc hn h1)]; exact h2,bO K _ _ h3⟩
 ·rw[cg hT] at hk
  split at hk
  ·cases hk
  ·rename_i e'
   simp only[upd,e',if_false] at ht
   obtain⟨n,h1⟩:=h.own k e s hk t ht
   exact⟨n,by rw[aZ hn,if_neg (h.dc hn ht)]; exact h1⟩
 ·rw[cg hT]
  split
  ·exact⟨_,rfl,fun e=>by cases e⟩
  ·rename_i e
   simp only[upd,e,if_false] at hk
   exact h.xI k k' hk
 ·unfold upd at hi hj
  split at hi<;>split at hj
  ·omega
  ·cases hi; exact(h.dc hn hj rfl).elim
  ·cases hj; exact(h.dc hn hi rfl).elim
  ·exact h.inj i j k' hi hj
 ·rw[cg hT] at hk
  split at hk
  ·cases hk; trivial
  ·rename_i e'
   simp only[upd,e',if_false] at ht
   rw[aZ hn,if_neg (h.dc hn ht)]
   exact h.mp k b hk t ht
def Lv (S:ak) (i:Nat):Prop:=∃ b,S[i]? = some b∧b ≠ .none
structure Fr (B:List Nat) (ι:lK) (S:ak) (ι':lK) (S':ak):Prop where
 rest:∀ k',Lv S k'→(∀ k,ι k≠some k')→S'[k']? = S[k']?
 ours:∀ k k',ι' k=some k'→(∃ j,ι j=some k')∨¬ Lv S k'
 base:∀ k,k∈B→ι' k=ι k
def nL (B:List Nat) (tS:List TB):Prop:=∀ k,k∈B→∃ l,tS[k]? = some (.cells l)
theorem Fr.refl (B:List Nat) (ι:lK) (S:ak):Fr B ι S ι S:=⟨fun _ _ _=>rfl,fun k _ h => .inl ⟨k,h⟩,fun _ _=>rfl⟩
theorem Fr.trans {B:List Nat} {ι'':lK} {tj:ak} (h:Fr B ι S ι' S') (k:Fr B ι' S' ι'' tj):Fr B ι S ι'' tj where
 rest:=fun k' hl hn=>by
  have h1:=h.rest k' hl hn
  have iV:Lv S' k':=by obtain⟨b,h2,h3⟩:=hl; exact⟨b,h1.trans h2,h3⟩
  refine(k.rest k' iV fun j hj => ?_).trans h1
  rcases h.ours j k' hj with ⟨i,h2⟩ | h2
  ·exact hn i h2
  ·exact h2 hl
 ours:=fun j k' hj=>by
  rcases k.ours j k' hj with ⟨i,h1⟩ | h1
  ·exact h.ours i k' h1
  ·by_cases hl:Lv S k'
   ·by_cases hn:∃ j,ι j=some k'
    ·exact .inl hn
    ·refine(h1 ?_).elim
     obtain⟨b,h2,h3⟩:=hl
     exact⟨b,(h.rest k' ⟨b,h2,h3⟩ fun i hi=>hn ⟨i,hi⟩).trans h2,h3⟩
   ·exact .inr hl
 base:=fun j hj=>(k.base j hj).trans (h.base j hj)
theorem vT (hn:wB S ay):¬ Lv S ay:=by
 rintro⟨b,h1,h2⟩
 rcases hn with hn | hn
 ·rw[hn] at h1; cases h1; exact h2 rfl
 ·have:=(aJ.1 h1).1; omega
theorem pg {B:List Nat} {g:Nat} {b:DB} (hn:wB S ay) (hg:g ∉ B):Fr B ι S (upd ι g ay) (dP S ay b) where
 rest:=fun k' hl _=>by
  rw[aZ hn,if_neg]
  rintro rfl
  exact vT hn hl
 ours:=fun k k' hk=>by
  unfold upd at hk
  split at hk
  ·cases hk; exact .inr (vT hn)
  ·exact .inl ⟨k,hk⟩
 base:=fun k hk=>by unfold upd; rw[if_neg (fun e:k=g=>hg (e▸hk))]
theorem wL {B:List Nat} {k0 id:Nat} {b:DB} (hk:ι k0=some id):Fr B ι S ι (S.set id b) where
 rest:=fun k' _ hn=>by
  rw[aK,if_neg]
  rintro rfl
  exact hn k0 hk
 ours:=fun k _ h => .inl ⟨k,h⟩
 base:=fun _ _=>rfl
theorem kJ {B:List Nat} (hB:nL B tS) (hT:wA tS nT):nT ∉ B:=by
 intro hlt
 obtain⟨l,h1⟩:=hB _ hlt
 rcases hT with hT | hT
 ·rw[hT] at h1; cases h1
 ·have:=(aJ.1 h1).1; omega
theorem jb {B:List Nat} {b:TB} (hB:nL B tS) (hT:wA tS nT):nL B (nM tS nT b):=by
 intro k hk
 have:=kJ hB hT
 rw[cg hT,if_neg (fun e:k=nT=>this (e▸hk))]
 exact hB k hk
theorem Us {B:List Nat} {g e s:Nat} (hB:nL B tS) (h:tS[g]? = some (.own e s)):g ∉ B:=by
 intro hlt
 obtain⟨l,h1⟩:=hB _ hlt
 rw[h] at h1; cases h1
def Nn (i:Nat) (S S':ak):Prop:=S.length≤S'.length∧∀ j,j≠i→S[j]? = some .none→S'[j]? = some .none
theorem eX (i:Nat) (S:ak):Nn i S S:=⟨ai _,fun _ _ h=>h⟩
theorem lR {b:DB} (hn:wB S ay):Nn ay S (dP S ay b):=by
 refine⟨?_,fun j hj h=>by rw[aZ hn,if_neg hj]; exact h⟩
 unfold dP
 split<;>simp
theorem wG {i id:Nat} {b b':DB} (h:S[id]? = some b) (hb:b ≠ .none):Nn i S (S.set id b'):=by
 refine⟨by simp,fun j _ hj => ?_⟩
 rw[aK,if_neg]
 ·exact hj
 ·rintro rfl
  rw[h] at hj
  cases hj
  exact hb rfl
end
end Go.Tv
end
