import Derived.Test.YtedcgbkilmlbhaaPk01
section
namespace Go.Tv
open Go Go.Di
def TV.cells : TV → List TV
 | .agg l => l
 | v => [v]
def TV.known : TV → Bool
 | .unk => false
 | _ => true
def TV.xR : TV → Bool
 | .unk | .fB _ => false
 | _ => true
def sE : DV → TV
 | .val v => .val v
 | .sl [] none ⟨true, some true⟩ => .gl
 | _ => .unk
def UC : DV → TV
 | .agg l => .agg (l.map sE)
 | .fn f [] [] => .fn f [] []
 | d => sE d
inductive TB where
 | none
 | cells (l : List TV)
 | own (e s : Nat)
 | map (kt : TT) (l : List kt.den)
 | rows (t : TT) (e : Nat) (l : List t.den) (z : Bool)
instance : Inhabited TB := ⟨.none⟩
section
variable (P : Program) (ty : eS) (tt : TypeId → Option TT)
def eZ (te : List TV) : Operand → Option TV
 | .tmp t => some (te.getD t .unk)
 | .const v => (ve v).map UC
 | .func f => some (.fn f [] [])
 | .global _ => none
def kX (te : List TV) : List Operand → Option (List TV)
 | [] => some []
 | x :: l => match eZ te x, kX te l with
  | some d, some r => some (d :: r)
  | _, _ => none
def um (te : List TV) : List (Nat × Operand) → Option (List (Nat × TV))
 | [] => some []
 | (i, x) :: l => match eZ te x, um te l with
  | some d, some r => some ((i, d) :: r)
  | _, _ => none
def ff : List TV → Option (List Value)
 | [] => some []
 | .val v :: l => (ff l).map (v :: ·)
 | _ => none
def fG : TV → Option Value
 | .val v => some v
 | .agg l => (ff l).map fun r => .agg r.toArray
 | _ => none
def sO : List TV → Option (List Value)
 | [] => some []
 | d :: l => match fG d, sO l with
  | some v, some r => some (v :: r)
  | _, _ => none
def Dd (te : List TV) (x : Operand) : Option Int :=
 match eZ te x with
 | some (.val (.int _ n)) => some n
 | _ => none
def gG (t : TypeId) (v : TV) : TV :=
 match v with
 | .gl => match tt t with
  | some (.sl e) => .sl e [] .full
  | _ => .gl
 | v => v
def Vc (l : List TV) (off n : Nat) : Option (List TV) := if off + n ≤ l.length then some ((l.drop off).take n) else none
def Lj (l : List TV) (off : Nat) (cs : List TV) : Option (List TV) := if off + cs.length ≤ l.length then some (l.take off ++ cs ++ l.drop (off + cs.length)) else none
def u9 (agg : Bool) (size : Nat) (l : List TV) (off : Nat) : Option TV := if agg then (Vc l off size).map .agg else l[off]?
def Dx (place : Nat → Option (Nat × Nat)) (cs : List TV) : List (Nat × TV) → Option (List TV)
 | [] => some cs
 | (i, v) :: r => match place i with
  | none => none
  | some (off, size) => if v.known && v.cells.length == size then match Lj cs off v.cells with
    | some jj => Dx place jj r
    | none => none
   else none
def sx : Option DV → Option TV
 | some (.val v) => some (.val v)
 | _ => none
def xP (t : TT) (i : Nat) : List (Nat × TV) → Option (List t.den)
 | [] => some []
 | (j, v) :: r => if j == i && v.xR then match t.of v.cells, xP t (i + 1) r with
   | some (x, []), some l => some (x :: l)
   | _, _ => none
  else none
def LR (t : Bool) : Option TV → Option TV → Option TV
 | some (.val (.bool x)), some (.val (.bool y)) => some (.val (.bool (bif t then x else y)))
 | some (.val (.int k x)), some (.val (.int k' y)) => if k' = k then some (.val (.int k (bif t then x else y))) else none
 | a, b => match t with
  | true => a
  | false => b
def xT (te : List TV) : Option Operand → Option (Option Int)
 | none => some none
 | some x => (Dd te x).map some
def abg (o : Option Int) (cO : Nat) : Prop :=
 match o with
 | none => True
 | some n => 0 ≤ n ∧ n ≤ (cO : Int)
def Mz (t : TT) (l : List t.den) (lo hi mx : Option Int) : TV × Prop :=
 match mx with
 | none => match hi with
  | none => match lo with
   | none => (.sl t l .no, True)
   | some a => (.sl t (l.drop a.toNat) .no, 0 ≤ a ∧ a ≤ (l.length : Int))
  | some h => match lo with
   | none => (.sl t (l.take h.toNat) .no, 0 ≤ h ∧ h ≤ (l.length : Int))
   | some a => (.sl t ((l.take h.toNat).drop a.toNat) .no, 0 ≤ a ∧ a ≤ h ∧ h ≤ (l.length : Int))
 | some m => match hi with
  | none => (.unk, False)
  | some h => match lo with
   | none => (.sl t (l.take h.toNat) .full, 0 ≤ h ∧ h = m ∧ h ≤ (l.length : Int))
   | some a => (.sl t ((l.take h.toNat).drop a.toNat) .full, 0 ≤ a ∧ a ≤ h ∧ h = m ∧ h ≤ (l.length : Int))
def bh (te : List TV) (tS : List TB) (o : Oper) : Option (TV × Prop) :=
 match o.op with
 | .move x | .assign x => (eZ te x).map fun v => (gG tt o.type v, True)
 | .pick c a b => match eZ te c with
  | some (.val (.bool t)) => (LR t (eZ te a) (eZ te b)).map (·, True)
  | _ => none
 | .build t ps => match ty t, um te ps.toList with
  | some ⟨.struct fs, _, some z⟩, some l => (Dx (fun i => (fs[i]?).map fun f => (f.1, f.2.1)) (z.map sE) l).map fun cs => (.agg cs, True)
  | some ⟨.array _ s _, _, some z⟩, some l => (Dx (fun i => some (i * s, s)) (z.map sE) l).map fun cs => (.agg cs, True)
  | _, _ => none
 | .buildSlice t n ps => match ty t, um te ps.toList, tt t with
  | some ⟨.slice e s _ agg, _, _⟩, some l, some (.sl k) => match ty e with
   | some ⟨_, _, some z⟩ => if decide (0 < s) && decide (n * s ≤ 16777216) && l.length == n && z.length == s && k.size == s && k.agg == agg && (agg || s == 1) && ty.h o != 1 then
     (xP k 0 l).map fun l => (.sl k l .full, True)
    else none
   | _ => none
  | _, _, _ => none
 | .load t a => match ty t, eZ te a with
  | some d, some (.ptr id off) => match tS[id]? with
   | some (.cells l) => (u9 d.k.isAgg d.size l off).map fun v => (gG tt t v, True)
   | _ => none
  | some d, some (.dB e l i off) => (u9 d.k.isAgg d.size (e.cells (l.getD i e.Um)) off).map fun v => (gG tt t v, True)
  | _, _ => none
 | .nilCheck x => match eZ te x with
  | some (.ptr id off) => some (.ptr id off, True)
  | _ => none
 | .binOp op t x y _ => match (eZ te x).bind fG, (eZ te y).bind fG with
  | some a, some b => (sx (gy P (do eqGuard op t x y a b; binOp op t a b))).map (·, True)
  | _, _ => none
 | .unOp op _ x => match (eZ te x).bind fG with
  | some a => (sx (gy P (Op.unary op a))).map (·, True)
  | none => none
 | .convert s d x => match (eZ te x).bind fG with
  | some a => (sx (gy P (Go.convert s d a))).map (·, True)
  | none => none
 | .makeFunc (.func f) fs cs => match kX te fs.toList, kX te cs.toList with
  | some a, some b => some (.fn f a b, True)
  | _, _ => none
 | .slice t x lo hi mx => match ty t, (eZ te x).map (gG tt t), xT te lo, xT te hi, xT te mx with
  | some ⟨.slice _ s _ _, _, _⟩, some (.sl k l _), some lo, some hi, some mx => if k.size == s then some (Mz k l lo hi mx) else none
  | _, _, _, _, _ => none
 | .fieldAddr t x f => match ty t, eZ te x with
  | some ⟨.struct fs, _, _⟩, some (.ptr id off) => match fs[f]? with
   | some (o, s, _) => if 0 < s then some (.ptr id (off + o), True) else none
   | none => none
  | some ⟨.struct fs, _, _⟩, some (.dB k l i off) => match fs[f]? with
   | some (o, s, _) => if 0 < s then some (.dB k l i (off + o), True) else none
   | none => none
  | _, _ => none
 | .field t x f => match ty t, eZ te x with
  | some ⟨.struct fs, _, _⟩, some (.agg l) => match fs[f]? with
   | some (off, s, agg) => (u9 agg s l off).map (·, True)
   | none => none
  | _, _ => none
 | .indexAddr t x i => match ty t, (eZ te x).map (gG tt t), Dd te i with
  | some ⟨.slice _ s _ _, _, _⟩, some (.sl k l _), some n => if k.size == s then some (.dB k l n.toNat 0, 0 ≤ n ∧ n < (l.length : Int)) else none
  | some ⟨.array k s _, _, _⟩, some (.ptr id off), some n => if 0 ≤ n ∧ n.toNat < k then some (.ptr id (off + n.toNat * s), True) else none
  | some ⟨.array k s _, _, _⟩, some (.dB e l j off), some n => if 0 ≤ n ∧ n.toNat < k then some (.dB e l j (off + n.toNat * s), True) else none
  | _, _, _ => none
 | .index t x i => match ty t, eZ te x, Dd te i with
  | some ⟨.array k s agg, _, _⟩, some (.agg l), some n => if 0 ≤ n ∧ n.toNat < k then (u9 agg s l (n.toNat * s)).map (·, True) else none
  | _, _, _ => none
 | .extract t i => match eZ te t with
  | some (.fB l) => (l[i]?).map fun v => (gG tt o.type v, True)
  | _ => none
 | .call { callee := .builtin b, args, argTypes } => match b, args.toList, argTypes.toList with
  | .len, [x], [t] => match ty t, (eZ te x).map (gG tt t) with
   | some ⟨.slice _ _ _ _, _, _⟩, some (.sl _ l _) => some (.val (.int .i64 (l.length : Nat)), True)
   | some ⟨.array n _ _, _, _⟩, _ => some (.val (.int .i64 n), True)
   | _, some (.val v) => (sx (gy P (Builtin.len_ #[t] o.type #[v]))).map (·, True)
   | _, _ => none
  | .min, xs, _ => match (kX te xs).bind sO with
   | some vs => (sx (gy P (Builtin.min_ argTypes o.type vs.toArray))).map (·, True)
   | none => none
  | .max, xs, _ => match (kX te xs).bind sO with
   | some vs => (sx (gy P (Builtin.max_ argTypes o.type vs.toArray))).map (·, True)
   | none => none
  | _, _, _ => none
 | _ => none
end
section
variable {P : Program} {ty : eS} {tt : TypeId → Option TT} {ι : jR} {S : ak} {te : List TV} {env : List DV} {tS : List TB}
theorem oL {v : TV} {d : DV} (hk : v.known = true) (h : RT ι S v d) : cG ι S v.cells d.cells := by
 cases v <;> cases d <;> simp only [RT] at h <;> first | (cases hk; done) | exact h | (refine gn ?_; simp only [RT]; exact h)
theorem MC (d : DV) : RT ι S (sE d) d := by
 unfold sE
 split <;> simp [RT]
theorem pz : ∀ l : List DV, cG ι S (l.map sE) l
 | [] => bL
 | d :: l => aP (MC d) (pz l)
theorem Zd (d : DV) : RT ι S (UC d) d := by
 unfold UC
 split
 ·simp only [RT]; exact pz _
 ·simp only [RT, cG, and_true]
 ·exact MC _
theorem aS (h : cG ι S te env) {x : Operand} {v : TV} (hx : eZ te x = some v) : ∃ d, fM env x = some d ∧ RT ι S v d := by
 cases x with
 | tmp t => cases hx; exact ⟨_, rfl, x8 h t⟩
 | const u =>
  simp only [eZ, Option.map_eq_some_iff] at hx
  obtain ⟨d, h1, rfl⟩ := hx
  exact ⟨d, h1, Zd d⟩
 | func f => cases hx; exact ⟨_, rfl, by simp only [RT, cG, and_true]⟩
 | global g => cases hx
theorem pJ (h : cG ι S te env) : ∀ {xs : List Operand} {vs : List TV}, kX te xs = some vs → ∃ ds, evs (fM env) xs = some ds ∧ cG ι S vs ds
 | [], _, hx => by cases hx; exact ⟨[], rfl, bL⟩
 | x :: l, vs, hx => by
  simp only [kX] at hx
  split at hx
  ·rename_i d r h1 h2
   cases hx
   obtain ⟨d', k1, k2⟩ := aS h h1
   obtain ⟨ds, k3, k4⟩ := pJ h h2
   exact ⟨d' :: ds, by simp only [evs, k1, k3], aP k2 k4⟩
  ·cases hx
def xY (ι : jR) (S : ak) : List (Nat × TV) → List (Nat × DV) → Prop
 | [], [] => True
 | (i, v) :: l, (j, d) :: m => (j = i ∧ RT ι S v d) ∧ xY ι S l m
 | _, _ => False
theorem mJ (h : cG ι S te env) : ∀ {xs : List (Nat × Operand)} {vs : List (Nat × TV)}, um te xs = some vs → ∃ ds, gH (fM env) xs = some ds ∧ xY ι S vs ds
 | [], _, hx => by cases hx; exact ⟨[], rfl, trivial⟩
 | (i, x) :: l, vs, hx => by
  simp only [um] at hx
  split at hx
  ·rename_i d r h1 h2
   cases hx
   obtain ⟨d', k1, k2⟩ := aS h h1
   obtain ⟨ds, k3, k4⟩ := mJ h h2
   exact ⟨(i, d') :: ds, by simp only [gH, k1, k3], ⟨rfl, k2⟩, k4⟩
  ·cases hx
theorem vA : ∀ {l : List TV} {m : List DV} {vs : List Value}, cG ι S l m → ff l = some vs → nk m = some vs
 | [], m, vs, h, hx => by rw [aM h]; exact hx
 | a :: l, m, vs, h, hx => by
  obtain ⟨d, m', rfl, h1, h2⟩ := aj h
  unfold ff at hx
  split at hx
  ·rename_i e; cases e
  ·rename_i v l' e
   cases e
   simp only [Option.map_eq_some_iff] at hx
   obtain ⟨r, h3, rfl⟩ := hx
   cases d <;> simp only [RT] at h1
   subst h1
   simp only [nk, vA h2 h3, Option.map_some]
  ·cases hx
theorem AG {v : TV} {d : DV} {u : Value} (h : RT ι S v d) (hx : fG v = some u) : uZ d = some u := by
 unfold fG at hx
 split at hx
 ·cases hx
  cases d <;> simp only [RT] at h
  subst h
  rfl
 ·simp only [Option.map_eq_some_iff] at hx
  obtain ⟨r, h1, rfl⟩ := hx
  cases d <;> simp only [RT] at h
  simp only [uZ, vA h h1, Option.map_some]
 ·cases hx
theorem rz : ∀ {l : List TV} {m : List DV} {vs : List Value}, cG ι S l m → sO l = some vs → oD m = some vs
 | [], m, vs, h, hx => by rw [aM h]; exact hx
 | a :: l, m, vs, h, hx => by
  obtain ⟨d, m', rfl, h1, h2⟩ := aj h
  simp only [sO] at hx
  split at hx
  ·rename_i v r e1 e2
   cases hx
   simp only [oD, AG h1 e1, rz h2 e2]
  ·cases hx
theorem dM (h : cG ι S te env) {x : Operand} {u : Value} (hx : (eZ te x).bind fG = some u) : valOf (fM env) x = some u := by
 cases h1 : eZ te x with
 | none => rw [h1] at hx; cases hx
 | some v =>
  rw [h1] at hx
  obtain ⟨d, h2, h3⟩ := aS h h1
  simp only [valOf, h2, Option.bind_some]
  exact AG h3 hx
theorem lG (h : cG ι S te env) {x : Operand} {n : Int} (hx : Dd te x = some n) : intOf (fM env) x = some n := by
 unfold Dd at hx
 split at hx
 ·rename_i k m h1
  cases hx
  obtain ⟨d, h2, h3⟩ := aS h h1
  cases d <;> simp only [RT] at h3
  subst h3
  simp only [intOf, h2]
 ·cases hx
theorem bN {t : TypeId} {v : TV} {d : DV} (h : RT ι S v d) : RT ι S (gG tt t v) d := by
 unfold gG
 split
 ·split
  ·cases d <;> simp only [RT] at h
   obtain ⟨rfl, rfl, rfl⟩ := h
   simp only [RT, dn, qq, and_self]
  ·exact h
 ·exact h
theorem RL {l : List TV} {m : List DV} (h : cG ι S l m) {off n : Nat} {r : List TV} (hx : Vc l off n = some r) : ∃ r', LF m off n = some r' ∧ cG ι S r r' := by
 unfold Vc at hx
 split at hx
 ·cases hx
  rename_i hle
  exact ⟨_, if_pos (by rw [fJ h]; exact hle), x7 _ (x9 _ h)⟩
 ·cases hx
theorem Cq {l : List TV} {m : List DV} (h : cG ι S l m) {cs : List TV} {ds : List DV} (hc : cG ι S cs ds) {off : Nat} {r : List TV} (hx : Lj l off cs = some r) : ∃ r', qh m off ds = some r' ∧ cG ι S r r' := by
 unfold Lj at hx
 split at hx
 ·cases hx
  rename_i hle
  refine ⟨_, if_pos (by rw [fJ h, fJ hc]; exact hle), dO (dO (x7 _ h) hc) ?_⟩
  rw [fJ hc]
  exact x9 _ h
 ·cases hx
theorem mA {l : List TV} {m : List DV} (h : cG ι S l m) {agg : Bool} {size off : Nat} {r : TV} (hx : u9 agg size l off = some r) : ∃ r', kF agg size m off = some r' ∧ RT ι S r r' := by
 unfold u9 at hx
 split at hx
 ·rename_i ha
  simp only [Option.map_eq_some_iff] at hx
  obtain ⟨r1, h1, rfl⟩ := hx
  obtain ⟨r', h2, h3⟩ := RL h h1
  exact ⟨.agg r', by simp only [kF, ha, if_true, h2, Option.map_some], by simp only [RT]; exact h3⟩
 ·rename_i ha
  obtain ⟨d, h1, h2⟩ := pE h hx
  exact ⟨d, by simp only [kF, ha, h1]; rfl, h2⟩
theorem yx {place : Nat → Option (Nat × Nat)} : ∀ {ps : List (Nat × TV)} {qs : List (Nat × DV)} {l : List TV} {m : List DV} {r : List TV}, xY ι S ps qs → cG ι S l m → Dx place l ps = some r → ∃ r', gZ place m qs = some r' ∧ cG ι S r r'
 | [], [], l, m, r, _, h, hx => by cases hx; exact ⟨m, rfl, h⟩
 | (i, v) :: ps, (j, d) :: qs, l, m, r, hp, h, hx => by
  obtain ⟨⟨rfl, hv⟩, hp⟩ := hp
  simp only [Dx] at hx
  split at hx
  ·cases hx
  ·rename_i off size uX
   split at hx
   ·rename_i hc
    simp only [Bool.and_eq_true, beq_iff_eq] at hc
    have jQ := oL hc.1 hv
    split at hx
    ·rename_i jj kB
     obtain ⟨m', h1, h2⟩ := Cq h jQ kB
     obtain ⟨r', h3, h4⟩ := yx hp h2 hx
     refine ⟨r', ?_, h4⟩
     simp only [gZ, uX, fJ jQ, hc.2, if_true, h1, h3]
    ·cases hx
   ·cases hx
theorem pn {o : Option DV} {v : TV} (h : sx o = some v) : ∃ d, o = some d ∧ RT ι S v d := by
 unfold sx at h
 split at h
 ·cases h; exact ⟨_, rfl, by simp only [RT]⟩
 ·cases h
theorem N6 {t : Bool} {a b : Option TV} {v : TV} {a' b' : Option DV} (ha : ∀ v, a = some v → ∃ d, a' = some d ∧ RT ι S v d) (hb : ∀ v, b = some v → ∃ d, b' = some d ∧ RT ι S v d) (h : LR t a b = some v) : ∃ d, (if t then a' else b') = some d ∧ RT ι S v d := by
 unfold LR at h
 split at h
 ·cases h
  obtain ⟨d, h1, h2⟩ := ha _ rfl
  obtain ⟨e, h3, h4⟩ := hb _ rfl
  cases t
  ·exact ⟨e, h3, h4⟩
  ·exact ⟨d, h1, h2⟩
 ·split at h
  ·rename_i hk
   subst hk
   cases h
   obtain ⟨d, h1, h2⟩ := ha _ rfl
   obtain ⟨e, h3, h4⟩ := hb _ rfl
   cases t
   ·exact ⟨e, h3, h4⟩
   ·exact ⟨d, h1, h2⟩
  ·cases h
 ·split at h
  ·exact ha _ h
  ·exact hb _ h
end
end Go.Tv
end
section
namespace Go.Tv
open Go Go.Di
variable {P:Program} {ty:eS} {tt:TypeId→Option TT} {ι:jR} {S:ak} {te:List TV} {env:List DV} {tS:List TB} {aD:bq} {call:bg} {yf:dF} {o:Oper} {ay:Nat} {v:TV} {c:Prop}
def Ge (ι:jR) (S:ak) (tS:List TB):Prop:=∀ k l,tS[k]? = some (.cells l)→∃ k' ds,ι k=some k'∧S[k']? = some (.cells ds)∧cG ι S l ds
theorem Rj (hE:cG ι S te env) (hP:Ge ι S tS) {t:TypeId} {a:Operand} (ho:o.op = .load t a) (h:bh P ty tt te tS o=some (v,c)):∃ d,ah P ty aD call yf (fM env) o S ay=some (d,S)∧RT ι S v d:=by
 simp only[bh,ho] at h
 split at h
 ·rename_i td id off h1 h2
  split at h
  ·rename_i l h3
   simp only[Option.map_eq_some_iff,Prod.mk.injEq] at h
   obtain⟨w,h4,rfl,-⟩:=h
   obtain⟨d,k1,k2⟩:=aS hE h2
   obtain⟨gf,ds,k3,k4,k5⟩:=hP _ _ h3
   cases d<;>simp only[RT] at k2
   obtain⟨k6,rfl⟩:=k2
   rw[k3] at k6
   cases k6
   obtain⟨r,k7,k8⟩:=mA k5 h4
   exact⟨r,by simp only[ah,ho,k1,gY,h1,k4,k7,Option.map_some],bN k8⟩
  ·cases h
 ·rename_i td e l i off h1 h2
  simp only[Option.map_eq_some_iff,Prod.mk.injEq] at h
  obtain⟨w,h4,rfl,-⟩:=h
  obtain⟨d,k1,k2⟩:=aS hE h2
  cases d<;>simp only[RT] at k2
  obtain⟨k3,rfl,rfl,k4⟩:=k2
  obtain⟨r,m1,m2,-⟩:=ya k3 (List.getElem?_eq_getElem k4)
  rename_i j j'
  have hg:l.getD j e.Um=l[j]:=by simp[List.getD_eq_getElem?_getD,k4]
  rw[hg] at h4
  obtain⟨r',m3,m4⟩:=mA (mE (ι:=ι) (S:=S) m2) h4
  exact⟨r',by simp only[ah,ho,k1,gY,h1,m1,m3,Option.map_some],bN m4⟩
 ·cases h
def AD (t:TT):Nat→List (Nat×DV)→List t.den→Prop
 | _,[],[]=>True
 | i,(j,d)::qs,x::l=>(j=i∧CR t x d.strip.cells)∧AD t (i+1) qs l
 | _,_,_=>False
theorem EH {v:TV} {d:DV} (hk:v.xR=true) (h:RT ι S v d):d.strip.cells=d.cells.map DV.aG:=by
 cases v<;>cases d<;>simp only[RT] at h<;>first | (cases hk; done) | rfl
theorem Eo {v:TV} (hk:v.xR=true):v.known=true:=by cases v<;>first | rfl | cases hk
theorem yA {t:TT}:∀ {ps:List (Nat×TV)} {qs:List (Nat×DV)} {i:Nat} {l:List t.den},xY ι S ps qs→xP t i ps=some l→AD t i qs l∧l.length=ps.length
 | [],[],i,l,_,h=>by cases h; exact⟨trivial,rfl⟩
 | (j,v)::ps,(j',d)::qs,i,l,hp,h=>by
  obtain⟨⟨rfl,hv⟩,hp⟩:=hp
  simp only[xP] at h
  split at h
  ·rename_i hc
   simp only[Bool.and_eq_true,beq_iff_eq] at hc
   obtain⟨rfl,hk⟩:=hc
   split at h
   ·rename_i x l' h1 h2
    cases h
    obtain⟨cs,m',e1,e2,e3⟩:=As h1 (oL (Eo hk) hv)
    rw[aM e3,List.append_nil] at e1
    obtain⟨k1,k2⟩:=yA hp h2
    exact⟨⟨⟨rfl,by rw[EH hk hv,e1]; exact e2⟩,k1⟩,by simp[k2]⟩
   ·cases h
  ·cases h
def fQ (qs:List (Nat×DV)):List DV:=qs.flatMap fun q=>q.2.strip.cells
theorem rT {t:TT} {s:Nat} (hs:t.size=s):∀ {qs:List (Nat×DV)} {i:Nat} {l:List t.den} {pre post:List DV},AD t i qs l→pre.length=i*s→post.length=qs.length*s →
  gZ (fun i=>some (i*s,s)) (pre++post) (qs.map fun(i,v)=>(i,v.strip))=some (pre++fQ qs)
 | [],i,[],pre,post,_,hp,hq=>by
  have:post=[]:=List.eq_nil_of_length_eq_zero (by simpa using hq)
  subst this
  simp[gZ,fQ]
 | (j,d)::qs,i,x::l,pre,post,h,hp,hq=>by
  obtain⟨⟨rfl,hc⟩,h⟩:=h
  have hl:d.strip.cells.length=s:=(lV hc).trans hs
  have K5:post.length=qs.length*s+s:=by rw[hq,List.length_cons,Nat.add_mul,Nat.one_mul]
  have kB:qh (pre++post) (j*s) d.strip.cells=some ((pre++d.strip.cells)++post.drop s):=by
   unfold qh
   rw[if_pos (by rw[List.length_append,hp,hl]; omega),hl,← hp,List.take_left' rfl,List.drop_append,List.drop_eq_nil_of_le (by omega)]
   simp
  simp only[List.map_cons,gZ,hl,if_true,kB]
  rw[rT hs h (by rw[List.length_append,hp,hl,Nat.add_mul,Nat.one_mul]) (by rw[List.length_drop,K5]; omega)]
  simp[fQ]
theorem row_one {t:TT} {x:t.den} {cs:List DV} (h:CR t x cs) (ha:t.agg=false):CR t x (cs.getD 0 aV).cells∧xE t.agg (cs.getD 0 aV):=by
 cases t with
 | unit | pair=>cases ha
 | sl t =>
  simp only[CR] at h
  obtain⟨rows,f,rfl,h⟩:=h
  exact⟨by simp only[CR,List.getD_cons_zero,DV.cells]; exact⟨rows,f,rfl,h⟩,by simp[xE,TT.agg]⟩
 | _ =>
  simp only[CR] at h
  subst h
  exact⟨by simp only[CR,List.getD_cons_zero,DV.cells],by simp[xE,TT.agg]⟩
theorem vF {s:Nat} {agg:Bool} {c r:List DV} {n:Nat} (hc:c.length=s):rowsOf s agg (c++r) (n+1)=(if agg then .agg c else (c++r).getD 0 aV)::rowsOf s agg r n:=by
 unfold rowsOf
 rw[List.range_succ_eq_map,List.map_cons,List.map_map]
 congr 1
 ·unfold rowOf
  split
  ·rw[Nat.zero_mul,List.drop_zero,List.take_left' hc]
  ·rw[Nat.zero_mul]
 ·refine List.map_congr_left fun i _ => ?_
  simp only[Function.comp,rowOf,Nat.succ_eq_add_one,Nat.add_mul,Nat.one_mul]
  rw[Nat.add_comm (i*s) s,← hc,List.drop_append,List.drop_eq_nil_of_le (Nat.le_add_right _ _),Nat.add_sub_cancel_left,List.nil_append,List.getD_eq_getElem?_getD,List.getD_eq_getElem?_getD,List.getElem?_append_right (Nat.le_add_right _ _),Nat.add_sub_cancel_left]
theorem yM {t:TT} {s:Nat} (hs:t.size=s) (h1:t.agg=true∨s=1):∀ {qs:List (Nat×DV)} {i:Nat} {l:List t.den},AD t i qs l→dn (CR t) t.agg l (rowsOf s t.agg (fQ qs) l.length)
 | [],_,[],_=>by simp[rowsOf,dn]
 | (j,d)::qs,i,x::l,h=>by
  obtain⟨⟨rfl,hc⟩,h⟩:=h
  have hl:d.strip.cells.length=s:=(lV hc).trans hs
  have e:fQ ((j,d)::qs)=d.strip.cells++fQ qs:=by simp[fQ]
  rw[e,List.length_cons,vF hl]
  refine⟨?_,yM hs h1 h⟩
  cases ha:t.agg with
  | true=>exact⟨hc,by simp[xE]⟩
  | false =>
   have:=row_one hc ha
   rw[ha] at this
   have h2:0<d.strip.cells.length:=by rw[hl]; rcases h1 with h1 | h1<;>first | (rw[ha] at h1; cases h1; done) | omega
   have e2:(d.strip.cells++fQ qs).getD 0 aV=d.strip.cells.getD 0 aV:=by
    simp only[List.getD_eq_getElem?_getD,List.getElem?_append_left h2]
   simp only[Bool.false_eq_true,if_false]
   rw[e2]
   exact this
theorem rF {t:TT}:∀ {qs:List (Nat×DV)} {i:Nat} {l:List t.den},AD t i qs l→(fQ qs).all DV.bt=true
 | [],_,[],_=>rfl
 | (j,d)::qs,i,x::l,h=>by
  obtain⟨⟨rfl,hc⟩,h⟩:=h
  have e:fQ ((j,d)::qs)=d.strip.cells++fQ qs:=by simp[fQ]
  rw[e,List.all_append,pK hc,rF h]; rfl
theorem uJ:∀ {ps:List (Nat×TV)} {qs:List (Nat×DV)},xY ι S ps qs→qs.length=ps.length
 | [],[],_=>rfl
 | _::ps,_::qs,h=>by simp[uJ h.2]
theorem Ad (hE:cG ι S te env) {t:TypeId} {n:Nat} {ps:Array (Nat×Operand)} (ho:o.op = .buildSlice t n ps) (h:bh P ty tt te tS o=some (v,c)):∃ d,ah P ty aD call yf (fM env) o S ay=some (d,S)∧RT ι S v d:=by
 simp only[bh,ho] at h
 split at h
 ·rename_i e s iO agg sz z0 l k h1 h2 h3
  split at h
  ·rename_i k0 sz' z h4
   split at h
   ·rename_i hc
    simp only[Bool.and_eq_true,beq_iff_eq,Bool.or_eq_true,decide_eq_true_eq] at hc
    obtain⟨⟨⟨⟨⟨⟨⟨c1,c2⟩,c3⟩,c4⟩,c5⟩,c6⟩,c7⟩,c8⟩:=hc
    have c8:ty.h o≠1:=by simpa using c8
    simp only[Option.map_eq_some_iff,Prod.mk.injEq] at h
    obtain⟨w,h5,rfl,-⟩:=h
    obtain⟨ds,k1,k2⟩:=mJ hE h2
    obtain⟨k3,k4⟩:=yA k2 h5
    have hlen:ds.length=n:=by rw[uJ k2,c3]
    have UQ:((List.replicate n z).flatten).length=ds.length*s:=by
     rw[hlen,List.length_flatten,List.map_replicate,c4,List.sum_replicate_nat]
    have hf:=rT (pre:=[]) (post:=(List.replicate n z).flatten) c5 k3 (by simp) UQ
    rw[List.nil_append,List.nil_append] at hf
    have hn:w.length=n:=by rw[k4,c3]
    have hr:=yM c5 (by rw[c6]; exact c7) k3
    rw[c6,hn] at hr
    have c7':(agg||s==1)=true:=by simpa using c7
    refine⟨.sl (rowsOf s agg (fQ ds) n) none ⟨true,some false⟩,?_,?_⟩
    ·simp only[ah,ho,h1,k1,h4,decide_eq_true c1,decide_eq_true c2,Bool.and_self,if_true,hf,rF k3,c7',c8]
    ·simp only[RT,qq,and_self,and_true]
     rw[c6]
     exact hr
   ·cases h
  ·cases h
 ·cases h
theorem NC (hE:cG ι S te env) {t:TypeId} {x:Operand} {lo hi mx:Option Operand} (ho:o.op = .slice t x lo hi mx) (h:bh P ty tt te tS o=some (v,c)) (hc:c):∃ d,ah P ty aD call yf (fM env) o S ay=some (d,S)∧RT ι S v d:=by
 have hb:∀ {y:Option Operand} {b:Option Int},xT te y=some b→(y=none∧b=none)∨∃ z n,y=some z∧b=some n∧intOf (fM env) z=some n:=by
  intro y b hy
  cases y with
  | none=>cases hy; exact .inl ⟨rfl,rfl⟩
  | some z =>
   simp only[xT,Option.map_eq_some_iff] at hy
   obtain⟨n,h1,rfl⟩:=hy
   exact .inr ⟨z,n,rfl,rfl,lG hE h1⟩
 simp only[bh,ho] at h
 split at h
 ·rename_i e s iO agg sz z0 k l ap lo' Hf mx' h1 h2 h3 h4 h5
  split at h
  ·rename_i hs
   simp only[beq_iff_eq] at hs
   simp only[Option.map_eq_some_iff] at h2
   obtain⟨u,h6,h7⟩:=h2
   obtain⟨d,k1,k2⟩:=aS hE h6
   have k3:=bN (tt:=tt) (t:=t) k2
   rw[h7] at k3
   cases d<;>simp only[RT] at k3
   rename_i rows tok f
   obtain⟨k3,k4⟩:=k3
   have hlen:=iI k3
   have di:(rows.all fun r=>decide (r.cells.length=s))=true:=List.all_eq_true.2 fun r hr=>decide_eq_true ((ga k3 r hr).trans hs)
   simp only[Option.some.injEq] at h
   rcases hb h3 with ⟨rfl,rfl⟩ | ⟨zl,nl,rfl,rfl,el⟩<;>rcases hb h4 with ⟨rfl,rfl⟩ | ⟨zh,nh,rfl,rfl,eh⟩<;>rcases hb h5 with ⟨rfl,rfl⟩ | ⟨zm,nm,rfl,rfl,em⟩ <;>
    simp only[Mz,Prod.mk.injEq] at h<;>obtain⟨rfl,rfl⟩:=h
   ·exact⟨_,by simp only[ah,ho,h1,k1,di,eN,Nat.zero_le,mY,if_true,Bool.not_true,Bool.false_eq_true,if_false,Option.isNone,Option.isSome,Bool.and_false,Option.map_none,Option.map_some]; rfl,by simp only[RT,qq,and_true,List.drop_zero,List.take_length]; exact k3⟩
   ·exact hc.elim
   ·have a1:0≤nh∧nh.toNat≤rows.length:=⟨hc.1,by rw[hlen]; omega⟩
    exact⟨_,by simp only[ah,ho,h1,k1,di,eN,eh,a1,Nat.zero_le,mY,if_true,Bool.not_true,Bool.false_eq_true,if_false,Option.isNone,Option.isSome,Bool.and_false,Option.map_none,Option.map_some,and_self]; rfl,by simp only[RT,qq,and_true,List.drop_zero]; exact mG _ k3⟩
   ·obtain⟨b1,rfl,b2⟩:=hc
    have a1:0≤nh∧nh.toNat≤rows.length:=⟨b1,by rw[hlen]; omega⟩
    exact⟨_,by simp only[ah,ho,h1,k1,di,eN,eh,em,a1,Nat.zero_le,mY,if_true,Bool.not_true,Bool.false_eq_true,if_false,Option.isNone,Option.isSome,Bool.and_true,Option.map_some,and_self,Nat.le_refl]; rfl,by simp only[RT,qq,and_true,List.drop_zero,beq_self_eq_true]; exact mG _ k3⟩
   ·have a1:0≤nl∧nl.toNat≤rows.length:=⟨hc.1,by rw[hlen]; omega⟩
    exact⟨_,by simp only[ah,ho,h1,k1,di,eN,el,a1,mY,if_true,Bool.not_true,Bool.false_eq_true,if_false,Option.isNone,Option.isSome,Bool.and_false,Option.map_none,Option.map_some,and_self]; rfl,by simp only[RT,qq,and_true,List.take_length]; exact pR _ k3⟩
   ·exact hc.elim
   ·have a1:0≤nh∧nh.toNat≤rows.length:=⟨by omega,by rw[hlen]; omega⟩
    have a2:0≤nl∧nl.toNat≤nh.toNat:=⟨hc.1,by omega⟩
    exact⟨_,by simp only[ah,ho,h1,k1,di,eN,eh,el,a1,a2,mY,if_true,Bool.not_true,Bool.false_eq_true,if_false,Option.isNone,Option.isSome,Bool.and_false,Option.map_none,Option.map_some,and_self]; rfl,by simp only[RT,qq,and_true]; exact pR _ (mG _ k3)⟩
   ·obtain⟨b0,b1,rfl,b2⟩:=hc
    have a1:0≤nh∧nh.toNat≤rows.length:=⟨by omega,by rw[hlen]; omega⟩
    have a2:0≤nl∧nl.toNat≤nh.toNat:=⟨b0,by omega⟩
    exact⟨_,by simp only[ah,ho,h1,k1,di,eN,eh,el,em,a1,a2,mY,if_true,Bool.not_true,Bool.false_eq_true,if_false,Option.isNone,Option.isSome,Bool.and_true,Option.map_some,and_self,Nat.le_refl]; rfl,by simp only[RT,qq,and_true,beq_self_eq_true]; exact pR _ (mG _ k3)⟩
  ·cases h
 ·cases h
theorem Ec (hE:cG ι S te env) (hP:Ge ι S tS) (h:bh P ty tt te tS o=some (v,c)) (hc:c):∃ d,ah P ty aD call yf (fM env) o S ay=some (d,S)∧RT ι S v d:=by
 cases ho:o.op with
 | load t a=>exact Rj hE hP ho h
 | buildSlice t n ps=>exact Ad hE ho h
 | slice t x lo hi mx=>exact NC hE ho h hc
 | move x | assign x =>
  simp only[bh,ho,Option.map_eq_some_iff,Prod.mk.injEq] at h
  obtain⟨u,h1,rfl,-⟩:=h
  obtain⟨d,k1,k2⟩:=aS hE h1
  exact⟨d,by simp only[ah,ho,k1,Option.map_some],bN k2⟩
 | pick a b d =>
  simp only[bh,ho] at h
  split at h
  ·rename_i t h1
   simp only[Option.map_eq_some_iff,Prod.mk.injEq] at h
   obtain⟨u,h2,rfl,-⟩:=h
   obtain⟨e,k1,k2⟩:=aS hE h1
   cases e<;>simp only[RT] at k2
   subst k2
   obtain⟨e,k3,k4⟩:=N6 (fun v h=>aS hE h) (fun v h=>aS hE h) h2
   exact⟨e,by simp only[ah,ho,k1,k3,Option.map_some],k4⟩
  ·cases h
 | build t ps =>
  simp only[bh,ho] at h
  split at h
  ·rename_i fs sz z l h1 h2
   simp only[Option.map_eq_some_iff,Prod.mk.injEq] at h
   obtain⟨cs,h3,rfl,-⟩:=h
   obtain⟨ds,k1,k2⟩:=mJ hE h2
   obtain⟨r,k3,k4⟩:=yx k2 (pz _) h3
   exact⟨.agg r,by simp only[ah,ho,h1,k1,k3,Option.map_some],by simp only[RT]; exact k4⟩
  ·rename_i n s agg sz z l h1 h2
   simp only[Option.map_eq_some_iff,Prod.mk.injEq] at h
   obtain⟨cs,h3,rfl,-⟩:=h
   obtain⟨ds,k1,k2⟩:=mJ hE h2
   obtain⟨r,k3,k4⟩:=yx k2 (pz _) h3
   exact⟨.agg r,by simp only[ah,ho,h1,k1,k3,Option.map_some],by simp only[RT]; exact k4⟩
  ·cases h
 | nilCheck x =>
  simp only[bh,ho] at h
  split at h
  ·rename_i id off h1
   cases h
   obtain⟨d,k1,k2⟩:=aS hE h1
   cases d<;>simp only[RT] at k2
   exact⟨_,by simp only[ah,ho,k1]; rfl,by simp only[RT]; exact k2⟩
  ·cases h
 | binOp op t x y u =>
  simp only[bh,ho] at h
  split at h
  ·rename_i a b h1 h2
   simp only[Option.map_eq_some_iff,Prod.mk.injEq] at h
   obtain⟨w,h3,rfl,-⟩:=h
   obtain⟨d,k1,k2⟩:=pn (ι:=ι) (S:=S) h3
   exact⟨d,by simp only[ah,ho,dM hE h1,dM hE h2,k1,Option.map_some],k2⟩
  ·cases h
 | unOp op t x =>
  simp only[bh,ho] at h
  split at h
  ·rename_i a h1
   simp only[Option.map_eq_some_iff,Prod.mk.injEq] at h
   obtain⟨w,h3,rfl,-⟩:=h
   obtain⟨d,k1,k2⟩:=pn (ι:=ι) (S:=S) h3
   exact⟨d,by simp only[ah,ho,dM hE h1,k1,Option.map_some],k2⟩
  ·cases h
 | convert s t x =>
  simp only[bh,ho] at h
  split at h
  ·rename_i a h1
   simp only[Option.map_eq_some_iff,Prod.mk.injEq] at h
   obtain⟨w,h3,rfl,-⟩:=h
   obtain⟨d,k1,k2⟩:=pn (ι:=ι) (S:=S) h3
   exact⟨d,by simp only[ah,ho,dM hE h1,k1,Option.map_some],k2⟩
  ·cases h
 | makeFunc f fs cs =>
  cases f with
  | func f =>
   simp only[bh,ho] at h
   split at h
   ·rename_i a b h1 h2
    cases h
    obtain⟨d,k1,k2⟩:=pJ hE h1
    obtain⟨e,k3,k4⟩:=pJ hE h2
    exact⟨_,by simp only[ah,ho,k1,k3]; rfl,by simp only[RT]; exact⟨trivial,k2,k4⟩⟩
   ·cases h
  | _=>simp only[bh,ho] at h; cases h
 | fieldAddr t x f =>
  simp only[bh,ho] at h
  split at h
  ·rename_i fs sz z id off h1 h2
   split at h
   ·rename_i oo s ag h3
    split at h
    ·rename_i h4
     cases h
     obtain⟨d,k1,k2⟩:=aS hE h2
     cases d<;>simp only[RT] at k2
     obtain⟨k3,rfl⟩:=k2
     exact⟨_,by simp only[ah,ho,h1,k1,h3,h4,if_true]; rfl,by simp only[RT]; exact⟨k3,trivial⟩⟩
    ·cases h
   ·cases h
  ·rename_i fs sz z k l i off h1 h2
   split at h
   ·rename_i oo s ag h3
    split at h
    ·rename_i h4
     cases h
     obtain⟨d,k1,k2⟩:=aS hE h2
     cases d<;>simp only[RT] at k2
     obtain⟨k3,rfl,rfl,k4⟩:=k2
     exact⟨_,by simp only[ah,ho,h1,k1,h3,h4,if_true]; rfl,by simp only[RT]; exact⟨k3,trivial,trivial,k4⟩⟩
    ·cases h
   ·cases h
  ·cases h
 | field t x f =>
  simp only[bh,ho] at h
  split at h
  ·rename_i fs sz z l h1 h2
   split at h
   ·rename_i off s ag h3
    simp only[Option.map_eq_some_iff,Prod.mk.injEq] at h
    obtain⟨w,h4,rfl,-⟩:=h
    obtain⟨d,k1,k2⟩:=aS hE h2
    cases d<;>simp only[RT] at k2
    obtain⟨r,k3,k4⟩:=mA k2 h4
    exact⟨r,by simp only[ah,ho,h1,k1,h3,k3,Option.map_some],k4⟩
   ·cases h
  ·cases h
 | indexAddr t x i =>
  simp only[bh,ho] at h
  split at h
  ·rename_i e s iO ag sz z k l ap n h1 h2 h3
   split at h
   ·rename_i hs
    simp only[beq_iff_eq] at hs
    cases h
    simp only[Option.map_eq_some_iff] at h2
    obtain⟨u,h6,h7⟩:=h2
    obtain⟨d,k1,k2⟩:=aS hE h6
    have k3:=bN (tt:=tt) (t:=t) k2
    rw[h7] at k3
    cases d<;>simp only[RT] at k3
    obtain⟨k3,-⟩:=k3
    have hlt:n.toNat<l.length:=by omega
    obtain⟨r,m1,m2,-⟩:=ya k3 (List.getElem?_eq_getElem hlt)
    exact⟨_,by simp only[ah,ho,h1,k1,lG hE h3,hc.1,if_true,m1,(lV m2).trans hs]; rfl,by simp only[RT]; exact⟨k3,trivial,trivial,hlt⟩⟩
   ·cases h
  ·rename_i k s ag sz z id off n h1 h2 h3
   split at h
   ·rename_i h4
    cases h
    simp only[Option.map_eq_some_iff] at h2
    obtain⟨u,h6,h7⟩:=h2
    obtain⟨d,k1,k2⟩:=aS hE h6
    have k3:=bN (tt:=tt) (t:=t) k2
    rw[h7] at k3
    cases d<;>simp only[RT] at k3
    obtain⟨k5,rfl⟩:=k3
    exact⟨_,by simp only[ah,ho,h1,k1,lG hE h3,h4,and_self,if_true]; rfl,by simp only[RT]; exact⟨k5,trivial⟩⟩
   ·cases h
  ·rename_i k s ag sz z e l j off n h1 h2 h3
   split at h
   ·rename_i h4
    cases h
    simp only[Option.map_eq_some_iff] at h2
    obtain⟨u,h6,h7⟩:=h2
    obtain⟨d,k1,k2⟩:=aS hE h6
    have k3:=bN (tt:=tt) (t:=t) k2
    rw[h7] at k3
    cases d<;>simp only[RT] at k3
    obtain⟨k5,rfl,rfl,k6⟩:=k3
    exact⟨_,by simp only[ah,ho,h1,k1,lG hE h3,h4,and_self,if_true]; rfl,by simp only[RT]; exact⟨k5,trivial,trivial,k6⟩⟩
   ·cases h
  ·cases h
 | index t x i =>
  simp only[bh,ho] at h
  split at h
  ·rename_i k s ag sz z l n h1 h2 h3
   split at h
   ·rename_i h5
    simp only[Option.map_eq_some_iff,Prod.mk.injEq] at h
    obtain⟨w,h4,rfl,-⟩:=h
    obtain⟨d,k1,k2⟩:=aS hE h2
    cases d<;>simp only[RT] at k2
    obtain⟨r,k3,k4⟩:=mA k2 h4
    exact⟨r,by simp only[ah,ho,h1,k1,lG hE h3,h5,and_self,if_true,k3,Option.map_some],k4⟩
   ·cases h
  ·cases h
 | extract t i =>
  simp only[bh,ho] at h
  split at h
  ·rename_i l h1
   simp only[Option.map_eq_some_iff,Prod.mk.injEq] at h
   obtain⟨w,h4,rfl,-⟩:=h
   obtain⟨d,k1,k2⟩:=aS hE h1
   cases d<;>simp only[RT] at k2
   obtain⟨r,k3,k4⟩:=pE k2 h4
   exact⟨r,by simp only[ah,ho,k1,k3,Option.map_some],bN k4⟩
  ·cases h
 | call cl =>
  obtain⟨callee,args,argTypes⟩:=cl
  cases callee with
  | builtin b =>
   simp only[bh,ho] at h
   split at h
   ·rename_i x t ha ht
    split at h
    ·rename_i e s iO ag sz z k l ap h1 h2
     cases h
     simp only[Option.map_eq_some_iff] at h2
     obtain⟨u,h6,h7⟩:=h2
     obtain⟨d,k1,k2⟩:=aS hE h6
     have k3:=bN (tt:=tt) (t:=t) k2
     rw[h7] at k3
     cases d<;>simp only[RT] at k3
     exact⟨_,by simp only[ah,ho,ha,ht,h1,k1]; rfl,by simp only[RT]; rw[iI k3.1]⟩
    ·rename_i n s ag sz z h1
     cases h
     exact⟨_,by simp only[ah,ho,ha,ht,h1]; rfl,by simp only[RT]⟩
    ·rename_i w h2 hn2
     simp only[Option.map_eq_some_iff,Prod.mk.injEq] at h h2
     obtain⟨r,h4,rfl,-⟩:=h
     obtain⟨u,h6,h7⟩:=h2
     obtain⟨d,k1,k2⟩:=aS hE h6
     have k3:=bN (tt:=tt) (t:=t) k2
     rw[h7] at k3
     cases d<;>simp only[RT] at k3
     subst k3
     obtain⟨d,k5,k6⟩:=pn (ι:=ι) (S:=S) h4
     exact⟨d,by simp only[ah,ho,ha,ht,k1,k5,Option.map_some],k6⟩
    ·cases h
   ·split at h
    ·rename_i vs h1
     simp only[Option.map_eq_some_iff,Prod.mk.injEq] at h
     obtain⟨r,h4,rfl,-⟩:=h
     simp only[Option.bind_eq_some_iff] at h1
     obtain⟨us,h5,h6⟩:=h1
     obtain⟨ds,k1,k2⟩:=pJ hE h5
     obtain⟨d,k5,k6⟩:=pn (ι:=ι) (S:=S) h4
     exact⟨d,by simp only[ah,ho,k1,Option.bind_some,rz k2 h6,k5,Option.map_some],k6⟩
    ·cases h
   ·split at h
    ·rename_i vs h1
     simp only[Option.map_eq_some_iff,Prod.mk.injEq] at h
     obtain⟨r,h4,rfl,-⟩:=h
     simp only[Option.bind_eq_some_iff] at h1
     obtain⟨us,h5,h6⟩:=h1
     obtain⟨ds,k1,k2⟩:=pJ hE h5
     obtain⟨d,k5,k6⟩:=pn (ι:=ι) (S:=S) h4
     exact⟨d,by simp only[ah,ho,k1,Option.bind_some,rz k2 h6,k5,Option.map_some],k6⟩
    ·cases h
   ·cases h
  | _=>simp only[bh,ho] at h; cases h
 | _=>simp only[bh,ho] at h; cases h
end Go.Tv
end
section
namespace Go.Tv
open Go Go.Di
mutual
def Fb (g:Nat):TV→TV
 | .sl t l (.nY k)=>if k=g then .sl t l .no else .sl t l (.nY k)
 | .ptr id off=>if id=g then .unk else .ptr id off
 | .mp id=>if id=g then .unk else .mp id
 | .so id t=>if id=g then .unk else .so id t
 | .sp id t i off=>if id=g then .unk else .sp id t i off
 | .agg l => .agg (sB g l)
 | .fB l => .fB (sB g l)
 | .fn f a b => .fn f (sB g a) (sB g b)
 | v=>v
def sB (g:Nat):List TV→List TV
 | []=>[]
 | a::l=>Fb g a::sB g l
end
def nW (g:Nat):TB→TB
 | .cells l => .cells (sB g l)
 | b=>b
def om (tS:List TB) (i:Nat) (b:TB):List TB:=if i<tS.length then tS.set i b else tS++[b]
def Yt:TV→Bool
 | .val v => !(v matches .tuple _)
 | .unk | .agg _ | .fB _=>false
 | _=>true
def MU {α β:Type} (l:List α) (m:List β):Bool :=
 match l with
 | []=>true
 | _::_=>match m with
  | []=>false
  | _::_=>true
structure TR where
 v:TV
 te:List TV
 tS:List TB
 BL:List Nat
 c:Prop
section
variable (P:Program) (ty:eS) (tt:TypeId→Option TT)
def qY (te:List TV) (o:Oper):List Nat :=
 match o.op with
 | .load _ a=>match eZ te a with
  | some (.ptr id _)=>[id]
  | _=>[]
 | _=>[]
def stepT (te:List TV) (tS:List TB) (o:Oper) (nT:Nat):Option TR :=
 match o.op with
 | .alloc e=>match ty e with
  | some ⟨_,_,some z⟩=>some ⟨.ptr nT 0,te,om tS nT (.cells (z.map sE)),[nT],True⟩
  | _=>none
 | .box _ x=>match eZ te x with
  | some d=>if d.known then some ⟨.ptr nT 0,te,om tS nT (.cells d.cells),[nT],True⟩ else none
  | none=>none
 | .store t a x=>match ty t,eZ te a,(eZ te x).map (gG tt t) with
  | some d,some (.ptr id off),some v=>match tS[id]? with
   | some (.cells l)=>if v.known&&v.cells.length==d.size&&v.cells.all Yt then (Lj l off v.cells).map fun l'=>⟨.unk,te,tS.set id (.cells l'),[id],True⟩ else none
   | _=>none
  | _,_,_=>none
 | .call { callee := .builtin .append,args,argTypes }=>match args.toList,argTypes.toList with
  | [x,y],[t,u]=>if t=u∧ty.h o≠1 then match ty t,(eZ te x).map (gG tt t),(eZ te y).map (gG tt t) with
   | some ⟨.slice e s iO _,_,_⟩,some (.sl k l ap),some (.sl k' m _)=>match ty e with
    | some ⟨_,_,some _⟩=>if h:k'=k then
     if decide (0<s)&&decide (iO≤100000)&&k.size==s then match ap with
      | .no=>none
      | .full=>if MU l m then some ⟨.sl k (l++(h▸m)) (.nY nT),te,om tS nT (.own e s),[nT],l.length+m.length≤1000000000⟩ else none
      | .nY g=>match tS[g]? with
       | some (.own e' s')=>if e'==e&&s'==s then some ⟨.sl k (l++(h▸m)) (.nY g),sB g te,tS.map (nW g),[g,nT],l.length+m.length≤1000000000⟩ else none
       | _=>none
     else none
     else none
    | _=>none
   | _,_,_=>none
   else none
  | _,_=>none
 | _=>(bh P ty tt te tS o).map fun r=>⟨r.1,te,tS,qY te o,r.2⟩
end
def eH (ρ:Operand→Option DV) (o:Oper) (ay:Nat):List Nat :=
 match o.op with
 | .alloc _ | .box .. => [ay]
 | .store _ a _=>match ρ a with
  | some (.ptr id _)=>[id]
  | _=>[]
 | .load _ a=>match ρ a with
  | some (.ptr id _)=>[id]
  | some (.er id _ _)=>[id]
  | _=>[]
 | .call { callee := .builtin .append,args,.. }=>match (args[0]?).bind ρ with
  | some (.sl _ (some t) _)=>[t,ay]
  | _=>[ay]
 | _=>[]
def Al:(t:TT)→t.den→List Value
 | .int k,n=>[.int k n]
 | .bool,b=>[.bool b]
 | .str,s=>[.string s]
 | .unit,_=>[]
 | .pair a b,x=>Al a x.1++Al b x.2
 | .sl _,_=>[]
def iQ (t:TT) (x:t.den):Value := .agg (Al t x).toArray
def mW (t:TT) (l:List t.den):List (Value×Value):=l.map fun x=>(iQ t x,.bool true)
def dx (t:TT):List t.den→List DV→Prop
 | [],ds=>ds=[]
 | x::l,ds=>∃ c m,ds=c++m∧CR t x c∧dx t l m
def Vh:TB→Option DB→Prop
 | .map kt l,b=>b=some (.map (mW kt l))
 | .rows t e l z,b=>0<t.size∧(t.agg||t.size==1)=true∧∃ ds,b=some (.op e t.size ds z)∧dx t l ds
 | _,_=>True
structure bS (ι:jR) (te:List TV) (tS:List TB) (env:List DV) (S:ak):Prop where
 env:cG ι S te env
 cells:Ge ι S tS
 own:∀ k e s,tS[k]? = some (.own e s)→∀ t,ι k=some t→∃ n,S[t]? = some (.tail e s n)
 sw:∀ k k',ι k=some k'→∃ b,tS[k]? = some b∧b ≠ .none
 inj:∀ i j k',ι i=some k'→ι j=some k'→i=j
 mp:∀ k b,tS[k]? = some b→∀ t,ι k=some t→Vh b S[t]?
def Pj (ι:jR) (w:jR):Prop:=∀ k k',ι k=some k'→w k'=some k
section
variable {P:Program} {ty:eS} {tt:TypeId→Option TT} {ι ι' w:jR} {S S':ak} {te:List TV} {env:List DV} {tS:List TB} {aD:bq} {call:bg} {yf:dF} {o:Oper} {ay nT:Nat} {r:TR}
def Gc (a b:Option DB):Prop:=(∀ e s n,a=some (.tail e s n)→b=some (.tail e s n))∧∀ e s l z,a=some (.op e s l z)→∃ l' z',b=some (.op e s l' z')∧l'.length=l.length
theorem dU {a b:Option DB} (h:b=a):Gc a b:=by subst h; exact⟨fun _ _ _ h=>h,fun _ _ l z h=>⟨l,z,h,rfl⟩⟩
theorem wP {a b:Option DB} (h1:∀ e s n,a≠some (.tail e s n)) (h2:∀ e s l z,a≠some (.op e s l z)):Gc a b:=⟨fun _ _ _ h=>absurd h (h1 _ _ _),fun _ _ _ _ h=>absurd h (h2 _ _ _ _)⟩
def jx (ι:jR) (S:ak) (ι':jR) (S':ak) (bad:Nat→Prop):Prop:=∀ k k',¬ bad k→ι k=some k'→ι' k=some k'∧Gc S[k']? S'[k']?
theorem IU {n:Nat} {tok:Option Nat} {f:SF} {ap:Ap} {bad:Nat→Prop} (h:jx ι S ι' S' bad) (hb:∀ g,ap = .nY g→¬ bad g) (k:qq ι S n tok f ap):qq ι' S' n tok f ap:=by
 cases ap with
 | no=>trivial
 | full=>exact k
 | nY g =>
  refine k.imp id fun⟨t,e,s,h1,h2,h3⟩ => ?_
  obtain⟨h4,h5⟩:=h g t (hb g rfl) h1
  exact⟨t,e,s,h4,h2,h5.1 _ _ _ h3⟩
mutual
theorem QT (h:jx ι S ι' S' fun _=>False):∀ (v:TV) (d:DV),RT ι S v d→RT ι' S' v d
 | .unk,_,_=>by simp only[RT]
 | .val _,d,k=>by cases d<;>simp only[RT] at k ⊢; exact k
 | .gl,d,k=>by cases d<;>simp only[RT] at k ⊢; exact k
 | .agg l,d,k=>by cases d<;>simp only[RT] at k ⊢; exact bw h l _ k
 | .fB l,d,k=>by cases d<;>simp only[RT] at k ⊢; exact bw h l _ k
 | .sl t l ap,d,k=>by cases d<;>simp only[RT] at k ⊢; exact⟨k.1,IU h (fun _ _=>id) k.2⟩
 | .ptr id off,d,k=>by cases d<;>simp only[RT] at k ⊢; exact⟨(h _ _ (fun e=>e) k.1).1,k.2⟩
 | .dB t l i off,d,k=>by cases d<;>simp only[RT] at k ⊢; exact k
 | .mp id,d,k=>by cases d<;>simp only[RT] at k ⊢; exact(h _ _ (fun e=>e) k).1
 | .so g t,d,k=>by
  cases d<;>simp only[RT] at k ⊢
  obtain⟨k1,k2,e,s,l,z,k3,k4⟩:=k
  obtain⟨h1,h2⟩:=h _ _ (fun e=>e) k1
  obtain⟨l',z',h3,h4⟩:=h2.2 e s l z k3
  exact⟨h1,k2,e,s,l',z',h3,by omega⟩
 | .sp g t i off,d,k=>by
  cases d<;>simp only[RT] at k ⊢
  obtain⟨k1,k2,e,s,l,z,k3,k4,k5⟩:=k
  obtain⟨h1,h2⟩:=h _ _ (fun e=>e) k1
  obtain⟨l',z',h3,h4⟩:=h2.2 e s l z k3
  exact⟨h1,k2,e,s,l',z',h3,by omega,by omega⟩
 | .fn f a b,d,k=>by cases d<;>simp only[RT] at k ⊢; exact⟨k.1,bw h a _ k.2.1,bw h b _ k.2.2⟩
theorem bw (h:jx ι S ι' S' fun _=>False):∀ (l:List TV) (m:List DV),cG ι S l m→cG ι' S' l m
 | [],m,k=>by rw[aM k]; exact bL
 | a::l,m,k=>by
  obtain⟨d,m',rfl,h1,h2⟩:=aj k
  exact aP (QT h a d h1) (bw h l m' h2)
end
mutual
theorem VQ {g:Nat} (h:jx ι S ι' S' fun k=>k=g):∀ (v:TV) (d:DV),RT ι S v d→RT ι' S' (Fb g v) d
 | .unk,_,_=>by simp only[Fb,RT]
 | .val _,d,k=>by cases d<;>simp only[RT,Fb] at k ⊢; exact k
 | .gl,d,k=>by cases d<;>simp only[RT,Fb] at k ⊢; exact k
 | .agg l,d,k=>by cases d<;>simp only[RT,Fb] at k ⊢; exact jW h l _ k
 | .fB l,d,k=>by cases d<;>simp only[RT,Fb] at k ⊢; exact jW h l _ k
 | .sl t l .no,d,k=>by cases d<;>simp only[RT,Fb] at k ⊢; exact⟨k.1,trivial⟩
 | .sl t l .full,d,k=>by cases d<;>simp only[RT,Fb] at k ⊢; exact k
 | .sl t l (.nY j),d,k=>by
  cases d<;>simp only[RT] at k
  simp only[Fb]
  split
  ·simp only[RT]; exact⟨k.1,trivial⟩
  ·rename_i hj
   simp only[RT]; exact⟨k.1,IU h (fun g' e=>by cases e; exact hj) k.2⟩
 | .ptr id off,d,k=>by
  cases d<;>simp only[RT] at k
  simp only[Fb]
  split
  ·simp only[RT]
  ·rename_i hj
   simp only[RT]; exact⟨(h _ _ hj k.1).1,k.2⟩
 | .dB t l i off,d,k=>by cases d<;>simp only[RT,Fb] at k ⊢; exact k
 | .mp id,d,k=>by
  cases d<;>simp only[RT] at k
  simp only[Fb]
  split
  ·simp only[RT]
  ·rename_i hj
   simp only[RT]; exact(h _ _ hj k).1
 | .so j t,d,k=>by
  cases d<;>simp only[RT] at k
  simp only[Fb]
  split
  ·simp only[RT]
  ·rename_i hj
   simp only[RT]
   obtain⟨k1,k2,e,s,l,z,k3,k4⟩:=k
   obtain⟨h1,h2⟩:=h _ _ hj k1
   obtain⟨l',z',h3,h4⟩:=h2.2 e s l z k3
   exact⟨h1,k2,e,s,l',z',h3,by omega⟩
 | .sp j t i off,d,k=>by
  cases d<;>simp only[RT] at k
  simp only[Fb]
  split
  ·simp only[RT]
  ·rename_i hj
   simp only[RT]
   obtain⟨k1,k2,e,s,l,z,k3,k4,k5⟩:=k
   obtain⟨h1,h2⟩:=h _ _ hj k1
   obtain⟨l',z',h3,h4⟩:=h2.2 e s l z k3
   exact⟨h1,k2,e,s,l',z',h3,by omega,by omega⟩
 | .fn f a b,d,k=>by cases d<;>simp only[RT,Fb] at k ⊢; exact⟨k.1,jW h a _ k.2.1,jW h b _ k.2.2⟩
theorem jW {g:Nat} (h:jx ι S ι' S' fun k=>k=g):∀ (l:List TV) (m:List DV),cG ι S l m→cG ι' S' (sB g l) m
 | [],m,k=>by rw[aM k]; simp only[sB]; exact bL
 | a::l,m,k=>by
  obtain⟨d,m',rfl,h1,h2⟩:=aj k
  simp only[sB]
  exact aP (VQ h a d h1) (jW h l m' h2)
end
def uf (tS:List TB) (nT:Nat):Prop:=tS[nT]? = some .none∨nT=tS.length
def ug (S:ak) (ay:Nat):Prop:=S[ay]? = some .none∨ay=S.length
theorem bK {b:TB} (h:uf tS nT) (j:Nat):(om tS nT b)[j]? = if j=nT then some b else tS[j]? := by
 unfold om
 rcases h with h | h
 ·have hlt:=(List.getElem?_eq_some_iff.1 h).1
  rw[if_pos hlt,List.getElem?_set]
  by_cases e:nT=j
  ·subst e; rw[if_pos rfl,if_pos hlt,if_pos rfl]
  ·rw[if_neg e,if_neg (Ne.symm e)]
 ·subst h
  rw[if_neg (Nat.lt_irrefl _),List.getElem?_append]
  by_cases e:j=tS.length
  ·subst e; rw[if_neg (Nat.lt_irrefl _),if_pos rfl]; simp
  ·rw[if_neg e]
   split
   ·rfl
   ·rw[List.getElem?_eq_none (by simp; omega),List.getElem?_eq_none (by omega)]
theorem aQ {b:DB} (h:ug S ay) (j:Nat):(cW S ay b)[j]? = if j=ay then some b else S[j]? := by
 unfold cW
 rcases h with h | h
 ·have hlt:=(List.getElem?_eq_some_iff.1 h).1
  rw[if_pos hlt,List.getElem?_set]
  by_cases e:ay=j
  ·subst e; rw[if_pos rfl,if_pos hlt,if_pos rfl]
  ·rw[if_neg e,if_neg (Ne.symm e)]
 ·subst h
  rw[if_neg (Nat.lt_irrefl _),List.getElem?_append]
  by_cases e:j=S.length
  ·subst e; rw[if_neg (Nat.lt_irrefl _),if_pos rfl]; simp
  ·rw[if_neg e]
   split
   ·rfl
   ·rw[List.getElem?_eq_none (by simp; omega),List.getElem?_eq_none (by omega)]
def upd (ι:jR) (k k':Nat):jR:=fun j=>if j=k then some k' else ι j
theorem bS.live (h:bS ι te tS env S) {k k':Nat} (hk:ι k=some k'):∃ b,S[k']? = some b∧b ≠ .none:=by
 obtain⟨b,h1,h2⟩:=h.sw k k' hk
 cases b with
 | none=>exact(h2 rfl).elim
 | cells l =>
  obtain⟨k'',ds,h3,h4,-⟩:=h.cells k l h1
  rw[hk] at h3
  cases h3
  exact⟨_,h4,fun e=>by cases e⟩
 | own e s =>
  obtain⟨n,h3⟩:=h.own k e s h1 k' hk
  exact⟨_,h3,fun e=>by cases e⟩
 | map kt l=>exact⟨_,h.mp k _ h1 k' hk,fun e=>by cases e⟩
 | rows t e l z =>
  obtain⟨-,-,ds,h3,-⟩:=h.mp k _ h1 k' hk
  exact⟨_,h3,fun e=>by cases e⟩
theorem bS.cC (h:bS ι te tS env S) (hn:ug S ay) {k k':Nat} (hk:ι k=some k'):k'≠ay:=by
 rintro rfl
 obtain⟨b,h1,h2⟩:=h.live hk
 rcases hn with hn | hn
 ·rw[hn] at h1; cases h1; exact h2 rfl
 ·have:=(List.getElem?_eq_some_iff.1 h1).1; omega
theorem bS.new (h:bS ι te tS env S) (hn:uf tS nT):ι nT=none:=by
 cases hk:ι nT with
 | none=>rfl
 | some k' =>
  obtain⟨b,h1,h2⟩:=h.sw _ _ hk
  rcases hn with hn | hn
  ·rw[hn] at h1; cases h1; exact(h2 rfl).elim
  ·have:=(List.getElem?_eq_some_iff.1 h1).1; omega
theorem pV (h:bS ι te tS env S) (hT:uf tS nT) (hn:ug S ay) (b:DB):jx ι S (upd ι nT ay) (cW S ay b) fun _=>False:=by
 intro k k' _ hk
 have h1:k≠nT:=by rintro rfl; rw[h.new hT] at hk; cases hk
 exact⟨by simp only[upd,h1,if_false]; exact hk,dU (by rw[aQ hn,if_neg (h.cC hn hk)])⟩
theorem nj (h:bS ι te tS env S) (hn:ug S ay) (hT:uf tS nT) (hw:Pj ι w):Pj (upd ι nT ay) (upd w ay nT):=by
 intro k k' hk
 unfold upd at hk ⊢
 split at hk
 ·rename_i e
  subst e
  cases hk
  simp
 ·rw[if_neg (h.cC hn hk)]
  exact hw k k' hk
theorem qJ (h:bS ι te tS env S) (hT:uf tS nT) (hn:ug S ay) {ts:List TV} {ds:List DV} (hc:cG ι S ts ds):bS (upd ι nT ay) te (om tS nT (.cells ts)) env (cW S ay (.cells ds)):=by
 have K:=pV h hT hn (.cells ds)
 refine⟨bw K _ _ h.env,fun k l hk => ?_,fun k e s hk t ht => ?_,fun k k' hk => ?_,fun i j k' hi hj => ?_,fun k b hk t ht => ?_⟩
 ·rw[bK hT] at hk
  split at hk
  ·rename_i e
   subst e
   cases hk
   exact⟨ay,ds,by simp[upd],by rw[aQ hn,if_pos rfl],bw K _ _ hc⟩
  ·rename_i e
   obtain⟨k',fD,h1,h2,h3⟩:=h.cells k l hk
   exact⟨k',fD,by simp only[upd,e,if_false]; exact h1,by rw[aQ hn,if_neg (h.cC hn h1)]; exact h2,bw K _ _ h3⟩
 ·rw[bK hT] at hk
  split at hk
  ·cases hk
  ·rename_i e'
   simp only[upd,e',if_false] at ht
   obtain⟨n,h1⟩:=h.own k e s hk t ht
   exact⟨n,by rw[aQ hn,if_neg (h.cC hn ht)]; exact h1⟩
 ·rw[bK hT]
  split
  ·exact⟨_,rfl,fun e=>by cases e⟩
  ·rename_i e
   simp only[upd,e,if_false] at hk
   exact h.sw k k' hk
 ·unfold upd at hi hj
  split at hi<;>split at hj
  ·omega
  ·cases hi; exact(h.cC hn hj rfl).elim
  ·cases hj; exact(h.cC hn hi rfl).elim
  ·exact h.inj i j k' hi hj
 ·rw[bK hT] at hk
  split at hk
  ·cases hk; trivial
  ·rename_i e'
   simp only[upd,e',if_false] at ht
   rw[aQ hn,if_neg (h.cC hn ht)]
   exact h.mp k b hk t ht
def Lv (S:ak) (i:Nat):Prop:=∃ b,S[i]? = some b∧b ≠ .none
structure Fr (B:List Nat) (ι:jR) (S:ak) (ι':jR) (S':ak):Prop where
 rest:∀ k',Lv S k'→(∀ k,ι k≠some k')→S'[k']? = S[k']?
 ours:∀ k k',ι' k=some k'→(∃ j,ι j=some k')∨¬ Lv S k'
 base:∀ k,k∈B→ι' k=ι k
def lJ (B:List Nat) (tS:List TB):Prop:=∀ k,k∈B→∃ l,tS[k]? = some (.cells l)
theorem Fr.refl (B:List Nat) (ι:jR) (S:ak):Fr B ι S ι S:=⟨fun _ _ _=>rfl,fun k _ h => .inl ⟨k,h⟩,fun _ _=>rfl⟩
theorem Fr.trans {B:List Nat} {ι'':jR} {qP:ak} (h:Fr B ι S ι' S') (k:Fr B ι' S' ι'' qP):Fr B ι S ι'' qP where
 rest:=fun k' hl hn=>by
  have h1:=h.rest k' hl hn
  have fC:Lv S' k':=by obtain⟨b,h2,h3⟩:=hl; exact⟨b,h1.trans h2,h3⟩
  refine(k.rest k' fC fun j hj => ?_).trans h1
  rcases h.ours j k' hj with ⟨i,h2⟩ | h2
  ·exact hn i h2
  ·exact h2 hl
 ours:=fun j k' hj=>by
  rcases k.ours j k' hj with ⟨i,h1⟩ | h1
  ·exact h.ours i k' h1
  ·by_cases hl:Lv S k'
   ·by_cases hn:∃ j,ι j=some k'
    ·exact .inl hn
    ·refine(h1 ?_).elim
     obtain⟨b,h2,h3⟩:=hl
     exact⟨b,(h.rest k' ⟨b,h2,h3⟩ fun i hi=>hn ⟨i,hi⟩).trans h2,h3⟩
   ·exact .inr hl
 base:=fun j hj=>(k.base j hj).trans (h.base j hj)
theorem tM (hn:ug S ay):¬ Lv S ay:=by
 rintro⟨b,h1,h2⟩
 rcases hn with hn | hn
 ·rw[hn] at h1; cases h1; exact h2 rfl
 ·have:=(List.getElem?_eq_some_iff.1 h1).1; omega
theorem oF {B:List Nat} {g:Nat} {b:DB} (hn:ug S ay) (hg:g ∉ B):Fr B ι S (upd ι g ay) (cW S ay b) where
 rest:=fun k' hl _=>by
  rw[aQ hn,if_neg]
  rintro rfl
  exact tM hn hl
 ours:=fun k k' hk=>by
  unfold upd at hk
  split at hk
  ·cases hk; exact .inr (tM hn)
  ·exact .inl ⟨k,hk⟩
 base:=fun k hk=>by unfold upd; rw[if_neg (fun e:k=g=>hg (e▸hk))]
theorem uu {B:List Nat} {k0 id:Nat} {b:DB} (hk:ι k0=some id):Fr B ι S ι (S.set id b) where
 rest:=fun k' _ hn=>by
  rw[List.getElem?_set,if_neg]
  rintro rfl
  exact hn k0 hk
 ours:=fun k _ h => .inl ⟨k,h⟩
 base:=fun _ _=>rfl
theorem j5 {B:List Nat} (hB:lJ B tS) (hT:uf tS nT):nT ∉ B:=by
 intro hlt
 obtain⟨l,h1⟩:=hB _ hlt
 rcases hT with hT | hT
 ·rw[hT] at h1; cases h1
 ·have:=(List.getElem?_eq_some_iff.1 h1).1; omega
theorem iK {B:List Nat} {b:TB} (hB:lJ B tS) (hT:uf tS nT):lJ B (om tS nT b):=by
 intro k hk
 have:=j5 hB hT
 rw[bK hT,if_neg (fun e:k=nT=>this (e▸hk))]
 exact hB k hk
theorem RX {B:List Nat} {g e s:Nat} (hB:lJ B tS) (h:tS[g]? = some (.own e s)):g ∉ B:=by
 intro hlt
 obtain⟨l,h1⟩:=hB _ hlt
 rw[h] at h1; cases h1
def Nn (i:Nat) (S S':ak):Prop:=S.length≤S'.length∧∀ j,j≠i→S[j]? = some .none→S'[j]? = some .none
theorem dZ (i:Nat) (S:ak):Nn i S S:=⟨Nat.le_refl _,fun _ _ h=>h⟩
theorem lF {b:DB} (hn:ug S ay):Nn ay S (cW S ay b):=by
 refine⟨?_,fun j hj h=>by rw[aQ hn,if_neg hj]; exact h⟩
 unfold cW
 split<;>simp
theorem uo {i id:Nat} {b b':DB} (h:S[id]? = some b) (hb:b ≠ .none):Nn i S (S.set id b'):=by
 refine⟨by simp,fun j _ hj => ?_⟩
 rw[List.getElem?_set,if_neg]
 ·exact hj
 ·rintro rfl
  rw[h] at hj
  cases hj
  exact hb rfl
end
end Go.Tv
end
