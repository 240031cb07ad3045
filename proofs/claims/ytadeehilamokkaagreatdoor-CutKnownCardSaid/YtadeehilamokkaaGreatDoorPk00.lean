/- The law CutKnown: part 0: Cd1. By an AI agent. -/
import GoSem.Step
section
namespace Go.Di
open Go
structure SF where
  full : Bool
  isNil : Option Bool
inductive DV where
  | val (v : Value)
  | agg (l : List DV)
  | tup (l : List DV)
  | sl (rows : List DV) (tok : Option Nat) (full : SF)
  | ptr (id off : Nat)
  | eptr (rows : List DV) (i off : Nat)
  | fn (f : FuncId) (first captured : List DV)
  | map (id : Nat)
  | yld (id : Nat)
  | slo (id n : Nat) (agg : Bool)
  | optr (id n off : Nat)
instance : Inhabited DV := ⟨.val (.tuple #[])⟩
structure DLoop where
  st : LoopState
  pend : Option Code
  fn : FuncId
  env : List DV
  params : List Tmp
  assign : Code
  body : Code
  dfr : Nat
inductive DB where
  | none
  | cells (l : List DV)
  | tail (e : TypeId) (s n : Nat)
  | map (es : List (Value × Value))
  | defer
  | loop (r : DLoop)
  | op (e : TypeId) (s : Nat) (l : List DV) (z : Bool)
instance : Inhabited DB := ⟨.none⟩
abbrev Store := List DB
def dundef : DV := .val (.tuple #[])
def DV.cells : DV → List DV
  | .agg l => l
  | d => [d]
def flat (rows : List DV) : List DV := rows.flatMap DV.cells
def plainV : Value → Bool
  | .agg _ => false
  | .tuple vs => vs.size == 0
  | _ => true
def ofCell : Value → Option DV
  | .slice none 0 0 => some (.sl [] none ⟨true, some true⟩)
  | v => if plainV v then some (.val v) else none
def ofCells : List Value → Option (List DV)
  | [] => some []
  | v :: l => match ofCell v, ofCells l with
    | some d, some r => some (d :: r)
    | _, _ => none
def ofVal : Value → Option DV
  | .agg cs => (ofCells cs.toList).map .agg
  | .func (.func f) fs cs => if fs.size = 0 && cs.size = 0 then some (.fn f [] []) else none
  | v => ofCell v
def toCells : List DV → Option (List Value)
  | [] => some []
  | .val v :: l => (toCells l).map (v :: ·)
  | _ => none
def toVal : DV → Option Value
  | .val v => some v
  | .agg l => (toCells l).map fun r => .agg r.toArray
  | _ => none
def toVals : List DV → Option (List Value)
  | [] => some []
  | d :: l => match toVal d, toVals l with
    | some v, some r => some (v :: r)
    | _, _ => none
def DV.pure1 : DV → Bool
  | .val v => !(v matches .tuple _)
  | .sl _ none _ => true
  | _ => false
def DV.pure2 : DV → Bool
  | .agg l => l.all DV.pure1
  | .val _ => true
  | .sl _ none _ => true
  | _ => false
def DV.pure : DV → Bool
  | .tup l => l.all DV.pure2
  | d => d.pure2
def DV.strip1 : DV → DV
  | .sl r _ f => .sl r none ⟨false, f.isNil⟩
  | d => d
def DV.strip2 : DV → DV
  | .agg l => .agg (l.map DV.strip1)
  | .sl r _ f => .sl r none ⟨false, f.isNil⟩
  | d => d
def DV.strip : DV → DV
  | .tup l => .tup (l.map DV.strip2)
  | d => d.strip2
def DV.one : DV → Bool
  | .val v => !(v matches .tuple _)
  | .agg _ | .tup _ => false
  | _ => true
inductive TK where
  | one
  | struct (fs : List (Nat × Nat × Bool))
  | array (n s : Nat) (agg : Bool)
  | slice (e s b : Nat) (agg : Bool)
  deriving DecidableEq
structure TyD where
  k : TK
  size : Nat
  zero : Option (List DV)
def TK.isAgg : TK → Bool
  | .struct _ | .array _ _ _ => true
  | _ => false
section
variable (P : Program)
def aggOf (t : TypeId) : Bool :=
  match P.underlying t with
  | some (.struct _) | some (.array _ _) => true
  | _ => false
def pureS {α : Type} : Sem α → Option α
  | .pure a => some a
  | .program k => pureS (k P)
  | _ => none
def infoU (t : TypeId) : Option TypeInfo :=
  match P.info? t, P.underlying t with
  | some i, some _ => some i
  | _, _ => none
def tkOf (t : TypeId) : Option TK :=
  match P.underlying t with
  | some (.struct fs) => (fs.toList.mapM fun f => (infoU P f.type).map fun i => (f.offset, i.size, aggOf P f.type)).map .struct
  | some (.array n e) => (infoU P e).map fun i => .array n i.size (aggOf P e)
  | some (.slice e) => (infoU P e).map fun i => .slice e i.size i.bytes (aggOf P e)
  | some _ => some .one
  | none => none
def zeroOf (i : TypeInfo) : Option (List DV) :=
  match i.zero with
  | some z => match ofCells z.cells.toList with
    | some cs => if cs.length = i.size then some cs else none
    | none => none
  | none => none
def tyOf (t : TypeId) : Option TyD :=
  match tkOf P t, P.info? t with
  | some k, some i => some ⟨k, i.size, zeroOf i⟩
  | _, _ => none
end
def cutR (l : List DV) (off n : Nat) : Option (List DV) := if off + n ≤ l.length then some ((l.drop off).take n) else none
def putR (l : List DV) (off : Nat) (cs : List DV) : Option (List DV) := if off + cs.length ≤ l.length then some (l.take off ++ cs ++ l.drop (off + cs.length)) else none
def partD (agg : Bool) (size : Nat) (l : List DV) (off : Nat) : Option DV :=
  if agg then (cutR l off size).map .agg else l[off]?
structure Tys where
  f : TypeId → Option TyD
  hint : Tmp → TypeId → Nat
instance : CoeFun Tys fun _ => TypeId → Option TyD := ⟨Tys.f⟩
def Tys.h (ty : Tys) (o : Oper) : Nat :=
  match o.dst, o.op with
  | some d, .call { callee := .value _, .. } => ty.hint d o.type % 4
  | some d, _ => if ty.hint d o.type < 16380 then ty.hint d o.type % 4 else 0
  | none, _ => 0
abbrev CallF := FuncId → List DV → Store → Option (DV × Store)
abbrev IsoF := FuncId → List DV → Option DV
abbrev YldF := Nat → List DV → Store → Option (DV × Store)
section
variable (P : Program) (ty : Tys) (iso : IsoF) (call : CallF) (yf : YldF)
def evD (env : List DV) : Operand → Option DV
  | .tmp t => some (env.getD t dundef)
  | .const v => ofVal v
  | .func f => some (.fn f [] [])
  | .global _ => none
def evs (ρ : Operand → Option DV) : List Operand → Option (List DV)
  | [] => some []
  | x :: l => match ρ x, evs ρ l with
    | some d, some r => some (d :: r)
    | _, _ => none
def valOf (ρ : Operand → Option DV) (x : Operand) : Option Value := (ρ x).bind toVal
def intOf (ρ : Operand → Option DV) (x : Operand) : Option Int :=
  match ρ x with
  | some (.val (.int _ n)) => some n
  | _ => none
def isSlo : Option DV → Bool
  | some (.slo ..) => true
  | _ => false
def opD (S : Store) (id n : Nat) : Option (TypeId × Nat × List DV × Bool) :=
  match S[id]? with
  | some (.op e s l z) => if n * s = l.length then some (e, s, l, z) else none
  | _ => none
def pureD (s : Sem Value) : Option DV := (pureS P s).bind ofVal
def bytesD (s d : TypeId) : Value → Option DV
  | .string b => match P.underlying s, P.underlying d with
    | some _, some (.slice e) => match P.underlying e with
      | some (.int .u8) => some (.sl (b.data.toList.map fun c => .val (.int .u8 c.toNat)) none ⟨false, some false⟩)
      | _ => none
    | _, _ => none
  | _ => none
def strIx (ρ : Operand → Option DV) : Option Operand → Option (Option Value)
  | none => some none
  | some x => (valOf ρ x).map some
def loadD (S : Store) (t : TypeId) (a : DV) : Option DV :=
  match ty t, a with
  | some d, .ptr id off => match S[id]? with
    | some (.cells l) => partD d.k.isAgg d.size l off
    | _ => none
  | some d, .eptr rows i off => match rows[i]? with
    | some r => partD d.k.isAgg d.size r.cells off
    | none => none
  | some d, .optr id n off => match opD S id n with
    | some (_, _, l, _) => partD d.k.isAgg d.size l off
    | none => none
  | _, _ => none
def setS (S : Store) (i : Nat) (b : DB) : Store := if i < S.length then S.set i b else S ++ [b]
def storeD (S : Store) (t : TypeId) (a v : DV) : Option Store :=
  match ty t, a with
  | some d, .ptr id off => match S[id]? with
    | some (.cells l) => if v.cells.length = d.size && v.cells.all DV.one then (putR l off v.cells).map fun l' => S.set id (.cells l') else none
    | _ => none
  | some d, .optr id n off => match opD S id n with
    | some (e, s, l, false) => if v.strip.cells.length = d.size && v.strip.cells.all DV.pure1 then (putR l off v.strip.cells).map fun l' => S.set id (.op e s l' false) else none
    | _ => none
  | _, _ => none
def fillD (place : Nat → Option (Nat × Nat)) (cs : List DV) : List (Nat × DV) → Option (List DV)
  | [] => some cs
  | (i, v) :: r => match place i with
    | none => none
    | some (off, size) => if v.cells.length = size then match putR cs off v.cells with
        | some cs' => fillD place cs' r
        | none => none
      else none
def partsD (ρ : Operand → Option DV) : List (Nat × Operand) → Option (List (Nat × DV))
  | [] => some []
  | (i, x) :: l => match ρ x, partsD ρ l with
    | some d, some r => some ((i, d) :: r)
    | _, _ => none
def rowOf (s : Nat) (agg : Bool) (l : List DV) (i : Nat) : DV := if agg then .agg ((l.drop (i * s)).take s) else l.getD (i * s) dundef
def rowsOf (s : Nat) (agg : Bool) (l : List DV) (n : Nat) : List DV := (List.range n).map (rowOf s agg l)
def maxBytes : Nat := 140737488355328
def appendD (S : Store) (nid : Nat) (t : TypeId) (a b : DV) : Option (DV × Store) :=
  match ty t, a, b with
  | some ⟨.slice e s by_ _, _, _⟩, .sl rows tok full, .sl news _ _ =>
    if news.isEmpty then some (a, S)
    else match ty e with
    | some ⟨_, _, some _⟩ => if decide (0 < s) && decide ((rows.length + news.length) * by_ ≤ maxBytes) && decide (rows.length + news.length ≤ 140737488355328 - 4096) && news.all (fun r => decide (r.cells.length = s)) then
      let full' : Option (DV × Store) := if full.full && rows.all (fun r => decide (r.cells.length = s)) then some (.sl (rows ++ news) (some nid) ⟨false, none⟩, setS S nid (.tail e s ((rows.length + news.length) * s))) else none
      match tok with
      | none => full'
      | some t => match S[t]? with
        | some (.tail e' s' n) => if e' = e && s' = s && n = rows.length * s then some (.sl (rows ++ news) (some t) ⟨false, none⟩, S.set t (.tail e s ((rows.length + news.length) * s))) else none
        | _ => none
      else none
    | _ => none
  | _, _, _ => none
def appendO (S : Store) (nid : Nat) (t : TypeId) (a b : DV) : Option (DV × Store) :=
  match ty t, b with
  | some ⟨.slice e s by_ agg, _, _⟩, .sl news _ _ => match ty e with
    | some ⟨_, _, some _⟩ => match a with
      | .slo id n _ => if decide (0 < s) && (agg || s == 1) && decide ((n + news.length) * by_ ≤ maxBytes) && decide (n + news.length ≤ 140737488355328 - 4096) && news.all (fun r => decide (r.cells.length = s)) then match opD S id n with
        | some (e', s', l, false) => if e' = e && s' = s then if news.isEmpty then some (a, S) else some (.slo id (n + news.length) agg, S.set id (.op e s (l ++ flat news) false)) else none
        | _ => none
        else none
      | .sl [] none f => if news.isEmpty then some (a, S) else if f.full && decide (0 < s) && (agg || s == 1) && decide (news.length * by_ ≤ maxBytes) && decide (news.length ≤ 140737488355328 - 4096) && news.all (fun r => decide (r.cells.length = s)) then some (.slo nid news.length agg, setS S nid (.op e s (flat news) false)) else none
      | _ => none
    | _ => none
  | _, _ => none
def lookV (S : Store) : DV → DV
  | .slo id n agg => match opD S id n with
    | some (_, s, l, true) => if decide (0 < s) && (agg || s == 1) then .sl (rowsOf s agg l n) none ⟨false, some false⟩ else .slo id n agg
    | _ => .slo id n agg
  | d => d
def frzS (S : Store) : DV → Store
  | .slo id n _ => match opD S id n with
    | some (e, s, l, false) => S.set id (.op e s l true)
    | _ => S
  | _ => S
def frz1 (S : Store) : DV → Store
  | .agg l => l.foldl frzS S
  | d => frzS S d
def frzV (S : Store) : DV → Store
  | .tup l => l.foldl frz1 S
  | d => frz1 S d
def look1 (S : Store) : DV → DV
  | .agg l => .agg (l.map (lookV S))
  | d => lookV S d
def lookD (S : Store) : DV → DV
  | .tup l => .tup (l.map (look1 S))
  | d => look1 S d
def boundD (ρ : Operand → Option DV) (x : Option Operand) (dflt most : Nat) : Option Nat :=
  match x with
  | none => some dflt
  | some x => match intOf ρ x with
    | some i => if 0 ≤ i ∧ i.toNat ≤ most then some i.toNat else none
    | none => none
def nilD (rows : List DV) (f : SF) : Option Bool := if rows.isEmpty then f.isNil else some false
def nilEqD (op : BinOp) (t : TypeId) : Option DV → Option DV → Option DV
  | some (.sl rows _ f), some (.sl [] _ ⟨_, some true⟩) => match ty t, nilD rows f with
    | some ⟨.slice _ _ _ _, _, _⟩, some b => match op with
      | .eql => some (.val (.bool b))
      | .neq => some (.val (.bool (!b)))
      | _ => none
    | _, _ => none
  | _, _ => none
def sliceD (rows : List DV) (full : SF) (l h : Nat) (m : Option Nat) : Option DV :=
  if l ≤ h then match m with
    | none => some (.sl ((rows.take h).drop l) none ⟨full.full && h == rows.length, nilD rows full⟩)
    | some m => if h ≤ m then some (.sl ((rows.take h).drop l) none ⟨m == h, nilD rows full⟩) else none
  else none
def callD (g : FuncId) (args : List DV) (S : Store) : Option (DV × Store) :=
  if (args.map DV.strip).all DV.pure then match iso g (args.map DV.strip) with
    | some v => some (v, S)
    | none => call g args S
  else call g args S
def mkE (p : Value × Value) : MapEntry := ⟨p.1, p.2, 0⟩
def lookM (t : TypeId) (es : List MapEntry) (k : Value) (ok : Bool) : Sem Value := do
  let .map key elem ← underlying t | stuck "Lookup: map type expected"
  Instr.checkKey es.isEmpty 10000 key k
  let (v, o) ← match ← Instr.findKey key k es with
    | some (_, v) => pure (v, true)
    | none => pure (← zeroValue elem, false)
  pure (if ok then .tuple #[v, .bool o] else v)
def findM (t : TypeId) (es : List MapEntry) (k : Value) : Sem (Option (Nat × Value)) := do
  let .map key _ ← underlying t | stuck "MapUpdate: map type expected"
  Instr.checkKey false 10000 key k
  Instr.findKey key k es
def ofRes : Value → Option DV
  | .tuple vs => match vs.toList with
    | [v, .bool b] => (ofVal v).map fun d => .tup [d, .val (.bool b)]
    | _ => none
  | v => ofVal v
def setM (es : List (Value × Value)) (k v : Value) : Option (Nat × Value) → Option (List (Value × Value))
  | none => some (es ++ [(k, v)])
  | some (i, _) => match es[i]? with
    | some (k', _) => if Instr.sameBits 10000 k' k then some (es.set i (k, v)) else none
    | none => none
def stepOp (ρ : Operand → Option DV) (o : Oper) (S : Store) (nid : Nat) : Option (DV × Store) :=
  match o.op with
  | .move x | .assign x => (ρ x).map (·, S)
  | .pick c a b => match ρ c with
    | some (.val (.bool t)) => (if t then ρ a else ρ b).map (·, S)
    | _ => none
  | .alloc e => match ty e with
    | some ⟨_, _, some z⟩ => some (.ptr nid 0, setS S nid (.cells z))
    | _ => none
  | .box _ x => match ρ x with
    | some d => some (.ptr nid 0, setS S nid (.cells d.cells))
    | none => none
  | .build t ps => match ty t, partsD ρ ps.toList with
    | some ⟨.struct fs, _, some z⟩, some l => (fillD (fun i => (fs[i]?).map fun f => (f.1, f.2.1)) z l).map fun cs => (.agg cs, S)
    | some ⟨.array _ s _, _, some z⟩, some l => (fillD (fun i => some (i * s, s)) z l).map fun cs => (.agg cs, S)
    | _, _ => none
  | .buildSlice t n ps => match ty t, partsD ρ ps.toList with
    | some ⟨.slice e s _ agg, _, _⟩, some l => match ty e with
      | some ⟨_, _, some z⟩ => if decide (0 < s) && decide (n * s ≤ 16777216) then
          match fillD (fun i => some (i * s, s)) ((List.replicate n z).flatten) (l.map fun (i, v) => (i, v.strip)) with
          | some cs => if cs.all DV.pure1 && (agg || s == 1) then some (match ty.h o with
            | 1 => (.slo nid n agg, setS S nid (.op e s cs false))
            | _ => (.sl (rowsOf s agg cs n) none ⟨true, some false⟩, S)) else none
          | none => none
        else none
      | _ => none
    | _, _ => none
  | .makeSlice t a b => match ty t, intOf ρ a, intOf ρ b with
    | some ⟨.slice e s by_ agg, _, _⟩, some n, some m => match ty e with
      | some ⟨_, _, some z⟩ => if decide (0 ≤ n) && decide (m = n) && decide (0 < s) && (agg || s == 1) && decide (n ≤ 140737488355328 - 4096) && decide (n.toNat * by_ ≤ maxBytes) && (z.map DV.strip1).all DV.pure1 then
          some (.slo nid n.toNat agg, setS S nid (.op e s (List.replicate n.toNat (z.map DV.strip1)).flatten false)) else none
      | _ => none
    | _, _, _ => none
  | .load t a => match ρ a with
    | some a => (loadD ty S t a).map (·, S)
    | none => none
  | .store t a x => match ρ a, ρ x with
    | some a, some v => (storeD ty S t a v).map (dundef, ·)
    | _, _ => none
  | .nilCheck x => match ρ x with
    | some (.ptr id off) => some (.ptr id off, S)
    | _ => none
  | .binOp op t x y _ => match valOf ρ x, valOf ρ y with
    | some a, some b => (pureD P (do eqGuard op t x y a b; binOp op t a b)).map (·, S)
    | _, _ => (nilEqD ty op t (ρ x) (ρ y)).map (·, S)
  | .unOp op _ x => match valOf ρ x with
    | some a => (pureD P (Op.unary op a)).map (·, S)
    | none => none
  | .convert s d x => match valOf ρ x with
    | some a => match pureD P (Go.convert s d a) with
      | some r => some (r, S)
      | none => (bytesD P s d a).map (·, S)
    | none => none
  | .makeInterface t x => match valOf ρ x with
    | some a => (pureD P (Instr.makeInterface t a)).map (·, S)
    | none => none
  | .makeFunc (.func f) fs cs => match evs ρ fs.toList, evs ρ cs.toList with
    | some a, some b => some (.fn f a b, S)
    | _, _ => none
  | .slice t x lo hi mx => match ty t, ρ x with
    | some ⟨.slice _ s _ _, _, _⟩, some (.sl rows _ full) => if !rows.all (fun r => decide (r.cells.length = s)) then none else
      match boundD ρ mx rows.length rows.length with
      | some m => match boundD ρ hi rows.length m with
        | some h => match boundD ρ lo 0 h with
          | some l => if hi.isNone && mx.isSome then none else (sliceD rows full l h (mx.map fun _ => m)).map (·, S)
          | none => none
        | none => none
      | none => none
    | _, some (.val (.string b)) => match strIx ρ lo, strIx ρ hi, mx with
      | some l, some h, none => (pureD P (Instr.sliceAt t (.string b) l h none)).map (·, S)
      | _, _, _ => none
    | _, _ => none
  | .fieldAddr t x f => match ty t, ρ x with
    | some ⟨.struct fs, _, _⟩, some (.ptr id off) => match fs[f]? with
      | some (o, s, _) => if 0 < s then some (.ptr id (off + o), S) else none
      | none => none
    | some ⟨.struct fs, _, _⟩, some (.eptr rows i off) => match fs[f]? with
      | some (o, s, _) => if 0 < s then some (.eptr rows i (off + o), S) else none
      | none => none
    | some ⟨.struct fs, _, _⟩, some (.optr id n off) => match fs[f]?, opD S id n with
      | some (o, s, _), some _ => if 0 < s then some (.optr id n (off + o), S) else none
      | _, _ => none
    | _, _ => none
  | .field t x f => match ty t, ρ x with
    | some ⟨.struct fs, _, _⟩, some (.agg l) => match fs[f]? with
      | some (off, s, agg) => (partD agg s l off).map (·, S)
      | none => none
    | _, _ => none
  | .indexAddr t x i => match ty t, ρ x, intOf ρ i with
    | some ⟨.slice _ s _ _, _, _⟩, some (.sl rows _ _), some n => if 0 ≤ n then
        match rows[n.toNat]? with
        | some r => if r.cells.length = s then some (.eptr rows n.toNat 0, S) else none
        | none => none
      else none
    | some ⟨.array k s _, _, _⟩, some (.ptr id off), some n => if 0 ≤ n ∧ n.toNat < k then some (.ptr id (off + n.toNat * s), S) else none
    | some ⟨.array k s _, _, _⟩, some (.eptr rows j off), some n => if 0 ≤ n ∧ n.toNat < k then some (.eptr rows j (off + n.toNat * s), S) else none
    | some ⟨.slice _ s _ _, _, _⟩, some (.slo id m _), some n => match opD S id m with
      | some (_, s', _, _) => if 0 ≤ n ∧ n.toNat < m ∧ s' = s then some (.optr id m (n.toNat * s), S) else none
      | none => none
    | _, _, _ => none
  | .index t x i => match ty t, ρ x, intOf ρ i with
    | some ⟨.array k s agg, _, _⟩, some (.agg l), some n => if 0 ≤ n ∧ n.toNat < k then (partD agg s l (n.toNat * s)).map (·, S) else none
    | _, some (.val (.string b)), some _ => match valOf ρ i with
      | some iv => (pureD P (Instr.index t (.string b) iv)).map (·, S)
      | none => none
    | _, _, _ => none
  | .makeMap _ none => some (.map nid, setS S nid (.map []))
  | .lookup t m k ok => match ρ m, valOf ρ k with
    | some (.map id), some kv => match S[id]? with
      | some (.map es) => ((pureS P (lookM t (es.map mkE) kv ok)).bind ofRes).map (·, S)
      | _ => none
    | _, _ => none
  | .mapUpdate t m k v => match ρ m, valOf ρ k, valOf ρ v with
    | some (.map id), some kv, some vv => match S[id]? with
      | some (.map es) => match pureS P (findM t (es.map mkE) kv) with
        | some r => (setM es kv vv r).map fun es' => (dundef, S.set id (.map es'))
        | none => none
      | _ => none
    | _, _, _ => none
  | .extract t i => match ρ t with
    | some (.tup l) => (l[i]?).map (·, S)
    | _ => none
  | .call { callee := .builtin b, args, argTypes } => match b, args.toList, argTypes.toList with
    | .len, [x], [t] => match ty t, ρ x with
      | some ⟨.slice _ _ _ _, _, _⟩, some (.sl rows _ _) => some (.val (.int .i64 rows.length), S)
      | some ⟨.slice _ _ _ _, _, _⟩, some (.slo _ n _) => some (.val (.int .i64 n), S)
      | some ⟨.array n _ _, _, _⟩, _ => some (.val (.int .i64 n), S)
      | _, some (.val v) => (pureD P (Builtin.len_ #[t] o.type #[v])).map (·, S)
      | _, _ => none
    | .append, [x, y], [t, u] => if t = u then match ρ x, ρ y with
        | some a, some b => match a with
          | .slo .. => appendO ty S nid t a b
          | _ => match ty.h o with
            | 1 => appendO ty S nid t a b
            | _ => appendD ty S nid t a b
        | _, _ => none
      else none
    | .min, xs, _ => match (evs ρ xs).bind toVals with
      | some vs => (pureD P (Builtin.min_ argTypes o.type vs.toArray)).map (·, S)
      | none => none
    | .max, xs, _ => match (evs ρ xs).bind toVals with
      | some vs => (pureD P (Builtin.max_ argTypes o.type vs.toArray)).map (·, S)
      | none => none
    | _, _, _ => none
  | .call { callee := .value f, args, argTypes := _ } => match ρ f, evs ρ args.toList with
    | some (.fn g fs cs), some xs => match ty.h o with
      | 1 => call g (fs ++ xs ++ cs) S
      | _ => callD iso call g (fs ++ xs ++ cs) S
    | some (.yld id), some xs => yf id xs S
    | _, _ => none
  | _ => none
def wantedD (ops : Array Oper) (env : List DV) (o : Oper) : Bool :=
  match o.guard with
  | none => true
  | some (j, want) => match (ops[j]?).bind (·.dst) with
    | some d => match env[d]? with
      | some (.val (.bool b)) => b == want
      | _ => false
    | none => false
def putD (env : List DV) (dst : Option Tmp) (v : DV) : List DV :=
  match dst with
  | some d => env.set d v
  | none => env
def frzE (env : List DV) (S : Store) (x : Operand) : Store := match evD env x with | some d => frzS S d | none => S
def preD (o : Oper) (env : List DV) (S : Store) : List DV × Store :=
  match ty.h o with
  | 2 =>
    let S' := o.op.operands.toList.foldl (frzE env) S
    (env.map (lookV S'), S')
  | _ => (env, S)
def runL (ops : Array Oper) : List Oper → List DV → Store → Option (List DV × Store)
  | [], env, S => some (env, S)
  | o :: r, env, S =>
    if wantedD ops env o then match preD ty o env S with
      | (env, S) => match stepOp P ty iso call yf (evD env) o S S.length with
        | some (v, S') => runL ops r (putD env o.dst v) S'
        | none => none
    else runL ops r (putD env o.dst dundef) S
def quietOp (ρ : Operand → Option DV) (o : Oper) (S : Store) : Option DV :=
  match o.op with
  | .alloc _ | .box .. | .store .. | .makeMap .. | .mapUpdate .. | .makeSlice .. => none
  | .buildSlice .. => match ty.h o with
    | 1 => none
    | _ => (stepOp P ty iso call yf ρ o S S.length).map (·.1)
  | .call { callee := .builtin .append, .. } => none
  | .call { callee := .value f, args, argTypes := _ } => match ρ f, evs ρ args.toList with
    | some (.fn g fs cs), some xs => if ty.h o = 1 then none else if ((fs ++ xs ++ cs).map DV.strip).all DV.pure then iso g ((fs ++ xs ++ cs).map DV.strip) else none
    | _, _ => none
  | _ => (stepOp P ty iso call yf ρ o S S.length).map (·.1)
def runQ (ops : Array Oper) (S : Store) : List Oper → List DV → Option (List DV)
  | [], env => some env
  | o :: r, env =>
    if wantedD ops env o then match quietOp P ty iso call yf (evD env) o S with
      | some v => runQ ops S r (putD env o.dst v)
      | none => none
    else runQ ops S r (putD env o.dst dundef)
def onlyD (call : CallF) (g : FuncId) (args : List DV) (S : Store) : Option (Nat × DV × List DV) :=
  match args with
  | .ptr i off :: rest => match S[i]? with
    | some (.cells l) =>
      if (rest.map DV.strip).all DV.pure && (l.map DV.strip1).all DV.pure1 then
        match call g (.ptr 0 off :: rest.map DV.strip) [.cells (l.map DV.strip1)] with
        | some (v, .cells l' :: _) => if v.strip.pure && (l'.map DV.strip1).all DV.pure1 then some (i, v.strip, l'.map DV.strip1) else none
        | _ => none
      else none
    | _ => none
  | _ => none
def okP (R : List Nat) : DV → Bool
  | .ptr i _ => R.contains i
  | d => d.pure1
def okC (R : List Nat) : DV → Bool
  | .ptr i _ => R.contains i
  | .fn _ fs cs => fs.all (okP R) && cs.all (okP R)
  | d => d.pure1
def okA (R : List Nat) : DV → Bool
  | .ptr i _ => R.contains i
  | .fn _ fs cs => fs.all (okP R) && cs.all (okP R)
  | d => d.pure
def stripC : DV → DV
  | .fn f fs cs => .fn f (fs.map DV.strip1) (cs.map DV.strip1)
  | d => d.strip1
def stripA : DV → DV
  | .fn f fs cs => .fn f (fs.map DV.strip1) (cs.map DV.strip1)
  | d => d.strip
def idsP : DV → List Nat
  | .ptr i _ => [i]
  | _ => []
def idsC : DV → List Nat
  | .ptr i _ => [i]
  | .fn _ fs cs => fs.flatMap idsP ++ cs.flatMap idsP
  | _ => []
def idsB (S : Store) (i : Nat) : List Nat :=
  match S[i]? with
  | some (.cells l) => l.flatMap idsC
  | _ => []
def moreR (S : Store) (R : List Nat) : List Nat := R ++ (R.flatMap (idsB S)).filter fun i => !R.contains i
def reachD (S : Store) (args : List DV) : List Nat := moreR S (moreR S (moreR S (args.flatMap idsC)))
def cellsAt (S : Store) (R : List Nat) (i : Nat) : Bool :=
  match S[i]? with
  | some (.cells l) => (l.map stripC).all (okC R)
  | _ => false
def maskB (b : DB) : DB :=
  match b with
  | .cells l => .cells (l.map stripC)
  | _ => .none
def maskS (S : Store) (R : List Nat) : Store := S.mapIdx fun i b => if R.contains i then maskB b else .none
def backB (S1 : Store) (i : Nat) (b : DB) : DB :=
  match S1[i]? with
  | some (.cells l) => .cells (l.map stripC)
  | _ => b
def backS (S S1 : Store) (R : List Nat) : Store := S.mapIdx fun i b => if R.contains i then backB S1 i b else b
def multiD (call : CallF) (g : FuncId) (args : List DV) (S : Store) : Option (List Nat × DV × Store) :=
  if !(reachD S args).isEmpty && (args.map stripA).all (okA (reachD S args)) && (reachD S args).all (cellsAt S (reachD S args)) then
    match call g (args.map stripA) (maskS S (reachD S args)) with
    | some (v, S1) => if v.strip.pure && (reachD S args).all (cellsAt S1 (reachD S args)) then some (reachD S args, v.strip, S1) else none
    | none => none
  else none
def callM (call : CallF) : CallF := fun g args S => match multiD call g args S with
  | some (R, v, S1) => some (v, backS S S1 R)
  | none => call g args S
def call1 (call : CallF) : CallF := fun g args S => match onlyD call g args S with
  | some (i, v, l) => some (v, S.set i (.cells l))
  | none => callM call g args S
def slcR (r : Option (DV × Store)) : Option (List DV × Option (TypeId × Nat)) :=
  match r with
  | some (.sl rows (some t) _, S) => match S[t]? with
    | some (.tail e s n) => if n = rows.length * s then some (rows, some (e, s)) else none
    | _ => none
  | some (.sl [] none f, _) => if f.full then some ([], none) else none
  | _ => none
def slcD (call : CallF) (g : FuncId) (args : List DV) : Option (List DV × Option (TypeId × Nat)) :=
  if (args.map DV.strip).all DV.pure then slcR (call g (args.map DV.strip) []) else none
theorem set_id {α : Type} {S : List α} {n : Nat} {b : α} (h : S[n]? = some b) : S.set n b = S := by
  obtain ⟨h1, rfl⟩ := List.getElem?_eq_some_iff.1 h
  exact List.set_getElem_self h1
def openC (call : CallF) (nid : Nat) : CallF := fun g args S => match S[nid]?, slcD call g args with
  | some .none, some (rows, some (e, s)) => some (.sl rows (some nid) ⟨false, none⟩, S.set nid (.tail e s (rows.length * s)))
  | some .none, some (_, none) => some (.sl [] none ⟨true, none⟩, S.set nid .none)
  | _, _ => none
structure Foot where
  ids : Option (List Nat)
  wr : Bool
def stepDr (ρ : Operand → Option DV) (o : Oper) (S : Store) (nid : Nat) : Option (DV × Store × Foot) :=
  match o.op with
  | .alloc _ | .box .. | .makeMap .. => match S[nid]? with
    | some .none => (stepOp P ty iso call yf ρ o S nid).map fun r => (r.1, r.2, ⟨some [nid], true⟩)
    | _ => none
  | .store _ a _ => match ρ a with
    | some (.ptr id _) => (stepOp P ty iso call yf ρ o S nid).map fun r => (r.1, r.2, ⟨some [id], true⟩)
    | some (.optr id _ _) => (stepOp P ty iso call yf ρ o S nid).map fun r => (r.1, r.2, ⟨some [id], true⟩)
    | _ => none
  | .fieldAddr _ a _ => match ρ a with
    | some (.optr id _ _) => (stepOp P ty iso call yf ρ o S nid).map fun r => (r.1, r.2, ⟨some [id], false⟩)
    | _ => (stepOp P ty iso call yf ρ o S nid).map fun r => (r.1, r.2, ⟨some [], false⟩)
  | .indexAddr _ a _ => match ρ a with
    | some (.slo id _ _) => (stepOp P ty iso call yf ρ o S nid).map fun r => (r.1, r.2, ⟨some [id], false⟩)
    | _ => (stepOp P ty iso call yf ρ o S nid).map fun r => (r.1, r.2, ⟨some [], false⟩)
  | .buildSlice .. => match ty.h o with
    | 1 => none
    | _ => (stepOp P ty iso call yf ρ o S nid).map fun r => (r.1, r.2, ⟨some [], false⟩)
  | .makeSlice .. => none
  | .lookup _ m .. => match ρ m with
    | some (.map id) => (stepOp P ty iso call yf ρ o S nid).map fun r => (r.1, r.2, ⟨some [id], false⟩)
    | _ => none
  | .mapUpdate _ m .. => match ρ m with
    | some (.map id) => (stepOp P ty iso call yf ρ o S nid).map fun r => (r.1, r.2, ⟨some [id], true⟩)
    | _ => none
  | .load _ a => match ρ a with
    | some (.ptr id _) => (stepOp P ty iso call yf ρ o S nid).map fun r => (r.1, r.2, ⟨some [id], false⟩)
    | some (.optr id _ _) => (stepOp P ty iso call yf ρ o S nid).map fun r => (r.1, r.2, ⟨some [id], false⟩)
    | _ => (stepOp P ty iso call yf ρ o S nid).map fun r => (r.1, r.2, ⟨some [], false⟩)
  | .call { callee := .builtin .append, args, .. } => if ty.h o = 1 then none else if isSlo ((args[0]?).bind ρ) then none else match S[nid]?, (args[0]?).bind ρ with
    | some .none, some (.sl _ (some t) _) => (stepOp P ty iso call yf ρ o S nid).map fun r => (r.1, r.2, ⟨some [t, nid], true⟩)
    | some .none, _ => (stepOp P ty iso call yf ρ o S nid).map fun r => (r.1, r.2, ⟨some [nid], true⟩)
    | _, _ => none
  | .call { callee := .value f, args, argTypes := _ } => match ρ f, evs ρ args.toList with
    | some (.fn g fs cs), some xs =>
      let as_ := fs ++ xs ++ cs
      if ty.h o = 1 then (openC call nid g as_ S).map fun r => (r.1, r.2, ⟨some [nid], true⟩)
      else if (as_.map DV.strip).all DV.pure then (iso g (as_.map DV.strip)).map fun v => (v, S, ⟨some [], false⟩)
      else match onlyD call g as_ S with
        | some (i, v, l) => some (v, S.set i (.cells l), ⟨some [i], true⟩)
        | none => match multiD call g as_ S with
          | some (R, v, S1) => some (v, backS S S1 R, ⟨some R, true⟩)
          | none => (call g as_ S).map fun r => (r.1, r.2, ⟨none, true⟩)
    | some (.yld id), some xs => (yf id xs S).map fun r => (r.1, r.2, ⟨none, true⟩)
    | _, _ => none
  | _ => (stepOp P ty iso call yf ρ o S nid).map fun r => (r.1, r.2, ⟨some [], false⟩)
def runDr (ops : Array Oper) (n0 : Nat) : List Oper → Nat → List DV → Store → Option (List DV × Store × List Foot)
  | [], _, env, S => some (env, S, [])
  | o :: r, i, env, S =>
    if wantedD ops env o then match stepDr P ty iso call yf (evD env) o S (n0 + i) with
      | some (v, S', f) => match runDr ops n0 r (i + 1) (putD env o.dst v) S' with
        | some (env', S'', fs) => some (env', S'', f :: fs)
        | none => none
      | none => none
    else match runDr ops n0 r (i + 1) (putD env o.dst dundef) S with
      | some (env', S'', fs) => some (env', S'', ⟨some [], false⟩ :: fs)
      | none => none
def namesOf (ops : Array Oper) (o : Oper) : List Tmp :=
  o.dst.toList ++ o.op.operands.toList.filterMap (fun | .tmp t => some t | _ => none) ++ (match o.guard with | some (j, _) => ((ops[j]?).bind (·.dst)).toList | none => [])
def drawOk (ops : Array Oper) (b : Array Nat) : Bool :=
  (ops.toList.zipIdx.all fun (o, i) => o.after.all fun e => !Region.binds .any e || decide (e.on < i)) &&
  ops.toList.zipIdx.all fun (o, i) => ops.toList.zipIdx.all fun (o', j) => match o'.dst with
    | some d => i == j || !(namesOf ops o).contains d || (b.getD j 0).testBit i || (b.getD i 0).testBit j
    | none => true
def Foot.meets (f g : Foot) : Bool :=
  (f.wr || g.wr) && match f.ids, g.ids with
  | none, none => true
  | none, some l => !l.isEmpty
  | some l, none => !l.isEmpty
  | some l, some m => l.any m.contains
def metOk (b : Array Nat) (fs : List Foot) : Bool :=
  fs.zipIdx.all fun (f, i) => fs.zipIdx.all fun (g, j) => i == j || !f.meets g || (b.getD j 0).testBit i || (b.getD i 0).testBit j
def ptrCall (o : Oper) : Bool :=
  match o.op with
  | .call { callee := .value f, args := _, argTypes } => (match f, P.underlying o.type with
    | .tmp _, some .bool => true
    | _, _ => false) || match argTypes[0]? with
    | some t => match P.underlying t with
      | some (.pointer _) => true
      | _ => false
    | none => false
  | _ => false
def frzI (S : Store) (i : Nat) : Store := match S[i]? with
  | some (.op e s l false) => S.set i (.op e s l true)
  | _ => S
def shutL (S : Store) : Store := (List.range S.length).foldl frzI S
def lookB (S : Store) : DB → DB
  | .cells l => .cells (l.map (lookV S))
  | b => b
def shutR (ops : Array Oper) : Bool := ops.toList.any fun o => match o.op with
  | .load _ _ => ty.h o == 2
  | _ => false
def regionD0 (ops : Array Oper) (draw : Bool) (env : List DV) (S : Store) : Option (List DV × Store) :=
  if draw then if !drawOk ops (Region.before ops) then none else match if ops.toList.any (ptrCall P) then none else runQ P ty iso call yf ops S ops.toList env with
    | some env' => some (env', S)
    | none => match runDr P ty iso call yf ops S.length ops.toList 0 env (S ++ List.replicate ops.size .none) with
      | some (env', S', fs) => if metOk (Region.before ops) fs then some (env', S') else none
      | none => none
  else runL P ty iso call yf ops ops.toList env S
def regionD (ops : Array Oper) (draw : Bool) (env : List DV) (S : Store) : Option (List DV × Store) :=
  if draw && shutR ty ops then regionD0 P ty iso call yf ops draw (env.map (lookV (shutL S))) ((shutL S).map (lookB (shutL S)))
  else regionD0 P ty iso call yf ops draw env S
inductive DX where
  | normal
  | exit (id : Nat)
  | ret
  deriving DecidableEq
def iterD (f : List DV → Store → Option (DX × List DV × Store)) : Nat → List DV → Store → Option (DX × List DV × Store)
  | 0, _, _ => none
  | n + 1, env, S => match f env S with
    | some (.normal, env', S') => iterD f n env' S'
    | r => r
def codeD (L : Nat) (fn : FuncId) (rnd : Bool) : Code → List DV → Store → Option (DX × List DV × Store)
  | .skip, env, S | .label _, env, S => some (.normal, env, S)
  | .region _ ops draw, env, S => (regionD P ty iso call yf ops draw env S).map (.normal, ·)
  | .seq a b, env, S => match codeD L fn rnd a env S with
    | some (.normal, env', S') => codeD L fn rnd b env' S'
    | r => r
  | .cond c a b, env, S => match evD env c with
    | some (.val (.bool true)) => codeD L fn rnd a env S
    | some (.val (.bool false)) => codeD L fn rnd b env S
    | _ => none
  | .block id c, env, S => match codeD L fn rnd c env S with
    | some (.exit id', env', S') => some (if id' = id then .normal else .exit id', env', S')
    | r => r
  | .loop c, env, S => iterD (codeD L fn rnd c) L env S
  | .scope c, env, S => codeD L fn rnd c env S
  | .exit id, env, S => some (.exit id, env, S)
  | .ret, env, S => some (.ret, env, S)
  | .rangeFunc f ps asg body, env, S => if rnd then none else match evD env f with
    | some (.fn g fs cs) => match call g (fs ++ [.yld (S.length + 1)] ++ cs) (S ++ [.defer, .loop ⟨.ready, none, fn, env, ps.toList, asg, body, S.length⟩]) with
      | some (_, S') => match S'[S.length + 1]? with
        | some (.loop r) => if r.st == .busy then none else match r.pend with
          | none => some (.normal, env, S'.set (S.length + 1) (.loop { r with st := .exhausted }))
          | some .ret => some (.ret, env, S'.set (S.length + 1) (.loop { r with st := .exhausted }))
          | some (.exit e) => some (.exit e, env, S'.set (S.length + 1) (.loop { r with st := .exhausted }))
          | _ => none
        | _ => none
      | none => none
    | _ => none
  | _, _, _ => none
def setsD : List DV → List (Tmp × DV) → List DV
  | env, [] => env
  | env, (t, d) :: l => setsD (env.set t d) l
def roundD (L : Nat) : YldF := fun id args S => match S[id]? with
  | some (.loop r) => if args.length = r.params.length then
      match codeD P ty iso call yf L r.fn true r.assign (setsD r.env (r.params.zip args)) S with
      | some (.normal, env2, S1) => match S1[id]? with
        | some (.loop r1) => if r1.st = .ready then
            match codeD P ty iso call yf L r.fn true r.body env2 (S1.set id (.loop { r1 with st := .busy })) with
            | some (e, _, S2) => match S2[id]? with
              | some (.loop r2) => match e with
                | .normal => some (.val (.bool true), S2.set id (.loop { r2 with st := .ready, pend := none }))
                | .ret => some (.val (.bool false), S2.set id (.loop { r2 with st := .done, pend := some .ret }))
                | .exit i => some (.val (.bool false), S2.set id (.loop { r2 with st := .done, pend := some (.exit i) }))
              | _ => none
            | none => none
          else none
        | _ => none
      | _ => none
    else none
  | _ => none
def resD (env : List DV) (S : Store) : List ResultVar → Option (List DV)
  | [] => some []
  | .tmp t :: r => (resD env S r).map (env.getD t dundef :: ·)
  | .cell a t :: r => match loadD ty S t (env.getD a dundef), resD env S r with
    | some v, some l => some (v :: l)
    | _, _ => none
def oneOf : List DV → DV
  | [d] => d
  | l => .tup l
def bodyD (L : Nat) (f : FuncId) (fn : Func) (args : List DV) (S : Store) : Option (DV × Store) :=
  match fn.body with
  | some c => match codeD P ty iso call yf L f false c (args ++ List.replicate (fn.ntmps - args.length) dundef) S with
    | some (.normal, env, S') | some (.ret, env, S') => (resD ty env S' fn.results.toList).map fun l => (oneOf l, S')
    | _ => none
  | none => none
end
def isoOf (tab : IsoF) (call : CallF) : IsoF := fun f args => match tab f args with
  | some v => if v.pure then some v else none
  | none => match call f args [] with
    | some (v, S) => if (lookD (frzV S v) v).strip.pure then some (lookD (frzV S v) v).strip else none
    | none => none
def deepP (P : Program) (ty : Tys) (tab : IsoF) (L : Nat) : Nat → CallF × YldF
  | 0 => (fun _ _ _ => none, fun _ _ _ => none)
  | n + 1 => (fun f args S => match P.funcs[f]? with
      | some fn => bodyD P ty (isoOf tab (deepP P ty tab L n).1) (deepP P ty tab L n).1 (deepP P ty tab L n).2 L f fn args S
      | none => none,
    roundD P ty (isoOf tab (deepP P ty tab L n).1) (deepP P ty tab L n).1 (deepP P ty tab L n).2 L)
def deepD (P : Program) (ty : Tys) (tab : IsoF) (L n : Nat) : CallF := (deepP P ty tab L n).1
end Go.Di
end
