import GoSem.Step
section
namespace Go.Di
open Go
structure SF where
 full:Bool
 isNil:Option Bool
inductive DV where
 | val (v:Value)
 | agg (l:List DV)
 | tup (l:List DV)
 | sl (rows:List DV) (tok:Option Nat) (full:SF)
 | ptr (id off:Nat)
 | eptr (rows:List DV) (i off:Nat)
 | fn (f:FuncId) (first captured:List DV)
 | map (id:Nat)
 | yld (id:Nat)
instance:Inhabited DV:=⟨.val (.tuple #[])⟩
structure DLoop where
 st:LoopState
 pend:Option Code
 fn:FuncId
 env:List DV
 params:List Tmp
 assign:Code
 body:Code
 dfr:Nat
inductive DB where
 | none
 | cells (l:List DV)
 | tail (e:TypeId) (s n:Nat)
 | map (es:List (Value×Value))
 | defer
 | loop (r:DLoop)
instance:Inhabited DB:=⟨.none⟩
abbrev Store:=List DB
def dundef:DV := .val (.tuple #[])
def DV.cells:DV→List DV
 | .agg l=>l
 | d=>[d]
def flat (rows:List DV):List DV:=rows.flatMap DV.cells
def plainV:Value→Bool
 | .agg _=>false
 | .tuple vs=>vs.size==0
 | _=>true
def ofCell:Value→Option DV
 | .slice none 0 0=>some (.sl [] none ⟨true,some true⟩)
 | v=>if plainV v then some (.val v) else none
def ofCells:List Value→Option (List DV)
 | []=>some []
 | v::l=>match ofCell v,ofCells l with
  | some d,some r=>some (d::r)
  | _,_=>none
def ofVal:Value→Option DV
 | .agg cs=>(ofCells cs.toList).map .agg
 | .func (.func f) fs cs=>if fs.size=0&&cs.size=0 then some (.fn f [] []) else none
 | v=>ofCell v
def toCells:List DV→Option (List Value)
 | []=>some []
 | .val v::l=>(toCells l).map (v::·)
 | _=>none
def toVal:DV→Option Value
 | .val v=>some v
 | .agg l=>(toCells l).map fun r => .agg r.toArray
 | _=>none
def toVals:List DV→Option (List Value)
 | []=>some []
 | d::l=>match toVal d,toVals l with
  | some v,some r=>some (v::r)
  | _,_=>none
def DV.pure1:DV→Bool
 | .val v => !(v matches .tuple _)
 | .sl _ none _=>true
 | _=>false
def DV.pure2:DV→Bool
 | .agg l=>l.all DV.pure1
 | .val _=>true
 | .sl _ none _=>true
 | _=>false
def DV.pure:DV→Bool
 | .tup l=>l.all DV.pure2
 | d=>d.pure2
def DV.strip1:DV→DV
 | .sl r _ f => .sl r none ⟨false,f.isNil⟩
 | d=>d
def DV.strip2:DV→DV
 | .agg l => .agg (l.map DV.strip1)
 | .sl r _ f => .sl r none ⟨false,f.isNil⟩
 | d=>d
def DV.strip:DV→DV
 | .tup l => .tup (l.map DV.strip2)
 | d=>d.strip2
def DV.one:DV→Bool
 | .val v => !(v matches .tuple _)
 | .agg _ | .tup _=>false
 | _=>true
inductive TK where
 | one
 | struct (fs:List (Nat×Nat×Bool))
 | array (n s:Nat) (agg:Bool)
 | slice (e s b:Nat) (agg:Bool)
 deriving DecidableEq
structure TyD where
 k:TK
 size:Nat
 zero:Option (List DV)
def TK.isAgg:TK→Bool
 | .struct _ | .array _ _ _=>true
 | _=>false
section
variable (P:Program)
def aggOf (t:TypeId):Bool :=
 match P.underlying t with
 | some (.struct _) | some (.array _ _)=>true
 | _=>false
def pureS {α:Type}:Sem α→Option α
 | .pure a=>some a
 | .program k=>pureS (k P)
 | _=>none
def infoU (t:TypeId):Option TypeInfo :=
 match P.info? t,P.underlying t with
 | some i,some _=>some i
 | _,_=>none
def tkOf (t:TypeId):Option TK :=
 match P.underlying t with
 | some (.struct fs)=>(fs.toList.mapM fun f=>(infoU P f.type).map fun i=>(f.offset,i.size,aggOf P f.type)).map .struct
 | some (.array n e)=>(infoU P e).map fun i => .array n i.size (aggOf P e)
 | some (.slice e)=>(infoU P e).map fun i => .slice e i.size i.bytes (aggOf P e)
 | some _=>some .one
 | none=>none
def zeroOf (i:TypeInfo):Option (List DV) :=
 match i.zero with
 | some z=>match ofCells z.cells.toList with
  | some cs=>if cs.length=i.size then some cs else none
  | none=>none
 | none=>none
def tyOf (t:TypeId):Option TyD :=
 match tkOf P t,P.info? t with
 | some k,some i=>some ⟨k,i.size,zeroOf i⟩
 | _,_=>none
end
def cutR (l:List DV) (off n:Nat):Option (List DV):=if off+n≤l.length then some ((l.drop off).take n) else none
def putR (l:List DV) (off:Nat) (cs:List DV):Option (List DV):=if off+cs.length≤l.length then some (l.take off++cs++l.drop (off+cs.length)) else none
def partD (agg:Bool) (size:Nat) (l:List DV) (off:Nat):Option DV :=
 if agg then (cutR l off size).map .agg else l[off]?
abbrev Tys:=TypeId→Option TyD
abbrev CallF:=FuncId→List DV→Store→Option (DV×Store)
abbrev IsoF:=FuncId→List DV→Option DV
abbrev YldF:=Nat→List DV→Store→Option (DV×Store)
section
variable (P:Program) (ty:Tys) (iso:IsoF) (call:CallF) (yf:YldF)
def evD (env:List DV):Operand→Option DV
 | .tmp t=>some (env.getD t dundef)
 | .const v=>ofVal v
 | .func f=>some (.fn f [] [])
 | .global _=>none
def evs (ρ:Operand→Option DV):List Operand→Option (List DV)
 | []=>some []
 | x::l=>match ρ x,evs ρ l with
  | some d,some r=>some (d::r)
  | _,_=>none
def valOf (ρ:Operand→Option DV) (x:Operand):Option Value:=(ρ x).bind toVal
def intOf (ρ:Operand→Option DV) (x:Operand):Option Int :=
 match ρ x with
 | some (.val (.int _ n))=>some n
 | _=>none
def pureD (s:Sem Value):Option DV:=(pureS P s).bind ofVal
def loadD (S:Store) (t:TypeId) (a:DV):Option DV :=
 match ty t,a with
 | some d,.ptr id off=>match S[id]? with
  | some (.cells l)=>partD d.k.isAgg d.size l off
  | _=>none
 | some d,.eptr rows i off=>match rows[i]? with
  | some r=>partD d.k.isAgg d.size r.cells off
  | none=>none
 | _,_=>none
def setS (S:Store) (i:Nat) (b:DB):Store:=if i<S.length then S.set i b else S++[b]
def storeD (S:Store) (t:TypeId) (a v:DV):Option Store :=
 match ty t,a with
 | some d,.ptr id off=>match S[id]? with
  | some (.cells l)=>if v.cells.length=d.size&&v.cells.all DV.one then (putR l off v.cells).map fun l'=>S.set id (.cells l') else none
  | _=>none
 | _,_=>none
def fillD (place:Nat→Option (Nat×Nat)) (cs:List DV):List (Nat×DV)→Option (List DV)
 | []=>some cs
 | (i,v)::r=>match place i with
  | none=>none
  | some (off,size)=>if v.cells.length=size then match putR cs off v.cells with
    | some cs'=>fillD place cs' r
    | none=>none
   else none
def partsD (ρ:Operand→Option DV):List (Nat×Operand)→Option (List (Nat×DV))
 | []=>some []
 | (i,x)::l=>match ρ x,partsD ρ l with
  | some d,some r=>some ((i,d)::r)
  | _,_=>none
def rowOf (s:Nat) (agg:Bool) (l:List DV) (i:Nat):DV:=if agg then .agg ((l.drop (i*s)).take s) else l.getD (i*s) dundef
def rowsOf (s:Nat) (agg:Bool) (l:List DV) (n:Nat):List DV:=(List.range n).map (rowOf s agg l)
def maxBytes:Nat:=140737488355328
def appendD (S:Store) (nid:Nat) (t:TypeId) (a b:DV):Option (DV×Store) :=
 match ty t,a,b with
 | some ⟨.slice e s by_ _,_,_⟩,.sl rows tok full,.sl news _ _ =>
  if news.isEmpty then some (a,S)
  else match ty e with
  | some ⟨_,_,some _⟩=>if decide (0<s)&&decide ((rows.length+news.length)*by_≤maxBytes)&&decide (rows.length+news.length≤140737488355328-4096)&&news.all (fun r=>decide (r.cells.length=s)) then
   let full':Option (DV×Store):=if full.full&&rows.all (fun r=>decide (r.cells.length=s)) then some (.sl (rows++news) (some nid) ⟨false,none⟩,setS S nid (.tail e s ((rows.length+news.length)*s))) else none
   match tok with
   | none=>full'
   | some t=>match S[t]? with
    | some (.tail e' s' n)=>if e'=e&&s'=s&&n=rows.length*s then some (.sl (rows++news) (some t) ⟨false,none⟩,S.set t (.tail e s ((rows.length+news.length)*s))) else none
    | _=>none
   else none
  | _=>none
 | _,_,_=>none
def boundD (ρ:Operand→Option DV) (x:Option Operand) (dflt most:Nat):Option Nat :=
 match x with
 | none=>some dflt
 | some x=>match intOf ρ x with
  | some i=>if 0≤i∧i.toNat≤most then some i.toNat else none
  | none=>none
def nilD (rows:List DV) (f:SF):Option Bool:=if rows.isEmpty then f.isNil else some false
def nilEqD (op:BinOp) (t:TypeId):Option DV→Option DV→Option DV
 | some (.sl rows _ f),some (.sl [] _ ⟨_,some true⟩)=>match ty t,nilD rows f with
  | some ⟨.slice _ _ _ _,_,_⟩,some b=>match op with
   | .eql=>some (.val (.bool b))
   | .neq=>some (.val (.bool (!b)))
   | _=>none
  | _,_=>none
 | _,_=>none
def sliceD (rows:List DV) (full:SF) (l h:Nat) (m:Option Nat):Option DV :=
 if l≤h then match m with
  | none=>some (.sl ((rows.take h).drop l) none ⟨full.full&&h==rows.length,nilD rows full⟩)
  | some m=>if h≤m then some (.sl ((rows.take h).drop l) none ⟨m==h,nilD rows full⟩) else none
 else none
def callD (g:FuncId) (args:List DV) (S:Store):Option (DV×Store) :=
 if (args.map DV.strip).all DV.pure then match iso g (args.map DV.strip) with
  | some v=>some (v,S)
  | none=>call g args S
 else call g args S
def mkE (p:Value×Value):MapEntry:=⟨p.1,p.2,0⟩
def lookM (t:TypeId) (es:List MapEntry) (k:Value) (ok:Bool):Sem Value:=do
 let .map key elem ← underlying t | stuck "Lookup: map type expected"
 Instr.checkKey es.isEmpty 10000 key k
 let (v,o) ← match ← Instr.findKey key k es with
  | some (_,v)=>pure (v,true)
  | none=>pure (← zeroValue elem,false)
 pure (if ok then .tuple #[v,.bool o] else v)
def findM (t:TypeId) (es:List MapEntry) (k:Value):Sem (Option (Nat×Value)):=do
 let .map key _ ← underlying t | stuck "MapUpdate: map type expected"
 Instr.checkKey false 10000 key k
 Instr.findKey key k es
def ofRes:Value→Option DV
 | .tuple vs=>match vs.toList with
  | [v,.bool b]=>(ofVal v).map fun d => .tup [d,.val (.bool b)]
  | _=>none
 | v=>ofVal v
def setM (es:List (Value×Value)) (k v:Value):Option (Nat×Value)→Option (List (Value×Value))
 | none=>some (es++[(k,v)])
 | some (i,_)=>match es[i]? with
  | some (k',_)=>if Instr.sameBits 10000 k' k then some (es.set i (k,v)) else none
  | none=>none
def stepOp (ρ:Operand→Option DV) (o:Oper) (S:Store) (nid:Nat):Option (DV×Store) :=
 match o.op with
 | .move x | .assign x=>(ρ x).map (·,S)
 | .pick c a b=>match ρ c with
  | some (.val (.bool t))=>(if t then ρ a else ρ b).map (·,S)
  | _=>none
 | .alloc e=>match ty e with
  | some ⟨_,_,some z⟩=>some (.ptr nid 0,setS S nid (.cells z))
  | _=>none
 | .box _ x=>match ρ x with
  | some d=>some (.ptr nid 0,setS S nid (.cells d.cells))
  | none=>none
 | .build t ps=>match ty t,partsD ρ ps.toList with
  | some ⟨.struct fs,_,some z⟩,some l=>(fillD (fun i=>(fs[i]?).map fun f=>(f.1,f.2.1)) z l).map fun cs=>(.agg cs,S)
  | some ⟨.array _ s _,_,some z⟩,some l=>(fillD (fun i=>some (i*s,s)) z l).map fun cs=>(.agg cs,S)
  | _,_=>none
 | .buildSlice t n ps=>match ty t,partsD ρ ps.toList with
  | some ⟨.slice e s _ agg,_,_⟩,some l=>match ty e with
   | some ⟨_,_,some z⟩=>if decide (0<s)&&decide (n*s≤16777216) then
     match fillD (fun i=>some (i*s,s)) ((List.replicate n z).flatten) (l.map fun(i,v)=>(i,v.strip)) with
     | some cs=>if cs.all DV.pure1&&(agg||s==1) then some (.sl (rowsOf s agg cs n) none ⟨true,some false⟩,S) else none
     | none=>none
    else none
   | _=>none
  | _,_=>none
 | .load t a=>match ρ a with
  | some a=>(loadD ty S t a).map (·,S)
  | none=>none
 | .store t a x=>match ρ a,ρ x with
  | some a,some v=>(storeD ty S t a v).map (dundef,·)
  | _,_=>none
 | .nilCheck x=>match ρ x with
  | some (.ptr id off)=>some (.ptr id off,S)
  | _=>none
 | .binOp op t x y _=>match valOf ρ x,valOf ρ y with
  | some a,some b=>(pureD P (do eqGuard op t x y a b; binOp op t a b)).map (·,S)
  | _,_=>(nilEqD ty op t (ρ x) (ρ y)).map (·,S)
 | .unOp op _ x=>match valOf ρ x with
  | some a=>(pureD P (Op.unary op a)).map (·,S)
  | none=>none
 | .convert s d x=>match valOf ρ x with
  | some a=>(pureD P (Go.convert s d a)).map (·,S)
  | none=>none
 | .makeFunc (.func f) fs cs=>match evs ρ fs.toList,evs ρ cs.toList with
  | some a,some b=>some (.fn f a b,S)
  | _,_=>none
 | .slice t x lo hi mx=>match ty t,ρ x with
  | some ⟨.slice _ s _ _,_,_⟩,some (.sl rows _ full)=>if !rows.all (fun r=>decide (r.cells.length=s)) then none else
   match boundD ρ mx rows.length rows.length with
   | some m=>match boundD ρ hi rows.length m with
    | some h=>match boundD ρ lo 0 h with
     | some l=>if hi.isNone&&mx.isSome then none else (sliceD rows full l h (mx.map fun _=>m)).map (·,S)
     | none=>none
    | none=>none
   | none=>none
  | _,_=>none
 | .fieldAddr t x f=>match ty t,ρ x with
  | some ⟨.struct fs,_,_⟩,some (.ptr id off)=>match fs[f]? with
   | some (o,s,_)=>if 0<s then some (.ptr id (off+o),S) else none
   | none=>none
  | some ⟨.struct fs,_,_⟩,some (.eptr rows i off)=>match fs[f]? with
   | some (o,s,_)=>if 0<s then some (.eptr rows i (off+o),S) else none
   | none=>none
  | _,_=>none
 | .field t x f=>match ty t,ρ x with
  | some ⟨.struct fs,_,_⟩,some (.agg l)=>match fs[f]? with
   | some (off,s,agg)=>(partD agg s l off).map (·,S)
   | none=>none
  | _,_=>none
 | .indexAddr t x i=>match ty t,ρ x,intOf ρ i with
  | some ⟨.slice _ s _ _,_,_⟩,some (.sl rows _ _),some n=>if 0≤n then
    match rows[n.toNat]? with
    | some r=>if r.cells.length=s then some (.eptr rows n.toNat 0,S) else none
    | none=>none
   else none
  | some ⟨.array k s _,_,_⟩,some (.ptr id off),some n=>if 0≤n∧n.toNat<k then some (.ptr id (off+n.toNat*s),S) else none
  | some ⟨.array k s _,_,_⟩,some (.eptr rows j off),some n=>if 0≤n∧n.toNat<k then some (.eptr rows j (off+n.toNat*s),S) else none
  | _,_,_=>none
 | .index t x i=>match ty t,ρ x,intOf ρ i with
  | some ⟨.array k s agg,_,_⟩,some (.agg l),some n=>if 0≤n∧n.toNat<k then (partD agg s l (n.toNat*s)).map (·,S) else none
  | _,_,_=>none
 | .makeMap _ none=>some (.map nid,setS S nid (.map []))
 | .lookup t m k ok=>match ρ m,valOf ρ k with
  | some (.map id),some kv=>match S[id]? with
   | some (.map es)=>((pureS P (lookM t (es.map mkE) kv ok)).bind ofRes).map (·,S)
   | _=>none
  | _,_=>none
 | .mapUpdate t m k v=>match ρ m,valOf ρ k,valOf ρ v with
  | some (.map id),some kv,some vv=>match S[id]? with
   | some (.map es)=>match pureS P (findM t (es.map mkE) kv) with
    | some r=>(setM es kv vv r).map fun es'=>(dundef,S.set id (.map es'))
    | none=>none
   | _=>none
  | _,_,_=>none
 | .extract t i=>match ρ t with
  | some (.tup l)=>(l[i]?).map (·,S)
  | _=>none
 | .call { callee := .builtin b,args,argTypes }=>match b,args.toList,argTypes.toList with
  | .len,[x],[t]=>match ty t,ρ x with
   | some ⟨.slice _ _ _ _,_,_⟩,some (.sl rows _ _)=>some (.val (.int .i64 rows.length),S)
   | some ⟨.array n _ _,_,_⟩,_=>some (.val (.int .i64 n),S)
   | _,some (.val v)=>(pureD P (Builtin.len_ #[t] o.type #[v])).map (·,S)
   | _,_=>none
  | .append,[x,y],[t,u]=>if t=u then match ρ x,ρ y with
    | some a,some b=>appendD ty S nid t a b
    | _,_=>none
   else none
  | .min,xs,_=>match (evs ρ xs).bind toVals with
   | some vs=>(pureD P (Builtin.min_ argTypes o.type vs.toArray)).map (·,S)
   | none=>none
  | .max,xs,_=>match (evs ρ xs).bind toVals with
   | some vs=>(pureD P (Builtin.max_ argTypes o.type vs.toArray)).map (·,S)
   | none=>none
  | _,_,_=>none
 | .call { callee := .value f,args,argTypes:=_ }=>match ρ f,evs ρ args.toList with
  | some (.fn g fs cs),some xs=>callD iso call g (fs++xs++cs) S
  | some (.yld id),some xs=>yf id xs S
  | _,_=>none
 | _=>none
def wantedD (ops:Array Oper) (env:List DV) (o:Oper):Bool :=
 match o.guard with
 | none=>true
 | some (j,want)=>match (ops[j]?).bind (·.dst) with
  | some d=>match env[d]? with
   | some (.val (.bool b))=>b==want
   | _=>false
  | none=>false
def putD (env:List DV) (dst:Option Tmp) (v:DV):List DV :=
 match dst with
 | some d=>env.set d v
 | none=>env
def runL (ops:Array Oper):List Oper→List DV→Store→Option (List DV×Store)
 | [],env,S=>some (env,S)
 | o::r,env,S =>
  if wantedD ops env o then match stepOp P ty iso call yf (evD env) o S S.length with
   | some (v,S')=>runL ops r (putD env o.dst v) S'
   | none=>none
  else runL ops r (putD env o.dst dundef) S
def quietOp (ρ:Operand→Option DV) (o:Oper) (S:Store):Option DV :=
 match o.op with
 | .alloc _ | .box .. | .store .. | .makeMap .. | .mapUpdate .. => none
 | .call { callee := .builtin .append,.. }=>none
 | .call { callee := .value f,args,argTypes:=_ }=>match ρ f,evs ρ args.toList with
  | some (.fn g fs cs),some xs=>if ((fs++xs++cs).map DV.strip).all DV.pure then iso g ((fs++xs++cs).map DV.strip) else none
  | _,_=>none
 | _=>(stepOp P ty iso call yf ρ o S S.length).map (·.1)
def runQ (ops:Array Oper) (S:Store):List Oper→List DV→Option (List DV)
 | [],env=>some env
 | o::r,env =>
  if wantedD ops env o then match quietOp P ty iso call yf (evD env) o S with
   | some v=>runQ ops S r (putD env o.dst v)
   | none=>none
  else runQ ops S r (putD env o.dst dundef)
def onlyD (call:CallF) (g:FuncId) (args:List DV) (S:Store):Option (Nat×DV×List DV) :=
 match args with
 | .ptr i off::rest=>match S[i]? with
  | some (.cells l) =>
   if (rest.map DV.strip).all DV.pure&&(l.map DV.strip1).all DV.pure1 then
    match call g (.ptr 0 off::rest.map DV.strip) [.cells (l.map DV.strip1)] with
    | some (v,.cells l'::_)=>if v.strip.pure&&(l'.map DV.strip1).all DV.pure1 then some (i,v.strip,l'.map DV.strip1) else none
    | _=>none
   else none
  | _=>none
 | _=>none
def call1 (call:CallF):CallF:=fun g args S=>match onlyD call g args S with
 | some (i,v,l)=>some (v,S.set i (.cells l))
 | none=>call g args S
structure Foot where
 ids:Option (List Nat)
 wr:Bool
def stepDr (ρ:Operand→Option DV) (o:Oper) (S:Store) (nid:Nat):Option (DV×Store×Foot) :=
 match o.op with
 | .alloc _ | .box .. | .makeMap .. => match S[nid]? with
  | some .none=>(stepOp P ty iso call yf ρ o S nid).map fun r=>(r.1,r.2,⟨some [nid],true⟩)
  | _=>none
 | .store _ a _=>match ρ a with
  | some (.ptr id _)=>(stepOp P ty iso call yf ρ o S nid).map fun r=>(r.1,r.2,⟨some [id],true⟩)
  | _=>none
 | .lookup _ m .. => match ρ m with
  | some (.map id)=>(stepOp P ty iso call yf ρ o S nid).map fun r=>(r.1,r.2,⟨some [id],false⟩)
  | _=>none
 | .mapUpdate _ m .. => match ρ m with
  | some (.map id)=>(stepOp P ty iso call yf ρ o S nid).map fun r=>(r.1,r.2,⟨some [id],true⟩)
  | _=>none
 | .load _ a=>match ρ a with
  | some (.ptr id _)=>(stepOp P ty iso call yf ρ o S nid).map fun r=>(r.1,r.2,⟨some [id],false⟩)
  | _=>(stepOp P ty iso call yf ρ o S nid).map fun r=>(r.1,r.2,⟨some [],false⟩)
 | .call { callee := .builtin .append,args,.. }=>match S[nid]?,(args[0]?).bind ρ with
  | some .none,some (.sl _ (some t) _)=>(stepOp P ty iso call yf ρ o S nid).map fun r=>(r.1,r.2,⟨some [t,nid],true⟩)
  | some .none,_=>(stepOp P ty iso call yf ρ o S nid).map fun r=>(r.1,r.2,⟨some [nid],true⟩)
  | _,_=>none
 | .call { callee := .value f,args,argTypes:=_ }=>match ρ f,evs ρ args.toList with
  | some (.fn g fs cs),some xs =>
   let as_:=fs++xs++cs
   if (as_.map DV.strip).all DV.pure then (iso g (as_.map DV.strip)).map fun v=>(v,S,⟨some [],false⟩)
   else match onlyD call g as_ S with
    | some (i,v,l)=>some (v,S.set i (.cells l),⟨some [i],true⟩)
    | none=>(call g as_ S).map fun r=>(r.1,r.2,⟨none,true⟩)
  | some (.yld id),some xs=>(yf id xs S).map fun r=>(r.1,r.2,⟨none,true⟩)
  | _,_=>none
 | _=>(stepOp P ty iso call yf ρ o S nid).map fun r=>(r.1,r.2,⟨some [],false⟩)
def runDr (ops:Array Oper) (n0:Nat):List Oper→Nat→List DV→Store→Option (List DV×Store×List Foot)
 | [],_,env,S=>some (env,S,[])
 | o::r,i,env,S =>
  if wantedD ops env o then match stepDr P ty iso call yf (evD env) o S (n0+i) with
   | some (v,S',f)=>match runDr ops n0 r (i+1) (putD env o.dst v) S' with
    | some (env',S'',fs)=>some (env',S'',f::fs)
    | none=>none
   | none=>none
  else match runDr ops n0 r (i+1) (putD env o.dst dundef) S with
   | some (env',S'',fs)=>some (env',S'',⟨some [],false⟩::fs)
   | none=>none
def namesOf (ops:Array Oper) (o:Oper):List Tmp :=
 o.dst.toList++o.op.operands.toList.filterMap (fun | .tmp t=>some t | _=>none)++(match o.guard with | some (j,_)=>((ops[j]?).bind (·.dst)).toList | none=>[])
def drawOk (ops:Array Oper) (b:Array Nat):Bool :=
 (ops.toList.zipIdx.all fun(o,i)=>o.after.all fun e => !Region.binds .any e||decide (e.on<i)) &&
 ops.toList.zipIdx.all fun(o,i)=>ops.toList.zipIdx.all fun(o',j)=>match o'.dst with
  | some d=>i==j || !(namesOf ops o).contains d||(b.getD j 0).testBit i||(b.getD i 0).testBit j
  | none=>true
def Foot.meets (f g:Foot):Bool :=
 (f.wr||g.wr)&&match f.ids,g.ids with
 | none,none=>true
 | none,some l => !l.isEmpty
 | some l,none => !l.isEmpty
 | some l,some m=>l.any m.contains
def metOk (b:Array Nat) (fs:List Foot):Bool :=
 fs.zipIdx.all fun(f,i)=>fs.zipIdx.all fun(g,j)=>i==j || !f.meets g||(b.getD j 0).testBit i||(b.getD i 0).testBit j
def ptrCall (o:Oper):Bool :=
 match o.op with
 | .call { callee := .value _,args:=_,argTypes }=>match argTypes[0]? with
  | some t=>match P.underlying t with
   | some (.pointer _)=>true
   | _=>false
  | none=>false
 | _=>false
def regionD (ops:Array Oper) (draw:Bool) (env:List DV) (S:Store):Option (List DV×Store) :=
 if draw then if !drawOk ops (Region.before ops) then none else match if ops.toList.any (ptrCall P) then none else runQ P ty iso call yf ops S ops.toList env with
  | some env'=>some (env',S)
  | none=>match runDr P ty iso call yf ops S.length ops.toList 0 env (S++List.replicate ops.size .none) with
   | some (env',S',fs)=>if metOk (Region.before ops) fs then some (env',S') else none
   | none=>none
 else runL P ty iso call yf ops ops.toList env S
inductive DX where
 | normal
 | exit (id:Nat)
 | ret
 deriving DecidableEq
def iterD (f:List DV→Store→Option (DX×List DV×Store)):Nat→List DV→Store→Option (DX×List DV×Store)
 | 0,_,_=>none
 | n+1,env,S=>match f env S with
  | some (.normal,env',S')=>iterD f n env' S'
  | r=>r
def codeD (L:Nat) (fn:FuncId) (rnd:Bool):Code→List DV→Store→Option (DX×List DV×Store)
 | .skip,env,S | .label _,env,S=>some (.normal,env,S)
 | .region _ ops draw,env,S=>(regionD P ty iso call yf ops draw env S).map (.normal,·)
 | .seq a b,env,S=>match codeD L fn rnd a env S with
  | some (.normal,env',S')=>codeD L fn rnd b env' S'
  | r=>r
 | .cond c a b,env,S=>match evD env c with
  | some (.val (.bool true))=>codeD L fn rnd a env S
  | some (.val (.bool false))=>codeD L fn rnd b env S
  | _=>none
 | .block id c,env,S=>match codeD L fn rnd c env S with
  | some (.exit id',env',S')=>some (if id'=id then .normal else .exit id',env',S')
  | r=>r
 | .loop c,env,S=>iterD (codeD L fn rnd c) L env S
 | .scope c,env,S=>codeD L fn rnd c env S
 | .exit id,env,S=>some (.exit id,env,S)
 | .ret,env,S=>some (.ret,env,S)
 | .rangeFunc f ps asg body,env,S=>if rnd then none else match evD env f with
  | some (.fn g fs cs)=>match call g (fs++[.yld (S.length+1)]++cs) (S++[.defer,.loop ⟨.ready,none,fn,env,ps.toList,asg,body,S.length⟩]) with
   | some (_,S')=>match S'[S.length+1]? with
    | some (.loop r)=>if r.st == .busy then none else match r.pend with
     | none=>some (.normal,env,S'.set (S.length+1) (.loop { r with st := .exhausted }))
     | some .ret=>some (.ret,env,S'.set (S.length+1) (.loop { r with st := .exhausted }))
     | some (.exit e)=>some (.exit e,env,S'.set (S.length+1) (.loop { r with st := .exhausted }))
     | _=>none
    | _=>none
   | none=>none
  | _=>none
 | _,_,_=>none
def setsD:List DV→List (Tmp×DV)→List DV
 | env,[]=>env
 | env,(t,d)::l=>setsD (env.set t d) l
def roundD (L:Nat):YldF:=fun id args S=>match S[id]? with
 | some (.loop r)=>if args.length=r.params.length then
   match codeD P ty iso call yf L r.fn true r.assign (setsD r.env (r.params.zip args)) S with
   | some (.normal,env2,S1)=>match S1[id]? with
    | some (.loop r1)=>if r1.st = .ready then
      match codeD P ty iso call yf L r.fn true r.body env2 (S1.set id (.loop { r1 with st := .busy })) with
      | some (e,_,S2)=>match S2[id]? with
       | some (.loop r2)=>match e with
        | .normal=>some (.val (.bool true),S2.set id (.loop { r2 with st := .ready,pend:=none }))
        | .ret=>some (.val (.bool false),S2.set id (.loop { r2 with st := .done,pend:=some .ret }))
        | .exit i=>some (.val (.bool false),S2.set id (.loop { r2 with st := .done,pend:=some (.exit i) }))
       | _=>none
      | none=>none
     else none
    | _=>none
   | _=>none
  else none
 | _=>none
def resD (env:List DV) (S:Store):List ResultVar→Option (List DV)
 | []=>some []
 | .tmp t::r=>(resD env S r).map (env.getD t dundef::·)
 | .cell a t::r=>match loadD ty S t (env.getD a dundef),resD env S r with
  | some v,some l=>some (v::l)
  | _,_=>none
def oneOf:List DV→DV
 | [d]=>d
 | l => .tup l
def bodyD (L:Nat) (f:FuncId) (fn:Func) (args:List DV) (S:Store):Option (DV×Store) :=
 match fn.body with
 | some c=>match codeD P ty iso call yf L f false c (args++List.replicate (fn.ntmps-args.length) dundef) S with
  | some (.normal,env,S') | some (.ret,env,S')=>(resD ty env S' fn.results.toList).map fun l=>(oneOf l,S')
  | _=>none
 | none=>none
end
def isoOf (tab:IsoF) (call:CallF):IsoF:=fun f args=>match tab f args with
 | some v=>if v.pure then some v else none
 | none=>match call f args [] with
  | some (v,_)=>if v.strip.pure then some v.strip else none
  | none=>none
def deepP (P:Program) (ty:Tys) (tab:IsoF) (L:Nat):Nat→CallF×YldF
 | 0=>(fun _ _ _=>none,fun _ _ _=>none)
 | n+1=>(fun f args S=>match P.funcs[f]? with
   | some fn=>bodyD P ty (isoOf tab (deepP P ty tab L n).1) (deepP P ty tab L n).1 (deepP P ty tab L n).2 L f fn args S
   | none=>none,
  roundD P ty (isoOf tab (deepP P ty tab L n).1) (deepP P ty tab L n).1 (deepP P ty tab L n).2 L)
def deepD (P:Program) (ty:Tys) (tab:IsoF) (L n:Nat):CallF:=(deepP P ty tab L n).1
end Go.Di
end
section
namespace Go.Tv
open Go Go.Di
inductive TT where
 | int (k:IntKind)
 | bool
 | str
 | unit
 | pair (a b:TT)
 | sl (t:TT)
 deriving DecidableEq
abbrev TT.den:TT→Type
 | .int _=>Int
 | .bool=>Bool
 | .str=>ByteArray
 | .unit=>Unit
 | .pair a b=>a.den×b.den
 | .sl t=>List t.den
def TT.dft:(t:TT)→t.den
 | .int _=>(0:Int)
 | .bool=>false
 | .str=>ByteArray.empty
 | .unit=>()
 | .pair a b=>(a.dft,b.dft)
 | .sl _=>[]
def TT.size:TT→Nat
 | .unit=>0
 | .pair a b=>a.size+b.size
 | _=>1
def TT.agg:TT→Bool
 | .unit | .pair _ _=>true
 | _=>false
inductive Ap where
 | no
 | full
 | lab (g:Nat)
inductive TV where
 | unk
 | val (v:Value)
 | nils
 | agg (l:List TV)
 | tup (l:List TV)
 | sl (t:TT) (l:List t.den) (ap:Ap)
 | ptr (id off:Nat)
 | eptr (t:TT) (l:List t.den) (i off:Nat)
 | fn (f:FuncId) (first captured:List TV)
 | mp (id:Nat)
instance:Inhabited TV:=⟨.unk⟩
def TT.cells:(t:TT)→t.den→List TV
 | .int k,n=>[.val (.int k n)]
 | .bool,b=>[.val (.bool b)]
 | .str,s=>[.val (.string s)]
 | .unit,_=>[]
 | .pair a b,x=>a.cells x.1++b.cells x.2
 | .sl t,l=>[.sl t l .no]
def ofInt (k:IntKind):List TV→Option (Int×List TV)
 | .val (.int k' n)::r=>if k'=k then some (n,r) else none
 | _=>none
def ofBool:List TV→Option (Bool×List TV)
 | .val (.bool b)::r=>some (b,r)
 | _=>none
def ofStr:List TV→Option (ByteArray×List TV)
 | .val (.string b)::r=>some (b,r)
 | _=>none
def ofSl (t:TT):List TV→Option (List t.den×List TV)
 | .sl t' l _::r=>if h:t'=t then some (h▸l,r) else none
 | .nils::r=>some ([],r)
 | _=>none
def TT.of:(t:TT)→List TV→Option (t.den×List TV)
 | .int k,l=>ofInt k l
 | .bool,l=>ofBool l
 | .str,l=>ofStr l
 | .unit,l=>some ((),l)
 | .pair a b,l=>match a.of l with
  | some (x,r1)=>match b.of r1 with
   | some (y,r2)=>some ((x,y),r2)
   | none=>none
  | none=>none
 | .sl t,l=>ofSl t l
def RowOK (agg:Bool) (r:DV):Prop:=if agg then ∃ l,r = .agg l else ∀ l,r ≠ .agg l
def RowsR {α:Type} (R:α→List DV→Prop) (agg:Bool):List α→List DV→Prop
 | [],[]=>True
 | x::l,r::rows=>(R x r.cells∧RowOK agg r)∧RowsR R agg l rows
 | _,_=>False
def CR:(t:TT)→t.den→List DV→Prop
 | .int k,n,cs=>cs=[.val (.int k n)]
 | .bool,b,cs=>cs=[.val (.bool b)]
 | .str,s,cs=>cs=[.val (.string s)]
 | .unit,_,cs=>cs=[]
 | .pair a b,x,cs=>∃ c1 c2,cs=c1++c2∧CR a x.1 c1∧CR b x.2 c2
 | .sl t,l,cs=>∃ rows f,cs=[.sl rows none f]∧RowsR (CR t) t.agg l rows
abbrev Ids:=Nat→Option Nat
def ApOK (ι:Ids) (S:Store) (n:Nat) (tok:Option Nat) (f:SF):Ap→Prop
 | .no=>True
 | .full=>tok=none∧f.full=true
 | .lab g=>(tok=none∧f.full=true∧n=0)∨∃ t e s,ι g=some t∧tok=some t∧S[t]? = some (.tail e s (n*s))
mutual
def RT (ι:Ids) (S:Store):TV→DV→Prop
 | .unk,_=>True
 | .val v,.val u=>u=v
 | .nils,.sl rows tok f=>rows=[]∧tok=none∧f=⟨true,some true⟩
 | .agg l,.agg m=>RTl ι S l m
 | .tup l,.tup m=>RTl ι S l m
 | .sl t l ap,.sl rows tok f=>RowsR (CR t) t.agg l rows∧ApOK ι S rows.length tok f ap
 | .ptr id off,.ptr id' off'=>ι id=some id'∧off'=off
 | .eptr t l i off,.eptr rows i' off'=>RowsR (CR t) t.agg l rows∧i'=i∧off'=off∧i<l.length
 | .fn f a b,.fn f' a' b'=>f'=f∧RTl ι S a a'∧RTl ι S b b'
 | .mp id,.map id'=>ι id=some id'
 | _,_=>False
def RTl (ι:Ids) (S:Store):List TV→List DV→Prop
 | [],[]=>True
 | a::l,b::m=>RT ι S a b∧RTl ι S l m
 | _,_=>False
end
section
variable {ι:Ids} {S:Store}
theorem rows_len {α:Type} {R:α→List DV→Prop} {agg:Bool}:∀ {l:List α} {rows:List DV},RowsR R agg l rows→rows.length=l.length
 | [],[],_=>rfl
 | _::l,_::rows,h=>by simp[rows_len h.2]
theorem rows_get {α:Type} {R:α→List DV→Prop} {agg:Bool}:∀ {l:List α} {rows:List DV} {i:Nat} {x:α},RowsR R agg l rows→l[i]? = some x→∃ r,rows[i]? = some r∧R x r.cells∧RowOK agg r
 | [],_,_,_,_,h=>by simp at h
 | _::_,[],_,_,h,_=>h.elim
 | y::l,r::rows,0,x,h,hx=>by
  simp only[List.getElem?_cons_zero,Option.some.injEq] at hx
  subst hx
  exact⟨r,rfl,h.1⟩
 | y::l,r::rows,i+1,x,h,hx=>by
  obtain⟨r',h1,h2⟩:=rows_get (i:=i) h.2 (by simpa using hx)
  exact⟨r',by simpa using h1,h2⟩
theorem rows_append {α:Type} {R:α→List DV→Prop} {agg:Bool}:∀ {l m:List α} {rows rows':List DV},RowsR R agg l rows→RowsR R agg m rows'→RowsR R agg (l++m) (rows++rows')
 | [],_,[],_,_,h=>h
 | _::_,_,_::_,_,h,k=>⟨h.1,rows_append h.2 k⟩
theorem rows_take {α:Type} {R:α→List DV→Prop} {agg:Bool}:∀ {l:List α} {rows:List DV} (n:Nat),RowsR R agg l rows→RowsR R agg (l.take n) (rows.take n)
 | _,_,0,_=>by simp[RowsR]
 | [],[],n+1,_=>by simp[RowsR]
 | _::_,_::_,n+1,h=>⟨h.1,rows_take n h.2⟩
theorem rows_drop {α:Type} {R:α→List DV→Prop} {agg:Bool}:∀ {l:List α} {rows:List DV} (n:Nat),RowsR R agg l rows→RowsR R agg (l.drop n) (rows.drop n)
 | _,_,0,h=>h
 | [],[],n+1,_=>by simp[RowsR]
 | _::_,_::_,n+1,h=>rows_drop n h.2
theorem cr_len:∀ {t:TT} {x:t.den} {cs:List DV},CR t x cs→cs.length=t.size
 | .int _,_,_,h=>by simp only[CR] at h; subst h; rfl
 | .bool,_,_,h=>by simp only[CR] at h; subst h; rfl
 | .str,_,_,h=>by simp only[CR] at h; subst h; rfl
 | .unit,_,_,h=>by simp only[CR] at h; subst h; rfl
 | .pair a b,x,_,h=>by
  simp only[CR] at h
  obtain⟨c1,c2,rfl,h1,h2⟩:=h
  simp only[List.length_append,cr_len h1,cr_len h2,TT.size]
 | .sl t,_,_,h=>by
  simp only[CR] at h
  obtain⟨rows,f,rfl,-⟩:=h
  rfl
theorem rows_cells {t:TT}:∀ {l:List t.den} {rows:List DV},RowsR (CR t) t.agg l rows→∀ r∈rows,r.cells.length=t.size
 | [],[],_,r,hr=>by simp at hr
 | _::l,r'::rows,h,r,hr=>by
  rcases List.mem_cons.1 hr with rfl | hr
  ·exact cr_len h.1.1
  ·exact rows_cells h.2 r hr
theorem rtl_len:∀ {l:List TV} {m:List DV},RTl ι S l m→m.length=l.length
 | [],[],_=>rfl
 | _::l,_::m,h=>by simp only[RTl] at h; simp[rtl_len h.2]
theorem rtl_nil:RTl ι S [] []:=by simp only[RTl]
theorem rtl_cons {a:TV} {d:DV} {l:List TV} {m:List DV} (h:RT ι S a d) (k:RTl ι S l m):RTl ι S (a::l) (d::m):=by simp only[RTl]; exact⟨h,k⟩
theorem rtl_one {a:TV} {d:DV} (h:RT ι S a d):RTl ι S [a] [d]:=rtl_cons h rtl_nil
theorem rtl_cases {a:TV} {l:List TV} {m:List DV} (h:RTl ι S (a::l) m):∃ d m',m=d::m'∧RT ι S a d∧RTl ι S l m':=by
 cases m with
 | nil=>simp only[RTl] at h
 | cons d m'=>simp only[RTl] at h; exact⟨d,m',rfl,h⟩
theorem rtl_nil' {m:List DV} (h:RTl ι S [] m):m=[]:=by
 cases m with
 | nil=>rfl
 | cons d m'=>simp only[RTl] at h
theorem rtl_get:∀ {l:List TV} {m:List DV} {i:Nat} {a:TV},RTl ι S l m→l[i]? = some a→∃ d,m[i]? = some d∧RT ι S a d
 | [],_,_,_,_,h=>by simp at h
 | b::l,m,0,a,h,hx=>by
  obtain⟨d,m',rfl,h1,-⟩:=rtl_cases h
  simp only[List.getElem?_cons_zero,Option.some.injEq] at hx
  subst hx
  exact⟨d,rfl,h1⟩
 | b::l,m,i+1,a,h,hx=>by
  obtain⟨d,m',rfl,-,h1⟩:=rtl_cases h
  obtain⟨d',h2,h3⟩:=rtl_get (i:=i) h1 (by simpa using hx)
  exact⟨d',by simpa using h2,h3⟩
theorem rtl_append:∀ {l l':List TV} {m m':List DV},RTl ι S l m→RTl ι S l' m'→RTl ι S (l++l') (m++m')
 | [],l',m,m',h,k=>by rw[rtl_nil' h]; exact k
 | a::l,l',m,m',h,k=>by
  obtain⟨d,m1,rfl,h1,h2⟩:=rtl_cases h
  exact rtl_cons h1 (rtl_append h2 k)
theorem rtl_take:∀ {l:List TV} {m:List DV} (n:Nat),RTl ι S l m→RTl ι S (l.take n) (m.take n)
 | _,_,0,_=>by simp only[List.take_zero]; exact rtl_nil
 | [],m,n+1,h=>by rw[rtl_nil' h]; simp only[List.take_nil]; exact rtl_nil
 | a::l,m,n+1,h=>by
  obtain⟨d,m1,rfl,h1,h2⟩:=rtl_cases h
  exact rtl_cons h1 (rtl_take n h2)
theorem rtl_drop:∀ {l:List TV} {m:List DV} (n:Nat),RTl ι S l m→RTl ι S (l.drop n) (m.drop n)
 | _,_,0,h=>h
 | [],m,n+1,h=>by rw[rtl_nil' h]; simp only[List.drop_nil]; exact rtl_nil
 | a::l,m,n+1,h=>by
  obtain⟨d,m1,rfl,-,h2⟩:=rtl_cases h
  exact rtl_drop n h2
theorem rtl_set:∀ {l:List TV} {m:List DV} (i:Nat) {a:TV} {d:DV},RTl ι S l m→RT ι S a d→RTl ι S (l.set i a) (m.set i d)
 | [],m,i,a,d,h,_=>by rw[rtl_nil' h]; simp only[List.set_nil]; exact rtl_nil
 | b::l,m,0,a,d,h,k=>by
  obtain⟨d',m1,rfl,-,h2⟩:=rtl_cases h
  exact rtl_cons k h2
 | b::l,m,i+1,a,d,h,k=>by
  obtain⟨d',m1,rfl,h1,h2⟩:=rtl_cases h
  exact rtl_cons h1 (rtl_set i h2 k)
theorem rtl_rep (d:DV):∀ n,RTl ι S (List.replicate n .unk) (List.replicate n d)
 | 0=>rtl_nil
 | n+1=>by
  rw[List.replicate_succ,List.replicate_succ]
  exact rtl_cons (by simp only[RT]) (rtl_rep d n)
theorem rtl_getD {l:List TV} {m:List DV} (h:RTl ι S l m) (i:Nat):RT ι S (l.getD i .unk) (m.getD i dundef):=by
 rw[List.getD_eq_getElem?_getD,List.getD_eq_getElem?_getD]
 cases hi:l[i]? with
 | none=>simp only[Option.getD_none,RT]
 | some a =>
  obtain⟨d,h1,h2⟩:=rtl_get h hi
  rw[h1]
  exact h2
theorem cr_cells:∀ {t:TT} {x:t.den} {cs:List DV},CR t x cs→RTl ι S (t.cells x) cs
 | .int _,_,_,h=>by simp only[CR] at h; subst h; exact rtl_one (by simp only[RT])
 | .bool,_,_,h=>by simp only[CR] at h; subst h; exact rtl_one (by simp only[RT])
 | .str,_,_,h=>by simp only[CR] at h; subst h; exact rtl_one (by simp only[RT])
 | .unit,_,_,h=>by simp only[CR] at h; subst h; exact rtl_nil
 | .pair a b,x,_,h=>by
  simp only[CR] at h
  obtain⟨c1,c2,rfl,h1,h2⟩:=h
  exact rtl_append (cr_cells h1) (cr_cells h2)
 | .sl t,_,_,h=>by
  simp only[CR] at h
  obtain⟨rows,f,rfl,h⟩:=h
  refine rtl_one ?_
  simp only[RT,ApOK,and_true]
  exact h
theorem of_cr:∀ {t:TT} {l:List TV} {x:t.den} {r:List TV} {m:List DV},t.of l=some (x,r)→RTl ι S l m→∃ c m',m=c++m'∧CR t x (c.map DV.strip1)∧RTl ι S r m'
 | .int k,l,x,r,m,h,hm=>by
  simp only[TT.of] at h
  unfold ofInt at h
  split at h
  ·split at h
   ·rename_i hk
    cases h
    obtain⟨d,m',rfl,h1,h2⟩:=rtl_cases hm
    cases d<;>simp only[RT] at h1
    subst h1
    subst hk
    exact⟨[_],m',rfl,by simp only[CR,List.map_cons,List.map_nil,DV.strip1],h2⟩
   ·cases h
  ·cases h
 | .bool,l,x,r,m,h,hm=>by
  simp only[TT.of] at h
  unfold ofBool at h
  split at h
  ·cases h
   obtain⟨d,m',rfl,h1,h2⟩:=rtl_cases hm
   cases d<;>simp only[RT] at h1
   subst h1
   exact⟨[_],m',rfl,by simp only[CR,List.map_cons,List.map_nil,DV.strip1],h2⟩
  ·cases h
 | .str,l,x,r,m,h,hm=>by
  simp only[TT.of] at h
  unfold ofStr at h
  split at h
  ·cases h
   obtain⟨d,m',rfl,h1,h2⟩:=rtl_cases hm
   cases d<;>simp only[RT] at h1
   subst h1
   exact⟨[_],m',rfl,by simp only[CR,List.map_cons,List.map_nil,DV.strip1],h2⟩
  ·cases h
 | .unit,l,x,r,m,h,hm=>by
  simp only[TT.of] at h
  cases h
  exact⟨[],m,rfl,by simp only[CR,List.map_nil],hm⟩
 | .pair a b,l,x,r,m,h,hm=>by
  simp only[TT.of] at h
  split at h
  ·rename_i x1 r1 h1
   split at h
   ·rename_i y r2 h2
    cases h
    obtain⟨c,m1,rfl,k1,k2⟩:=of_cr h1 hm
    obtain⟨c',m2,rfl,k3,k4⟩:=of_cr h2 k2
    exact⟨c++c',m2,by simp,by simp only[CR,List.map_append]; exact⟨_,_,rfl,k1,k3⟩,k4⟩
   ·cases h
  ·cases h
 | .sl t,l,x,r,m,h,hm=>by
  simp only[TT.of] at h
  unfold ofSl at h
  split at h
  ·split at h
   ·rename_i ht
    subst ht
    cases h
    obtain⟨d,m',rfl,h1,h2⟩:=rtl_cases hm
    cases d<;>simp only[RT] at h1
    rename_i rows tok f
    exact⟨[_],m',rfl,by simp only[CR,List.map_cons,List.map_nil,DV.strip1]; exact⟨rows,⟨false,f.isNil⟩,rfl,h1.1⟩,h2⟩
   ·cases h
  ·cases h
   obtain⟨d,m',rfl,h1,h2⟩:=rtl_cases hm
   cases d<;>simp only[RT] at h1
   obtain⟨rfl,rfl,rfl⟩:=h1
   exact⟨[_],m',rfl,by simp only[CR,List.map_cons,List.map_nil,DV.strip1]; exact⟨[],⟨false,some true⟩,rfl,by simp only[RowsR]⟩,h2⟩
  ·cases h
theorem cr_pure:∀ {t:TT} {x:t.den} {cs:List DV},CR t x cs→cs.all DV.pure1=true
 | .int _,_,_,h=>by simp only[CR] at h; subst h; rfl
 | .bool,_,_,h=>by simp only[CR] at h; subst h; rfl
 | .str,_,_,h=>by simp only[CR] at h; subst h; rfl
 | .unit,_,_,h=>by simp only[CR] at h; subst h; rfl
 | .pair a b,x,_,h=>by
  simp only[CR] at h
  obtain⟨c1,c2,rfl,h1,h2⟩:=h
  rw[List.all_append,cr_pure h1,cr_pure h2]; rfl
 | .sl t,_,_,h=>by
  simp only[CR] at h
  obtain⟨rows,f,rfl,-⟩:=h
  rfl
end
end Go.Tv
end
section
namespace Go.Tv
open Go Go.Di
def TV.cells:TV→List TV
 | .agg l=>l
 | v=>[v]
def TV.known:TV→Bool
 | .unk=>false
 | _=>true
def TV.cellsB:TV→Bool
 | .unk | .tup _=>false
 | _=>true
def ofDV1:DV→TV
 | .val v => .val v
 | .sl [] none ⟨true,some true⟩ => .nils
 | _ => .unk
def ofDV:DV→TV
 | .agg l => .agg (l.map ofDV1)
 | .fn f [] [] => .fn f [] []
 | d=>ofDV1 d
inductive TB where
 | none
 | cells (l:List TV)
 | own (e s:Nat)
 | map (kt:TT) (l:List kt.den)
instance:Inhabited TB:=⟨.none⟩
section
variable (P:Program) (ty:Tys) (tt:TypeId→Option TT)
def evT (te:List TV):Operand→Option TV
 | .tmp t=>some (te.getD t .unk)
 | .const v=>(ofVal v).map ofDV
 | .func f=>some (.fn f [] [])
 | .global _=>none
def evsT (te:List TV):List Operand→Option (List TV)
 | []=>some []
 | x::l=>match evT te x,evsT te l with
  | some d,some r=>some (d::r)
  | _,_=>none
def partsT (te:List TV):List (Nat×Operand)→Option (List (Nat×TV))
 | []=>some []
 | (i,x)::l=>match evT te x,partsT te l with
  | some d,some r=>some ((i,d)::r)
  | _,_=>none
def toCellsT:List TV→Option (List Value)
 | []=>some []
 | .val v::l=>(toCellsT l).map (v::·)
 | _=>none
def toValT:TV→Option Value
 | .val v=>some v
 | .agg l=>(toCellsT l).map fun r => .agg r.toArray
 | _=>none
def toValsT:List TV→Option (List Value)
 | []=>some []
 | d::l=>match toValT d,toValsT l with
  | some v,some r=>some (v::r)
  | _,_=>none
def intT (te:List TV) (x:Operand):Option Int :=
 match evT te x with
 | some (.val (.int _ n))=>some n
 | _=>none
def retype (t:TypeId) (v:TV):TV :=
 match v with
 | .nils=>match tt t with
  | some (.sl e) => .sl e [] .full
  | _ => .nils
 | v=>v
def cutT (l:List TV) (off n:Nat):Option (List TV):=if off+n≤l.length then some ((l.drop off).take n) else none
def putT (l:List TV) (off:Nat) (cs:List TV):Option (List TV):=if off+cs.length≤l.length then some (l.take off++cs++l.drop (off+cs.length)) else none
def partT (agg:Bool) (size:Nat) (l:List TV) (off:Nat):Option TV:=if agg then (cutT l off size).map .agg else l[off]?
def fillT (place:Nat→Option (Nat×Nat)) (cs:List TV):List (Nat×TV)→Option (List TV)
 | []=>some cs
 | (i,v)::r=>match place i with
  | none=>none
  | some (off,size)=>if v.known&&v.cells.length==size then match putT cs off v.cells with
    | some cs'=>fillT place cs' r
    | none=>none
   else none
def valT:Option DV→Option TV
 | some (.val v)=>some (.val v)
 | _=>none
def elemsT (t:TT) (i:Nat):List (Nat×TV)→Option (List t.den)
 | []=>some []
 | (j,v)::r=>if j==i&&v.cellsB then match t.of v.cells,elemsT t (i+1) r with
   | some (x,[]),some l=>some (x::l)
   | _,_=>none
  else none
def pick2 (t:Bool):Option TV→Option TV→Option TV
 | some (.val (.bool x)),some (.val (.bool y))=>some (.val (.bool (bif t then x else y)))
 | some (.val (.int k x)),some (.val (.int k' y))=>if k'=k then some (.val (.int k (bif t then x else y))) else none
 | a,b=>match t with
  | true=>a
  | false=>b
def boundT (te:List TV):Option Operand→Option (Option Int)
 | none=>some none
 | some x=>(intT te x).map some
def PropB (o:Option Int) (most:Nat):Prop :=
 match o with
 | none=>True
 | some n=>0≤n∧n≤(most:Int)
def sliceT (t:TT) (l:List t.den) (lo hi mx:Option Int):TV×Prop :=
 match mx with
 | none=>match hi with
  | none=>match lo with
   | none=>(.sl t l .no,True)
   | some a=>(.sl t (l.drop a.toNat) .no,0≤a∧a≤(l.length:Int))
  | some h=>match lo with
   | none=>(.sl t (l.take h.toNat) .no,0≤h∧h≤(l.length:Int))
   | some a=>(.sl t ((l.take h.toNat).drop a.toNat) .no,0≤a∧a≤h∧h≤(l.length:Int))
 | some m=>match hi with
  | none=>(.unk,False)
  | some h=>match lo with
   | none=>(.sl t (l.take h.toNat) .full,0≤h∧h=m∧h≤(l.length:Int))
   | some a=>(.sl t ((l.take h.toNat).drop a.toNat) .full,0≤a∧a≤h∧h=m∧h≤(l.length:Int))
def pureT (te:List TV) (tS:List TB) (o:Oper):Option (TV×Prop) :=
 match o.op with
 | .move x | .assign x=>(evT te x).map fun v=>(retype tt o.type v,True)
 | .pick c a b=>match evT te c with
  | some (.val (.bool t))=>(pick2 t (evT te a) (evT te b)).map (·,True)
  | _=>none
 | .build t ps=>match ty t,partsT te ps.toList with
  | some ⟨.struct fs,_,some z⟩,some l=>(fillT (fun i=>(fs[i]?).map fun f=>(f.1,f.2.1)) (z.map ofDV1) l).map fun cs=>(.agg cs,True)
  | some ⟨.array _ s _,_,some z⟩,some l=>(fillT (fun i=>some (i*s,s)) (z.map ofDV1) l).map fun cs=>(.agg cs,True)
  | _,_=>none
 | .buildSlice t n ps=>match ty t,partsT te ps.toList,tt t with
  | some ⟨.slice e s _ agg,_,_⟩,some l,some (.sl k)=>match ty e with
   | some ⟨_,_,some z⟩=>if decide (0<s)&&decide (n*s≤16777216)&&l.length==n&&z.length==s&&k.size==s&&k.agg==agg&&(agg||s==1) then
     (elemsT k 0 l).map fun l=>(.sl k l .full,True)
    else none
   | _=>none
  | _,_,_=>none
 | .load t a=>match ty t,evT te a with
  | some d,some (.ptr id off)=>match tS[id]? with
   | some (.cells l)=>(partT d.k.isAgg d.size l off).map fun v=>(retype tt t v,True)
   | _=>none
  | some d,some (.eptr e l i off)=>(partT d.k.isAgg d.size (e.cells (l.getD i e.dft)) off).map fun v=>(retype tt t v,True)
  | _,_=>none
 | .nilCheck x=>match evT te x with
  | some (.ptr id off)=>some (.ptr id off,True)
  | _=>none
 | .binOp op t x y _=>match (evT te x).bind toValT,(evT te y).bind toValT with
  | some a,some b=>(valT (pureD P (do eqGuard op t x y a b; binOp op t a b))).map (·,True)
  | _,_=>none
 | .unOp op _ x=>match (evT te x).bind toValT with
  | some a=>(valT (pureD P (Op.unary op a))).map (·,True)
  | none=>none
 | .convert s d x=>match (evT te x).bind toValT with
  | some a=>(valT (pureD P (Go.convert s d a))).map (·,True)
  | none=>none
 | .makeFunc (.func f) fs cs=>match evsT te fs.toList,evsT te cs.toList with
  | some a,some b=>some (.fn f a b,True)
  | _,_=>none
 | .slice t x lo hi mx=>match ty t,(evT te x).map (retype tt t),boundT te lo,boundT te hi,boundT te mx with
  | some ⟨.slice _ s _ _,_,_⟩,some (.sl k l _),some lo,some hi,some mx=>if k.size==s then some (sliceT k l lo hi mx) else none
  | _,_,_,_,_=>none
 | .fieldAddr t x f=>match ty t,evT te x with
  | some ⟨.struct fs,_,_⟩,some (.ptr id off)=>match fs[f]? with
   | some (o,s,_)=>if 0<s then some (.ptr id (off+o),True) else none
   | none=>none
  | some ⟨.struct fs,_,_⟩,some (.eptr k l i off)=>match fs[f]? with
   | some (o,s,_)=>if 0<s then some (.eptr k l i (off+o),True) else none
   | none=>none
  | _,_=>none
 | .field t x f=>match ty t,evT te x with
  | some ⟨.struct fs,_,_⟩,some (.agg l)=>match fs[f]? with
   | some (off,s,agg)=>(partT agg s l off).map (·,True)
   | none=>none
  | _,_=>none
 | .indexAddr t x i=>match ty t,(evT te x).map (retype tt t),intT te i with
  | some ⟨.slice _ s _ _,_,_⟩,some (.sl k l _),some n=>if k.size==s then some (.eptr k l n.toNat 0,0≤n∧n<(l.length:Int)) else none
  | some ⟨.array k s _,_,_⟩,some (.ptr id off),some n=>if 0≤n∧n.toNat<k then some (.ptr id (off+n.toNat*s),True) else none
  | some ⟨.array k s _,_,_⟩,some (.eptr e l j off),some n=>if 0≤n∧n.toNat<k then some (.eptr e l j (off+n.toNat*s),True) else none
  | _,_,_=>none
 | .index t x i=>match ty t,evT te x,intT te i with
  | some ⟨.array k s agg,_,_⟩,some (.agg l),some n=>if 0≤n∧n.toNat<k then (partT agg s l (n.toNat*s)).map (·,True) else none
  | _,_,_=>none
 | .extract t i=>match evT te t with
  | some (.tup l)=>(l[i]?).map fun v=>(retype tt o.type v,True)
  | _=>none
 | .call { callee := .builtin b,args,argTypes }=>match b,args.toList,argTypes.toList with
  | .len,[x],[t]=>match ty t,(evT te x).map (retype tt t) with
   | some ⟨.slice _ _ _ _,_,_⟩,some (.sl _ l _)=>some (.val (.int .i64 (l.length:Nat)),True)
   | some ⟨.array n _ _,_,_⟩,_=>some (.val (.int .i64 n),True)
   | _,some (.val v)=>(valT (pureD P (Builtin.len_ #[t] o.type #[v]))).map (·,True)
   | _,_=>none
  | .min,xs,_=>match (evsT te xs).bind toValsT with
   | some vs=>(valT (pureD P (Builtin.min_ argTypes o.type vs.toArray))).map (·,True)
   | none=>none
  | .max,xs,_=>match (evsT te xs).bind toValsT with
   | some vs=>(valT (pureD P (Builtin.max_ argTypes o.type vs.toArray))).map (·,True)
   | none=>none
  | _,_,_=>none
 | _=>none
end
section
variable {P:Program} {ty:Tys} {tt:TypeId→Option TT} {ι:Ids} {S:Store} {te:List TV} {env:List DV} {tS:List TB}
theorem rt_cells {v:TV} {d:DV} (hk:v.known=true) (h:RT ι S v d):RTl ι S v.cells d.cells:=by
 cases v<;>cases d<;>simp only[RT] at h<;>first | (cases hk; done) | exact h | (refine rtl_one ?_; simp only[RT]; exact h)
theorem rt_of1 (d:DV):RT ι S (ofDV1 d) d:=by
 unfold ofDV1
 split<;>simp[RT]
theorem rtl_of1:∀ l:List DV,RTl ι S (l.map ofDV1) l
 | []=>rtl_nil
 | d::l=>rtl_cons (rt_of1 d) (rtl_of1 l)
theorem rt_of (d:DV):RT ι S (ofDV d) d:=by
 unfold ofDV
 split
 ·simp only[RT]; exact rtl_of1 _
 ·simp only[RT,RTl,and_true]
 ·exact rt_of1 _
theorem evT_ok (h:RTl ι S te env) {x:Operand} {v:TV} (hx:evT te x=some v):∃ d,evD env x=some d∧RT ι S v d:=by
 cases x with
 | tmp t=>cases hx; exact⟨_,rfl,rtl_getD h t⟩
 | const u =>
  simp only[evT,Option.map_eq_some_iff] at hx
  obtain⟨d,h1,rfl⟩:=hx
  exact⟨d,h1,rt_of d⟩
 | func f=>cases hx; exact⟨_,rfl,by simp only[RT,RTl,and_true]⟩
 | global g=>cases hx
theorem evsT_ok (h:RTl ι S te env):∀ {xs:List Operand} {vs:List TV},evsT te xs=some vs→∃ ds,evs (evD env) xs=some ds∧RTl ι S vs ds
 | [],_,hx=>by cases hx; exact⟨[],rfl,rtl_nil⟩
 | x::l,vs,hx=>by
  simp only[evsT] at hx
  split at hx
  ·rename_i d r h1 h2
   cases hx
   obtain⟨d',k1,k2⟩:=evT_ok h h1
   obtain⟨ds,k3,k4⟩:=evsT_ok h h2
   exact⟨d'::ds,by simp only[evs,k1,k3],rtl_cons k2 k4⟩
  ·cases hx
def PartsR (ι:Ids) (S:Store):List (Nat×TV)→List (Nat×DV)→Prop
 | [],[]=>True
 | (i,v)::l,(j,d)::m=>(j=i∧RT ι S v d)∧PartsR ι S l m
 | _,_=>False
theorem partsT_ok (h:RTl ι S te env):∀ {xs:List (Nat×Operand)} {vs:List (Nat×TV)},partsT te xs=some vs→∃ ds,partsD (evD env) xs=some ds∧PartsR ι S vs ds
 | [],_,hx=>by cases hx; exact⟨[],rfl,trivial⟩
 | (i,x)::l,vs,hx=>by
  simp only[partsT] at hx
  split at hx
  ·rename_i d r h1 h2
   cases hx
   obtain⟨d',k1,k2⟩:=evT_ok h h1
   obtain⟨ds,k3,k4⟩:=partsT_ok h h2
   exact⟨(i,d')::ds,by simp only[partsD,k1,k3],⟨rfl,k2⟩,k4⟩
  ·cases hx
theorem toCellsT_ok:∀ {l:List TV} {m:List DV} {vs:List Value},RTl ι S l m→toCellsT l=some vs→toCells m=some vs
 | [],m,vs,h,hx=>by rw[rtl_nil' h]; exact hx
 | a::l,m,vs,h,hx=>by
  obtain⟨d,m',rfl,h1,h2⟩:=rtl_cases h
  unfold toCellsT at hx
  split at hx
  ·rename_i e; cases e
  ·rename_i v l' e
   cases e
   simp only[Option.map_eq_some_iff] at hx
   obtain⟨r,h3,rfl⟩:=hx
   cases d<;>simp only[RT] at h1
   subst h1
   simp only[toCells,toCellsT_ok h2 h3,Option.map_some]
  ·cases hx
theorem toValT_ok {v:TV} {d:DV} {u:Value} (h:RT ι S v d) (hx:toValT v=some u):toVal d=some u:=by
 unfold toValT at hx
 split at hx
 ·cases hx
  cases d<;>simp only[RT] at h
  subst h
  rfl
 ·simp only[Option.map_eq_some_iff] at hx
  obtain⟨r,h1,rfl⟩:=hx
  cases d<;>simp only[RT] at h
  simp only[toVal,toCellsT_ok h h1,Option.map_some]
 ·cases hx
theorem toValsT_ok:∀ {l:List TV} {m:List DV} {vs:List Value},RTl ι S l m→toValsT l=some vs→toVals m=some vs
 | [],m,vs,h,hx=>by rw[rtl_nil' h]; exact hx
 | a::l,m,vs,h,hx=>by
  obtain⟨d,m',rfl,h1,h2⟩:=rtl_cases h
  simp only[toValsT] at hx
  split at hx
  ·rename_i v r e1 e2
   cases hx
   simp only[toVals,toValT_ok h1 e1,toValsT_ok h2 e2]
  ·cases hx
theorem valOf_ok (h:RTl ι S te env) {x:Operand} {u:Value} (hx:(evT te x).bind toValT=some u):valOf (evD env) x=some u:=by
 cases h1:evT te x with
 | none=>rw[h1] at hx; cases hx
 | some v =>
  rw[h1] at hx
  obtain⟨d,h2,h3⟩:=evT_ok h h1
  simp only[valOf,h2,Option.bind_some]
  exact toValT_ok h3 hx
theorem intT_ok (h:RTl ι S te env) {x:Operand} {n:Int} (hx:intT te x=some n):intOf (evD env) x=some n:=by
 unfold intT at hx
 split at hx
 ·rename_i k m h1
  cases hx
  obtain⟨d,h2,h3⟩:=evT_ok h h1
  cases d<;>simp only[RT] at h3
  subst h3
  simp only[intOf,h2]
 ·cases hx
theorem retype_ok {t:TypeId} {v:TV} {d:DV} (h:RT ι S v d):RT ι S (retype tt t v) d:=by
 unfold retype
 split
 ·split
  ·cases d<;>simp only[RT] at h
   obtain⟨rfl,rfl,rfl⟩:=h
   simp only[RT,RowsR,ApOK,and_self]
  ·exact h
 ·exact h
theorem cutT_ok {l:List TV} {m:List DV} (h:RTl ι S l m) {off n:Nat} {r:List TV} (hx:cutT l off n=some r):∃ r',cutR m off n=some r'∧RTl ι S r r':=by
 unfold cutT at hx
 split at hx
 ·cases hx
  rename_i hle
  exact⟨_,if_pos (by rw[rtl_len h]; exact hle),rtl_take _ (rtl_drop _ h)⟩
 ·cases hx
theorem putT_ok {l:List TV} {m:List DV} (h:RTl ι S l m) {cs:List TV} {ds:List DV} (hc:RTl ι S cs ds) {off:Nat} {r:List TV} (hx:putT l off cs=some r):∃ r',putR m off ds=some r'∧RTl ι S r r':=by
 unfold putT at hx
 split at hx
 ·cases hx
  rename_i hle
  refine⟨_,if_pos (by rw[rtl_len h,rtl_len hc]; exact hle),rtl_append (rtl_append (rtl_take _ h) hc) ?_⟩
  rw[rtl_len hc]
  exact rtl_drop _ h
 ·cases hx
theorem partT_ok {l:List TV} {m:List DV} (h:RTl ι S l m) {agg:Bool} {size off:Nat} {r:TV} (hx:partT agg size l off=some r):∃ r',partD agg size m off=some r'∧RT ι S r r':=by
 unfold partT at hx
 split at hx
 ·rename_i ha
  simp only[Option.map_eq_some_iff] at hx
  obtain⟨r1,h1,rfl⟩:=hx
  obtain⟨r',h2,h3⟩:=cutT_ok h h1
  exact⟨.agg r',by simp only[partD,ha,if_true,h2,Option.map_some],by simp only[RT]; exact h3⟩
 ·rename_i ha
  obtain⟨d,h1,h2⟩:=rtl_get h hx
  exact⟨d,by simp only[partD,ha,h1]; rfl,h2⟩
theorem fillT_ok {place:Nat→Option (Nat×Nat)}:∀ {ps:List (Nat×TV)} {qs:List (Nat×DV)} {l:List TV} {m:List DV} {r:List TV},PartsR ι S ps qs→RTl ι S l m→fillT place l ps=some r→∃ r',fillD place m qs=some r'∧RTl ι S r r'
 | [],[],l,m,r,_,h,hx=>by cases hx; exact⟨m,rfl,h⟩
 | (i,v)::ps,(j,d)::qs,l,m,r,hp,h,hx=>by
  obtain⟨⟨rfl,hv⟩,hp⟩:=hp
  simp only[fillT] at hx
  split at hx
  ·cases hx
  ·rename_i off size hpl
   split at hx
   ·rename_i hc
    simp only[Bool.and_eq_true,beq_iff_eq] at hc
    have hcs:=rt_cells hc.1 hv
    split at hx
    ·rename_i cs' hput
     obtain⟨m',h1,h2⟩:=putT_ok h hcs hput
     obtain⟨r',h3,h4⟩:=fillT_ok hp h2 hx
     refine⟨r',?_,h4⟩
     simp only[fillD,hpl,rtl_len hcs,hc.2,if_true,h1,h3]
    ·cases hx
   ·cases hx
theorem valT_ok {o:Option DV} {v:TV} (h:valT o=some v):∃ d,o=some d∧RT ι S v d:=by
 unfold valT at h
 split at h
 ·cases h; exact⟨_,rfl,by simp only[RT]⟩
 ·cases h
theorem pick2_ok {t:Bool} {a b:Option TV} {v:TV} {a' b':Option DV} (ha:∀ v,a=some v→∃ d,a'=some d∧RT ι S v d) (hb:∀ v,b=some v→∃ d,b'=some d∧RT ι S v d) (h:pick2 t a b=some v):∃ d,(if t then a' else b')=some d∧RT ι S v d:=by
 unfold pick2 at h
 split at h
 ·cases h
  obtain⟨d,h1,h2⟩:=ha _ rfl
  obtain⟨e,h3,h4⟩:=hb _ rfl
  cases t
  ·exact⟨e,h3,h4⟩
  ·exact⟨d,h1,h2⟩
 ·split at h
  ·rename_i hk
   subst hk
   cases h
   obtain⟨d,h1,h2⟩:=ha _ rfl
   obtain⟨e,h3,h4⟩:=hb _ rfl
   cases t
   ·exact⟨e,h3,h4⟩
   ·exact⟨d,h1,h2⟩
  ·cases h
 ·split at h
  ·exact ha _ h
  ·exact hb _ h
end
end Go.Tv
end
