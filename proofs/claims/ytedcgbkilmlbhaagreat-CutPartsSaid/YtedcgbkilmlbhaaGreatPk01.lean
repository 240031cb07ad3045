import Derived.Test.YtedcgbkilmlbhaaGreatPk00
import GoSem.Step
section
namespace Go.Di
open Go
structure SF where
 full:Bool
 isNil:Option Bool
inductive DV where
 | val (v:Value)
 | agg (l:List DV)
 | tup (l:List DV)
 | sl (rows:List DV) (tok:Option Nat) (full:SF)
 | ptr (id off:Nat)
 | ey (rows:List DV) (i off:Nat)
 | fn (f:FuncId) (first captured:List DV)
 | map (id:Nat)
 | zx (id:Nat)
 | gV (id n:Nat) (agg:Bool)
 | eT (id n off:Nat)
instance:Inhabited DV:=⟨.val (.tuple #[])⟩
structure JK where
 st:LoopState
 jk:Option Code
 fn:FuncId
 env:List DV
 params:List Tmp
 assign:Code
 body:Code
 dfr:Nat
inductive DB where
 | none
 | cells (l:List DV)
 | tail (e:TypeId) (s n:Nat)
 | map (es:List (Value×Value))
 | defer
 | loop (r:JK)
 | op (e:TypeId) (s:Nat) (l:List DV) (z:Bool)
instance:Inhabited DB:=⟨.none⟩
abbrev ak:=List DB
def aX:DV := .val (.tuple #[])
def DV.cells:DV→List DV
 | .agg l=>l
 | d=>[d]
def flat (rows:List DV):List DV:=rows.flatMap DV.cells
def wE:Value→Bool
 | .agg _=>false
 | .tuple vs=>vs.size==0
 | _=>true
def DG:Value→Option DV
 | .slice none 0 0=>some (.sl [] none ⟨true,some true⟩)
 | v=>if wE v then some (.val v) else none
def pF:List Value→Option (List DV)
 | []=>some []
 | v::l=>match DG v,pF l with
  | some d,some r=>some (d::r)
  | _,_=>none
def xQ:Value→Option DV
 | .agg cs=>(pF cs.toList).map .agg
 | .func (.func f) fs cs=>if fs.size=0&&cs.size=0 then some (.fn f [] []) else none
 | v=>DG v
def pz:List DV→Option (List Value)
 | []=>some []
 | .val v::l=>(pz l).map (v::·)
 | _=>none
def xK:DV→Option Value
 | .val v=>some v
 | .agg l=>(pz l).map fun r => .agg r.toArray
 | _=>none
def qQ:List DV→Option (List Value)
 | []=>some []
 | d::l=>match xK d,qQ l with
  | some v,some r=>some (v::r)
  | _,_=>none
def DV.bF:DV→Bool
 | .val v => !(v matches .tuple _)
 | .sl _ none _=>true
 | _=>false
def DV.iK:DV→Bool
 | .agg l=>l.all DV.bF
 | .val _=>true
 | .sl _ none _=>true
 | _=>false
def DV.pure:DV→Bool
 | .tup l=>l.all DV.iK
 | d=>d.iK
def DV.aL:DV→DV
 | .sl r _ f => .sl r none ⟨false,f.isNil⟩
 | d=>d
def DV.cN:DV→DV
 | .agg l => .agg (l.map DV.aL)
 | .sl r _ f => .sl r none ⟨false,f.isNil⟩
 | d=>d
def DV.strip:DV→DV
 | .tup l => .tup (l.map DV.cN)
 | d=>d.cN
def DV.one:DV→Bool
 | .val v => !(v matches .tuple _)
 | .agg _ | .tup _=>false
 | _=>true
inductive TK where
 | one
 | struct (fs:List (Nat×Nat×Bool))
 | array (n s:Nat) (agg:Bool)
 | slice (e s b:Nat) (agg:Bool)
 deriving DecidableEq
structure TyD where
 k:TK
 size:Nat
 zero:Option (List DV)
def TK.isAgg:TK→Bool
 | .struct _ | .array _ _ _=>true
 | _=>false
section
variable (P:Program)
def mN (t:TypeId):Bool :=
 match P.underlying t with
 | some (.struct _) | some (.array _ _)=>true
 | _=>false
def b7 {α:Type}:Sem α→Option α
 | .pure a=>some a
 | .program k=>b7 (k P)
 | _=>none
def Ce (t:TypeId):Option TypeInfo :=
 match P.info? t,P.underlying t with
 | some i,some _=>some i
 | _,_=>none
def BI (t:TypeId):Option TK :=
 match P.underlying t with
 | some (.struct fs)=>(fs.toList.mapM fun f=>(Ce P f.type).map fun i=>(f.offset,i.size,mN P f.type)).map .struct
 | some (.array n e)=>(Ce P e).map fun i => .array n i.size (mN P e)
 | some (.slice e)=>(Ce P e).map fun i => .slice e i.size i.bytes (mN P e)
 | some _=>some .one
 | none=>none
def zeroOf (i:TypeInfo):Option (List DV) :=
 match i.zero with
 | some z=>match pF z.cells.toList with
  | some cs=>if cs.length=i.size then some cs else none
  | none=>none
 | none=>none
def NB (t:TypeId):Option TyD :=
 match BI P t,P.info? t with
 | some k,some i=>some ⟨k,i.size,zeroOf i⟩
 | _,_=>none
end
def NR (l:List DV) (off n:Nat):Option (List DV):=if off+n≤l.length then some ((l.drop off).take n) else none
def sK (l:List DV) (off:Nat) (cs:List DV):Option (List DV):=if off+cs.length≤l.length then some (l.take off++cs++l.drop (off+cs.length)) else none
def mJ (agg:Bool) (size:Nat) (l:List DV) (off:Nat):Option DV :=
 if agg then (NR l off size).map .agg else l[off]?
structure fI where
 f:TypeId→Option TyD
 hint:Tmp→TypeId→Nat
instance:CoeFun fI fun _=>TypeId→Option TyD:=⟨fI.f⟩
def fI.h (ty:fI) (o:Oper):Nat :=
 match o.dst with
 | some d=>ty.hint d o.type % 4
 | none=>0
def fI.Ny (ty:fI) (o:Oper):Nat :=
 match o.dst with
 | some d=>ty.hint d o.type / 4
 | none=>0
abbrev bz:=FuncId→List DV→ak→Option (DV×ak)
abbrev bM:=FuncId→List DV→Option DV
abbrev eE:=Nat→List DV→ak→Option (DV×ak)
section
variable (P:Program) (ty:fI) (aI:bM) (call:bz) (yf:eE)
def gX (env:List DV):Operand→Option DV
 | .tmp t=>some (env.getD t aX)
 | .const v=>xQ v
 | .func f=>some (.fn f [] [])
 | .global _=>none
def evs (ρ:Operand→Option DV):List Operand→Option (List DV)
 | []=>some []
 | x::l=>match ρ x,evs ρ l with
  | some d,some r=>some (d::r)
  | _,_=>none
def valOf (ρ:Operand→Option DV) (x:Operand):Option Value:=(ρ x).bind xK
def intOf (ρ:Operand→Option DV) (x:Operand):Option Int :=
 match ρ x with
 | some (.val (.int _ n))=>some n
 | _=>none
def zK:Option DV→Bool
 | some (.gV ..)=>true
 | _=>false
def yW (S:ak) (id n:Nat):Option (TypeId×Nat×List DV×Bool) :=
 match S[id]? with
 | some (.op e s l z)=>if n*s=l.length then some (e,s,l,z) else none
 | _=>none
def gZ (s:Sem Value):Option DV:=(b7 P s).bind xQ
def jr (S:ak) (t:TypeId) (a:DV):Option DV :=
 match ty t,a with
 | some d,.ptr id off=>match S[id]? with
  | some (.cells l)=>mJ d.k.isAgg d.size l off
  | _=>none
 | some d,.ey rows i off=>match rows[i]? with
  | some r=>mJ d.k.isAgg d.size r.cells off
  | none=>none
 | some d,.eT id n off=>match yW S id n with
  | some (_,_,l,_)=>mJ d.k.isAgg d.size l off
  | none=>none
 | _,_=>none
def dP (S:ak) (i:Nat) (b:DB):ak:=if i<S.length then S.set i b else S++[b]
def mQ (S:ak) (t:TypeId) (a v:DV):Option ak :=
 match ty t,a with
 | some d,.ptr id off=>match S[id]? with
  | some (.cells l)=>if v.cells.length=d.size&&v.cells.all DV.one then (sK l off v.cells).map fun l'=>S.set id (.cells l') else none
  | _=>none
 | some d,.eT id n off=>match yW S id n with
  | some (e,s,l,false)=>if v.strip.cells.length=d.size&&v.strip.cells.all DV.bF then (sK l off v.strip.cells).map fun l'=>S.set id (.op e s l' false) else none
  | _=>none
 | _,_=>none
def js (place:Nat→Option (Nat×Nat)) (cs:List DV):List (Nat×DV)→Option (List DV)
 | []=>some cs
 | (i,v)::r=>match place i with
  | none=>none
  | some (off,size)=>if v.cells.length=size then match sK cs off v.cells with
    | some iB=>js place iB r
    | none=>none
   else none
def iS (ρ:Operand→Option DV):List (Nat×Operand)→Option (List (Nat×DV))
 | []=>some []
 | (i,x)::l=>match ρ x,iS ρ l with
  | some d,some r=>some ((i,d)::r)
  | _,_=>none
def rowOf (s:Nat) (agg:Bool) (l:List DV) (i:Nat):DV:=if agg then .agg ((l.drop (i*s)).take s) else l.getD (i*s) aX
def rowsOf (s:Nat) (agg:Bool) (l:List DV) (n:Nat):List DV:=(List.range n).map (rowOf s agg l)
def eD:Nat:=140737488355328
def iE (S:ak) (ay:Nat) (t:TypeId) (a b:DV):Option (DV×ak) :=
 match ty t,a,b with
 | some ⟨.slice e s jZ _,_,_⟩,.sl rows tok full,.sl news _ _ =>
  if news.isEmpty then some (a,S)
  else match ty e with
  | some ⟨_,_,some _⟩=>if decide (0<s)&&decide ((rows.length+news.length)*jZ≤eD)&&decide (rows.length+news.length≤140737488355328-4096)&&news.all (fun r=>decide (r.cells.length=s)) then
   let abA:Option (DV×ak):=if full.full&&rows.all (fun r=>decide (r.cells.length=s)) then some (.sl (rows++news) (some ay) ⟨false,none⟩,dP S ay (.tail e s ((rows.length+news.length)*s))) else none
   match tok with
   | none=>abA
   | some t=>match S[t]? with
    | some (.tail e' s' n)=>if e'=e&&s'=s&&n=rows.length*s then some (.sl (rows++news) (some t) ⟨false,none⟩,S.set t (.tail e s ((rows.length+news.length)*s))) else none
    | _=>none
   else none
  | _=>none
 | _,_,_=>none
def lW (S:ak) (ay:Nat) (t:TypeId) (a b:DV):Option (DV×ak) :=
 match ty t,b with
 | some ⟨.slice e s jZ agg,_,_⟩,.sl news _ _=>match ty e with
  | some ⟨_,_,some _⟩=>match a with
   | .gV id n _=>if decide (0<s)&&(agg||s==1)&&decide ((n+news.length)*jZ≤eD)&&decide (n+news.length≤140737488355328-4096)&&news.all (fun r=>decide (r.cells.length=s)) then match yW S id n with
    | some (e',s',l,false)=>if e'=e&&s'=s then if news.isEmpty then some (a,S) else some (.gV id (n+news.length) agg,S.set id (.op e s (l++flat news) false)) else none
    | _=>none
    else none
   | .sl [] none f=>if news.isEmpty then some (a,S) else if f.full&&decide (0<s)&&(agg||s==1)&&decide (news.length*jZ≤eD)&&decide (news.length≤140737488355328-4096)&&news.all (fun r=>decide (r.cells.length=s)) then some (.gV ay news.length agg,dP S ay (.op e s (flat news) false)) else none
   | _=>none
  | _=>none
 | _,_=>none
def iY (S:ak):DV→DV
 | .gV id n agg=>match yW S id n with
  | some (_,s,l,true)=>if decide (0<s)&&(agg||s==1) then .sl (rowsOf s agg l n) none ⟨false,some false⟩ else .gV id n agg
  | _ => .gV id n agg
 | d=>d
def uH (S:ak):DV→ak
 | .gV id n _=>match yW S id n with
  | some (e,s,l,false)=>S.set id (.op e s l true)
  | _=>S
 | _=>S
def qv (S:ak):DV→ak
 | .agg l=>l.foldl uH S
 | d=>uH S d
def Dx (S:ak):DV→ak
 | .tup l=>l.foldl qv S
 | d=>qv S d
def qf (S:ak):DV→DV
 | .agg l => .agg (l.map (iY S))
 | d=>iY S d
def qH (S:ak):DV→DV
 | .tup l => .tup (l.map (qf S))
 | d=>qf S d
def fU (ρ:Operand→Option DV) (x:Option Operand) (adf dF:Nat):Option Nat :=
 match x with
 | none=>some adf
 | some x=>match intOf ρ x with
  | some i=>if 0≤i∧i.toNat≤dF then some i.toNat else none
  | none=>none
def HD (rows:List DV) (f:SF):Option Bool:=if rows.isEmpty then f.isNil else some false
def zU (op:BinOp) (t:TypeId):Option DV→Option DV→Option DV
 | some (.sl rows _ f),some (.sl [] _ ⟨_,some true⟩)=>match ty t,HD rows f with
  | some ⟨.slice _ _ _ _,_,_⟩,some b=>match op with
   | .eql=>some (.val (.bool b))
   | .neq=>some (.val (.bool (!b)))
   | _=>none
  | _,_=>none
 | _,_=>none
def o7 (rows:List DV) (full:SF) (l h:Nat) (m:Option Nat):Option DV :=
 if l≤h then match m with
  | none=>some (.sl ((rows.take h).drop l) none ⟨full.full&&h==rows.length,HD rows full⟩)
  | some m=>if h≤m then some (.sl ((rows.take h).drop l) none ⟨m==h,HD rows full⟩) else none
 else none
def uU (g:FuncId) (args:List DV) (S:ak):Option (DV×ak) :=
 if (args.map DV.strip).all DV.pure then match aI g (args.map DV.strip) with
  | some v=>some (v,S)
  | none=>call g args S
 else call g args S
def QU (p:Value×Value):MapEntry:=⟨p.1,p.2,0⟩
def Jq (t:TypeId) (es:List MapEntry) (k:Value) (ok:Bool):Sem Value:=do
 let .map key elem ← underlying t | stuck "Lookup: map type expected"
 Instr.checkKey es.isEmpty 10000 key k
 let (v,o) ← match ← Instr.findKey key k es with
  | some (_,v)=>pure (v,true)
  | none=>pure (← zeroValue elem,false)
 pure (if ok then .tuple #[v,.bool o] else v)
def JB (t:TypeId) (es:List MapEntry) (k:Value):Sem (Option (Nat×Value)):=do
 let .map key _ ← underlying t | stuck "MapUpdate: map type expected"
 Instr.checkKey false 10000 key k
 Instr.findKey key k es
def Fb:Value→Option DV
 | .tuple vs=>match vs.toList with
  | [v,.bool b]=>(xQ v).map fun d => .tup [d,.val (.bool b)]
  | _=>none
 | v=>xQ v
def ND (es:List (Value×Value)) (k v:Value):Option (Nat×Value)→Option (List (Value×Value))
 | none=>some (es++[(k,v)])
 | some (i,_)=>match es[i]? with
  | some (k',_)=>if Instr.sameBits 10000 k' k then some (es.set i (k,v)) else none
  | none=>none
def af (ρ:Operand→Option DV) (o:Oper) (S:ak) (ay:Nat):Option (DV×ak) :=
 match o.op with
 | .move x | .assign x=>(ρ x).map (·,S)
 | .pick c a b=>match ρ c with
  | some (.val (.bool t))=>(if t then ρ a else ρ b).map (·,S)
  | _=>none
 | .alloc e=>match ty e with
  | some ⟨_,_,some z⟩=>some (.ptr ay 0,dP S ay (.cells z))
  | _=>none
 | .box _ x=>match ρ x with
  | some d=>some (.ptr ay 0,dP S ay (.cells d.cells))
  | none=>none
 | .build t ps=>match ty t,iS ρ ps.toList with
  | some ⟨.struct fs,_,some z⟩,some l=>(js (fun i=>(fs[i]?).map fun f=>(f.1,f.2.1)) z l).map fun cs=>(.agg cs,S)
  | some ⟨.array _ s _,_,some z⟩,some l=>(js (fun i=>some (i*s,s)) z l).map fun cs=>(.agg cs,S)
  | _,_=>none
 | .buildSlice t n ps=>match ty t,iS ρ ps.toList with
  | some ⟨.slice e s _ agg,_,_⟩,some l=>match ty e with
   | some ⟨_,_,some z⟩=>if decide (0<s)&&decide (n*s≤16777216) then
     match js (fun i=>some (i*s,s)) ((List.replicate n z).flatten) (l.map fun(i,v)=>(i,v.strip)) with
     | some cs=>if cs.all DV.bF&&(agg||s==1) then some (match ty.h o with
      | 1=>(.gV ay n agg,dP S ay (.op e s cs false))
      | _=>(.sl (rowsOf s agg cs n) none ⟨true,some false⟩,S)) else none
     | none=>none
    else none
   | _=>none
  | _,_=>none
 | .makeSlice t a b=>match ty t,intOf ρ a,intOf ρ b with
  | some ⟨.slice e s jZ agg,_,_⟩,some n,some m=>match ty e with
   | some ⟨_,_,some z⟩=>if decide (0≤n)&&decide (m=n)&&decide (0<s)&&(agg||s==1)&&decide (n≤140737488355328-4096)&&decide (n.toNat*jZ≤eD)&&(z.map DV.aL).all DV.bF then
     some (.gV ay n.toNat agg,dP S ay (.op e s (List.replicate n.toNat (z.map DV.aL)).flatten false)) else none
   | _=>none
  | _,_,_=>none
 | .load t a=>match ρ a with
  | some a=>(jr ty S t a).map (·,S)
  | none=>none
 | .store t a x=>match ρ a,ρ x with
  | some a,some v=>(mQ ty S t a v).map (aX,·)
  | _,_=>none
 | .nilCheck x=>match ρ x with
  | some (.ptr id off)=>some (.ptr id off,S)
  | _=>none
 | .binOp op t x y _=>match valOf ρ x,valOf ρ y with
  | some a,some b=>(gZ P (do eqGuard op t x y a b; binOp op t a b)).map (·,S)
  | _,_=>(zU ty op t (ρ x) (ρ y)).map (·,S)
 | .unOp op _ x=>match valOf ρ x with
  | some a=>(gZ P (Op.unary op a)).map (·,S)
  | none=>none
 | .convert s d x=>match valOf ρ x with
  | some a=>(gZ P (Go.convert s d a)).map (·,S)
  | none=>none
 | .makeFunc (.func f) fs cs=>match evs ρ fs.toList,evs ρ cs.toList with
  | some a,some b=>some (.fn f a b,S)
  | _,_=>none
 | .slice t x lo hi mx=>match ty t,ρ x with
  | some ⟨.slice _ s _ _,_,_⟩,some (.sl rows _ full)=>if !rows.all (fun r=>decide (r.cells.length=s)) then none else
   match fU ρ mx rows.length rows.length with
   | some m=>match fU ρ hi rows.length m with
    | some h=>match fU ρ lo 0 h with
     | some l=>if hi.isNone&&mx.isSome then none else (o7 rows full l h (mx.map fun _=>m)).map (·,S)
     | none=>none
    | none=>none
   | none=>none
  | _,_=>none
 | .fieldAddr t x f=>match ty t,ρ x with
  | some ⟨.struct fs,_,_⟩,some (.ptr id off)=>match fs[f]? with
   | some (o,s,_)=>if 0<s then some (.ptr id (off+o),S) else none
   | none=>none
  | some ⟨.struct fs,_,_⟩,some (.ey rows i off)=>match fs[f]? with
   | some (o,s,_)=>if 0<s then some (.ey rows i (off+o),S) else none
   | none=>none
  | some ⟨.struct fs,_,_⟩,some (.eT id n off)=>match fs[f]?,yW S id n with
   | some (o,s,_),some _=>if 0<s then some (.eT id n (off+o),S) else none
   | _,_=>none
  | _,_=>none
 | .field t x f=>match ty t,ρ x with
  | some ⟨.struct fs,_,_⟩,some (.agg l)=>match fs[f]? with
   | some (off,s,agg)=>(mJ agg s l off).map (·,S)
   | none=>none
  | _,_=>none
 | .indexAddr t x i=>match ty t,ρ x,intOf ρ i with
  | some ⟨.slice _ s _ _,_,_⟩,some (.sl rows _ _),some n=>if 0≤n then
    match rows[n.toNat]? with
    | some r=>if r.cells.length=s then some (.ey rows n.toNat 0,S) else none
    | none=>none
   else none
  | some ⟨.array k s _,_,_⟩,some (.ptr id off),some n=>if 0≤n∧n.toNat<k then some (.ptr id (off+n.toNat*s),S) else none
  | some ⟨.array k s _,_,_⟩,some (.ey rows j off),some n=>if 0≤n∧n.toNat<k then some (.ey rows j (off+n.toNat*s),S) else none
  | some ⟨.slice _ s _ _,_,_⟩,some (.gV id m _),some n=>match yW S id m with
   | some (_,s',_,_)=>if 0≤n∧n.toNat<m∧s'=s then some (.eT id m (n.toNat*s),S) else none
   | none=>none
  | _,_,_=>none
 | .index t x i=>match ty t,ρ x,intOf ρ i with
  | some ⟨.array k s agg,_,_⟩,some (.agg l),some n=>if 0≤n∧n.toNat<k then (mJ agg s l (n.toNat*s)).map (·,S) else none
  | _,_,_=>none
 | .makeMap _ none=>some (.map ay,dP S ay (.map []))
 | .lookup t m k ok=>match ρ m,valOf ρ k with
  | some (.map id),some kv=>match S[id]? with
   | some (.map es)=>((b7 P (Jq t (es.map QU) kv ok)).bind Fb).map (·,S)
   | _=>none
  | _,_=>none
 | .mapUpdate t m k v=>match ρ m,valOf ρ k,valOf ρ v with
  | some (.map id),some kv,some vv=>match S[id]? with
   | some (.map es)=>match b7 P (JB t (es.map QU) kv) with
    | some r=>(ND es kv vv r).map fun es'=>(aX,S.set id (.map es'))
    | none=>none
   | _=>none
  | _,_,_=>none
 | .extract t i=>match ρ t with
  | some (.tup l)=>(l[i]?).map (·,S)
  | _=>none
 | .call { callee := .builtin b,args,argTypes }=>match b,args.toList,argTypes.toList with
  | .len,[x],[t]=>match ty t,ρ x with
   | some ⟨.slice _ _ _ _,_,_⟩,some (.sl rows _ _)=>some (.val (.int .i64 rows.length),S)
   | some ⟨.slice _ _ _ _,_,_⟩,some (.gV _ n _)=>some (.val (.int .i64 n),S)
   | some ⟨.array n _ _,_,_⟩,_=>some (.val (.int .i64 n),S)
   | _,some (.val v)=>(gZ P (Builtin.len_ #[t] o.type #[v])).map (·,S)
   | _,_=>none
  | .append,[x,y],[t,u]=>if t=u then match ρ x,ρ y with
    | some a,some b=>match a with
     | .gV .. => lW ty S ay t a b
     | _=>match ty.h o with
      | 1=>lW ty S ay t a b
      | _=>iE ty S ay t a b
    | _,_=>none
   else none
  | .min,xs,_=>match (evs ρ xs).bind qQ with
   | some vs=>(gZ P (Builtin.min_ argTypes o.type vs.toArray)).map (·,S)
   | none=>none
  | .max,xs,_=>match (evs ρ xs).bind qQ with
   | some vs=>(gZ P (Builtin.max_ argTypes o.type vs.toArray)).map (·,S)
   | none=>none
  | _,_,_=>none
 | .call { callee := .value f,args,argTypes:=_ }=>match ρ f,evs ρ args.toList with
  | some (.fn g fs cs),some xs=>match ty.h o with
   | 1=>call g (fs++xs++cs) S
   | _=>uU aI call g (fs++xs++cs) S
  | some (.zx id),some xs=>yf id xs S
  | _,_=>none
 | _=>none
def bQ (ops:Array Oper) (env:List DV) (o:Oper):Bool :=
 match o.guard with
 | none=>true
 | some (j,want)=>match (ops[j]?).bind (·.dst) with
  | some d=>match env[d]? with
   | some (.val (.bool b))=>b==want
   | _=>false
  | none=>false
def iM (env:List DV) (dst:Option Tmp) (v:DV):List DV :=
 match dst with
 | some d=>env.set d v
 | none=>env
def oq (env:List DV) (S:ak) (x:Operand):ak:=match gX env x with | some d=>uH S d | none=>S
def BL (o:Oper) (env:List DV) (S:ak):List DV×ak :=
 match ty.h o with
 | 2 =>
  let S':=o.op.operands.toList.foldl (oq env) S
  (env.map (iY S'),S')
 | _=>(env,S)
def Dr (ops:Array Oper):List Oper→List DV→ak→Option (List DV×ak)
 | [],env,S=>some (env,S)
 | o::r,env,S =>
  if bQ ops env o then match BL ty o env S with
   | (env,S)=>match af P ty aI call yf (gX env) o S S.length with
    | some (v,S')=>Dr ops r (iM env o.dst v) S'
    | none=>none
  else Dr ops r (iM env o.dst aX) S
def cF (ρ:Operand→Option DV) (o:Oper) (S:ak):Option DV :=
 match o.op with
 | .alloc _ | .box .. | .store .. | .makeMap .. | .mapUpdate .. | .makeSlice .. => none
 | .buildSlice .. => match ty.h o with
  | 1=>none
  | _=>(af P ty aI call yf ρ o S S.length).map (·.1)
 | .call { callee := .builtin .append,.. }=>none
 | .call { callee := .value f,args,argTypes:=_ }=>match ρ f,evs ρ args.toList with
  | some (.fn g fs cs),some xs=>if ty.h o=1 then none else if ((fs++xs++cs).map DV.strip).all DV.pure then aI g ((fs++xs++cs).map DV.strip) else none
  | _,_=>none
 | _=>(af P ty aI call yf ρ o S S.length).map (·.1)
def nN (ops:Array Oper) (S:ak):List Oper→List DV→Option (List DV)
 | [],env=>some env
 | o::r,env =>
  if bQ ops env o then match cF P ty aI call yf (gX env) o S with
   | some v=>nN ops S r (iM env o.dst v)
   | none=>none
  else nN ops S r (iM env o.dst aX)
def xP (call:bz) (g:FuncId) (args:List DV) (S:ak):Option (Nat×DV×List DV) :=
 match args with
 | .ptr i off::rest=>match S[i]? with
  | some (.cells l) =>
   if (rest.map DV.strip).all DV.pure&&(l.map DV.aL).all DV.bF then
    match call g (.ptr 0 off::rest.map DV.strip) [.cells (l.map DV.aL)] with
    | some (v,.cells l'::_)=>if v.strip.pure&&(l'.map DV.aL).all DV.bF then some (i,v.strip,l'.map DV.aL) else none
    | _=>none
   else none
  | _=>none
 | _=>none
def Fv (call:bz):bz:=fun g args S=>match xP call g args S with
 | some (i,v,l)=>some (v,S.set i (.cells l))
 | none=>call g args S
def DV.vl:DV→Bool
 | .val v=>DV.bF (.val v)
 | _=>false
def Lb (S:ak) (t:Nat):DV→Bool
 | .val v=>DV.bF (.val v)
 | .sl rows tok _=>rows.isEmpty||match tok with
  | some k=>rows.all DV.vl&&k !=t&&(match S[k]? with
   | some (.tail _ s n)=>n==rows.length*s
   | _=>false)
  | none=>false
 | _=>false
def RO (r:Option (DV×ak)) (f:Nat):Option (List DV×TypeId×List DV) :=
 match r with
 | some (.agg l,S)=>match l[f]? with
  | some (.sl rows (some t) _)=>match S[t]? with
   | some (.tail e 1 n)=>if n==rows.length&&rows.all DV.vl&&(List.range l.length).all fun j=>j==f||Lb S t (l.getD j aX) then some (l.map DV.aL,e,rows) else none
   | _=>none
  | _=>none
 | _=>none
def N7 (call:bz) (g:FuncId) (args:List DV) (f:Nat):Option (List DV×TypeId×List DV) :=
 if (args.map DV.strip).all DV.pure then RO (call g (args.map DV.strip) []) f else none
def uN (call:bz) (f ay:Nat):bz:=fun g args S=>match S[ay]?,N7 call g args f with
 | some .none,some (l,e,rows)=>some (.agg (l.set f (.gV ay rows.length false)),S.set ay (.op e 1 rows false))
 | _,_=>none
structure cT where
 ids:Option (List Nat)
 wr:Bool
def aF (ρ:Operand→Option DV) (o:Oper) (S:ak) (ay:Nat):Option (DV×ak×cT) :=
 match o.op with
 | .alloc _ | .box .. | .makeMap .. => match S[ay]? with
  | some .none=>(af P ty aI call yf ρ o S ay).map fun r=>(r.1,r.2,⟨some [ay],true⟩)
  | _=>none
 | .store _ a _=>match ρ a with
  | some (.ptr id _)=>(af P ty aI call yf ρ o S ay).map fun r=>(r.1,r.2,⟨some [id],true⟩)
  | some (.eT id _ _)=>(af P ty aI call yf ρ o S ay).map fun r=>(r.1,r.2,⟨some [id],true⟩)
  | _=>none
 | .fieldAddr _ a _=>match ρ a with
  | some (.eT id _ _)=>(af P ty aI call yf ρ o S ay).map fun r=>(r.1,r.2,⟨some [id],false⟩)
  | _=>(af P ty aI call yf ρ o S ay).map fun r=>(r.1,r.2,⟨some [],false⟩)
 | .indexAddr _ a _=>match ρ a with
  | some (.gV id _ _)=>(af P ty aI call yf ρ o S ay).map fun r=>(r.1,r.2,⟨some [id],false⟩)
  | _=>(af P ty aI call yf ρ o S ay).map fun r=>(r.1,r.2,⟨some [],false⟩)
 | .buildSlice .. => match ty.h o with
  | 1=>none
  | _=>(af P ty aI call yf ρ o S ay).map fun r=>(r.1,r.2,⟨some [],false⟩)
 | .makeSlice .. => none
 | .lookup _ m .. => match ρ m with
  | some (.map id)=>(af P ty aI call yf ρ o S ay).map fun r=>(r.1,r.2,⟨some [id],false⟩)
  | _=>none
 | .mapUpdate _ m .. => match ρ m with
  | some (.map id)=>(af P ty aI call yf ρ o S ay).map fun r=>(r.1,r.2,⟨some [id],true⟩)
  | _=>none
 | .load _ a=>match ρ a with
  | some (.ptr id _)=>(af P ty aI call yf ρ o S ay).map fun r=>(r.1,r.2,⟨some [id],false⟩)
  | some (.eT id _ _)=>(af P ty aI call yf ρ o S ay).map fun r=>(r.1,r.2,⟨some [id],false⟩)
  | _=>(af P ty aI call yf ρ o S ay).map fun r=>(r.1,r.2,⟨some [],false⟩)
 | .call { callee := .builtin .append,args,.. }=>if ty.h o=1 then none else if zK ((args[0]?).bind ρ) then none else match S[ay]?,(args[0]?).bind ρ with
  | some .none,some (.sl _ (some t) _)=>(af P ty aI call yf ρ o S ay).map fun r=>(r.1,r.2,⟨some [t,ay],true⟩)
  | some .none,_=>(af P ty aI call yf ρ o S ay).map fun r=>(r.1,r.2,⟨some [ay],true⟩)
  | _,_=>none
 | .call { callee := .value f,args,argTypes:=_ }=>match ρ f,evs ρ args.toList with
  | some (.fn g fs cs),some xs =>
   let Z1:=fs++xs++cs
   if ty.h o=1 then (uN call (ty.Ny o) ay g Z1 S).map fun r=>(r.1,r.2,⟨some [ay],true⟩)
   else if (Z1.map DV.strip).all DV.pure then (aI g (Z1.map DV.strip)).map fun v=>(v,S,⟨some [],false⟩)
   else match xP call g Z1 S with
    | some (i,v,l)=>some (v,S.set i (.cells l),⟨some [i],true⟩)
    | none=>(call g Z1 S).map fun r=>(r.1,r.2,⟨none,true⟩)
  | some (.zx id),some xs=>(yf id xs S).map fun r=>(r.1,r.2,⟨none,true⟩)
  | _,_=>none
 | _=>(af P ty aI call yf ρ o S ay).map fun r=>(r.1,r.2,⟨some [],false⟩)
def qd (ops:Array Oper) (n0:Nat):List Oper→Nat→List DV→ak→Option (List DV×ak×List cT)
 | [],_,env,S=>some (env,S,[])
 | o::r,i,env,S =>
  if bQ ops env o then match aF P ty aI call yf (gX env) o S (n0+i) with
   | some (v,S',f)=>match qd ops n0 r (i+1) (iM env o.dst v) S' with
    | some (aC,tj,fs)=>some (aC,tj,f::fs)
    | none=>none
   | none=>none
  else match qd ops n0 r (i+1) (iM env o.dst aX) S with
   | some (aC,tj,fs)=>some (aC,tj,⟨some [],false⟩::fs)
   | none=>none
def jM (ops:Array Oper) (o:Oper):List Tmp :=
 o.dst.toList++o.op.operands.toList.filterMap (fun | .tmp t=>some t | _=>none)++(match o.guard with | some (j,_)=>((ops[j]?).bind (·.dst)).toList | none=>[])
def jK (ops:Array Oper) (b:Array Nat):Bool :=
 (ops.toList.zipIdx.all fun(o,i)=>o.after.all fun e => !Region.binds .any e||decide (e.on<i)) &&
 ops.toList.zipIdx.all fun(o,i)=>ops.toList.zipIdx.all fun(o',j)=>match o'.dst with
  | some d=>i==j || !(jM ops o).contains d||(b.getD j 0).testBit i||(b.getD i 0).testBit j
  | none=>true
def cT.meets (f g:cT):Bool :=
 (f.wr||g.wr)&&match f.ids,g.ids with
 | none,none=>true
 | none,some l => !l.isEmpty
 | some l,none => !l.isEmpty
 | some l,some m=>l.any m.contains
def qG (b:Array Nat) (fs:List cT):Bool :=
 fs.zipIdx.all fun(f,i)=>fs.zipIdx.all fun(g,j)=>i==j || !f.meets g||(b.getD j 0).testBit i||(b.getD i 0).testBit j
def D9 (o:Oper):Bool :=
 match o.op with
 | .call { callee := .value _,args:=_,argTypes }=>match argTypes[0]? with
  | some t=>match P.underlying t with
   | some (.pointer _)=>true
   | _=>false
  | none=>false
 | _=>false
def nB (ops:Array Oper) (draw:Bool) (env:List DV) (S:ak):Option (List DV×ak) :=
 if draw then if !jK ops (Region.before ops) then none else match if ops.toList.any (D9 P) then none else nN P ty aI call yf ops S ops.toList env with
  | some aC=>some (aC,S)
  | none=>match qd P ty aI call yf ops S.length ops.toList 0 env (S++List.replicate ops.size .none) with
   | some (aC,S',fs)=>if qG (Region.before ops) fs then some (aC,S') else none
   | none=>none
 else Dr P ty aI call yf ops ops.toList env S
inductive DX where
 | normal
 | exit (id:Nat)
 | ret
 deriving DecidableEq
def lG (f:List DV→ak→Option (DX×List DV×ak)):Nat→List DV→ak→Option (DX×List DV×ak)
 | 0,_,_=>none
 | n+1,env,S=>match f env S with
  | some (.normal,aC,S')=>lG f n aC S'
  | r=>r
def ct (L:Nat) (fn:FuncId) (gW:Bool):Code→List DV→ak→Option (DX×List DV×ak)
 | .skip,env,S | .label _,env,S=>some (.normal,env,S)
 | .region _ ops draw,env,S=>(nB P ty aI call yf ops draw env S).map (.normal,·)
 | .seq a b,env,S=>match ct L fn gW a env S with
  | some (.normal,aC,S')=>ct L fn gW b aC S'
  | r=>r
 | .cond c a b,env,S=>match gX env c with
  | some (.val (.bool true))=>ct L fn gW a env S
  | some (.val (.bool false))=>ct L fn gW b env S
  | _=>none
 | .block id c,env,S=>match ct L fn gW c env S with
  | some (.exit gR,aC,S')=>some (if gR=id then .normal else .exit gR,aC,S')
  | r=>r
 | .loop c,env,S=>lG (ct L fn gW c) L env S
 | .scope c,env,S=>ct L fn gW c env S
 | .exit id,env,S=>some (.exit id,env,S)
 | .ret,env,S=>some (.ret,env,S)
 | .rangeFunc f ps K6 body,env,S=>if gW then none else match gX env f with
  | some (.fn g fs cs)=>match call g (fs++[.zx (S.length+1)]++cs) (S++[.defer,.loop ⟨.ready,none,fn,env,ps.toList,K6,body,S.length⟩]) with
   | some (_,S')=>match S'[S.length+1]? with
    | some (.loop r)=>if r.st == .busy then none else match r.jk with
     | none=>some (.normal,env,S'.set (S.length+1) (.loop { r with st := .exhausted }))
     | some .ret=>some (.ret,env,S'.set (S.length+1) (.loop { r with st := .exhausted }))
     | some (.exit e)=>some (.exit e,env,S'.set (S.length+1) (.loop { r with st := .exhausted }))
     | _=>none
    | _=>none
   | none=>none
  | _=>none
 | _,_,_=>none
def zJ:List DV→List (Tmp×DV)→List DV
 | env,[]=>env
 | env,(t,d)::l=>zJ (env.set t d) l
def HW (L:Nat):eE:=fun id args S=>match S[id]? with
 | some (.loop r)=>if args.length=r.params.length then
   match ct P ty aI call yf L r.fn true r.assign (zJ r.env (r.params.zip args)) S with
   | some (.normal,aaL,S1)=>match S1[id]? with
    | some (.loop r1)=>if r1.st = .ready then
      match ct P ty aI call yf L r.fn true r.body aaL (S1.set id (.loop { r1 with st := .busy })) with
      | some (e,_,S2)=>match S2[id]? with
       | some (.loop r2)=>match e with
        | .normal=>some (.val (.bool true),S2.set id (.loop { r2 with st := .ready,jk:=none }))
        | .ret=>some (.val (.bool false),S2.set id (.loop { r2 with st := .done,jk:=some .ret }))
        | .exit i=>some (.val (.bool false),S2.set id (.loop { r2 with st := .done,jk:=some (.exit i) }))
       | _=>none
      | none=>none
     else none
    | _=>none
   | _=>none
  else none
 | _=>none
def qE (env:List DV) (S:ak):List ResultVar→Option (List DV)
 | []=>some []
 | .tmp t::r=>(qE env S r).map (env.getD t aX::·)
 | .cell a t::r=>match jr ty S t (env.getD a aX),qE env S r with
  | some v,some l=>some (v::l)
  | _,_=>none
def oneOf:List DV→DV
 | [d]=>d
 | l => .tup l
def qJ (L:Nat) (f:FuncId) (fn:Func) (args:List DV) (S:ak):Option (DV×ak) :=
 match fn.body with
 | some c=>match ct P ty aI call yf L f false c (args++List.replicate (fn.ntmps-args.length) aX) S with
  | some (.normal,env,S') | some (.ret,env,S')=>(qE ty env S' fn.results.toList).map fun l=>(oneOf l,S')
  | _=>none
 | none=>none
end
def jH (bC:bM) (call:bz):bM:=fun f args=>match bC f args with
 | some v=>if v.pure then some v else none
 | none=>match call f args [] with
  | some (v,S)=>if (qH (Dx S v) v).strip.pure then some (qH (Dx S v) v).strip else none
  | none=>none
def cR (P:Program) (ty:fI) (bC:bM) (L:Nat):Nat→bz×eE
 | 0=>(fun _ _ _=>none,fun _ _ _=>none)
 | n+1=>(fun f args S=>match P.funcs[f]? with
   | some fn=>qJ P ty (jH bC (cR P ty bC L n).1) (cR P ty bC L n).1 (cR P ty bC L n).2 L f fn args S
   | none=>none,
  HW P ty (jH bC (cR P ty bC L n).1) (cR P ty bC L n).1 (cR P ty bC L n).2 L)
def ads (P:Program) (ty:fI) (bC:bM) (L n:Nat):bz:=(cR P ty bC L n).1
end Go.Di
end
section
namespace Go.Tv
open Go Go.Di
inductive TT where
 | int (k:IntKind)
 | bool
 | str
 | unit
 | pair (a b:TT)
 | sl (t:TT)
 deriving DecidableEq
abbrev TT.den:TT→Type
 | .int _=>Int
 | .bool=>Bool
 | .str=>ByteArray
 | .unit=>Unit
 | .pair a b=>a.den×b.den
 | .sl t=>List t.den
def TT.Wn:(t:TT)→t.den
 | .int _=>(0:Int)
 | .bool=>false
 | .str=>ByteArray.empty
 | .unit=>()
 | .pair a b=>(a.Wn,b.Wn)
 | .sl _=>[]
def TT.size:TT→Nat
 | .unit=>0
 | .pair a b=>a.size+b.size
 | _=>1
def TT.agg:TT→Bool
 | .unit | .pair _ _=>true
 | _=>false
inductive Ap where
 | no
 | full
 | oR (g:Nat)
inductive TV where
 | unk
 | val (v:Value)
 | gY
 | agg (l:List TV)
 | tup (l:List TV)
 | sl (t:TT) (l:List t.den) (ap:Ap)
 | ptr (id off:Nat)
 | ey (t:TT) (l:List t.den) (i off:Nat)
 | fn (f:FuncId) (first captured:List TV)
 | mp (id:Nat)
 | so (g:Nat) (t:TT)
 | sp (g:Nat) (t:TT) (i off:Nat)
instance:Inhabited TV:=⟨.unk⟩
def TT.cells:(t:TT)→t.den→List TV
 | .int k,n=>[.val (.int k n)]
 | .bool,b=>[.val (.bool b)]
 | .str,s=>[.val (.string s)]
 | .unit,_=>[]
 | .pair a b,x=>a.cells x.1++b.cells x.2
 | .sl t,l=>[.sl t l .no]
def ofInt (k:IntKind):List TV→Option (Int×List TV)
 | .val (.int k' n)::r=>if k'=k then some (n,r) else none
 | _=>none
def ofBool:List TV→Option (Bool×List TV)
 | .val (.bool b)::r=>some (b,r)
 | _=>none
def ofStr:List TV→Option (ByteArray×List TV)
 | .val (.string b)::r=>some (b,r)
 | _=>none
def RR (t:TT):List TV→Option (List t.den×List TV)
 | .sl t' l _::r=>if h:t'=t then some (h▸l,r) else none
 | .gY::r=>some ([],r)
 | _=>none
def TT.of:(t:TT)→List TV→Option (t.den×List TV)
 | .int k,l=>ofInt k l
 | .bool,l=>ofBool l
 | .str,l=>ofStr l
 | .unit,l=>some ((),l)
 | .pair a b,l=>match a.of l with
  | some (x,r1)=>match b.of r1 with
   | some (y,r2)=>some ((x,y),r2)
   | none=>none
  | none=>none
 | .sl t,l=>RR t l
def s6 (agg:Bool) (r:DV):Prop:=if agg then ∃ l,r = .agg l else ∀ l,r ≠ .agg l
def dW {α:Type} (R:α→List DV→Prop) (agg:Bool):List α→List DV→Prop
 | [],[]=>True
 | x::l,r::rows=>(R x r.cells∧s6 agg r)∧dW R agg l rows
 | _,_=>False
def CR:(t:TT)→t.den→List DV→Prop
 | .int k,n,cs=>cs=[.val (.int k n)]
 | .bool,b,cs=>cs=[.val (.bool b)]
 | .str,s,cs=>cs=[.val (.string s)]
 | .unit,_,cs=>cs=[]
 | .pair a b,x,cs=>∃ c1 c2,cs=c1++c2∧CR a x.1 c1∧CR b x.2 c2
 | .sl t,l,cs=>∃ rows f,cs=[.sl rows none f]∧dW (CR t) t.agg l rows
abbrev lK:=Nat→Option Nat
def tH (ι:lK) (S:ak) (n:Nat) (tok:Option Nat) (f:SF):Ap→Prop
 | .no=>True
 | .full=>tok=none∧f.full=true
 | .oR g=>(tok=none∧f.full=true∧n=0)∨∃ t e s,ι g=some t∧tok=some t∧S[t]? = some (.tail e s (n*s))
mutual
def RT (ι:lK) (S:ak):TV→DV→Prop
 | .unk,_=>True
 | .val v,.val u=>u=v
 | .gY,.sl rows tok f=>rows=[]∧tok=none∧f=⟨true,some true⟩
 | .agg l,.agg m=>cQ ι S l m
 | .tup l,.tup m=>cQ ι S l m
 | .sl t l ap,.sl rows tok f=>dW (CR t) t.agg l rows∧tH ι S rows.length tok f ap
 | .ptr id off,.ptr gR sL=>ι id=some gR∧sL=off
 | .ey t l i off,.ey rows i' sL=>dW (CR t) t.agg l rows∧i'=i∧sL=off∧i<l.length
 | .fn f a b,.fn f' a' b'=>f'=f∧cQ ι S a a'∧cQ ι S b b'
 | .mp id,.map gR=>ι id=some gR
 | .so g t,.gV id n agg=>ι g=some id∧agg=t.agg∧∃ e s l z,S[id]? = some (.op e s l z)∧n*s=l.length
 | .sp g t i off,.eT id n sL=>ι g=some id∧sL=i*t.size+off∧∃ e s l z,S[id]? = some (.op e s l z)∧n*s=l.length∧i*t.size+t.size≤l.length
 | _,_=>False
def cQ (ι:lK) (S:ak):List TV→List DV→Prop
 | [],[]=>True
 | a::l,b::m=>RT ι S a b∧cQ ι S l m
 | _,_=>False
end
section
variable {ι:lK} {S:ak}
theorem ja {α:Type} {R:α→List DV→Prop} {agg:Bool}:∀ {l:List α} {rows:List DV},dW R agg l rows→rows.length=l.length
 | [],[],_=>rfl
 | _::l,_::rows,h=>by simp[ja h.2]
theorem Ao {α:Type} {R:α→List DV→Prop} {agg:Bool}:∀ {l:List α} {rows:List DV} {i:Nat} {x:α},dW R agg l rows→l[i]? = some x→∃ r,rows[i]? = some r∧R x r.cells∧s6 agg r
 | [],_,_,_,_,h=>by simp at h
 | _::_,[],_,_,h,_=>h.elim
 | y::l,r::rows,0,x,h,hx=>by
  simp only[List.getElem?_cons_zero,az] at hx
  subst hx
  exact⟨r,rfl,h.1⟩
 | y::l,r::rows,i+1,x,h,hx=>by
  obtain⟨r',h1,h2⟩:=Ao (i:=i) h.2 (by simpa using hx)
  exact⟨r',by simpa using h1,h2⟩
theorem yb {α:Type} {R:α→List DV→Prop} {agg:Bool}:∀ {l m:List α} {rows U8:List DV},dW R agg l rows→dW R agg m U8→dW R agg (l++m) (rows++U8)
 | [],_,[],_,_,h=>h
 | _::_,_,_::_,_,h,k=>⟨h.1,yb h.2 k⟩
theorem oF {α:Type} {R:α→List DV→Prop} {agg:Bool}:∀ {l:List α} {rows:List DV} (n:Nat),dW R agg l rows→dW R agg (l.take n) (rows.take n)
 | _,_,0,_=>by simp[dW]
 | [],[],n+1,_=>by simp[dW]
 | _::_,_::_,n+1,h=>⟨h.1,oF n h.2⟩
theorem sg {α:Type} {R:α→List DV→Prop} {agg:Bool}:∀ {l:List α} {rows:List DV} (n:Nat),dW R agg l rows→dW R agg (l.drop n) (rows.drop n)
 | _,_,0,h=>h
 | [],[],n+1,_=>by simp[dW]
 | _::_,_::_,n+1,h=>sg n h.2
theorem lB:∀ {t:TT} {x:t.den} {cs:List DV},CR t x cs→cs.length=t.size
 | .int _,_,_,h=>by simp only[CR] at h; subst h; rfl
 | .bool,_,_,h=>by simp only[CR] at h; subst h; rfl
 | .str,_,_,h=>by simp only[CR] at h; subst h; rfl
 | .unit,_,_,h=>by simp only[CR] at h; subst h; rfl
 | .pair a b,x,_,h=>by
  simp only[CR] at h
  obtain⟨c1,c2,rfl,h1,h2⟩:=h
  simp only[cO,lB h1,lB h2,TT.size]
 | .sl t,_,_,h=>by
  simp only[CR] at h
  obtain⟨rows,f,rfl,-⟩:=h
  rfl
theorem iw {t:TT}:∀ {l:List t.den} {rows:List DV},dW (CR t) t.agg l rows→∀ r∈rows,r.cells.length=t.size
 | [],[],_,r,hr=>by simp at hr
 | _::l,r'::rows,h,r,hr=>by
  rcases bt.1 hr with rfl | hr
  ·exact lB h.1.1
  ·exact iw h.2 r hr
theorem fM:∀ {l:List TV} {m:List DV},cQ ι S l m→m.length=l.length
 | [],[],_=>rfl
 | _::l,_::m,h=>by simp only[cQ] at h; simp[fM h.2]
theorem bS:cQ ι S [] []:=by simp only[cQ]
theorem aV {a:TV} {d:DV} {l:List TV} {m:List DV} (h:RT ι S a d) (k:cQ ι S l m):cQ ι S (a::l) (d::m):=by simp only[cQ]; exact⟨h,k⟩
theorem je {a:TV} {d:DV} (h:RT ι S a d):cQ ι S [a] [d]:=aV h bS
theorem ax {a:TV} {l:List TV} {m:List DV} (h:cQ ι S (a::l) m):∃ d m',m=d::m'∧RT ι S a d∧cQ ι S l m':=by
 cases m with
 | nil=>simp only[cQ] at h
 | cons d m'=>simp only[cQ] at h; exact⟨d,m',rfl,h⟩
theorem aU {m:List DV} (h:cQ ι S [] m):m=[]:=by
 cases m with
 | nil=>rfl
 | cons d m'=>simp only[cQ] at h
theorem lM:∀ {l:List TV} {m:List DV} {i:Nat} {a:TV},cQ ι S l m→l[i]? = some a→∃ d,m[i]? = some d∧RT ι S a d
 | [],_,_,_,_,h=>by simp at h
 | b::l,m,0,a,h,hx=>by
  obtain⟨d,m',rfl,h1,-⟩:=ax h
  simp only[List.getElem?_cons_zero,az] at hx
  subst hx
  exact⟨d,rfl,h1⟩
 | b::l,m,i+1,a,h,hx=>by
  obtain⟨d,m',rfl,-,h1⟩:=ax h
  obtain⟨d',h2,h3⟩:=lM (i:=i) h1 (by simpa using hx)
  exact⟨d',by simpa using h2,h3⟩
theorem ez:∀ {l l':List TV} {m m':List DV},cQ ι S l m→cQ ι S l' m'→cQ ι S (l++l') (m++m')
 | [],l',m,m',h,k=>by rw[aU h]; exact k
 | a::l,l',m,m',h,k=>by
  obtain⟨d,m1,rfl,h1,h2⟩:=ax h
  exact aV h1 (ez h2 k)
theorem Ak:∀ {l:List TV} {m:List DV} (n:Nat),cQ ι S l m→cQ ι S (l.take n) (m.take n)
 | _,_,0,_=>by simp only[List.take_zero]; exact bS
 | [],m,n+1,h=>by rw[aU h]; simp only[List.take_nil]; exact bS
 | a::l,m,n+1,h=>by
  obtain⟨d,m1,rfl,h1,h2⟩:=ax h
  exact aV h1 (Ak n h2)
theorem Am:∀ {l:List TV} {m:List DV} (n:Nat),cQ ι S l m→cQ ι S (l.drop n) (m.drop n)
 | _,_,0,h=>h
 | [],m,n+1,h=>by rw[aU h]; simp only[List.drop_nil]; exact bS
 | a::l,m,n+1,h=>by
  obtain⟨d,m1,rfl,-,h2⟩:=ax h
  exact Am n h2
theorem D4:∀ {l:List TV} {m:List DV} (i:Nat) {a:TV} {d:DV},cQ ι S l m→RT ι S a d→cQ ι S (l.set i a) (m.set i d)
 | [],m,i,a,d,h,_=>by rw[aU h]; simp only[List.set_nil]; exact bS
 | b::l,m,0,a,d,h,k=>by
  obtain⟨d',m1,rfl,-,h2⟩:=ax h
  exact aV k h2
 | b::l,m,i+1,a,d,h,k=>by
  obtain⟨d',m1,rfl,h1,h2⟩:=ax h
  exact aV h1 (D4 i h2 k)
theorem rK (d:DV):∀ n,cQ ι S (List.replicate n .unk) (List.replicate n d)
 | 0=>bS
 | n+1=>by
  rw[List.replicate_succ,List.replicate_succ]
  exact aV (by simp only[RT]) (rK d n)
theorem Al {l:List TV} {m:List DV} (h:cQ ι S l m) (i:Nat):RT ι S (l.getD i .unk) (m.getD i aX):=by
 rw[aO,aO]
 cases hi:l[i]? with
 | none=>simp only[Option.getD_none,RT]
 | some a =>
  obtain⟨d,h1,h2⟩:=lM h hi
  rw[h1]
  exact h2
theorem mX:∀ {t:TT} {x:t.den} {cs:List DV},CR t x cs→cQ ι S (t.cells x) cs
 | .int _,_,_,h=>by simp only[CR] at h; subst h; exact je (by simp only[RT])
 | .bool,_,_,h=>by simp only[CR] at h; subst h; exact je (by simp only[RT])
 | .str,_,_,h=>by simp only[CR] at h; subst h; exact je (by simp only[RT])
 | .unit,_,_,h=>by simp only[CR] at h; subst h; exact bS
 | .pair a b,x,_,h=>by
  simp only[CR] at h
  obtain⟨c1,c2,rfl,h1,h2⟩:=h
  exact ez (mX h1) (mX h2)
 | .sl t,_,_,h=>by
  simp only[CR] at h
  obtain⟨rows,f,rfl,h⟩:=h
  refine je ?_
  simp only[RT,tH,and_true]
  exact h
theorem Cb:∀ {t:TT} {l:List TV} {x:t.den} {r:List TV} {m:List DV},t.of l=some (x,r)→cQ ι S l m→∃ c m',m=c++m'∧CR t x (c.map DV.aL)∧cQ ι S r m'
 | .int k,l,x,r,m,h,hm=>by
  simp only[TT.of] at h
  unfold ofInt at h
  split at h
  ·split at h
   ·rename_i hk
    cases h
    obtain⟨d,m',rfl,h1,h2⟩:=ax hm
    cases d<;>simp only[RT] at h1
    subst h1
    subst hk
    exact⟨[_],m',rfl,by simp only[CR,bD,ek,DV.aL],h2⟩
   ·cases h
  ·cases h
 | .bool,l,x,r,m,h,hm=>by
  simp only[TT.of] at h
  unfold ofBool at h
  split at h
  ·cases h
   obtain⟨d,m',rfl,h1,h2⟩:=ax hm
   cases d<;>simp only[RT] at h1
   subst h1
   exact⟨[_],m',rfl,by simp only[CR,bD,ek,DV.aL],h2⟩
  ·cases h
 | .str,l,x,r,m,h,hm=>by
  simp only[TT.of] at h
  unfold ofStr at h
  split at h
  ·cases h
   obtain⟨d,m',rfl,h1,h2⟩:=ax hm
   cases d<;>simp only[RT] at h1
   subst h1
   exact⟨[_],m',rfl,by simp only[CR,bD,ek,DV.aL],h2⟩
  ·cases h
 | .unit,l,x,r,m,h,hm=>by
  simp only[TT.of] at h
  cases h
  exact⟨[],m,rfl,by simp only[CR,ek],hm⟩
 | .pair a b,l,x,r,m,h,hm=>by
  simp only[TT.of] at h
  split at h
  ·rename_i x1 r1 h1
   split at h
   ·rename_i y r2 h2
    cases h
    obtain⟨c,m1,rfl,k1,k2⟩:=Cb h1 hm
    obtain⟨c',m2,rfl,k3,k4⟩:=Cb h2 k2
    exact⟨c++c',m2,by simp,by simp only[CR,kN]; exact⟨_,_,rfl,k1,k3⟩,k4⟩
   ·cases h
  ·cases h
 | .sl t,l,x,r,m,h,hm=>by
  simp only[TT.of] at h
  unfold RR at h
  split at h
  ·split at h
   ·rename_i ht
    subst ht
    cases h
    obtain⟨d,m',rfl,h1,h2⟩:=ax hm
    cases d<;>simp only[RT] at h1
    rename_i rows tok f
    exact⟨[_],m',rfl,by simp only[CR,bD,ek,DV.aL]; exact⟨rows,⟨false,f.isNil⟩,rfl,h1.1⟩,h2⟩
   ·cases h
  ·cases h
   obtain⟨d,m',rfl,h1,h2⟩:=ax hm
   cases d<;>simp only[RT] at h1
   obtain⟨rfl,rfl,rfl⟩:=h1
   exact⟨[_],m',rfl,by simp only[CR,bD,ek,DV.aL]; exact⟨[],⟨false,some true⟩,rfl,by simp only[dW]⟩,h2⟩
  ·cases h
theorem pG:∀ {t:TT} {x:t.den} {cs:List DV},CR t x cs→cs.all DV.bF=true
 | .int _,_,_,h=>by simp only[CR] at h; subst h; rfl
 | .bool,_,_,h=>by simp only[CR] at h; subst h; rfl
 | .str,_,_,h=>by simp only[CR] at h; subst h; rfl
 | .unit,_,_,h=>by simp only[CR] at h; subst h; rfl
 | .pair a b,x,_,h=>by
  simp only[CR] at h
  obtain⟨c1,c2,rfl,h1,h2⟩:=h
  rw[kM,pG h1,pG h2]; rfl
 | .sl t,_,_,h=>by
  simp only[CR] at h
  obtain⟨rows,f,rfl,-⟩:=h
  rfl
end
end Go.Tv
end
