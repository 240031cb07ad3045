import Derived.Test.YtedcgbkilmlbhaaGreatPk00
import GoSem.Step
section
namespace Go.Di
open Go
structure SF where
 full:Bool
 isNil:Option Bool
inductive DV where
 | val (v:Value)
 | agg (l:List DV)
 | gI (l:List DV)
 | sl (rows:List DV) (tok:Option Nat) (full:SF)
 | ptr (id off:Nat)
 | eS (rows:List DV) (i off:Nat)
 | fn (f:FuncId) (first captured:List DV)
 | map (id:Nat)
 | BA (id:Nat)
 | jG (id n:Nat) (agg:Bool)
 | fW (id n off:Nat)
instance:Inhabited DV:=⟨.val (.tuple #[])⟩
structure J1 where
 st:LoopState
 jI:Option Code
 fn:FuncId
 env:List DV
 params:List Tmp
 assign:Code
 body:Code
 dfr:Nat
inductive DB where
 | none
 | cells (l:List DV)
 | tail (e:TypeId) (s n:Nat)
 | map (es:List (Value×Value))
 | defer
 | loop (r:J1)
 | op (e:TypeId) (s:Nat) (l:List DV) (z:Bool)
instance:Inhabited DB:=⟨.none⟩
abbrev av:=List DB
def bz:DV := .val (.tuple #[])
def DV.cells:DV→List DV
 | .agg l=>l
 | d=>[d]
def flat (rows:List DV):List DV:=rows.flatMap DV.cells
def wL:Value→Bool
 | .agg _=>false
 | .tuple vs=>vs.size==0
 | _=>true
def DM:Value→Option DV
 | .slice none 0 0=>some (.sl [] none ⟨true,some true⟩)
 | v=>if wL v then some (.val v) else none
def pR:List Value→Option (List DV)
 | []=>some []
 | v::l=>match DM v,pR l with
  | some d,some r=>some (d::r)
  | _,_=>none
def xP:Value→Option DV
 | .agg cs=>(pR cs.toList).map .agg
 | .func (.func f) fs cs=>if fs.size=0&&cs.size=0 then some (.fn f [] []) else none
 | v=>DM v
def pQ:List DV→Option (List Value)
 | []=>some []
 | .val v::l=>(pQ l).map (v::·)
 | _=>none
def xI:DV→Option Value
 | .val v=>some v
 | .agg l=>(pQ l).map fun r => .agg r.toArray
 | _=>none
def qU:List DV→Option (List Value)
 | []=>some []
 | d::l=>match xI d,qU l with
  | some v,some r=>some (v::r)
  | _,_=>none
def DV.bS:DV→Bool
 | .val v => !(v matches .tuple _)
 | .sl _ none _=>true
 | _=>false
def DV.jf:DV→Bool
 | .agg l=>l.all DV.bS
 | .val _=>true
 | .sl _ none _=>true
 | _=>false
def DV.pure:DV→Bool
 | .gI l=>l.all DV.jf
 | d=>d.jf
def DV.aQ:DV→DV
 | .sl r _ f => .sl r none ⟨false,f.isNil⟩
 | d=>d
def DV.di:DV→DV
 | .agg l => .agg (l.map DV.aQ)
 | .sl r _ f => .sl r none ⟨false,f.isNil⟩
 | d=>d
def DV.strip:DV→DV
 | .gI l => .gI (l.map DV.di)
 | d=>d.di
def DV.one:DV→Bool
 | .val v => !(v matches .tuple _)
 | .agg _ | .gI _=>false
 | _=>true
inductive TK where
 | one
 | struct (fs:List (Nat×Nat×Bool))
 | array (n s:Nat) (agg:Bool)
 | slice (e s b:Nat) (agg:Bool)
 deriving DecidableEq
structure TyD where
 k:TK
 size:Nat
 zero:Option (List DV)
def TK.isAgg:TK→Bool
 | .struct _ | .array _ _ _=>true
 | _=>false
section
variable (P:Program)
def nC (t:TypeId):Bool :=
 match P.underlying t with
 | some (.struct _) | some (.array _ _)=>true
 | _=>false
def cu {α:Type}:Sem α→Option α
 | .pure a=>some a
 | .program k=>cu (k P)
 | _=>none
def Ck (t:TypeId):Option TypeInfo :=
 match P.info? t,P.underlying t with
 | some i,some _=>some i
 | _,_=>none
def BJ (t:TypeId):Option TK :=
 match P.underlying t with
 | some (.struct fs)=>(fs.toList.mapM fun f=>(Ck P f.type).map fun i=>(f.offset,i.size,nC P f.type)).map .struct
 | some (.array n e)=>(Ck P e).map fun i => .array n i.size (nC P e)
 | some (.slice e)=>(Ck P e).map fun i => .slice e i.size i.bytes (nC P e)
 | some _=>some .one
 | none=>none
def zeroOf (i:TypeInfo):Option (List DV) :=
 match i.zero with
 | some z=>match pR z.cells.toList with
  | some cs=>if cs.length=i.size then some cs else none
  | none=>none
 | none=>none
def NQ (t:TypeId):Option TyD :=
 match BJ P t,P.info? t with
 | some k,some i=>some ⟨k,i.size,zeroOf i⟩
 | _,_=>none
end
def N9 (l:List DV) (off n:Nat):Option (List DV):=if off+n≤l.length then some ((l.drop off).take n) else none
def sR (l:List DV) (off:Nat) (cs:List DV):Option (List DV):=if off+cs.length≤l.length then some (l.take off++cs++l.drop (off+cs.length)) else none
def nv (agg:Bool) (size:Nat) (l:List DV) (off:Nat):Option DV :=
 if agg then (N9 l off size).map .agg else l[off]?
structure gF where
 f:TypeId→Option TyD
 hint:Tmp→TypeId→Nat
instance:CoeFun gF fun _=>TypeId→Option TyD:=⟨gF.f⟩
def gF.h (ty:gF) (o:Oper):Nat :=
 match o.dst with
 | some d=>ty.hint d o.type
 | none=>0
abbrev bM:=FuncId→List DV→av→Option (DV×av)
abbrev bP:=FuncId→List DV→Option DV
abbrev eW:=Nat→List DV→av→Option (DV×av)
section
variable (P:Program) (ty:gF) (aI:bP) (call:bM) (yf:eW)
def iB (env:List DV):Operand→Option DV
 | .tmp t=>some (env.getD t bz)
 | .const v=>xP v
 | .func f=>some (.fn f [] [])
 | .global _=>none
def evs (ρ:Operand→Option DV):List Operand→Option (List DV)
 | []=>some []
 | x::l=>match ρ x,evs ρ l with
  | some d,some r=>some (d::r)
  | _,_=>none
def valOf (ρ:Operand→Option DV) (x:Operand):Option Value:=(ρ x).bind xI
def intOf (ρ:Operand→Option DV) (x:Operand):Option Int :=
 match ρ x with
 | some (.val (.int _ n))=>some n
 | _=>none
def zT:Option DV→Bool
 | some (.jG ..)=>true
 | _=>false
def BC (S:av) (id n:Nat):Option (TypeId×Nat×List DV×Bool) :=
 match S[id]? with
 | some (.op e s l z)=>if n*s=l.length then some (e,s,l,z) else none
 | _=>none
def iE (s:Sem Value):Option DV:=(cu P s).bind xP
def jN (S:av) (t:TypeId) (a:DV):Option DV :=
 match ty t,a with
 | some d,.ptr id off=>match S[id]? with
  | some (.cells l)=>nv d.k.isAgg d.size l off
  | _=>none
 | some d,.eS rows i off=>match rows[i]? with
  | some r=>nv d.k.isAgg d.size r.cells off
  | none=>none
 | some d,.fW id n off=>match BC S id n with
  | some (_,_,l,_)=>nv d.k.isAgg d.size l off
  | none=>none
 | _,_=>none
def ez (S:av) (i:Nat) (b:DB):av:=if i<S.length then S.set i b else S++[b]
def nG (S:av) (t:TypeId) (a v:DV):Option av :=
 match ty t,a with
 | some d,.ptr id off=>match S[id]? with
  | some (.cells l)=>if v.cells.length=d.size&&v.cells.all DV.one then (sR l off v.cells).map fun l'=>S.set id (.cells l') else none
  | _=>none
 | some d,.fW id n off=>match BC S id n with
  | some (e,s,l,false)=>if v.strip.cells.length=d.size&&v.strip.cells.all DV.bS then (sR l off v.strip.cells).map fun l'=>S.set id (.op e s l' false) else none
  | _=>none
 | _,_=>none
def jO (place:Nat→Option (Nat×Nat)) (cs:List DV):List (Nat×DV)→Option (List DV)
 | []=>some cs
 | (i,v)::r=>match place i with
  | none=>none
  | some (off,size)=>if v.cells.length=size then match sR cs off v.cells with
    | some iU=>jO place iU r
    | none=>none
   else none
def jq (ρ:Operand→Option DV):List (Nat×Operand)→Option (List (Nat×DV))
 | []=>some []
 | (i,x)::l=>match ρ x,jq ρ l with
  | some d,some r=>some ((i,d)::r)
  | _,_=>none
def rowOf (s:Nat) (agg:Bool) (l:List DV) (i:Nat):DV:=if agg then .agg ((l.drop (i*s)).take s) else l.getD (i*s) bz
def rowsOf (s:Nat) (agg:Bool) (l:List DV) (n:Nat):List DV:=(List.range n).map (rowOf s agg l)
def eR:Nat:=140737488355328
def iY (S:av) (aB:Nat) (t:TypeId) (a b:DV):Option (DV×av) :=
 match ty t,a,b with
 | some ⟨.slice e s kF _,_,_⟩,.sl rows tok full,.sl news _ _ =>
  if news.isEmpty then some (a,S)
  else match ty e with
  | some ⟨_,_,some _⟩=>if decide (0<s)&&decide ((rows.length+news.length)*kF≤eR)&&decide (rows.length+news.length≤140737488355328-4096)&&news.all (fun r=>decide (r.cells.length=s)) then
   let abG:Option (DV×av):=if full.full&&rows.all (fun r=>decide (r.cells.length=s)) then some (.sl (rows++news) (some aB) ⟨false,none⟩,ez S aB (.tail e s ((rows.length+news.length)*s))) else none
   match tok with
   | none=>abG
   | some t=>match S[t]? with
    | some (.tail e' s' n)=>if e'=e&&s'=s&&n=rows.length*s then some (.sl (rows++news) (some t) ⟨false,none⟩,S.set t (.tail e s ((rows.length+news.length)*s))) else none
    | _=>none
   else none
  | _=>none
 | _,_,_=>none
def mH (S:av) (aB:Nat) (t:TypeId) (a b:DV):Option (DV×av) :=
 match ty t,b with
 | some ⟨.slice e s kF agg,_,_⟩,.sl news _ _=>match ty e with
  | some ⟨_,_,some _⟩=>match a with
   | .jG id n _=>if decide (0<s)&&(agg||s==1)&&decide ((n+news.length)*kF≤eR)&&decide (n+news.length≤140737488355328-4096)&&news.all (fun r=>decide (r.cells.length=s)) then match BC S id n with
    | some (e',s',l,false)=>if e'=e&&s'=s then if news.isEmpty then some (a,S) else some (.jG id (n+news.length) agg,S.set id (.op e s (l++flat news) false)) else none
    | _=>none
    else none
   | .sl [] none f=>if news.isEmpty then some (a,S) else if f.full&&decide (0<s)&&(agg||s==1)&&decide (news.length*kF≤eR)&&decide (news.length≤140737488355328-4096)&&news.all (fun r=>decide (r.cells.length=s)) then some (.jG aB news.length agg,ez S aB (.op e s (flat news) false)) else none
   | _=>none
  | _=>none
 | _,_=>none
def kJ (S:av):DV→DV
 | .jG id n agg=>match BC S id n with
  | some (_,s,l,true)=>if decide (0<s)&&(agg||s==1) then .sl (rowsOf s agg l n) none ⟨false,some false⟩ else .jG id n agg
  | _ => .jG id n agg
 | d=>d
def sX (S:av):DV→av
 | .jG id n _=>match BC S id n with
  | some (e,s,l,false)=>S.set id (.op e s l true)
  | _=>S
 | _=>S
def gz (ρ:Operand→Option DV) (x:Option Operand) (adx dO:Nat):Option Nat :=
 match x with
 | none=>some adx
 | some x=>match intOf ρ x with
  | some i=>if 0≤i∧i.toNat≤dO then some i.toNat else none
  | none=>none
def HQ (rows:List DV) (f:SF):Option Bool:=if rows.isEmpty then f.isNil else some false
def z7 (op:BinOp) (t:TypeId):Option DV→Option DV→Option DV
 | some (.sl rows _ f),some (.sl [] _ ⟨_,some true⟩)=>match ty t,HQ rows f with
  | some ⟨.slice _ _ _ _,_,_⟩,some b=>match op with
   | .eql=>some (.val (.bool b))
   | .neq=>some (.val (.bool (!b)))
   | _=>none
  | _,_=>none
 | _,_=>none
def pL (rows:List DV) (full:SF) (l h:Nat) (m:Option Nat):Option DV :=
 if l≤h then match m with
  | none=>some (.sl ((rows.take h).drop l) none ⟨full.full&&h==rows.length,HQ rows full⟩)
  | some m=>if h≤m then some (.sl ((rows.take h).drop l) none ⟨m==h,HQ rows full⟩) else none
 else none
def u6 (g:FuncId) (args:List DV) (S:av):Option (DV×av) :=
 if (args.map DV.strip).all DV.pure then match aI g (args.map DV.strip) with
  | some v=>some (v,S)
  | none=>call g args S
 else call g args S
def RG (p:Value×Value):MapEntry:=⟨p.1,p.2,0⟩
def JG (t:TypeId) (es:List MapEntry) (k:Value) (ok:Bool):Sem Value:=do
 let .map key elem ← underlying t | stuck "Lookup: map type expected"
 Instr.checkKey es.isEmpty 10000 key k
 let (v,o) ← match ← Instr.findKey key k es with
  | some (_,v)=>pure (v,true)
  | none=>pure (← zeroValue elem,false)
 pure (if ok then .tuple #[v,.bool o] else v)
def JR (t:TypeId) (es:List MapEntry) (k:Value):Sem (Option (Nat×Value)):=do
 let .map key _ ← underlying t | stuck "MapUpdate: map type expected"
 Instr.checkKey false 10000 key k
 Instr.findKey key k es
def Ft:Value→Option DV
 | .tuple vs=>match vs.toList with
  | [v,.bool b]=>(xP v).map fun d => .gI [d,.val (.bool b)]
  | _=>none
 | v=>xP v
def NT (es:List (Value×Value)) (k v:Value):Option (Nat×Value)→Option (List (Value×Value))
 | none=>some (es++[(k,v)])
 | some (i,_)=>match es[i]? with
  | some (k',_)=>if Instr.sameBits 10000 k' k then some (es.set i (k,v)) else none
  | none=>none
def af (ρ:Operand→Option DV) (o:Oper) (S:av) (aB:Nat):Option (DV×av) :=
 match o.op with
 | .move x | .assign x=>(ρ x).map (·,S)
 | .pick c a b=>match ρ c with
  | some (.val (.bool t))=>(if t then ρ a else ρ b).map (·,S)
  | _=>none
 | .alloc e=>match ty e with
  | some ⟨_,_,some z⟩=>some (.ptr aB 0,ez S aB (.cells z))
  | _=>none
 | .box _ x=>match ρ x with
  | some d=>some (.ptr aB 0,ez S aB (.cells d.cells))
  | none=>none
 | .build t ps=>match ty t,jq ρ ps.toList with
  | some ⟨.struct fs,_,some z⟩,some l=>(jO (fun i=>(fs[i]?).map fun f=>(f.1,f.2.1)) z l).map fun cs=>(.agg cs,S)
  | some ⟨.array _ s _,_,some z⟩,some l=>(jO (fun i=>some (i*s,s)) z l).map fun cs=>(.agg cs,S)
  | _,_=>none
 | .buildSlice t n ps=>match ty t,jq ρ ps.toList with
  | some ⟨.slice e s _ agg,_,_⟩,some l=>match ty e with
   | some ⟨_,_,some z⟩=>if decide (0<s)&&decide (n*s≤16777216) then
     match jO (fun i=>some (i*s,s)) ((List.replicate n z).flatten) (l.map fun(i,v)=>(i,v.strip)) with
     | some cs=>if cs.all DV.bS&&(agg||s==1) then some (match ty.h o with
      | 1=>(.jG aB n agg,ez S aB (.op e s cs false))
      | _=>(.sl (rowsOf s agg cs n) none ⟨true,some false⟩,S)) else none
     | none=>none
    else none
   | _=>none
  | _,_=>none
 | .makeSlice t a b=>match ty t,intOf ρ a,intOf ρ b with
  | some ⟨.slice e s kF agg,_,_⟩,some n,some m=>match ty e with
   | some ⟨_,_,some z⟩=>if decide (0≤n)&&decide (m=n)&&decide (0<s)&&(agg||s==1)&&decide (n≤140737488355328-4096)&&decide (n.toNat*kF≤eR)&&(z.map DV.aQ).all DV.bS then
     some (.jG aB n.toNat agg,ez S aB (.op e s (List.replicate n.toNat (z.map DV.aQ)).flatten false)) else none
   | _=>none
  | _,_,_=>none
 | .load t a=>match ρ a with
  | some a=>(jN ty S t a).map (·,S)
  | none=>none
 | .store t a x=>match ρ a,ρ x with
  | some a,some v=>(nG ty S t a v).map (bz,·)
  | _,_=>none
 | .nilCheck x=>match ρ x with
  | some (.ptr id off)=>some (.ptr id off,S)
  | _=>none
 | .binOp op t x y _=>match valOf ρ x,valOf ρ y with
  | some a,some b=>(iE P (do eqGuard op t x y a b; binOp op t a b)).map (·,S)
  | _,_=>(z7 ty op t (ρ x) (ρ y)).map (·,S)
 | .unOp op _ x=>match valOf ρ x with
  | some a=>(iE P (Op.unary op a)).map (·,S)
  | none=>none
 | .convert s d x=>match valOf ρ x with
  | some a=>(iE P (Go.convert s d a)).map (·,S)
  | none=>none
 | .makeFunc (.func f) fs cs=>match evs ρ fs.toList,evs ρ cs.toList with
  | some a,some b=>some (.fn f a b,S)
  | _,_=>none
 | .slice t x lo hi mx=>match ty t,ρ x with
  | some ⟨.slice _ s _ _,_,_⟩,some (.sl rows _ full)=>if !rows.all (fun r=>decide (r.cells.length=s)) then none else
   match gz ρ mx rows.length rows.length with
   | some m=>match gz ρ hi rows.length m with
    | some h=>match gz ρ lo 0 h with
     | some l=>if hi.isNone&&mx.isSome then none else (pL rows full l h (mx.map fun _=>m)).map (·,S)
     | none=>none
    | none=>none
   | none=>none
  | _,_=>none
 | .fieldAddr t x f=>match ty t,ρ x with
  | some ⟨.struct fs,_,_⟩,some (.ptr id off)=>match fs[f]? with
   | some (o,s,_)=>if 0<s then some (.ptr id (off+o),S) else none
   | none=>none
  | some ⟨.struct fs,_,_⟩,some (.eS rows i off)=>match fs[f]? with
   | some (o,s,_)=>if 0<s then some (.eS rows i (off+o),S) else none
   | none=>none
  | some ⟨.struct fs,_,_⟩,some (.fW id n off)=>match fs[f]?,BC S id n with
   | some (o,s,_),some _=>if 0<s then some (.fW id n (off+o),S) else none
   | _,_=>none
  | _,_=>none
 | .field t x f=>match ty t,ρ x with
  | some ⟨.struct fs,_,_⟩,some (.agg l)=>match fs[f]? with
   | some (off,s,agg)=>(nv agg s l off).map (·,S)
   | none=>none
  | _,_=>none
 | .indexAddr t x i=>match ty t,ρ x,intOf ρ i with
  | some ⟨.slice _ s _ _,_,_⟩,some (.sl rows _ _),some n=>if 0≤n then
    match rows[n.toNat]? with
    | some r=>if r.cells.length=s then some (.eS rows n.toNat 0,S) else none
    | none=>none
   else none
  | some ⟨.array k s _,_,_⟩,some (.ptr id off),some n=>if 0≤n∧n.toNat<k then some (.ptr id (off+n.toNat*s),S) else none
  | some ⟨.array k s _,_,_⟩,some (.eS rows j off),some n=>if 0≤n∧n.toNat<k then some (.eS rows j (off+n.toNat*s),S) else none
  | some ⟨.slice _ s _ _,_,_⟩,some (.jG id m _),some n=>match BC S id m with
   | some (_,s',_,_)=>if 0≤n∧n.toNat<m∧s'=s then some (.fW id m (n.toNat*s),S) else none
   | none=>none
  | _,_,_=>none
 | .index t x i=>match ty t,ρ x,intOf ρ i with
  | some ⟨.array k s agg,_,_⟩,some (.agg l),some n=>if 0≤n∧n.toNat<k then (nv agg s l (n.toNat*s)).map (·,S) else none
  | _,_,_=>none
 | .makeMap _ none=>some (.map aB,ez S aB (.map []))
 | .lookup t m k ok=>match ρ m,valOf ρ k with
  | some (.map id),some kv=>match S[id]? with
   | some (.map es)=>((cu P (JG t (es.map RG) kv ok)).bind Ft).map (·,S)
   | _=>none
  | _,_=>none
 | .mapUpdate t m k v=>match ρ m,valOf ρ k,valOf ρ v with
  | some (.map id),some kv,some vv=>match S[id]? with
   | some (.map es)=>match cu P (JR t (es.map RG) kv) with
    | some r=>(NT es kv vv r).map fun es'=>(bz,S.set id (.map es'))
    | none=>none
   | _=>none
  | _,_,_=>none
 | .extract t i=>match ρ t with
  | some (.gI l)=>(l[i]?).map (·,S)
  | _=>none
 | .call { callee := .builtin b,args,argTypes }=>match b,args.toList,argTypes.toList with
  | .len,[x],[t]=>match ty t,ρ x with
   | some ⟨.slice _ _ _ _,_,_⟩,some (.sl rows _ _)=>some (.val (.int .i64 rows.length),S)
   | some ⟨.slice _ _ _ _,_,_⟩,some (.jG _ n _)=>some (.val (.int .i64 n),S)
   | some ⟨.array n _ _,_,_⟩,_=>some (.val (.int .i64 n),S)
   | _,some (.val v)=>(iE P (Builtin.len_ #[t] o.type #[v])).map (·,S)
   | _,_=>none
  | .append,[x,y],[t,u]=>if t=u then match ρ x,ρ y with
    | some a,some b=>match a with
     | .jG .. => mH ty S aB t a b
     | _=>match ty.h o with
      | 1=>mH ty S aB t a b
      | _=>iY ty S aB t a b
    | _,_=>none
   else none
  | .min,xs,_=>match (evs ρ xs).bind qU with
   | some vs=>(iE P (Builtin.min_ argTypes o.type vs.toArray)).map (·,S)
   | none=>none
  | .max,xs,_=>match (evs ρ xs).bind qU with
   | some vs=>(iE P (Builtin.max_ argTypes o.type vs.toArray)).map (·,S)
   | none=>none
  | _,_,_=>none
 | .call { callee := .value f,args,argTypes:=_ }=>match ρ f,evs ρ args.toList with
  | some (.fn g fs cs),some xs=>match ty.h o with
   | 1=>call g (fs++xs++cs) S
   | _=>u6 aI call g (fs++xs++cs) S
  | some (.BA id),some xs=>yf id xs S
  | _,_=>none
 | _=>none
def bY (ops:Array Oper) (env:List DV) (o:Oper):Bool :=
 match o.guard with
 | none=>true
 | some (j,want)=>match (ops[j]?).bind (·.dst) with
  | some d=>match env[d]? with
   | some (.val (.bool b))=>b==want
   | _=>false
  | none=>false
def jj (env:List DV) (dst:Option Tmp) (v:DV):List DV :=
 match dst with
 | some d=>env.set d v
 | none=>env
def oP (env:List DV) (S:av) (x:Operand):av:=match iB env x with | some d=>sX S d | none=>S
def BM (o:Oper) (env:List DV) (S:av):List DV×av :=
 match ty.h o with
 | 2 =>
  let S':=o.op.operands.toList.foldl (oP env) S
  (env.map (kJ S'),S')
 | _=>(env,S)
def Dt (ops:Array Oper):List Oper→List DV→av→Option (List DV×av)
 | [],env,S=>some (env,S)
 | o::r,env,S =>
  if bY ops env o then match BM ty o env S with
   | (env,S)=>match af P ty aI call yf (iB env) o S S.length with
    | some (v,S')=>Dt ops r (jj env o.dst v) S'
    | none=>none
  else Dt ops r (jj env o.dst bz) S
def cS (ρ:Operand→Option DV) (o:Oper) (S:av):Option DV :=
 match o.op with
 | .alloc _ | .box .. | .store .. | .makeMap .. | .mapUpdate .. | .makeSlice .. => none
 | .buildSlice .. => match ty.h o with
  | 1=>none
  | _=>(af P ty aI call yf ρ o S S.length).map (·.1)
 | .call { callee := .builtin .append,.. }=>none
 | .call { callee := .value f,args,argTypes:=_ }=>match ρ f,evs ρ args.toList with
  | some (.fn g fs cs),some xs=>if ty.h o=1 then none else if ((fs++xs++cs).map DV.strip).all DV.pure then aI g ((fs++xs++cs).map DV.strip) else none
  | _,_=>none
 | _=>(af P ty aI call yf ρ o S S.length).map (·.1)
def oy (ops:Array Oper) (S:av):List Oper→List DV→Option (List DV)
 | [],env=>some env
 | o::r,env =>
  if bY ops env o then match cS P ty aI call yf (iB env) o S with
   | some v=>oy ops S r (jj env o.dst v)
   | none=>none
  else oy ops S r (jj env o.dst bz)
def xO (call:bM) (g:FuncId) (args:List DV) (S:av):Option (Nat×DV×List DV) :=
 match args with
 | .ptr i off::rest=>match S[i]? with
  | some (.cells l) =>
   if (rest.map DV.strip).all DV.pure&&(l.map DV.aQ).all DV.bS then
    match call g (.ptr 0 off::rest.map DV.strip) [.cells (l.map DV.aQ)] with
    | some (v,.cells l'::_)=>if v.strip.pure&&(l'.map DV.aQ).all DV.bS then some (i,v.strip,l'.map DV.aQ) else none
    | _=>none
   else none
  | _=>none
 | _=>none
def JU (call:bM):bM:=fun g args S=>match xO call g args S with
 | some (i,v,l)=>some (v,S.set i (.cells l))
 | none=>call g args S
structure dh where
 ids:Option (List Nat)
 wr:Bool
def aH (ρ:Operand→Option DV) (o:Oper) (S:av) (aB:Nat):Option (DV×av×dh) :=
 match o.op with
 | .alloc _ | .box .. | .makeMap .. => match S[aB]? with
  | some .none=>(af P ty aI call yf ρ o S aB).map fun r=>(r.1,r.2,⟨some [aB],true⟩)
  | _=>none
 | .store _ a _=>match ρ a with
  | some (.ptr id _)=>(af P ty aI call yf ρ o S aB).map fun r=>(r.1,r.2,⟨some [id],true⟩)
  | some (.fW id _ _)=>(af P ty aI call yf ρ o S aB).map fun r=>(r.1,r.2,⟨some [id],true⟩)
  | _=>none
 | .fieldAddr _ a _=>match ρ a with
  | some (.fW id _ _)=>(af P ty aI call yf ρ o S aB).map fun r=>(r.1,r.2,⟨some [id],false⟩)
  | _=>(af P ty aI call yf ρ o S aB).map fun r=>(r.1,r.2,⟨some [],false⟩)
 | .indexAddr _ a _=>match ρ a with
  | some (.jG id _ _)=>(af P ty aI call yf ρ o S aB).map fun r=>(r.1,r.2,⟨some [id],false⟩)
  | _=>(af P ty aI call yf ρ o S aB).map fun r=>(r.1,r.2,⟨some [],false⟩)
 | .buildSlice .. => match ty.h o with
  | 1=>none
  | _=>(af P ty aI call yf ρ o S aB).map fun r=>(r.1,r.2,⟨some [],false⟩)
 | .makeSlice .. => none
 | .lookup _ m .. => match ρ m with
  | some (.map id)=>(af P ty aI call yf ρ o S aB).map fun r=>(r.1,r.2,⟨some [id],false⟩)
  | _=>none
 | .mapUpdate _ m .. => match ρ m with
  | some (.map id)=>(af P ty aI call yf ρ o S aB).map fun r=>(r.1,r.2,⟨some [id],true⟩)
  | _=>none
 | .load _ a=>match ρ a with
  | some (.ptr id _)=>(af P ty aI call yf ρ o S aB).map fun r=>(r.1,r.2,⟨some [id],false⟩)
  | some (.fW id _ _)=>(af P ty aI call yf ρ o S aB).map fun r=>(r.1,r.2,⟨some [id],false⟩)
  | _=>(af P ty aI call yf ρ o S aB).map fun r=>(r.1,r.2,⟨some [],false⟩)
 | .call { callee := .builtin .append,args,.. }=>if ty.h o=1 then none else if zT ((args[0]?).bind ρ) then none else match S[aB]?,(args[0]?).bind ρ with
  | some .none,some (.sl _ (some t) _)=>(af P ty aI call yf ρ o S aB).map fun r=>(r.1,r.2,⟨some [t,aB],true⟩)
  | some .none,_=>(af P ty aI call yf ρ o S aB).map fun r=>(r.1,r.2,⟨some [aB],true⟩)
  | _,_=>none
 | .call { callee := .value f,args,argTypes:=_ }=>match ρ f,evs ρ args.toList with
  | some (.fn g fs cs),some xs =>
   let as_:=fs++xs++cs
   if ty.h o=1 then none
   else if (as_.map DV.strip).all DV.pure then (aI g (as_.map DV.strip)).map fun v=>(v,S,⟨some [],false⟩)
   else match xO call g as_ S with
    | some (i,v,l)=>some (v,S.set i (.cells l),⟨some [i],true⟩)
    | none=>(call g as_ S).map fun r=>(r.1,r.2,⟨none,true⟩)
  | some (.BA id),some xs=>(yf id xs S).map fun r=>(r.1,r.2,⟨none,true⟩)
  | _,_=>none
 | _=>(af P ty aI call yf ρ o S aB).map fun r=>(r.1,r.2,⟨some [],false⟩)
def qv (ops:Array Oper) (n0:Nat):List Oper→Nat→List DV→av→Option (List DV×av×List dh)
 | [],_,env,S=>some (env,S,[])
 | o::r,i,env,S =>
  if bY ops env o then match aH P ty aI call yf (iB env) o S (n0+i) with
   | some (v,S',f)=>match qv ops n0 r (i+1) (jj env o.dst v) S' with
    | some (aC,tI,fs)=>some (aC,tI,f::fs)
    | none=>none
   | none=>none
  else match qv ops n0 r (i+1) (jj env o.dst bz) S with
   | some (aC,tI,fs)=>some (aC,tI,⟨some [],false⟩::fs)
   | none=>none
def j9 (ops:Array Oper) (o:Oper):List Tmp :=
 o.dst.toList++o.op.operands.toList.filterMap (fun | .tmp t=>some t | _=>none)++(match o.guard with | some (j,_)=>((ops[j]?).bind (·.dst)).toList | none=>[])
def j8 (ops:Array Oper) (b:Array Nat):Bool :=
 (ops.toList.zipIdx.all fun(o,i)=>o.after.all fun e => !Region.binds .any e||decide (e.on<i)) &&
 ops.toList.zipIdx.all fun(o,i)=>ops.toList.zipIdx.all fun(o',j)=>match o'.dst with
  | some d=>i==j || !(j9 ops o).contains d||(b.getD j 0).testBit i||(b.getD i 0).testBit j
  | none=>true
def dh.meets (f g:dh):Bool :=
 (f.wr||g.wr)&&match f.ids,g.ids with
 | none,none=>true
 | none,some l => !l.isEmpty
 | some l,none => !l.isEmpty
 | some l,some m=>l.any m.contains
def qL (b:Array Nat) (fs:List dh):Bool :=
 fs.zipIdx.all fun(f,i)=>fs.zipIdx.all fun(g,j)=>i==j || !f.meets g||(b.getD j 0).testBit i||(b.getD i 0).testBit j
def El (o:Oper):Bool :=
 match o.op with
 | .call { callee := .value _,args:=_,argTypes }=>match argTypes[0]? with
  | some t=>match P.underlying t with
   | some (.pointer _)=>true
   | _=>false
  | none=>false
 | _=>false
def nX (ops:Array Oper) (draw:Bool) (env:List DV) (S:av):Option (List DV×av) :=
 if draw then if !j8 ops (Region.before ops) then none else match if ops.toList.any (El P) then none else oy P ty aI call yf ops S ops.toList env with
  | some aC=>some (aC,S)
  | none=>match qv P ty aI call yf ops S.length ops.toList 0 env (S++List.replicate ops.size .none) with
   | some (aC,S',fs)=>if qL (Region.before ops) fs then some (aC,S') else none
   | none=>none
 else Dt P ty aI call yf ops ops.toList env S
inductive DX where
 | normal
 | exit (id:Nat)
 | ret
 deriving DecidableEq
def lZ (f:List DV→av→Option (DX×List DV×av)):Nat→List DV→av→Option (DX×List DV×av)
 | 0,_,_=>none
 | n+1,env,S=>match f env S with
  | some (.normal,aC,S')=>lZ f n aC S'
  | r=>r
def cG (L:Nat) (fn:FuncId) (iA:Bool):Code→List DV→av→Option (DX×List DV×av)
 | .skip,env,S | .label _,env,S=>some (.normal,env,S)
 | .region _ ops draw,env,S=>(nX P ty aI call yf ops draw env S).map (.normal,·)
 | .seq a b,env,S=>match cG L fn iA a env S with
  | some (.normal,aC,S')=>cG L fn iA b aC S'
  | r=>r
 | .cond c a b,env,S=>match iB env c with
  | some (.val (.bool true))=>cG L fn iA a env S
  | some (.val (.bool false))=>cG L fn iA b env S
  | _=>none
 | .block id c,env,S=>match cG L fn iA c env S with
  | some (.exit iT,aC,S')=>some (if iT=id then .normal else .exit iT,aC,S')
  | r=>r
 | .loop c,env,S=>lZ (cG L fn iA c) L env S
 | .scope c,env,S=>cG L fn iA c env S
 | .exit id,env,S=>some (.exit id,env,S)
 | .ret,env,S=>some (.ret,env,S)
 | .rangeFunc f ps Ll body,env,S=>if iA then none else match iB env f with
  | some (.fn g fs cs)=>match call g (fs++[.BA (S.length+1)]++cs) (S++[.defer,.loop ⟨.ready,none,fn,env,ps.toList,Ll,body,S.length⟩]) with
   | some (_,S')=>match S'[S.length+1]? with
    | some (.loop r)=>if r.st == .busy then none else match r.jI with
     | none=>some (.normal,env,S'.set (S.length+1) (.loop { r with st := .exhausted }))
     | some .ret=>some (.ret,env,S'.set (S.length+1) (.loop { r with st := .exhausted }))
     | some (.exit e)=>some (.exit e,env,S'.set (S.length+1) (.loop { r with st := .exhausted }))
     | _=>none
    | _=>none
   | none=>none
  | _=>none
 | _,_,_=>none
def zQ:List DV→List (Tmp×DV)→List DV
 | env,[]=>env
 | env,(t,d)::l=>zQ (env.set t d) l
def Ie (L:Nat):eW:=fun id args S=>match S[id]? with
 | some (.loop r)=>if args.length=r.params.length then
   match cG P ty aI call yf L r.fn true r.assign (zQ r.env (r.params.zip args)) S with
   | some (.normal,aaL,S1)=>match S1[id]? with
    | some (.loop r1)=>if r1.st = .ready then
      match cG P ty aI call yf L r.fn true r.body aaL (S1.set id (.loop { r1 with st := .busy })) with
      | some (e,_,S2)=>match S2[id]? with
       | some (.loop r2)=>match e with
        | .normal=>some (.val (.bool true),S2.set id (.loop { r2 with st := .ready,jI:=none }))
        | .ret=>some (.val (.bool false),S2.set id (.loop { r2 with st := .done,jI:=some .ret }))
        | .exit i=>some (.val (.bool false),S2.set id (.loop { r2 with st := .done,jI:=some (.exit i) }))
       | _=>none
      | none=>none
     else none
    | _=>none
   | _=>none
  else none
 | _=>none
def qJ (env:List DV) (S:av):List ResultVar→Option (List DV)
 | []=>some []
 | .tmp t::r=>(qJ env S r).map (env.getD t bz::·)
 | .cell a t::r=>match jN ty S t (env.getD a bz),qJ env S r with
  | some v,some l=>some (v::l)
  | _,_=>none
def oneOf:List DV→DV
 | [d]=>d
 | l => .gI l
def tq (L:Nat) (f:FuncId) (fn:Func) (args:List DV) (S:av):Option (DV×av) :=
 match fn.body with
 | some c=>match cG P ty aI call yf L f false c (args++List.replicate (fn.ntmps-args.length) bz) S with
  | some (.normal,env,S') | some (.ret,env,S')=>(qJ ty env S' fn.results.toList).map fun l=>(oneOf l,S')
  | _=>none
 | none=>none
end
def j6 (bF:bP) (call:bM):bP:=fun f args=>match bF f args with
 | some v=>if v.pure then some v else none
 | none=>match call f args [] with
  | some (v,S)=>if (kJ (sX S v) v).strip.pure then some (kJ (sX S v) v).strip else none
  | none=>none
def dG (P:Program) (ty:gF) (bF:bP) (L:Nat):Nat→bM×eW
 | 0=>(fun _ _ _=>none,fun _ _ _=>none)
 | n+1=>(fun f args S=>match P.funcs[f]? with
   | some fn=>tq P ty (j6 bF (dG P ty bF L n).1) (dG P ty bF L n).1 (dG P ty bF L n).2 L f fn args S
   | none=>none,
  Ie P ty (j6 bF (dG P ty bF L n).1) (dG P ty bF L n).1 (dG P ty bF L n).2 L)
def adM (P:Program) (ty:gF) (bF:bP) (L n:Nat):bM:=(dG P ty bF L n).1
end Go.Di
end
section
namespace Go.Tv
open Go Go.Di
inductive TT where
 | int (k:IntKind)
 | bool
 | str
 | unit
 | pair (a b:TT)
 | sl (t:TT)
 deriving DecidableEq
abbrev TT.den:TT→Type
 | .int _=>Int
 | .bool=>Bool
 | .str=>ByteArray
 | .unit=>Unit
 | .pair a b=>a.den×b.den
 | .sl t=>List t.den
def TT.WX:(t:TT)→t.den
 | .int _=>(0:Int)
 | .bool=>false
 | .str=>ByteArray.empty
 | .unit=>()
 | .pair a b=>(a.WX,b.WX)
 | .sl _=>[]
def TT.size:TT→Nat
 | .unit=>0
 | .pair a b=>a.size+b.size
 | _=>1
def TT.agg:TT→Bool
 | .unit | .pair _ _=>true
 | _=>false
inductive Ap where
 | no
 | full
 | nQ (g:Nat)
inductive TV where
 | unk
 | val (v:Value)
 | gZ
 | agg (l:List TV)
 | gI (l:List TV)
 | sl (t:TT) (l:List t.den) (ap:Ap)
 | ptr (id off:Nat)
 | eS (t:TT) (l:List t.den) (i off:Nat)
 | fn (f:FuncId) (first captured:List TV)
 | mp (id:Nat)
 | so (g:Nat) (t:TT)
 | sp (g:Nat) (t:TT) (i off:Nat)
instance:Inhabited TV:=⟨.unk⟩
def TT.cells:(t:TT)→t.den→List TV
 | .int k,n=>[.val (.int k n)]
 | .bool,b=>[.val (.bool b)]
 | .str,s=>[.val (.string s)]
 | .unit,_=>[]
 | .pair a b,x=>a.cells x.1++b.cells x.2
 | .sl t,l=>[.sl t l .no]
def ofInt (k:IntKind):List TV→Option (Int×List TV)
 | .val (.int k' n)::r=>if k'=k then some (n,r) else none
 | _=>none
def ofBool:List TV→Option (Bool×List TV)
 | .val (.bool b)::r=>some (b,r)
 | _=>none
def ofStr:List TV→Option (ByteArray×List TV)
 | .val (.string b)::r=>some (b,r)
 | _=>none
def SI (t:TT):List TV→Option (List t.den×List TV)
 | .sl t' l _::r=>if h:t'=t then some (h▸l,r) else none
 | .gZ::r=>some ([],r)
 | _=>none
def TT.of:(t:TT)→List TV→Option (t.den×List TV)
 | .int k,l=>ofInt k l
 | .bool,l=>ofBool l
 | .str,l=>ofStr l
 | .unit,l=>some ((),l)
 | .pair a b,l=>match a.of l with
  | some (x,r1)=>match b.of r1 with
   | some (y,r2)=>some ((x,y),r2)
   | none=>none
  | none=>none
 | .sl t,l=>SI t l
def u9 (agg:Bool) (r:DV):Prop:=if agg then ∃ l,r = .agg l else ∀ l,r ≠ .agg l
def ek {α:Type} (R:α→List DV→Prop) (agg:Bool):List α→List DV→Prop
 | [],[]=>True
 | x::l,r::rows=>(R x r.cells∧u9 agg r)∧ek R agg l rows
 | _,_=>False
def CR:(t:TT)→t.den→List DV→Prop
 | .int k,n,cs=>cs=[.val (.int k n)]
 | .bool,b,cs=>cs=[.val (.bool b)]
 | .str,s,cs=>cs=[.val (.string s)]
 | .unit,_,cs=>cs=[]
 | .pair a b,x,cs=>∃ c1 c2,cs=c1++c2∧CR a x.1 c1∧CR b x.2 c2
 | .sl t,l,cs=>∃ rows f,cs=[.sl rows none f]∧ek (CR t) t.agg l rows
abbrev lW:=Nat→Option Nat
def s4 (ι:lW) (S:av) (n:Nat) (tok:Option Nat) (f:SF):Ap→Prop
 | .no=>True
 | .full=>tok=none∧f.full=true
 | .nQ g=>(tok=none∧f.full=true∧n=0)∨∃ t e s,ι g=some t∧tok=some t∧S[t]? = some (.tail e s (n*s))
mutual
def RT (ι:lW) (S:av):TV→DV→Prop
 | .unk,_=>True
 | .val v,.val u=>u=v
 | .gZ,.sl rows tok f=>rows=[]∧tok=none∧f=⟨true,some true⟩
 | .agg l,.agg m=>dg ι S l m
 | .gI l,.gI m=>dg ι S l m
 | .sl t l ap,.sl rows tok f=>ek (CR t) t.agg l rows∧s4 ι S rows.length tok f ap
 | .ptr id off,.ptr iT sS=>ι id=some iT∧sS=off
 | .eS t l i off,.eS rows i' sS=>ek (CR t) t.agg l rows∧i'=i∧sS=off∧i<l.length
 | .fn f a b,.fn f' a' b'=>f'=f∧dg ι S a a'∧dg ι S b b'
 | .mp id,.map iT=>ι id=some iT
 | .so g t,.jG id n agg=>ι g=some id∧agg=t.agg∧∃ e s l z,S[id]? = some (.op e s l z)∧n*s=l.length
 | .sp g t i off,.fW id n sS=>ι g=some id∧sS=i*t.size+off∧∃ e s l z,S[id]? = some (.op e s l z)∧n*s=l.length∧i*t.size+t.size≤l.length
 | _,_=>False
def dg (ι:lW) (S:av):List TV→List DV→Prop
 | [],[]=>True
 | a::l,b::m=>RT ι S a b∧dg ι S l m
 | _,_=>False
end
section
variable {ι:lW} {S:av}
theorem kz {α:Type} {R:α→List DV→Prop} {agg:Bool}:∀ {l:List α} {rows:List DV},ek R agg l rows→rows.length=l.length
 | [],[],_=>rfl
 | _::l,_::rows,h=>by simp[kz h.2]
theorem Au {α:Type} {R:α→List DV→Prop} {agg:Bool}:∀ {l:List α} {rows:List DV} {i:Nat} {x:α},ek R agg l rows→l[i]? = some x→∃ r,rows[i]? = some r∧R x r.cells∧u9 agg r
 | [],_,_,_,_,h=>by simp at h
 | _::_,[],_,_,h,_=>h.elim
 | y::l,r::rows,0,x,h,hx=>by
  simp only[List.getElem?_cons_zero,az] at hx
  subst hx
  exact⟨r,rfl,h.1⟩
 | y::l,r::rows,i+1,x,h,hx=>by
  obtain⟨r',h1,h2⟩:=Au (i:=i) h.2 (by simpa using hx)
  exact⟨r',by simpa using h1,h2⟩
theorem yb {α:Type} {R:α→List DV→Prop} {agg:Bool}:∀ {l m:List α} {rows VB:List DV},ek R agg l rows→ek R agg m VB→ek R agg (l++m) (rows++VB)
 | [],_,[],_,_,h=>h
 | _::_,_,_::_,_,h,k=>⟨h.1,yb h.2 k⟩
theorem o8 {α:Type} {R:α→List DV→Prop} {agg:Bool}:∀ {l:List α} {rows:List DV} (n:Nat),ek R agg l rows→ek R agg (l.take n) (rows.take n)
 | _,_,0,_=>by simp[ek]
 | [],[],n+1,_=>by simp[ek]
 | _::_,_::_,n+1,h=>⟨h.1,o8 n h.2⟩
theorem sC {α:Type} {R:α→List DV→Prop} {agg:Bool}:∀ {l:List α} {rows:List DV} (n:Nat),ek R agg l rows→ek R agg (l.drop n) (rows.drop n)
 | _,_,0,h=>h
 | [],[],n+1,_=>by simp[ek]
 | _::_,_::_,n+1,h=>sC n h.2
theorem lT:∀ {t:TT} {x:t.den} {cs:List DV},CR t x cs→cs.length=t.size
 | .int _,_,_,h=>by simp only[CR] at h; subst h; rfl
 | .bool,_,_,h=>by simp only[CR] at h; subst h; rfl
 | .str,_,_,h=>by simp only[CR] at h; subst h; rfl
 | .unit,_,_,h=>by simp only[CR] at h; subst h; rfl
 | .pair a b,x,_,h=>by
  simp only[CR] at h
  obtain⟨c1,c2,rfl,h1,h2⟩:=h
  simp only[bU,lT h1,lT h2,TT.size]
 | .sl t,_,_,h=>by
  simp only[CR] at h
  obtain⟨rows,f,rfl,-⟩:=h
  rfl
theorem iQ {t:TT}:∀ {l:List t.den} {rows:List DV},ek (CR t) t.agg l rows→∀ r∈rows,r.cells.length=t.size
 | [],[],_,r,hr=>by simp at hr
 | _::l,r'::rows,h,r,hr=>by
  rcases bH.1 hr with rfl | hr
  ·exact lT h.1.1
  ·exact iQ h.2 r hr
theorem ig:∀ {l:List TV} {m:List DV},dg ι S l m→m.length=l.length
 | [],[],_=>rfl
 | _::l,_::m,h=>by simp only[dg] at h; simp[ig h.2]
theorem cz:dg ι S [] []:=by simp only[dg]
theorem aY {a:TV} {d:DV} {l:List TV} {m:List DV} (h:RT ι S a d) (k:dg ι S l m):dg ι S (a::l) (d::m):=by simp only[dg]; exact⟨h,k⟩
theorem iW {a:TV} {d:DV} (h:RT ι S a d):dg ι S [a] [d]:=aY h cz
theorem ak {a:TV} {l:List TV} {m:List DV} (h:dg ι S (a::l) m):∃ d m',m=d::m'∧RT ι S a d∧dg ι S l m':=by
 cases m with
 | nil=>simp only[dg] at h
 | cons d m'=>simp only[dg] at h; exact⟨d,m',rfl,h⟩
theorem aW {m:List DV} (h:dg ι S [] m):m=[]:=by
 cases m with
 | nil=>rfl
 | cons d m'=>simp only[dg] at h
theorem rW:∀ {l:List TV} {m:List DV} {i:Nat} {a:TV},dg ι S l m→l[i]? = some a→∃ d,m[i]? = some d∧RT ι S a d
 | [],_,_,_,_,h=>by simp at h
 | b::l,m,0,a,h,hx=>by
  obtain⟨d,m',rfl,h1,-⟩:=ak h
  simp only[List.getElem?_cons_zero,az] at hx
  subst hx
  exact⟨d,rfl,h1⟩
 | b::l,m,i+1,a,h,hx=>by
  obtain⟨d,m',rfl,-,h1⟩:=ak h
  obtain⟨d',h2,h3⟩:=rW (i:=i) h1 (by simpa using hx)
  exact⟨d',by simpa using h2,h3⟩
theorem fu:∀ {l l':List TV} {m m':List DV},dg ι S l m→dg ι S l' m'→dg ι S (l++l') (m++m')
 | [],l',m,m',h,k=>by rw[aW h]; exact k
 | a::l,l',m,m',h,k=>by
  obtain⟨d,m1,rfl,h1,h2⟩:=ak h
  exact aY h1 (fu h2 k)
theorem Aq:∀ {l:List TV} {m:List DV} (n:Nat),dg ι S l m→dg ι S (l.take n) (m.take n)
 | _,_,0,_=>by simp only[List.take_zero]; exact cz
 | [],m,n+1,h=>by rw[aW h]; simp only[List.take_nil]; exact cz
 | a::l,m,n+1,h=>by
  obtain⟨d,m1,rfl,h1,h2⟩:=ak h
  exact aY h1 (Aq n h2)
theorem As:∀ {l:List TV} {m:List DV} (n:Nat),dg ι S l m→dg ι S (l.drop n) (m.drop n)
 | _,_,0,h=>h
 | [],m,n+1,h=>by rw[aW h]; simp only[List.drop_nil]; exact cz
 | a::l,m,n+1,h=>by
  obtain⟨d,m1,rfl,-,h2⟩:=ak h
  exact As n h2
theorem Kh:∀ {l:List TV} {m:List DV} (i:Nat) {a:TV} {d:DV},dg ι S l m→RT ι S a d→dg ι S (l.set i a) (m.set i d)
 | [],m,i,a,d,h,_=>by rw[aW h]; simp only[List.set_nil]; exact cz
 | b::l,m,0,a,d,h,k=>by
  obtain⟨d',m1,rfl,-,h2⟩:=ak h
  exact aY k h2
 | b::l,m,i+1,a,d,h,k=>by
  obtain⟨d',m1,rfl,h1,h2⟩:=ak h
  exact aY h1 (Kh i h2 k)
theorem vn (d:DV):∀ n,dg ι S (List.replicate n .unk) (List.replicate n d)
 | 0=>cz
 | n+1=>by
  rw[List.replicate_succ,List.replicate_succ]
  exact aY (by simp only[RT]) (vn d n)
theorem Ar {l:List TV} {m:List DV} (h:dg ι S l m) (i:Nat):RT ι S (l.getD i .unk) (m.getD i bz):=by
 rw[aL,aL]
 cases hi:l[i]? with
 | none=>simp only[Option.getD_none,RT]
 | some a =>
  obtain⟨d,h1,h2⟩:=rW h hi
  rw[h1]
  exact h2
theorem nM:∀ {t:TT} {x:t.den} {cs:List DV},CR t x cs→dg ι S (t.cells x) cs
 | .int _,_,_,h=>by simp only[CR] at h; subst h; exact iW (by simp only[RT])
 | .bool,_,_,h=>by simp only[CR] at h; subst h; exact iW (by simp only[RT])
 | .str,_,_,h=>by simp only[CR] at h; subst h; exact iW (by simp only[RT])
 | .unit,_,_,h=>by simp only[CR] at h; subst h; exact cz
 | .pair a b,x,_,h=>by
  simp only[CR] at h
  obtain⟨c1,c2,rfl,h1,h2⟩:=h
  exact fu (nM h1) (nM h2)
 | .sl t,_,_,h=>by
  simp only[CR] at h
  obtain⟨rows,f,rfl,h⟩:=h
  refine iW ?_
  simp only[RT,s4,and_true]
  exact h
theorem Ci:∀ {t:TT} {l:List TV} {x:t.den} {r:List TV} {m:List DV},t.of l=some (x,r)→dg ι S l m→∃ c m',m=c++m'∧CR t x (c.map DV.aQ)∧dg ι S r m'
 | .int k,l,x,r,m,h,hm=>by
  simp only[TT.of] at h
  unfold ofInt at h
  split at h
  ·split at h
   ·rename_i hk
    cases h
    obtain⟨d,m',rfl,h1,h2⟩:=ak hm
    cases d<;>simp only[RT] at h1
    subst h1
    subst hk
    exact⟨[_],m',rfl,by simp only[CR,bT,fB,DV.aQ],h2⟩
   ·cases h
  ·cases h
 | .bool,l,x,r,m,h,hm=>by
  simp only[TT.of] at h
  unfold ofBool at h
  split at h
  ·cases h
   obtain⟨d,m',rfl,h1,h2⟩:=ak hm
   cases d<;>simp only[RT] at h1
   subst h1
   exact⟨[_],m',rfl,by simp only[CR,bT,fB,DV.aQ],h2⟩
  ·cases h
 | .str,l,x,r,m,h,hm=>by
  simp only[TT.of] at h
  unfold ofStr at h
  split at h
  ·cases h
   obtain⟨d,m',rfl,h1,h2⟩:=ak hm
   cases d<;>simp only[RT] at h1
   subst h1
   exact⟨[_],m',rfl,by simp only[CR,bT,fB,DV.aQ],h2⟩
  ·cases h
 | .unit,l,x,r,m,h,hm=>by
  simp only[TT.of] at h
  cases h
  exact⟨[],m,rfl,by simp only[CR,fB],hm⟩
 | .pair a b,l,x,r,m,h,hm=>by
  simp only[TT.of] at h
  split at h
  ·rename_i x1 r1 h1
   split at h
   ·rename_i y r2 h2
    cases h
    obtain⟨c,m1,rfl,k1,k2⟩:=Ci h1 hm
    obtain⟨c',m2,rfl,k3,k4⟩:=Ci h2 k2
    exact⟨c++c',m2,by simp,by simp only[CR,gM]; exact⟨_,_,rfl,k1,k3⟩,k4⟩
   ·cases h
  ·cases h
 | .sl t,l,x,r,m,h,hm=>by
  simp only[TT.of] at h
  unfold SI at h
  split at h
  ·split at h
   ·rename_i ht
    subst ht
    cases h
    obtain⟨d,m',rfl,h1,h2⟩:=ak hm
    cases d<;>simp only[RT] at h1
    rename_i rows tok f
    exact⟨[_],m',rfl,by simp only[CR,bT,fB,DV.aQ]; exact⟨rows,⟨false,f.isNil⟩,rfl,h1.1⟩,h2⟩
   ·cases h
  ·cases h
   obtain⟨d,m',rfl,h1,h2⟩:=ak hm
   cases d<;>simp only[RT] at h1
   obtain⟨rfl,rfl,rfl⟩:=h1
   exact⟨[_],m',rfl,by simp only[CR,bT,fB,DV.aQ]; exact⟨[],⟨false,some true⟩,rfl,by simp only[ek]⟩,h2⟩
  ·cases h
theorem pU:∀ {t:TT} {x:t.den} {cs:List DV},CR t x cs→cs.all DV.bS=true
 | .int _,_,_,h=>by simp only[CR] at h; subst h; rfl
 | .bool,_,_,h=>by simp only[CR] at h; subst h; rfl
 | .str,_,_,h=>by simp only[CR] at h; subst h; rfl
 | .unit,_,_,h=>by simp only[CR] at h; subst h; rfl
 | .pair a b,x,_,h=>by
  simp only[CR] at h
  obtain⟨c1,c2,rfl,h1,h2⟩:=h
  rw[lu,pU h1,pU h2]; rfl
 | .sl t,_,_,h=>by
  simp only[CR] at h
  obtain⟨rows,f,rfl,-⟩:=h
  rfl
end
end Go.Tv
end
