import GoSem.Step
section
namespace Go.Di
open Go
structure SF where
 full:Bool
 isNil:Option Bool
inductive DV where
 | val (v:Value)
 | agg (l:List DV)
 | ee (l:List DV)
 | sl (rows:List DV) (tok:Option Nat) (full:SF)
 | ptr (id off:Nat)
 | cU (rows:List DV) (i off:Nat)
 | fn (f:FuncId) (first captured:List DV)
 | map (id:Nat)
 | uC (id:Nat)
 | gD (id n:Nat) (agg:Bool)
 | dB (id n off:Nat)
instance:Inhabited DV:=⟨.val (.tuple #[])⟩
structure Ik where
 st:LoopState
 iu:Option Code
 fn:FuncId
 env:List DV
 params:List Tmp
 assign:Code
 body:Code
 dfr:Nat
inductive DB where
 | none
 | cells (l:List DV)
 | tail (e:TypeId) (s n:Nat)
 | map (es:List (Value×Value))
 | defer
 | loop (r:Ik)
 | op (e:TypeId) (s:Nat) (l:List DV) (z:Bool)
instance:Inhabited DB:=⟨.none⟩
abbrev ak:=List DB
def aP:DV := .val (.tuple #[])
def DV.cells:DV→List DV
 | .agg l=>l
 | d=>[d]
def flat (rows:List DV):List DV:=rows.flatMap DV.cells
def uQ:Value→Bool
 | .agg _=>false
 | .tuple vs=>vs.size==0
 | _=>true
def Cc:Value→Option DV
 | .slice none 0 0=>some (.sl [] none ⟨true,some true⟩)
 | v=>if uQ v then some (.val v) else none
def nH:List Value→Option (List DV)
 | []=>some []
 | v::l=>match Cc v,nH l with
  | some d,some r=>some (d::r)
  | _,_=>none
def vQ:Value→Option DV
 | .agg cs=>(nH cs.toList).map .agg
 | .func (.func f) fs cs=>if fs.size=0&&cs.size=0 then some (.fn f [] []) else none
 | v=>Cc v
def nF:List DV→Option (List Value)
 | []=>some []
 | .val v::l=>(nF l).map (v::·)
 | _=>none
def vK:DV→Option Value
 | .val v=>some v
 | .agg l=>(nF l).map fun r => .agg r.toArray
 | _=>none
def oO:List DV→Option (List Value)
 | []=>some []
 | d::l=>match vK d,oO l with
  | some v,some r=>some (v::r)
  | _,_=>none
def DV.bt:DV→Bool
 | .val v => !(v matches .tuple _)
 | .sl _ none _=>true
 | _=>false
def DV.gP:DV→Bool
 | .agg l=>l.all DV.bt
 | .val _=>true
 | .sl _ none _=>true
 | _=>false
def DV.pure:DV→Bool
 | .ee l=>l.all DV.gP
 | d=>d.gP
def DV.aI:DV→DV
 | .sl r _ f => .sl r none ⟨false,f.isNil⟩
 | d=>d
def DV.cv:DV→DV
 | .agg l => .agg (l.map DV.aI)
 | .sl r _ f => .sl r none ⟨false,f.isNil⟩
 | d=>d
def DV.strip:DV→DV
 | .ee l => .ee (l.map DV.cv)
 | d=>d.cv
def DV.one:DV→Bool
 | .val v => !(v matches .tuple _)
 | .agg _ | .ee _=>false
 | _=>true
inductive TK where
 | one
 | struct (fs:List (Nat×Nat×Bool))
 | array (n s:Nat) (agg:Bool)
 | slice (e s b:Nat) (agg:Bool)
 deriving DecidableEq
structure TyD where
 k:TK
 size:Nat
 zero:Option (List DV)
def TK.isAgg:TK→Bool
 | .struct _ | .array _ _ _=>true
 | _=>false
section
variable (P:Program)
def kU (t:TypeId):Bool :=
 match P.underlying t with
 | some (.struct _) | some (.array _ _)=>true
 | _=>false
def bI {α:Type}:Sem α→Option α
 | .pure a=>some a
 | .program k=>bI (k P)
 | _=>none
def AV (t:TypeId):Option TypeInfo :=
 match P.info? t,P.underlying t with
 | some i,some _=>some i
 | _,_=>none
def Aj (t:TypeId):Option TK :=
 match P.underlying t with
 | some (.struct fs)=>(fs.toList.mapM fun f=>(AV P f.type).map fun i=>(f.offset,i.size,kU P f.type)).map .struct
 | some (.array n e)=>(AV P e).map fun i => .array n i.size (kU P e)
 | some (.slice e)=>(AV P e).map fun i => .slice e i.size i.bytes (kU P e)
 | some _=>some .one
 | none=>none
def zeroOf (i:TypeInfo):Option (List DV) :=
 match i.zero with
 | some z=>match nH z.cells.toList with
  | some cs=>if cs.length=i.size then some cs else none
  | none=>none
 | none=>none
def xK (t:TypeId):Option TyD :=
 match Aj P t,P.info? t with
 | some k,some i=>some ⟨k,i.size,zeroOf i⟩
 | _,_=>none
end
def L9 (l:List DV) (off n:Nat):Option (List DV):=if off+n≤l.length then some ((l.drop off).take n) else none
def qC (l:List DV) (off:Nat) (cs:List DV):Option (List DV):=if off+cs.length≤l.length then some (l.take off++cs++l.drop (off+cs.length)) else none
def j4 (agg:Bool) (size:Nat) (l:List DV) (off:Nat):Option DV :=
 if agg then (L9 l off size).map .agg else l[off]?
structure eV where
 f:TypeId→Option TyD
 hint:Tmp→TypeId→Nat
instance:CoeFun eV fun _=>TypeId→Option TyD:=⟨eV.f⟩
def eV.h (ty:eV) (o:Oper):Nat :=
 match o.dst with
 | some d=>ty.hint d o.type
 | none=>0
abbrev aW:=FuncId→List DV→ak→Option (DV×ak)
abbrev bn:=FuncId→List DV→Option DV
abbrev dH:=Nat→List DV→ak→Option (DV×ak)
section
variable (P:Program) (ty:eV) (aD:bn) (call:aW) (yf:dH)
def ga (env:List DV):Operand→Option DV
 | .tmp t=>some (env.getD t aP)
 | .const v=>vQ v
 | .func f=>some (.fn f [] [])
 | .global _=>none
def evs (ρ:Operand→Option DV):List Operand→Option (List DV)
 | []=>some []
 | x::l=>match ρ x,evs ρ l with
  | some d,some r=>some (d::r)
  | _,_=>none
def valOf (ρ:Operand→Option DV) (x:Operand):Option Value:=(ρ x).bind vK
def intOf (ρ:Operand→Option DV) (x:Operand):Option Int :=
 match ρ x with
 | some (.val (.int _ n))=>some n
 | _=>none
def xZ:Option DV→Bool
 | some (.gD ..)=>true
 | _=>false
def Ac (S:ak) (id n:Nat):Option (TypeId×Nat×List DV×Bool) :=
 match S[id]? with
 | some (.op e s l z)=>if n*s=l.length then some (e,s,l,z) else none
 | _=>none
def gO (s:Sem Value):Option DV:=(bI P s).bind vQ
def ic (S:ak) (t:TypeId) (a:DV):Option DV :=
 match ty t,a with
 | some d,.ptr id off=>match S[id]? with
  | some (.cells l)=>j4 d.k.isAgg d.size l off
  | _=>none
 | some d,.cU rows i off=>match rows[i]? with
  | some r=>j4 d.k.isAgg d.size r.cells off
  | none=>none
 | some d,.dB id n off=>match Ac S id n with
  | some (_,_,l,_)=>j4 d.k.isAgg d.size l off
  | none=>none
 | _,_=>none
def de (S:ak) (i:Nat) (b:DB):ak:=if i<S.length then S.set i b else S++[b]
def kY (S:ak) (t:TypeId) (a v:DV):Option ak :=
 match ty t,a with
 | some d,.ptr id off=>match S[id]? with
  | some (.cells l)=>if v.cells.length=d.size&&v.cells.all DV.one then (qC l off v.cells).map fun l'=>S.set id (.cells l') else none
  | _=>none
 | some d,.dB id n off=>match Ac S id n with
  | some (e,s,l,false)=>if v.strip.cells.length=d.size&&v.strip.cells.all DV.bt then (qC l off v.strip.cells).map fun l'=>S.set id (.op e s l' false) else none
  | _=>none
 | _,_=>none
def iB (place:Nat→Option (Nat×Nat)) (cs:List DV):List (Nat×DV)→Option (List DV)
 | []=>some cs
 | (i,v)::r=>match place i with
  | none=>none
  | some (off,size)=>if v.cells.length=size then match qC cs off v.cells with
    | some jw=>iB place jw r
    | none=>none
   else none
def gX (ρ:Operand→Option DV):List (Nat×Operand)→Option (List (Nat×DV))
 | []=>some []
 | (i,x)::l=>match ρ x,gX ρ l with
  | some d,some r=>some ((i,d)::r)
  | _,_=>none
def rowOf (s:Nat) (agg:Bool) (l:List DV) (i:Nat):DV:=if agg then .agg ((l.drop (i*s)).take s) else l.getD (i*s) aP
def rowsOf (s:Nat) (agg:Bool) (l:List DV) (n:Nat):List DV:=(List.range n).map (rowOf s agg l)
def dG:Nat:=140737488355328
def gI (S:ak) (aA:Nat) (t:TypeId) (a b:DV):Option (DV×ak) :=
 match ty t,a,b with
 | some ⟨.slice e s iZ _,_,_⟩,.sl rows tok full,.sl news _ _ =>
  if news.isEmpty then some (a,S)
  else match ty e with
  | some ⟨_,_,some _⟩=>if decide (0<s)&&decide ((rows.length+news.length)*iZ≤dG)&&decide (rows.length+news.length≤140737488355328-4096)&&news.all (fun r=>decide (r.cells.length=s)) then
   let aaG:Option (DV×ak):=if full.full&&rows.all (fun r=>decide (r.cells.length=s)) then some (.sl (rows++news) (some aA) ⟨false,none⟩,de S aA (.tail e s ((rows.length+news.length)*s))) else none
   match tok with
   | none=>aaG
   | some t=>match S[t]? with
    | some (.tail e' s' n)=>if e'=e&&s'=s&&n=rows.length*s then some (.sl (rows++news) (some t) ⟨false,none⟩,S.set t (.tail e s ((rows.length+news.length)*s))) else none
    | _=>none
   else none
  | _=>none
 | _,_,_=>none
def kE (S:ak) (aA:Nat) (t:TypeId) (a b:DV):Option (DV×ak) :=
 match ty t,b with
 | some ⟨.slice e s iZ agg,_,_⟩,.sl news _ _=>match ty e with
  | some ⟨_,_,some _⟩=>match a with
   | .gD id n _=>if decide (0<s)&&(agg||s==1)&&decide ((n+news.length)*iZ≤dG)&&decide (n+news.length≤140737488355328-4096)&&news.all (fun r=>decide (r.cells.length=s)) then match Ac S id n with
    | some (e',s',l,false)=>if e'=e&&s'=s then if news.isEmpty then some (a,S) else some (.gD id (n+news.length) agg,S.set id (.op e s (l++flat news) false)) else none
    | _=>none
    else none
   | .sl [] none f=>if news.isEmpty then some (a,S) else if f.full&&decide (0<s)&&(agg||s==1)&&decide (news.length*iZ≤dG)&&decide (news.length≤140737488355328-4096)&&news.all (fun r=>decide (r.cells.length=s)) then some (.gD aA news.length agg,de S aA (.op e s (flat news) false)) else none
   | _=>none
  | _=>none
 | _,_=>none
def jd (S:ak):DV→DV
 | .gD id n agg=>match Ac S id n with
  | some (_,s,l,true)=>if decide (0<s)&&(agg||s==1) then .sl (rowsOf s agg l n) none ⟨false,some false⟩ else .gD id n agg
  | _ => .gD id n agg
 | d=>d
def qJ (S:ak):DV→ak
 | .gD id n _=>match Ac S id n with
  | some (e,s,l,false)=>S.set id (.op e s l true)
  | _=>S
 | _=>S
def eO (ρ:Operand→Option DV) (x:Option Operand) (ab9 cM:Nat):Option Nat :=
 match x with
 | none=>some ab9
 | some x=>match intOf ρ x with
  | some i=>if 0≤i∧i.toNat≤cM then some i.toNat else none
  | none=>none
def F0 (rows:List DV) (f:SF):Option Bool:=if rows.isEmpty then f.isNil else some false
def yg (op:BinOp) (t:TypeId):Option DV→Option DV→Option DV
 | some (.sl rows _ f),some (.sl [] _ ⟨_,some true⟩)=>match ty t,F0 rows f with
  | some ⟨.slice _ _ _ _,_,_⟩,some b=>match op with
   | .eql=>some (.val (.bool b))
   | .neq=>some (.val (.bool (!b)))
   | _=>none
  | _,_=>none
 | _,_=>none
def nw (rows:List DV) (full:SF) (l h:Nat) (m:Option Nat):Option DV :=
 if l≤h then match m with
  | none=>some (.sl ((rows.take h).drop l) none ⟨full.full&&h==rows.length,F0 rows full⟩)
  | some m=>if h≤m then some (.sl ((rows.take h).drop l) none ⟨m==h,F0 rows full⟩) else none
 else none
def tw (g:FuncId) (args:List DV) (S:ak):Option (DV×ak) :=
 if (args.map DV.strip).all DV.pure then match aD g (args.map DV.strip) with
  | some v=>some (v,S)
  | none=>call g args S
 else call g args S
def Pk (p:Value×Value):MapEntry:=⟨p.1,p.2,0⟩
def HU (t:TypeId) (es:List MapEntry) (k:Value) (ok:Bool):Sem Value:=do
 let .map key elem ← underlying t | stuck "Lookup: map type expected"
 Instr.checkKey es.isEmpty 10000 key k
 let (v,o) ← match ← Instr.findKey key k es with
  | some (_,v)=>pure (v,true)
  | none=>pure (← zeroValue elem,false)
 pure (if ok then .tuple #[v,.bool o] else v)
def H9 (t:TypeId) (es:List MapEntry) (k:Value):Sem (Option (Nat×Value)):=do
 let .map key _ ← underlying t | stuck "MapUpdate: map type expected"
 Instr.checkKey false 10000 key k
 Instr.findKey key k es
def DO:Value→Option DV
 | .tuple vs=>match vs.toList with
  | [v,.bool b]=>(vQ v).map fun d => .ee [d,.val (.bool b)]
  | _=>none
 | v=>vQ v
def LO (es:List (Value×Value)) (k v:Value):Option (Nat×Value)→Option (List (Value×Value))
 | none=>some (es++[(k,v)])
 | some (i,_)=>match es[i]? with
  | some (k',_)=>if Instr.sameBits 10000 k' k then some (es.set i (k,v)) else none
  | none=>none
def ai (ρ:Operand→Option DV) (o:Oper) (S:ak) (aA:Nat):Option (DV×ak) :=
 match o.op with
 | .move x | .assign x=>(ρ x).map (·,S)
 | .pick c a b=>match ρ c with
  | some (.val (.bool t))=>(if t then ρ a else ρ b).map (·,S)
  | _=>none
 | .alloc e=>match ty e with
  | some ⟨_,_,some z⟩=>some (.ptr aA 0,de S aA (.cells z))
  | _=>none
 | .box _ x=>match ρ x with
  | some d=>some (.ptr aA 0,de S aA (.cells d.cells))
  | none=>none
 | .build t ps=>match ty t,gX ρ ps.toList with
  | some ⟨.struct fs,_,some z⟩,some l=>(iB (fun i=>(fs[i]?).map fun f=>(f.1,f.2.1)) z l).map fun cs=>(.agg cs,S)
  | some ⟨.array _ s _,_,some z⟩,some l=>(iB (fun i=>some (i*s,s)) z l).map fun cs=>(.agg cs,S)
  | _,_=>none
 | .buildSlice t n ps=>match ty t,gX ρ ps.toList with
  | some ⟨.slice e s _ agg,_,_⟩,some l=>match ty e with
   | some ⟨_,_,some z⟩=>if decide (0<s)&&decide (n*s≤16777216) then
     match iB (fun i=>some (i*s,s)) ((List.replicate n z).flatten) (l.map fun(i,v)=>(i,v.strip)) with
     | some cs=>if cs.all DV.bt&&(agg||s==1) then some (match ty.h o with
      | 1=>(.gD aA n agg,de S aA (.op e s cs false))
      | _=>(.sl (rowsOf s agg cs n) none ⟨true,some false⟩,S)) else none
     | none=>none
    else none
   | _=>none
  | _,_=>none
 | .makeSlice t a b=>match ty t,intOf ρ a,intOf ρ b with
  | some ⟨.slice e s iZ agg,_,_⟩,some n,some m=>match ty e with
   | some ⟨_,_,some z⟩=>if decide (0≤n)&&decide (m=n)&&decide (0<s)&&(agg||s==1)&&decide (n≤140737488355328-4096)&&decide (n.toNat*iZ≤dG)&&(z.map DV.aI).all DV.bt then
     some (.gD aA n.toNat agg,de S aA (.op e s (List.replicate n.toNat (z.map DV.aI)).flatten false)) else none
   | _=>none
  | _,_,_=>none
 | .load t a=>match ρ a with
  | some a=>(ic ty S t a).map (·,S)
  | none=>none
 | .store t a x=>match ρ a,ρ x with
  | some a,some v=>(kY ty S t a v).map (aP,·)
  | _,_=>none
 | .nilCheck x=>match ρ x with
  | some (.ptr id off)=>some (.ptr id off,S)
  | _=>none
 | .binOp op t x y _=>match valOf ρ x,valOf ρ y with
  | some a,some b=>(gO P (do eqGuard op t x y a b; binOp op t a b)).map (·,S)
  | _,_=>(yg ty op t (ρ x) (ρ y)).map (·,S)
 | .unOp op _ x=>match valOf ρ x with
  | some a=>(gO P (Op.unary op a)).map (·,S)
  | none=>none
 | .convert s d x=>match valOf ρ x with
  | some a=>(gO P (Go.convert s d a)).map (·,S)
  | none=>none
 | .makeFunc (.func f) fs cs=>match evs ρ fs.toList,evs ρ cs.toList with
  | some a,some b=>some (.fn f a b,S)
  | _,_=>none
 | .slice t x lo hi mx=>match ty t,ρ x with
  | some ⟨.slice _ s _ _,_,_⟩,some (.sl rows _ full)=>if !rows.all (fun r=>decide (r.cells.length=s)) then none else
   match eO ρ mx rows.length rows.length with
   | some m=>match eO ρ hi rows.length m with
    | some h=>match eO ρ lo 0 h with
     | some l=>if hi.isNone&&mx.isSome then none else (nw rows full l h (mx.map fun _=>m)).map (·,S)
     | none=>none
    | none=>none
   | none=>none
  | _,_=>none
 | .fieldAddr t x f=>match ty t,ρ x with
  | some ⟨.struct fs,_,_⟩,some (.ptr id off)=>match fs[f]? with
   | some (o,s,_)=>if 0<s then some (.ptr id (off+o),S) else none
   | none=>none
  | some ⟨.struct fs,_,_⟩,some (.cU rows i off)=>match fs[f]? with
   | some (o,s,_)=>if 0<s then some (.cU rows i (off+o),S) else none
   | none=>none
  | some ⟨.struct fs,_,_⟩,some (.dB id n off)=>match fs[f]?,Ac S id n with
   | some (o,s,_),some _=>if 0<s then some (.dB id n (off+o),S) else none
   | _,_=>none
  | _,_=>none
 | .field t x f=>match ty t,ρ x with
  | some ⟨.struct fs,_,_⟩,some (.agg l)=>match fs[f]? with
   | some (off,s,agg)=>(j4 agg s l off).map (·,S)
   | none=>none
  | _,_=>none
 | .indexAddr t x i=>match ty t,ρ x,intOf ρ i with
  | some ⟨.slice _ s _ _,_,_⟩,some (.sl rows _ _),some n=>if 0≤n then
    match rows[n.toNat]? with
    | some r=>if r.cells.length=s then some (.cU rows n.toNat 0,S) else none
    | none=>none
   else none
  | some ⟨.array k s _,_,_⟩,some (.ptr id off),some n=>if 0≤n∧n.toNat<k then some (.ptr id (off+n.toNat*s),S) else none
  | some ⟨.array k s _,_,_⟩,some (.cU rows j off),some n=>if 0≤n∧n.toNat<k then some (.cU rows j (off+n.toNat*s),S) else none
  | some ⟨.slice _ s _ _,_,_⟩,some (.gD id m _),some n=>match Ac S id m with
   | some (_,s',_,_)=>if 0≤n∧n.toNat<m∧s'=s then some (.dB id m (n.toNat*s),S) else none
   | none=>none
  | _,_,_=>none
 | .index t x i=>match ty t,ρ x,intOf ρ i with
  | some ⟨.array k s agg,_,_⟩,some (.agg l),some n=>if 0≤n∧n.toNat<k then (j4 agg s l (n.toNat*s)).map (·,S) else none
  | _,_,_=>none
 | .makeMap _ none=>some (.map aA,de S aA (.map []))
 | .lookup t m k ok=>match ρ m,valOf ρ k with
  | some (.map id),some kv=>match S[id]? with
   | some (.map es)=>((bI P (HU t (es.map Pk) kv ok)).bind DO).map (·,S)
   | _=>none
  | _,_=>none
 | .mapUpdate t m k v=>match ρ m,valOf ρ k,valOf ρ v with
  | some (.map id),some kv,some vv=>match S[id]? with
   | some (.map es)=>match bI P (H9 t (es.map Pk) kv) with
    | some r=>(LO es kv vv r).map fun es'=>(aP,S.set id (.map es'))
    | none=>none
   | _=>none
  | _,_,_=>none
 | .extract t i=>match ρ t with
  | some (.ee l)=>(l[i]?).map (·,S)
  | _=>none
 | .call { callee := .builtin b,args,argTypes }=>match b,args.toList,argTypes.toList with
  | .len,[x],[t]=>match ty t,ρ x with
   | some ⟨.slice _ _ _ _,_,_⟩,some (.sl rows _ _)=>some (.val (.int .i64 rows.length),S)
   | some ⟨.slice _ _ _ _,_,_⟩,some (.gD _ n _)=>some (.val (.int .i64 n),S)
   | some ⟨.array n _ _,_,_⟩,_=>some (.val (.int .i64 n),S)
   | _,some (.val v)=>(gO P (Builtin.len_ #[t] o.type #[v])).map (·,S)
   | _,_=>none
  | .append,[x,y],[t,u]=>if t=u then match ρ x,ρ y with
    | some a,some b=>match a with
     | .gD .. => kE ty S aA t a b
     | _=>match ty.h o with
      | 1=>kE ty S aA t a b
      | _=>gI ty S aA t a b
    | _,_=>none
   else none
  | .min,xs,_=>match (evs ρ xs).bind oO with
   | some vs=>(gO P (Builtin.min_ argTypes o.type vs.toArray)).map (·,S)
   | none=>none
  | .max,xs,_=>match (evs ρ xs).bind oO with
   | some vs=>(gO P (Builtin.max_ argTypes o.type vs.toArray)).map (·,S)
   | none=>none
  | _,_,_=>none
 | .call { callee := .value f,args,argTypes:=_ }=>match ρ f,evs ρ args.toList with
  | some (.fn g fs cs),some xs=>match ty.h o with
   | 1=>call g (fs++xs++cs) S
   | _=>tw aD call g (fs++xs++cs) S
  | some (.uC id),some xs=>yf id xs S
  | _,_=>none
 | _=>none
def bD (ops:Array Oper) (env:List DV) (o:Oper):Bool :=
 match o.guard with
 | none=>true
 | some (j,want)=>match (ops[j]?).bind (·.dst) with
  | some d=>match env[d]? with
   | some (.val (.bool b))=>b==want
   | _=>false
  | none=>false
def eH (env:List DV) (dst:Option Tmp) (v:DV):List DV :=
 match dst with
 | some d=>env.set d v
 | none=>env
def mC (env:List DV) (S:ak) (x:Operand):ak:=match ga env x with | some d=>qJ S d | none=>S
def Al (o:Oper) (env:List DV) (S:ak):List DV×ak :=
 match ty.h o with
 | 2 =>
  let S':=o.op.operands.toList.foldl (mC env) S
  (env.map (jd S'),S')
 | _=>(env,S)
def BV (ops:Array Oper):List Oper→List DV→ak→Option (List DV×ak)
 | [],env,S=>some (env,S)
 | o::r,env,S =>
  if bD ops env o then match Al ty o env S with
   | (env,S)=>match ai P ty aD call yf (ga env) o S S.length with
    | some (v,S')=>BV ops r (eH env o.dst v) S'
    | none=>none
  else BV ops r (eH env o.dst aP) S
def bZ (ρ:Operand→Option DV) (o:Oper) (S:ak):Option DV :=
 match o.op with
 | .alloc _ | .box .. | .store .. | .makeMap .. | .mapUpdate .. | .makeSlice .. => none
 | .buildSlice .. => match ty.h o with
  | 1=>none
  | _=>(ai P ty aD call yf ρ o S S.length).map (·.1)
 | .call { callee := .builtin .append,.. }=>none
 | .call { callee := .value f,args,argTypes:=_ }=>match ρ f,evs ρ args.toList with
  | some (.fn g fs cs),some xs=>if ty.h o=1 then none else if ((fs++xs++cs).map DV.strip).all DV.pure then aD g ((fs++xs++cs).map DV.strip) else none
  | _,_=>none
 | _=>(ai P ty aD call yf ρ o S S.length).map (·.1)
def lZ (ops:Array Oper) (S:ak):List Oper→List DV→Option (List DV)
 | [],env=>some env
 | o::r,env =>
  if bD ops env o then match bZ P ty aD call yf (ga env) o S with
   | some v=>lZ ops S r (eH env o.dst v)
   | none=>none
  else lZ ops S r (eH env o.dst aP)
def vP (call:aW) (g:FuncId) (args:List DV) (S:ak):Option (Nat×DV×List DV) :=
 match args with
 | .ptr i off::rest=>match S[i]? with
  | some (.cells l) =>
   if (rest.map DV.strip).all DV.pure&&(l.map DV.aI).all DV.bt then
    match call g (.ptr 0 off::rest.map DV.strip) [.cells (l.map DV.aI)] with
    | some (v,.cells l'::_)=>if v.strip.pure&&(l'.map DV.aI).all DV.bt then some (i,v.strip,l'.map DV.aI) else none
    | _=>none
   else none
  | _=>none
 | _=>none
def Ic (call:aW):aW:=fun g args S=>match vP call g args S with
 | some (i,v,l)=>some (v,S.set i (.cells l))
 | none=>call g args S
structure cu where
 ids:Option (List Nat)
 wr:Bool
def aC (ρ:Operand→Option DV) (o:Oper) (S:ak) (aA:Nat):Option (DV×ak×cu) :=
 match o.op with
 | .alloc _ | .box .. | .makeMap .. => match S[aA]? with
  | some .none=>(ai P ty aD call yf ρ o S aA).map fun r=>(r.1,r.2,⟨some [aA],true⟩)
  | _=>none
 | .store _ a _=>match ρ a with
  | some (.ptr id _)=>(ai P ty aD call yf ρ o S aA).map fun r=>(r.1,r.2,⟨some [id],true⟩)
  | some (.dB id _ _)=>(ai P ty aD call yf ρ o S aA).map fun r=>(r.1,r.2,⟨some [id],true⟩)
  | _=>none
 | .fieldAddr _ a _=>match ρ a with
  | some (.dB id _ _)=>(ai P ty aD call yf ρ o S aA).map fun r=>(r.1,r.2,⟨some [id],false⟩)
  | _=>(ai P ty aD call yf ρ o S aA).map fun r=>(r.1,r.2,⟨some [],false⟩)
 | .indexAddr _ a _=>match ρ a with
  | some (.gD id _ _)=>(ai P ty aD call yf ρ o S aA).map fun r=>(r.1,r.2,⟨some [id],false⟩)
  | _=>(ai P ty aD call yf ρ o S aA).map fun r=>(r.1,r.2,⟨some [],false⟩)
 | .buildSlice .. => match ty.h o with
  | 1=>none
  | _=>(ai P ty aD call yf ρ o S aA).map fun r=>(r.1,r.2,⟨some [],false⟩)
 | .makeSlice .. => none
 | .lookup _ m .. => match ρ m with
  | some (.map id)=>(ai P ty aD call yf ρ o S aA).map fun r=>(r.1,r.2,⟨some [id],false⟩)
  | _=>none
 | .mapUpdate _ m .. => match ρ m with
  | some (.map id)=>(ai P ty aD call yf ρ o S aA).map fun r=>(r.1,r.2,⟨some [id],true⟩)
  | _=>none
 | .load _ a=>match ρ a with
  | some (.ptr id _)=>(ai P ty aD call yf ρ o S aA).map fun r=>(r.1,r.2,⟨some [id],false⟩)
  | some (.dB id _ _)=>(ai P ty aD call yf ρ o S aA).map fun r=>(r.1,r.2,⟨some [id],false⟩)
  | _=>(ai P ty aD call yf ρ o S aA).map fun r=>(r.1,r.2,⟨some [],false⟩)
 | .call { callee := .builtin .append,args,.. }=>if ty.h o=1 then none else if xZ ((args[0]?).bind ρ) then none else match S[aA]?,(args[0]?).bind ρ with
  | some .none,some (.sl _ (some t) _)=>(ai P ty aD call yf ρ o S aA).map fun r=>(r.1,r.2,⟨some [t,aA],true⟩)
  | some .none,_=>(ai P ty aD call yf ρ o S aA).map fun r=>(r.1,r.2,⟨some [aA],true⟩)
  | _,_=>none
 | .call { callee := .value f,args,argTypes:=_ }=>match ρ f,evs ρ args.toList with
  | some (.fn g fs cs),some xs =>
   let as_:=fs++xs++cs
   if ty.h o=1 then none
   else if (as_.map DV.strip).all DV.pure then (aD g (as_.map DV.strip)).map fun v=>(v,S,⟨some [],false⟩)
   else match vP call g as_ S with
    | some (i,v,l)=>some (v,S.set i (.cells l),⟨some [i],true⟩)
    | none=>(call g as_ S).map fun r=>(r.1,r.2,⟨none,true⟩)
  | some (.uC id),some xs=>(yf id xs S).map fun r=>(r.1,r.2,⟨none,true⟩)
  | _,_=>none
 | _=>(ai P ty aD call yf ρ o S aA).map fun r=>(r.1,r.2,⟨some [],false⟩)
def nZ (ops:Array Oper) (n0:Nat):List Oper→Nat→List DV→ak→Option (List DV×ak×List cu)
 | [],_,env,S=>some (env,S,[])
 | o::r,i,env,S =>
  if bD ops env o then match aC P ty aD call yf (ga env) o S (n0+i) with
   | some (v,S',f)=>match nZ ops n0 r (i+1) (eH env o.dst v) S' with
    | some (ay,ry,fs)=>some (ay,ry,f::fs)
    | none=>none
   | none=>none
  else match nZ ops n0 r (i+1) (eH env o.dst aP) S with
   | some (ay,ry,fs)=>some (ay,ry,⟨some [],false⟩::fs)
   | none=>none
def iQ (ops:Array Oper) (o:Oper):List Tmp :=
 o.dst.toList++o.op.operands.toList.filterMap (fun | .tmp t=>some t | _=>none)++(match o.guard with | some (j,_)=>((ops[j]?).bind (·.dst)).toList | none=>[])
def iP (ops:Array Oper) (b:Array Nat):Bool :=
 (ops.toList.zipIdx.all fun(o,i)=>o.after.all fun e => !Region.binds .any e||decide (e.on<i)) &&
 ops.toList.zipIdx.all fun(o,i)=>ops.toList.zipIdx.all fun(o',j)=>match o'.dst with
  | some d=>i==j || !(iQ ops o).contains d||(b.getD j 0).testBit i||(b.getD i 0).testBit j
  | none=>true
def cu.meets (f g:cu):Bool :=
 (f.wr||g.wr)&&match f.ids,g.ids with
 | none,none=>true
 | none,some l => !l.isEmpty
 | some l,none => !l.isEmpty
 | some l,some m=>l.any m.contains
def oG (b:Array Nat) (fs:List cu):Bool :=
 fs.zipIdx.all fun(f,i)=>fs.zipIdx.all fun(g,j)=>i==j || !f.meets g||(b.getD j 0).testBit i||(b.getD i 0).testBit j
def CH (o:Oper):Bool :=
 match o.op with
 | .call { callee := .value _,args:=_,argTypes }=>match argTypes[0]? with
  | some t=>match P.underlying t with
   | some (.pointer _)=>true
   | _=>false
  | none=>false
 | _=>false
def lP (ops:Array Oper) (draw:Bool) (env:List DV) (S:ak):Option (List DV×ak) :=
 if draw then if !iP ops (Region.before ops) then none else match if ops.toList.any (CH P) then none else lZ P ty aD call yf ops S ops.toList env with
  | some ay=>some (ay,S)
  | none=>match nZ P ty aD call yf ops S.length ops.toList 0 env (S++List.replicate ops.size .none) with
   | some (ay,S',fs)=>if oG (Region.before ops) fs then some (ay,S') else none
   | none=>none
 else BV P ty aD call yf ops ops.toList env S
inductive DX where
 | normal
 | exit (id:Nat)
 | ret
 deriving DecidableEq
def j5 (f:List DV→ak→Option (DX×List DV×ak)):Nat→List DV→ak→Option (DX×List DV×ak)
 | 0,_,_=>none
 | n+1,env,S=>match f env S with
  | some (.normal,ay,S')=>j5 f n ay S'
  | r=>r
def bC (L:Nat) (fn:FuncId) (fC:Bool):Code→List DV→ak→Option (DX×List DV×ak)
 | .skip,env,S | .label _,env,S=>some (.normal,env,S)
 | .region _ ops draw,env,S=>(lP P ty aD call yf ops draw env S).map (.normal,·)
 | .seq a b,env,S=>match bC L fn fC a env S with
  | some (.normal,ay,S')=>bC L fn fC b ay S'
  | r=>r
 | .cond c a b,env,S=>match ga env c with
  | some (.val (.bool true))=>bC L fn fC a env S
  | some (.val (.bool false))=>bC L fn fC b env S
  | _=>none
 | .block id c,env,S=>match bC L fn fC c env S with
  | some (.exit gE,ay,S')=>some (if gE=id then .normal else .exit gE,ay,S')
  | r=>r
 | .loop c,env,S=>j5 (bC L fn fC c) L env S
 | .scope c,env,S=>bC L fn fC c env S
 | .exit id,env,S=>some (.exit id,env,S)
 | .ret,env,S=>some (.ret,env,S)
 | .rangeFunc f ps Jl body,env,S=>if fC then none else match ga env f with
  | some (.fn g fs cs)=>match call g (fs++[.uC (S.length+1)]++cs) (S++[.defer,.loop ⟨.ready,none,fn,env,ps.toList,Jl,body,S.length⟩]) with
   | some (_,S')=>match S'[S.length+1]? with
    | some (.loop r)=>if r.st == .busy then none else match r.iu with
     | none=>some (.normal,env,S'.set (S.length+1) (.loop { r with st := .exhausted }))
     | some .ret=>some (.ret,env,S'.set (S.length+1) (.loop { r with st := .exhausted }))
     | some (.exit e)=>some (.exit e,env,S'.set (S.length+1) (.loop { r with st := .exhausted }))
     | _=>none
    | _=>none
   | none=>none
  | _=>none
 | _,_,_=>none
def xX:List DV→List (Tmp×DV)→List DV
 | env,[]=>env
 | env,(t,d)::l=>xX (env.set t d) l
def Gi (L:Nat):dH:=fun id args S=>match S[id]? with
 | some (.loop r)=>if args.length=r.params.length then
   match bC P ty aD call yf L r.fn true r.assign (xX r.env (r.params.zip args)) S with
   | some (.normal,xR,S1)=>match S1[id]? with
    | some (.loop r1)=>if r1.st = .ready then
      match bC P ty aD call yf L r.fn true r.body xR (S1.set id (.loop { r1 with st := .busy })) with
      | some (e,_,S2)=>match S2[id]? with
       | some (.loop r2)=>match e with
        | .normal=>some (.val (.bool true),S2.set id (.loop { r2 with st := .ready,iu:=none }))
        | .ret=>some (.val (.bool false),S2.set id (.loop { r2 with st := .done,iu:=some .ret }))
        | .exit i=>some (.val (.bool false),S2.set id (.loop { r2 with st := .done,iu:=some (.exit i) }))
       | _=>none
      | none=>none
     else none
    | _=>none
   | _=>none
  else none
 | _=>none
def oC (env:List DV) (S:ak):List ResultVar→Option (List DV)
 | []=>some []
 | .tmp t::r=>(oC env S r).map (env.getD t aP::·)
 | .cell a t::r=>match ic ty S t (env.getD a aP),oC env S r with
  | some v,some l=>some (v::l)
  | _,_=>none
def oneOf:List DV→DV
 | [d]=>d
 | l => .ee l
def qQ (L:Nat) (f:FuncId) (fn:Func) (args:List DV) (S:ak):Option (DV×ak) :=
 match fn.body with
 | some c=>match bC P ty aD call yf L f false c (args++List.replicate (fn.ntmps-args.length) aP) S with
  | some (.normal,env,S') | some (.ret,env,S')=>(oC ty env S' fn.results.toList).map fun l=>(oneOf l,S')
  | _=>none
 | none=>none
end
def je (aZ:bn) (call:aW):bn:=fun f args=>match aZ f args with
 | some v=>if v.pure then some v else none
 | none=>match call f args [] with
  | some (v,S)=>if (jd (qJ S v) v).strip.pure then some (jd (qJ S v) v).strip else none
  | none=>none
def cG (P:Program) (ty:eV) (aZ:bn) (L:Nat):Nat→aW×dH
 | 0=>(fun _ _ _=>none,fun _ _ _=>none)
 | n+1=>(fun f args S=>match P.funcs[f]? with
   | some fn=>qQ P ty (je aZ (cG P ty aZ L n).1) (cG P ty aZ L n).1 (cG P ty aZ L n).2 L f fn args S
   | none=>none,
  Gi P ty (je aZ (cG P ty aZ L n).1) (cG P ty aZ L n).1 (cG P ty aZ L n).2 L)
def acs (P:Program) (ty:eV) (aZ:bn) (L n:Nat):aW:=(cG P ty aZ L n).1
end Go.Di
end
section
namespace Go.Tv
open Go Go.Di
inductive TT where
 | int (k:IntKind)
 | bool
 | str
 | unit
 | pair (a b:TT)
 | sl (t:TT)
 deriving DecidableEq
abbrev TT.den:TT→Type
 | .int _=>Int
 | .bool=>Bool
 | .str=>ByteArray
 | .unit=>Unit
 | .pair a b=>a.den×b.den
 | .sl t=>List t.den
def TT.U4:(t:TT)→t.den
 | .int _=>(0:Int)
 | .bool=>false
 | .str=>ByteArray.empty
 | .unit=>()
 | .pair a b=>(a.U4,b.U4)
 | .sl _=>[]
def TT.size:TT→Nat
 | .unit=>0
 | .pair a b=>a.size+b.size
 | _=>1
def TT.agg:TT→Bool
 | .unit | .pair _ _=>true
 | _=>false
inductive Ap where
 | no
 | full
 | qA (g:Nat)
inductive TV where
 | unk
 | val (v:Value)
 | ei
 | agg (l:List TV)
 | ee (l:List TV)
 | sl (t:TT) (l:List t.den) (ap:Ap)
 | ptr (id off:Nat)
 | cU (t:TT) (l:List t.den) (i off:Nat)
 | fn (f:FuncId) (first captured:List TV)
 | mp (id:Nat)
 | so (g:Nat) (t:TT)
 | sp (g:Nat) (t:TT) (i off:Nat)
instance:Inhabited TV:=⟨.unk⟩
def TT.cells:(t:TT)→t.den→List TV
 | .int k,n=>[.val (.int k n)]
 | .bool,b=>[.val (.bool b)]
 | .str,s=>[.val (.string s)]
 | .unit,_=>[]
 | .pair a b,x=>a.cells x.1++b.cells x.2
 | .sl t,l=>[.sl t l .no]
def ofInt (k:IntKind):List TV→Option (Int×List TV)
 | .val (.int k' n)::r=>if k'=k then some (n,r) else none
 | _=>none
def ofBool:List TV→Option (Bool×List TV)
 | .val (.bool b)::r=>some (b,r)
 | _=>none
def ofStr:List TV→Option (ByteArray×List TV)
 | .val (.string b)::r=>some (b,r)
 | _=>none
def Qp (t:TT):List TV→Option (List t.den×List TV)
 | .sl t' l _::r=>if h:t'=t then some (h▸l,r) else none
 | .ei::r=>some ([],r)
 | _=>none
def TT.of:(t:TT)→List TV→Option (t.den×List TV)
 | .int k,l=>ofInt k l
 | .bool,l=>ofBool l
 | .str,l=>ofStr l
 | .unit,l=>some ((),l)
 | .pair a b,l=>match a.of l with
  | some (x,r1)=>match b.of r1 with
   | some (y,r2)=>some ((x,y),r2)
   | none=>none
  | none=>none
 | .sl t,l=>Qp t l
def x8 (agg:Bool) (r:DV):Prop:=if agg then ∃ l,r = .agg l else ∀ l,r ≠ .agg l
def dK {α:Type} (R:α→List DV→Prop) (agg:Bool):List α→List DV→Prop
 | [],[]=>True
 | x::l,r::rows=>(R x r.cells∧x8 agg r)∧dK R agg l rows
 | _,_=>False
def CR:(t:TT)→t.den→List DV→Prop
 | .int k,n,cs=>cs=[.val (.int k n)]
 | .bool,b,cs=>cs=[.val (.bool b)]
 | .str,s,cs=>cs=[.val (.string s)]
 | .unit,_,cs=>cs=[]
 | .pair a b,x,cs=>∃ c1 c2,cs=c1++c2∧CR a x.1 c1∧CR b x.2 c2
 | .sl t,l,cs=>∃ rows f,cs=[.sl rows none f]∧dK (CR t) t.agg l rows
abbrev jF:=Nat→Option Nat
def qK (ι:jF) (S:ak) (n:Nat) (tok:Option Nat) (f:SF):Ap→Prop
 | .no=>True
 | .full=>tok=none∧f.full=true
 | .qA g=>(tok=none∧f.full=true∧n=0)∨∃ t e s,ι g=some t∧tok=some t∧S[t]? = some (.tail e s (n*s))
mutual
def RT (ι:jF) (S:ak):TV→DV→Prop
 | .unk,_=>True
 | .val v,.val u=>u=v
 | .ei,.sl rows tok f=>rows=[]∧tok=none∧f=⟨true,some true⟩
 | .agg l,.agg m=>cA ι S l m
 | .ee l,.ee m=>cA ι S l m
 | .sl t l ap,.sl rows tok f=>dK (CR t) t.agg l rows∧qK ι S rows.length tok f ap
 | .ptr id off,.ptr gE qD=>ι id=some gE∧qD=off
 | .cU t l i off,.cU rows i' qD=>dK (CR t) t.agg l rows∧i'=i∧qD=off∧i<l.length
 | .fn f a b,.fn f' a' b'=>f'=f∧cA ι S a a'∧cA ι S b b'
 | .mp id,.map gE=>ι id=some gE
 | .so g t,.gD id n agg=>ι g=some id∧agg=t.agg∧∃ e s l z,S[id]? = some (.op e s l z)∧n*s=l.length
 | .sp g t i off,.dB id n qD=>ι g=some id∧qD=i*t.size+off∧∃ e s l z,S[id]? = some (.op e s l z)∧n*s=l.length∧i*t.size+t.size≤l.length
 | _,_=>False
def cA (ι:jF) (S:ak):List TV→List DV→Prop
 | [],[]=>True
 | a::l,b::m=>RT ι S a b∧cA ι S l m
 | _,_=>False
end
section
variable {ι:jF} {S:ak}
theorem iS {α:Type} {R:α→List DV→Prop} {agg:Bool}:∀ {l:List α} {rows:List DV},dK R agg l rows→rows.length=l.length
 | [],[],_=>rfl
 | _::l,_::rows,h=>by simp[iS h.2]
theorem yF {α:Type} {R:α→List DV→Prop} {agg:Bool}:∀ {l:List α} {rows:List DV} {i:Nat} {x:α},dK R agg l rows→l[i]? = some x→∃ r,rows[i]? = some r∧R x r.cells∧x8 agg r
 | [],_,_,_,_,h=>by simp at h
 | _::_,[],_,_,h,_=>h.elim
 | y::l,r::rows,0,x,h,hx=>by
  simp only[List.getElem?_cons_zero,Option.some.injEq] at hx
  subst hx
  exact⟨r,rfl,h.1⟩
 | y::l,r::rows,i+1,x,h,hx=>by
  obtain⟨r',h1,h2⟩:=yF (i:=i) h.2 (by simpa using hx)
  exact⟨r',by simpa using h1,h2⟩
theorem wo {α:Type} {R:α→List DV→Prop} {agg:Bool}:∀ {l m:List α} {rows Tq:List DV},dK R agg l rows→dK R agg m Tq→dK R agg (l++m) (rows++Tq)
 | [],_,[],_,_,h=>h
 | _::_,_,_::_,_,h,k=>⟨h.1,wo h.2 k⟩
theorem mQ {α:Type} {R:α→List DV→Prop} {agg:Bool}:∀ {l:List α} {rows:List DV} (n:Nat),dK R agg l rows→dK R agg (l.take n) (rows.take n)
 | _,_,0,_=>by simp[dK]
 | [],[],n+1,_=>by simp[dK]
 | _::_,_::_,n+1,h=>⟨h.1,mQ n h.2⟩
theorem ql {α:Type} {R:α→List DV→Prop} {agg:Bool}:∀ {l:List α} {rows:List DV} (n:Nat),dK R agg l rows→dK R agg (l.drop n) (rows.drop n)
 | _,_,0,h=>h
 | [],[],n+1,_=>by simp[dK]
 | _::_,_::_,n+1,h=>ql n h.2
theorem mm:∀ {t:TT} {x:t.den} {cs:List DV},CR t x cs→cs.length=t.size
 | .int _,_,_,h=>by simp only[CR] at h; subst h; rfl
 | .bool,_,_,h=>by simp only[CR] at h; subst h; rfl
 | .str,_,_,h=>by simp only[CR] at h; subst h; rfl
 | .unit,_,_,h=>by simp only[CR] at h; subst h; rfl
 | .pair a b,x,_,h=>by
  simp only[CR] at h
  obtain⟨c1,c2,rfl,h1,h2⟩:=h
  simp only[List.length_append,mm h1,mm h2,TT.size]
 | .sl t,_,_,h=>by
  simp only[CR] at h
  obtain⟨rows,f,rfl,-⟩:=h
  rfl
theorem gA {t:TT}:∀ {l:List t.den} {rows:List DV},dK (CR t) t.agg l rows→∀ r∈rows,r.cells.length=t.size
 | [],[],_,r,hr=>by simp at hr
 | _::l,r'::rows,h,r,hr=>by
  rcases List.mem_cons.1 hr with rfl | hr
  ·exact mm h.1.1
  ·exact gA h.2 r hr
theorem ff:∀ {l:List TV} {m:List DV},cA ι S l m→m.length=l.length
 | [],[],_=>rfl
 | _::l,_::m,h=>by simp only[cA] at h; simp[ff h.2]
theorem bJ:cA ι S [] []:=by simp only[cA]
theorem aG {a:TV} {d:DV} {l:List TV} {m:List DV} (h:RT ι S a d) (k:cA ι S l m):cA ι S (a::l) (d::m):=by simp only[cA]; exact⟨h,k⟩
theorem di {a:TV} {d:DV} (h:RT ι S a d):cA ι S [a] [d]:=aG h bJ
theorem aj {a:TV} {l:List TV} {m:List DV} (h:cA ι S (a::l) m):∃ d m',m=d::m'∧RT ι S a d∧cA ι S l m':=by
 cases m with
 | nil=>simp only[cA] at h
 | cons d m'=>simp only[cA] at h; exact⟨d,m',rfl,h⟩
theorem aJ {m:List DV} (h:cA ι S [] m):m=[]:=by
 cases m with
 | nil=>rfl
 | cons d m'=>simp only[cA] at h
theorem pX:∀ {l:List TV} {m:List DV} {i:Nat} {a:TV},cA ι S l m→l[i]? = some a→∃ d,m[i]? = some d∧RT ι S a d
 | [],_,_,_,_,h=>by simp at h
 | b::l,m,0,a,h,hx=>by
  obtain⟨d,m',rfl,h1,-⟩:=aj h
  simp only[List.getElem?_cons_zero,Option.some.injEq] at hx
  subst hx
  exact⟨d,rfl,h1⟩
 | b::l,m,i+1,a,h,hx=>by
  obtain⟨d,m',rfl,-,h1⟩:=aj h
  obtain⟨d',h2,h3⟩:=pX (i:=i) h1 (by simpa using hx)
  exact⟨d',by simpa using h2,h3⟩
theorem dA:∀ {l l':List TV} {m m':List DV},cA ι S l m→cA ι S l' m'→cA ι S (l++l') (m++m')
 | [],l',m,m',h,k=>by rw[aJ h]; exact k
 | a::l,l',m,m',h,k=>by
  obtain⟨d,m1,rfl,h1,h2⟩:=aj h
  exact aG h1 (dA h2 k)
theorem yD:∀ {l:List TV} {m:List DV} (n:Nat),cA ι S l m→cA ι S (l.take n) (m.take n)
 | _,_,0,_=>by simp only[List.take_zero]; exact bJ
 | [],m,n+1,h=>by rw[aJ h]; simp only[List.take_nil]; exact bJ
 | a::l,m,n+1,h=>by
  obtain⟨d,m1,rfl,h1,h2⟩:=aj h
  exact aG h1 (yD n h2)
theorem yE:∀ {l:List TV} {m:List DV} (n:Nat),cA ι S l m→cA ι S (l.drop n) (m.drop n)
 | _,_,0,h=>h
 | [],m,n+1,h=>by rw[aJ h]; simp only[List.drop_nil]; exact bJ
 | a::l,m,n+1,h=>by
  obtain⟨d,m1,rfl,-,h2⟩:=aj h
  exact yE n h2
theorem xo:∀ {l:List TV} {m:List DV} (i:Nat) {a:TV} {d:DV},cA ι S l m→RT ι S a d→cA ι S (l.set i a) (m.set i d)
 | [],m,i,a,d,h,_=>by rw[aJ h]; simp only[List.set_nil]; exact bJ
 | b::l,m,0,a,d,h,k=>by
  obtain⟨d',m1,rfl,-,h2⟩:=aj h
  exact aG k h2
 | b::l,m,i+1,a,d,h,k=>by
  obtain⟨d',m1,rfl,h1,h2⟩:=aj h
  exact aG h1 (xo i h2 k)
theorem pV (d:DV):∀ n,cA ι S (List.replicate n .unk) (List.replicate n d)
 | 0=>bJ
 | n+1=>by
  rw[List.replicate_succ,List.replicate_succ]
  exact aG (by simp only[RT]) (pV d n)
theorem oU {l:List TV} {m:List DV} (h:cA ι S l m) (i:Nat):RT ι S (l.getD i .unk) (m.getD i aP):=by
 rw[List.getD_eq_getElem?_getD,List.getD_eq_getElem?_getD]
 cases hi:l[i]? with
 | none=>simp only[Option.getD_none,RT]
 | some a =>
  obtain⟨d,h1,h2⟩:=pX h hi
  rw[h1]
  exact h2
theorem mP:∀ {t:TT} {x:t.den} {cs:List DV},CR t x cs→cA ι S (t.cells x) cs
 | .int _,_,_,h=>by simp only[CR] at h; subst h; exact di (by simp only[RT])
 | .bool,_,_,h=>by simp only[CR] at h; subst h; exact di (by simp only[RT])
 | .str,_,_,h=>by simp only[CR] at h; subst h; exact di (by simp only[RT])
 | .unit,_,_,h=>by simp only[CR] at h; subst h; exact bJ
 | .pair a b,x,_,h=>by
  simp only[CR] at h
  obtain⟨c1,c2,rfl,h1,h2⟩:=h
  exact dA (mP h1) (mP h2)
 | .sl t,_,_,h=>by
  simp only[CR] at h
  obtain⟨rows,f,rfl,h⟩:=h
  refine di ?_
  simp only[RT,qK,and_true]
  exact h
theorem AQ:∀ {t:TT} {l:List TV} {x:t.den} {r:List TV} {m:List DV},t.of l=some (x,r)→cA ι S l m→∃ c m',m=c++m'∧CR t x (c.map DV.aI)∧cA ι S r m'
 | .int k,l,x,r,m,h,hm=>by
  simp only[TT.of] at h
  unfold ofInt at h
  split at h
  ·split at h
   ·rename_i hk
    cases h
    obtain⟨d,m',rfl,h1,h2⟩:=aj hm
    cases d<;>simp only[RT] at h1
    subst h1
    subst hk
    exact⟨[_],m',rfl,by simp only[CR,List.map_cons,List.map_nil,DV.aI],h2⟩
   ·cases h
  ·cases h
 | .bool,l,x,r,m,h,hm=>by
  simp only[TT.of] at h
  unfold ofBool at h
  split at h
  ·cases h
   obtain⟨d,m',rfl,h1,h2⟩:=aj hm
   cases d<;>simp only[RT] at h1
   subst h1
   exact⟨[_],m',rfl,by simp only[CR,List.map_cons,List.map_nil,DV.aI],h2⟩
  ·cases h
 | .str,l,x,r,m,h,hm=>by
  simp only[TT.of] at h
  unfold ofStr at h
  split at h
  ·cases h
   obtain⟨d,m',rfl,h1,h2⟩:=aj hm
   cases d<;>simp only[RT] at h1
   subst h1
   exact⟨[_],m',rfl,by simp only[CR,List.map_cons,List.map_nil,DV.aI],h2⟩
  ·cases h
 | .unit,l,x,r,m,h,hm=>by
  simp only[TT.of] at h
  cases h
  exact⟨[],m,rfl,by simp only[CR,List.map_nil],hm⟩
 | .pair a b,l,x,r,m,h,hm=>by
  simp only[TT.of] at h
  split at h
  ·rename_i x1 r1 h1
   split at h
   ·rename_i y r2 h2
    cases h
    obtain⟨c,m1,rfl,k1,k2⟩:=AQ h1 hm
    obtain⟨c',m2,rfl,k3,k4⟩:=AQ h2 k2
    exact⟨c++c',m2,by simp,by simp only[CR,List.map_append]; exact⟨_,_,rfl,k1,k3⟩,k4⟩
   ·cases h
  ·cases h
 | .sl t,l,x,r,m,h,hm=>by
  simp only[TT.of] at h
  unfold Qp at h
  split at h
  ·split at h
   ·rename_i ht
    subst ht
    cases h
    obtain⟨d,m',rfl,h1,h2⟩:=aj hm
    cases d<;>simp only[RT] at h1
    rename_i rows tok f
    exact⟨[_],m',rfl,by simp only[CR,List.map_cons,List.map_nil,DV.aI]; exact⟨rows,⟨false,f.isNil⟩,rfl,h1.1⟩,h2⟩
   ·cases h
  ·cases h
   obtain⟨d,m',rfl,h1,h2⟩:=aj hm
   cases d<;>simp only[RT] at h1
   obtain⟨rfl,rfl,rfl⟩:=h1
   exact⟨[_],m',rfl,by simp only[CR,List.map_cons,List.map_nil,DV.aI]; exact⟨[],⟨false,some true⟩,rfl,by simp only[dK]⟩,h2⟩
  ·cases h
theorem qb:∀ {t:TT} {x:t.den} {cs:List DV},CR t x cs→cs.all DV.bt=true
 | .int _,_,_,h=>by simp only[CR] at h; subst h; rfl
 | .bool,_,_,h=>by simp only[CR] at h; subst h; rfl
 | .str,_,_,h=>by simp only[CR] at h; subst h; rfl
 | .unit,_,_,h=>by simp only[CR] at h; subst h; rfl
 | .pair a b,x,_,h=>by
  simp only[CR] at h
  obtain⟨c1,c2,rfl,h1,h2⟩:=h
  rw[List.all_append,qb h1,qb h2]; rfl
 | .sl t,_,_,h=>by
  simp only[CR] at h
  obtain⟨rows,f,rfl,-⟩:=h
  rfl
end
end Go.Tv
end
