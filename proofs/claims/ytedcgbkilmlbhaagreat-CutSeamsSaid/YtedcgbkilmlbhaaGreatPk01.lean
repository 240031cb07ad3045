import Derived.Test.YtedcgbkilmlbhaaGreatPk00
import GoSem.Step
section
namespace Go.Di
open Go
structure SF where
 full:Bool
 isNil:Option Bool
inductive DV where
 | val (v:Value)
 | agg (l:List DV)
 | gd (l:List DV)
 | sl (rows:List DV) (tok:Option Nat) (full:SF)
 | ptr (id off:Nat)
 | eL (rows:List DV) (i off:Nat)
 | fn (f:FuncId) (first captured:List DV)
 | map (id:Nat)
 | xV (id:Nat)
 | jD (id n:Nat) (agg:Bool)
 | fC (id n off:Nat)
instance:Inhabited DV:=⟨.val (.tuple #[])⟩
structure LX where
 st:LoopState
 kB:Option Code
 fn:FuncId
 env:List DV
 params:List Tmp
 assign:Code
 body:Code
 dfr:Nat
inductive DB where
 | none
 | cells (l:List DV)
 | tail (e:TypeId) (s n:Nat)
 | map (es:List (Value×Value))
 | defer
 | loop (r:LX)
 | op (e:TypeId) (s:Nat) (l:List DV) (z:Bool)
instance:Inhabited DB:=⟨.none⟩
abbrev ax:=List DB
def bh:DV := .val (.tuple #[])
def DV.cells:DV→List DV
 | .agg l=>l
 | d=>[d]
def flat (rows:List DV):List DV:=rows.flatMap DV.cells
def yj:Value→Bool
 | .agg _=>false
 | .tuple vs=>vs.size==0
 | _=>true
def Fu:Value→Option DV
 | .slice none 0 0=>some (.sl [] none ⟨true,some true⟩)
 | v=>if yj v then some (.val v) else none
def qJ:List Value→Option (List DV)
 | []=>some []
 | v::l=>match Fu v,qJ l with
  | some d,some r=>some (d::r)
  | _,_=>none
def zi:Value→Option DV
 | .agg cs=>(qJ cs.toList).map .agg
 | .func (.func f) fs cs=>if fs.size=0&&cs.size=0 then some (.fn f [] []) else none
 | v=>Fu v
def qI:List DV→Option (List Value)
 | []=>some []
 | .val v::l=>(qI l).map (v::·)
 | _=>none
def y9:DV→Option Value
 | .val v=>some v
 | .agg l=>(qI l).map fun r => .agg r.toArray
 | _=>none
def sG:List DV→Option (List Value)
 | []=>some []
 | d::l=>match y9 d,sG l with
  | some v,some r=>some (v::r)
  | _,_=>none
def DV.ck:DV→Bool
 | .val v => !(v matches .tuple _)
 | .sl _ none _=>true
 | _=>false
def DV.jV:DV→Bool
 | .agg l=>l.all DV.ck
 | .val _=>true
 | .sl _ none _=>true
 | _=>false
def DV.pure:DV→Bool
 | .gd l=>l.all DV.jV
 | d=>d.jV
def DV.aV:DV→DV
 | .sl r _ f => .sl r none ⟨false,f.isNil⟩
 | d=>d
def DV.dG:DV→DV
 | .agg l => .agg (l.map DV.aV)
 | .sl r _ f => .sl r none ⟨false,f.isNil⟩
 | d=>d
def DV.strip:DV→DV
 | .gd l => .gd (l.map DV.dG)
 | d=>d.dG
def DV.one:DV→Bool
 | .val v => !(v matches .tuple _)
 | .agg _ | .gd _=>false
 | _=>true
inductive TK where
 | one
 | struct (fs:List (Nat×Nat×Bool))
 | array (n s:Nat) (agg:Bool)
 | slice (e s b:Nat) (agg:Bool)
 deriving DecidableEq
structure TyD where
 k:TK
 size:Nat
 zero:Option (List DV)
def TK.isAgg:TK→Bool
 | .struct _ | .array _ _ _=>true
 | _=>false
section
variable (P:Program)
def oe (t:TypeId):Bool :=
 match P.underlying t with
 | some (.struct _) | some (.array _ _)=>true
 | _=>false
def cg {α:Type}:Sem α→Option α
 | .pure a=>some a
 | .program k=>cg (k P)
 | _=>none
def DZ (t:TypeId):Option TypeInfo :=
 match P.info? t,P.underlying t with
 | some i,some _=>some i
 | _,_=>none
def Df (t:TypeId):Option TK :=
 match P.underlying t with
 | some (.struct fs)=>(fs.toList.mapM fun f=>(DZ P f.type).map fun i=>(f.offset,i.size,oe P f.type)).map .struct
 | some (.array n e)=>(DZ P e).map fun i => .array n i.size (oe P e)
 | some (.slice e)=>(DZ P e).map fun i => .slice e i.size i.bytes (oe P e)
 | some _=>some .one
 | none=>none
def zeroOf (i:TypeInfo):Option (List DV) :=
 match i.zero with
 | some z=>match qJ z.cells.toList with
  | some cs=>if cs.length=i.size then some cs else none
  | none=>none
 | none=>none
def A8 (t:TypeId):Option TyD :=
 match Df P t,P.info? t with
 | some k,some i=>some ⟨k,i.size,zeroOf i⟩
 | _,_=>none
end
def Qd (l:List DV) (off n:Nat):Option (List DV):=if off+n≤l.length then some ((l.drop off).take n) else none
def uA (l:List DV) (off:Nat) (cs:List DV):Option (List DV):=if off+cs.length≤l.length then some (l.take off++cs++l.drop (off+cs.length)) else none
def ng (agg:Bool) (size:Nat) (l:List DV) (off:Nat):Option DV :=
 if agg then (Qd l off size).map .agg else l[off]?
structure ir where
 f:TypeId→Option TyD
 hint:Tmp→TypeId→Nat
instance:CoeFun ir fun _=>TypeId→Option TyD:=⟨ir.f⟩
def ir.h (ty:ir) (o:Oper):Nat :=
 match o.dst with
 | some d=>ty.hint d o.type
 | none=>0
abbrev bP:=FuncId→List DV→ax→Option (DV×ax)
abbrev bV:=FuncId→List DV→Option DV
abbrev fI:=Nat→List DV→ax→Option (DV×ax)
section
variable (P:Program) (ty:ir) (aM:bV) (call:bP) (yf:fI)
def jb (env:List DV):Operand→Option DV
 | .tmp t=>some (env.getD t bh)
 | .const v=>zi v
 | .func f=>some (.fn f [] [])
 | .global _=>none
def evs (ρ:Operand→Option DV):List Operand→Option (List DV)
 | []=>some []
 | x::l=>match ρ x,evs ρ l with
  | some d,some r=>some (d::r)
  | _,_=>none
def valOf (ρ:Operand→Option DV) (x:Operand):Option Value:=(ρ x).bind y9
def intOf (ρ:Operand→Option DV) (x:Operand):Option Int :=
 match ρ x with
 | some (.val (.int _ n))=>some n
 | _=>none
def Br:Option DV→Bool
 | some (.jD ..)=>true
 | _=>false
def Da (S:ax) (id n:Nat):Option (TypeId×Nat×List DV×Bool) :=
 match S[id]? with
 | some (.op e s l z)=>if n*s=l.length then some (e,s,l,z) else none
 | _=>none
def jU (s:Sem Value):Option DV:=(cg P s).bind zi
def kg (S:ax) (t:TypeId) (a:DV):Option DV :=
 match ty t,a with
 | some d,.ptr id off=>match S[id]? with
  | some (.cells l)=>ng d.k.isAgg d.size l off
  | _=>none
 | some d,.eL rows i off=>match rows[i]? with
  | some r=>ng d.k.isAgg d.size r.cells off
  | none=>none
 | some d,.fC id n off=>match Da S id n with
  | some (_,_,l,_)=>ng d.k.isAgg d.size l off
  | none=>none
 | _,_=>none
def eV (S:ax) (i:Nat) (b:DB):ax:=if i<S.length then S.set i b else S++[b]
def oq (S:ax) (t:TypeId) (a v:DV):Option ax :=
 match ty t,a with
 | some d,.ptr id off=>match S[id]? with
  | some (.cells l)=>if v.cells.length=d.size&&v.cells.all DV.one then (uA l off v.cells).map fun l'=>S.set id (.cells l') else none
  | _=>none
 | some d,.fC id n off=>match Da S id n with
  | some (e,s,l,false)=>if v.strip.cells.length=d.size&&v.strip.cells.all DV.ck then (uA l off v.strip.cells).map fun l'=>S.set id (.op e s l' false) else none
  | _=>none
 | _,_=>none
def kH (place:Nat→Option (Nat×Nat)) (cs:List DV):List (Nat×DV)→Option (List DV)
 | []=>some cs
 | (i,v)::r=>match place i with
  | none=>none
  | some (off,size)=>if v.cells.length=size then match uA cs off v.cells with
    | some jH=>kH place jH r
    | none=>none
   else none
def j7 (ρ:Operand→Option DV):List (Nat×Operand)→Option (List (Nat×DV))
 | []=>some []
 | (i,x)::l=>match ρ x,j7 ρ l with
  | some d,some r=>some ((i,d)::r)
  | _,_=>none
def rowOf (s:Nat) (agg:Bool) (l:List DV) (i:Nat):DV:=if agg then .agg ((l.drop (i*s)).take s) else l.getD (i*s) bh
def rowsOf (s:Nat) (agg:Bool) (l:List DV) (n:Nat):List DV:=(List.range n).map (rowOf s agg l)
def fG:Nat:=140737488355328
def jK (S:ax) (aH:Nat) (t:TypeId) (a b:DV):Option (DV×ax) :=
 match ty t,a,b with
 | some ⟨.slice e s lK _,_,_⟩,.sl rows tok full,.sl news _ _ =>
  if news.isEmpty then some (a,S)
  else match ty e with
  | some ⟨_,_,some _⟩=>if decide (0<s)&&decide ((rows.length+news.length)*lK≤fG)&&decide (rows.length+news.length≤140737488355328-4096)&&news.all (fun r=>decide (r.cells.length=s)) then
   let ady:Option (DV×ax):=if full.full&&rows.all (fun r=>decide (r.cells.length=s)) then some (.sl (rows++news) (some aH) ⟨false,none⟩,eV S aH (.tail e s ((rows.length+news.length)*s))) else none
   match tok with
   | none=>ady
   | some t=>match S[t]? with
    | some (.tail e' s' n)=>if e'=e&&s'=s&&n=rows.length*s then some (.sl (rows++news) (some t) ⟨false,none⟩,S.set t (.tail e s ((rows.length+news.length)*s))) else none
    | _=>none
   else none
  | _=>none
 | _,_,_=>none
def nH (S:ax) (aH:Nat) (t:TypeId) (a b:DV):Option (DV×ax) :=
 match ty t,b with
 | some ⟨.slice e s lK agg,_,_⟩,.sl news _ _=>match ty e with
  | some ⟨_,_,some _⟩=>match a with
   | .jD id n _=>if decide (0<s)&&(agg||s==1)&&decide ((n+news.length)*lK≤fG)&&decide (n+news.length≤140737488355328-4096)&&news.all (fun r=>decide (r.cells.length=s)) then match Da S id n with
    | some (e',s',l,false)=>if e'=e&&s'=s then if news.isEmpty then some (a,S) else some (.jD id (n+news.length) agg,S.set id (.op e s (l++flat news) false)) else none
    | _=>none
    else none
   | .sl [] none f=>if news.isEmpty then some (a,S) else if f.full&&decide (0<s)&&(agg||s==1)&&decide (news.length*lK≤fG)&&decide (news.length≤140737488355328-4096)&&news.all (fun r=>decide (r.cells.length=s)) then some (.jD aH news.length agg,eV S aH (.op e s (flat news) false)) else none
   | _=>none
  | _=>none
 | _,_=>none
def lS (S:ax):DV→DV
 | .jD id n agg=>match Da S id n with
  | some (_,s,l,true)=>if decide (0<s)&&(agg||s==1) then .sl (rowsOf s agg l n) none ⟨false,some false⟩ else .jD id n agg
  | _ => .jD id n agg
 | d=>d
def uH (S:ax):DV→ax
 | .jD id n _=>match Da S id n with
  | some (e,s,l,false)=>S.set id (.op e s l true)
  | _=>S
 | _=>S
def ic (ρ:Operand→Option DV) (x:Option Operand) (afj ez:Nat):Option Nat :=
 match x with
 | none=>some afj
 | some x=>match intOf ρ x with
  | some i=>if 0≤i∧i.toNat≤ez then some i.toNat else none
  | none=>none
def JG (rows:List DV) (f:SF):Option Bool:=if rows.isEmpty then f.isNil else some false
def BF (op:BinOp) (t:TypeId):Option DV→Option DV→Option DV
 | some (.sl rows _ f),some (.sl [] _ ⟨_,some true⟩)=>match ty t,JG rows f with
  | some ⟨.slice _ _ _ _,_,_⟩,some b=>match op with
   | .eql=>some (.val (.bool b))
   | .neq=>some (.val (.bool (!b)))
   | _=>none
  | _,_=>none
 | _,_=>none
def qC (rows:List DV) (full:SF) (l h:Nat) (m:Option Nat):Option DV :=
 if l≤h then match m with
  | none=>some (.sl ((rows.take h).drop l) none ⟨full.full&&h==rows.length,JG rows full⟩)
  | some m=>if h≤m then some (.sl ((rows.take h).drop l) none ⟨m==h,JG rows full⟩) else none
 else none
def wR (g:FuncId) (args:List DV) (S:ax):Option (DV×ax) :=
 if (args.map DV.strip).all DV.pure then match aM g (args.map DV.strip) with
  | some v=>some (v,S)
  | none=>call g args S
 else call g args S
def Ld (p:Value×Value):MapEntry:=⟨p.1,p.2,0⟩
def Hj (t:TypeId) (es:List MapEntry) (k:Value) (ok:Bool):Sem Value:=do
 let .map key elem ← underlying t | stuck "Lookup: map type expected"
 Instr.checkKey es.isEmpty 10000 key k
 let (v,o) ← match ← Instr.findKey key k es with
  | some (_,v)=>pure (v,true)
  | none=>pure (← zeroValue elem,false)
 pure (if ok then .tuple #[v,.bool o] else v)
def Hx (t:TypeId) (es:List MapEntry) (k:Value):Sem (Option (Nat×Value)):=do
 let .map key _ ← underlying t | stuck "MapUpdate: map type expected"
 Instr.checkKey false 10000 key k
 Instr.findKey key k es
def Hf:Value→Option DV
 | .tuple vs=>match vs.toList with
  | [v,.bool b]=>(zi v).map fun d => .gd [d,.val (.bool b)]
  | _=>none
 | v=>zi v
def JC (es:List (Value×Value)) (k v:Value):Option (Nat×Value)→Option (List (Value×Value))
 | none=>some (es++[(k,v)])
 | some (i,_)=>match es[i]? with
  | some (k',_)=>if Instr.sameBits 10000 k' k then some (es.set i (k,v)) else none
  | none=>none
def ah (ρ:Operand→Option DV) (o:Oper) (S:ax) (aH:Nat):Option (DV×ax) :=
 match o.op with
 | .move x | .assign x=>(ρ x).map (·,S)
 | .pick c a b=>match ρ c with
  | some (.val (.bool t))=>(if t then ρ a else ρ b).map (·,S)
  | _=>none
 | .alloc e=>match ty e with
  | some ⟨_,_,some z⟩=>some (.ptr aH 0,eV S aH (.cells z))
  | _=>none
 | .box _ x=>match ρ x with
  | some d=>some (.ptr aH 0,eV S aH (.cells d.cells))
  | none=>none
 | .build t ps=>match ty t,j7 ρ ps.toList with
  | some ⟨.struct fs,_,some z⟩,some l=>(kH (fun i=>(fs[i]?).map fun f=>(f.1,f.2.1)) z l).map fun cs=>(.agg cs,S)
  | some ⟨.array _ s _,_,some z⟩,some l=>(kH (fun i=>some (i*s,s)) z l).map fun cs=>(.agg cs,S)
  | _,_=>none
 | .buildSlice t n ps=>match ty t,j7 ρ ps.toList with
  | some ⟨.slice e s _ agg,_,_⟩,some l=>match ty e with
   | some ⟨_,_,some z⟩=>if decide (0<s)&&decide (n*s≤16777216) then
     match kH (fun i=>some (i*s,s)) ((List.replicate n z).flatten) (l.map fun(i,v)=>(i,v.strip)) with
     | some cs=>if cs.all DV.ck&&(agg||s==1) then some (match ty.h o with
      | 1=>(.jD aH n agg,eV S aH (.op e s cs false))
      | _=>(.sl (rowsOf s agg cs n) none ⟨true,some false⟩,S)) else none
     | none=>none
    else none
   | _=>none
  | _,_=>none
 | .makeSlice t a b=>match ty t,intOf ρ a,intOf ρ b with
  | some ⟨.slice e s lK agg,_,_⟩,some n,some m=>match ty e with
   | some ⟨_,_,some z⟩=>if decide (0≤n)&&decide (m=n)&&decide (0<s)&&(agg||s==1)&&decide (n≤140737488355328-4096)&&decide (n.toNat*lK≤fG)&&(z.map DV.aV).all DV.ck then
     some (.jD aH n.toNat agg,eV S aH (.op e s (List.replicate n.toNat (z.map DV.aV)).flatten false)) else none
   | _=>none
  | _,_,_=>none
 | .load t a=>match ρ a with
  | some a=>(kg ty S t a).map (·,S)
  | none=>none
 | .store t a x=>match ρ a,ρ x with
  | some a,some v=>(oq ty S t a v).map (bh,·)
  | _,_=>none
 | .nilCheck x=>match ρ x with
  | some (.ptr id off)=>some (.ptr id off,S)
  | _=>none
 | .binOp op t x y _=>match valOf ρ x,valOf ρ y with
  | some a,some b=>(jU P (do eqGuard op t x y a b; binOp op t a b)).map (·,S)
  | _,_=>(BF ty op t (ρ x) (ρ y)).map (·,S)
 | .unOp op _ x=>match valOf ρ x with
  | some a=>(jU P (Op.unary op a)).map (·,S)
  | none=>none
 | .convert s d x=>match valOf ρ x with
  | some a=>(jU P (Go.convert s d a)).map (·,S)
  | none=>none
 | .makeFunc (.func f) fs cs=>match evs ρ fs.toList,evs ρ cs.toList with
  | some a,some b=>some (.fn f a b,S)
  | _,_=>none
 | .slice t x lo hi mx=>match ty t,ρ x with
  | some ⟨.slice _ s _ _,_,_⟩,some (.sl rows _ full)=>if !rows.all (fun r=>decide (r.cells.length=s)) then none else
   match ic ρ mx rows.length rows.length with
   | some m=>match ic ρ hi rows.length m with
    | some h=>match ic ρ lo 0 h with
     | some l=>if hi.isNone&&mx.isSome then none else (qC rows full l h (mx.map fun _=>m)).map (·,S)
     | none=>none
    | none=>none
   | none=>none
  | _,_=>none
 | .fieldAddr t x f=>match ty t,ρ x with
  | some ⟨.struct fs,_,_⟩,some (.ptr id off)=>match fs[f]? with
   | some (o,s,_)=>if 0<s then some (.ptr id (off+o),S) else none
   | none=>none
  | some ⟨.struct fs,_,_⟩,some (.eL rows i off)=>match fs[f]? with
   | some (o,s,_)=>if 0<s then some (.eL rows i (off+o),S) else none
   | none=>none
  | some ⟨.struct fs,_,_⟩,some (.fC id n off)=>match fs[f]?,Da S id n with
   | some (o,s,_),some _=>if 0<s then some (.fC id n (off+o),S) else none
   | _,_=>none
  | _,_=>none
 | .field t x f=>match ty t,ρ x with
  | some ⟨.struct fs,_,_⟩,some (.agg l)=>match fs[f]? with
   | some (off,s,agg)=>(ng agg s l off).map (·,S)
   | none=>none
  | _,_=>none
 | .indexAddr t x i=>match ty t,ρ x,intOf ρ i with
  | some ⟨.slice _ s _ _,_,_⟩,some (.sl rows _ _),some n=>if 0≤n then
    match rows[n.toNat]? with
    | some r=>if r.cells.length=s then some (.eL rows n.toNat 0,S) else none
    | none=>none
   else none
  | some ⟨.array k s _,_,_⟩,some (.ptr id off),some n=>if 0≤n∧n.toNat<k then some (.ptr id (off+n.toNat*s),S) else none
  | some ⟨.array k s _,_,_⟩,some (.eL rows j off),some n=>if 0≤n∧n.toNat<k then some (.eL rows j (off+n.toNat*s),S) else none
  | some ⟨.slice _ s _ _,_,_⟩,some (.jD id m _),some n=>match Da S id m with
   | some (_,s',_,_)=>if 0≤n∧n.toNat<m∧s'=s then some (.fC id m (n.toNat*s),S) else none
   | none=>none
  | _,_,_=>none
 | .index t x i=>match ty t,ρ x,intOf ρ i with
  | some ⟨.array k s agg,_,_⟩,some (.agg l),some n=>if 0≤n∧n.toNat<k then (ng agg s l (n.toNat*s)).map (·,S) else none
  | _,_,_=>none
 | .makeMap _ none=>some (.map aH,eV S aH (.map []))
 | .lookup t m k ok=>match ρ m,valOf ρ k with
  | some (.map id),some kv=>match S[id]? with
   | some (.map es)=>((cg P (Hj t (es.map Ld) kv ok)).bind Hf).map (·,S)
   | _=>none
  | _,_=>none
 | .mapUpdate t m k v=>match ρ m,valOf ρ k,valOf ρ v with
  | some (.map id),some kv,some vv=>match S[id]? with
   | some (.map es)=>match cg P (Hx t (es.map Ld) kv) with
    | some r=>(JC es kv vv r).map fun es'=>(bh,S.set id (.map es'))
    | none=>none
   | _=>none
  | _,_,_=>none
 | .extract t i=>match ρ t with
  | some (.gd l)=>(l[i]?).map (·,S)
  | _=>none
 | .call { callee := .builtin b,args,argTypes }=>match b,args.toList,argTypes.toList with
  | .len,[x],[t]=>match ty t,ρ x with
   | some ⟨.slice _ _ _ _,_,_⟩,some (.sl rows _ _)=>some (.val (.int .i64 rows.length),S)
   | some ⟨.slice _ _ _ _,_,_⟩,some (.jD _ n _)=>some (.val (.int .i64 n),S)
   | some ⟨.array n _ _,_,_⟩,_=>some (.val (.int .i64 n),S)
   | _,some (.val v)=>(jU P (Builtin.len_ #[t] o.type #[v])).map (·,S)
   | _,_=>none
  | .append,[x,y],[t,u]=>if t=u then match ρ x,ρ y with
    | some a,some b=>match a with
     | .jD .. => nH ty S aH t a b
     | _=>match ty.h o with
      | 1=>nH ty S aH t a b
      | _=>jK ty S aH t a b
    | _,_=>none
   else none
  | .min,xs,_=>match (evs ρ xs).bind sG with
   | some vs=>(jU P (Builtin.min_ argTypes o.type vs.toArray)).map (·,S)
   | none=>none
  | .max,xs,_=>match (evs ρ xs).bind sG with
   | some vs=>(jU P (Builtin.max_ argTypes o.type vs.toArray)).map (·,S)
   | none=>none
  | _,_,_=>none
 | .call { callee := .value f,args,argTypes:=_ }=>match ρ f,evs ρ args.toList with
  | some (.fn g fs cs),some xs=>match ty.h o with
   | 1=>call g (fs++xs++cs) S
   | _=>wR aM call g (fs++xs++cs) S
  | some (.xV id),some xs=>yf id xs S
  | _,_=>none
 | _=>none
def cu (ops:Array Oper) (env:List DV) (o:Oper):Bool :=
 match o.guard with
 | none=>true
 | some (j,want)=>match (ops[j]?).bind (·.dst) with
  | some d=>match env[d]? with
   | some (.val (.bool b))=>b==want
   | _=>false
  | none=>false
def gV (env:List DV) (dst:Option Tmp) (v:DV):List DV :=
 match dst with
 | some d=>env.set d v
 | none=>env
def pR (env:List DV) (S:ax) (x:Operand):ax:=match jb env x with | some d=>uH S d | none=>S
def Dj (o:Oper) (env:List DV) (S:ax):List DV×ax :=
 match ty.h o with
 | 2 =>
  let S':=o.op.operands.toList.foldl (pR env) S
  (env.map (lS S'),S')
 | _=>(env,S)
def E8 (ops:Array Oper):List Oper→List DV→ax→Option (List DV×ax)
 | [],env,S=>some (env,S)
 | o::r,env,S =>
  if cu ops env o then match Dj ty o env S with
   | (env,S)=>match ah P ty aM call yf (jb env) o S S.length with
    | some (v,S')=>E8 ops r (gV env o.dst v) S'
    | none=>none
  else E8 ops r (gV env o.dst bh) S
def dc (ρ:Operand→Option DV) (o:Oper) (S:ax):Option DV :=
 match o.op with
 | .alloc _ | .box .. | .store .. | .makeMap .. | .mapUpdate .. | .makeSlice .. => none
 | .buildSlice .. => match ty.h o with
  | 1=>none
  | _=>(ah P ty aM call yf ρ o S S.length).map (·.1)
 | .call { callee := .builtin .append,.. }=>none
 | .call { callee := .value f,args,argTypes:=_ }=>match ρ f,evs ρ args.toList with
  | some (.fn g fs cs),some xs=>if ty.h o=1 then none else if ((fs++xs++cs).map DV.strip).all DV.pure then aM g ((fs++xs++cs).map DV.strip) else none
  | _,_=>none
 | _=>(ah P ty aM call yf ρ o S S.length).map (·.1)
def pn (ops:Array Oper) (S:ax):List Oper→List DV→Option (List DV)
 | [],env=>some env
 | o::r,env =>
  if cu ops env o then match dc P ty aM call yf (jb env) o S with
   | some v=>pn ops S r (gV env o.dst v)
   | none=>none
  else pn ops S r (gV env o.dst bh)
def zg (call:bP) (g:FuncId) (args:List DV) (S:ax):Option (Nat×DV×List DV) :=
 match args with
 | .ptr i off::rest=>match S[i]? with
  | some (.cells l) =>
   if (rest.map DV.strip).all DV.pure&&(l.map DV.aV).all DV.ck then
    match call g (.ptr 0 off::rest.map DV.strip) [.cells (l.map DV.aV)] with
    | some (v,.cells l'::_)=>if v.strip.pure&&(l'.map DV.aV).all DV.ck then some (i,v.strip,l'.map DV.aV) else none
    | _=>none
   else none
  | _=>none
 | _=>none
def LQ (call:bP):bP:=fun g args S=>match zg call g args S with
 | some (i,v,l)=>some (v,S.set i (.cells l))
 | none=>call g args S
structure dD where
 ids:Option (List Nat)
 wr:Bool
def aL (ρ:Operand→Option DV) (o:Oper) (S:ax) (aH:Nat):Option (DV×ax×dD) :=
 match o.op with
 | .alloc _ | .box .. | .makeMap .. => match S[aH]? with
  | some .none=>(ah P ty aM call yf ρ o S aH).map fun r=>(r.1,r.2,⟨some [aH],true⟩)
  | _=>none
 | .store _ a _=>match ρ a with
  | some (.ptr id _)=>(ah P ty aM call yf ρ o S aH).map fun r=>(r.1,r.2,⟨some [id],true⟩)
  | some (.fC id _ _)=>(ah P ty aM call yf ρ o S aH).map fun r=>(r.1,r.2,⟨some [id],true⟩)
  | _=>none
 | .fieldAddr _ a _=>match ρ a with
  | some (.fC id _ _)=>(ah P ty aM call yf ρ o S aH).map fun r=>(r.1,r.2,⟨some [id],false⟩)
  | _=>(ah P ty aM call yf ρ o S aH).map fun r=>(r.1,r.2,⟨some [],false⟩)
 | .indexAddr _ a _=>match ρ a with
  | some (.jD id _ _)=>(ah P ty aM call yf ρ o S aH).map fun r=>(r.1,r.2,⟨some [id],false⟩)
  | _=>(ah P ty aM call yf ρ o S aH).map fun r=>(r.1,r.2,⟨some [],false⟩)
 | .buildSlice .. => match ty.h o with
  | 1=>none
  | _=>(ah P ty aM call yf ρ o S aH).map fun r=>(r.1,r.2,⟨some [],false⟩)
 | .makeSlice .. => none
 | .lookup _ m .. => match ρ m with
  | some (.map id)=>(ah P ty aM call yf ρ o S aH).map fun r=>(r.1,r.2,⟨some [id],false⟩)
  | _=>none
 | .mapUpdate _ m .. => match ρ m with
  | some (.map id)=>(ah P ty aM call yf ρ o S aH).map fun r=>(r.1,r.2,⟨some [id],true⟩)
  | _=>none
 | .load _ a=>match ρ a with
  | some (.ptr id _)=>(ah P ty aM call yf ρ o S aH).map fun r=>(r.1,r.2,⟨some [id],false⟩)
  | some (.fC id _ _)=>(ah P ty aM call yf ρ o S aH).map fun r=>(r.1,r.2,⟨some [id],false⟩)
  | _=>(ah P ty aM call yf ρ o S aH).map fun r=>(r.1,r.2,⟨some [],false⟩)
 | .call { callee := .builtin .append,args,.. }=>if ty.h o=1 then none else if Br ((args[0]?).bind ρ) then none else match S[aH]?,(args[0]?).bind ρ with
  | some .none,some (.sl _ (some t) _)=>(ah P ty aM call yf ρ o S aH).map fun r=>(r.1,r.2,⟨some [t,aH],true⟩)
  | some .none,_=>(ah P ty aM call yf ρ o S aH).map fun r=>(r.1,r.2,⟨some [aH],true⟩)
  | _,_=>none
 | .call { callee := .value f,args,argTypes:=_ }=>match ρ f,evs ρ args.toList with
  | some (.fn g fs cs),some xs =>
   let as_:=fs++xs++cs
   if ty.h o=1 then none
   else if (as_.map DV.strip).all DV.pure then (aM g (as_.map DV.strip)).map fun v=>(v,S,⟨some [],false⟩)
   else match zg call g as_ S with
    | some (i,v,l)=>some (v,S.set i (.cells l),⟨some [i],true⟩)
    | none=>(call g as_ S).map fun r=>(r.1,r.2,⟨none,true⟩)
  | some (.xV id),some xs=>(yf id xs S).map fun r=>(r.1,r.2,⟨none,true⟩)
  | _,_=>none
 | _=>(ah P ty aM call yf ρ o S aH).map fun r=>(r.1,r.2,⟨some [],false⟩)
def rF (ops:Array Oper) (n0:Nat):List Oper→Nat→List DV→ax→Option (List DV×ax×List dD)
 | [],_,env,S=>some (env,S,[])
 | o::r,i,env,S =>
  if cu ops env o then match aL P ty aM call yf (jb env) o S (n0+i) with
   | some (v,S',f)=>match rF ops n0 r (i+1) (gV env o.dst v) S' with
    | some (aD,vk,fs)=>some (aD,vk,f::fs)
    | none=>none
   | none=>none
  else match rF ops n0 r (i+1) (gV env o.dst bh) S with
   | some (aD,vk,fs)=>some (aD,vk,⟨some [],false⟩::fs)
   | none=>none
def kW (ops:Array Oper) (o:Oper):List Tmp :=
 o.dst.toList++o.op.operands.toList.filterMap (fun | .tmp t=>some t | _=>none)++(match o.guard with | some (j,_)=>((ops[j]?).bind (·.dst)).toList | none=>[])
def kV (ops:Array Oper) (b:Array Nat):Bool :=
 (ops.toList.zipIdx.all fun(o,i)=>o.after.all fun e => !Region.binds .any e||decide (e.on<i)) &&
 ops.toList.zipIdx.all fun(o,i)=>ops.toList.zipIdx.all fun(o',j)=>match o'.dst with
  | some d=>i==j || !(kW ops o).contains d||(b.getD j 0).testBit i||(b.getD i 0).testBit j
  | none=>true
def dD.meets (f g:dD):Bool :=
 (f.wr||g.wr)&&match f.ids,g.ids with
 | none,none=>true
 | none,some l => !l.isEmpty
 | some l,none => !l.isEmpty
 | some l,some m=>l.any m.contains
def sw (b:Array Nat) (fs:List dD):Bool :=
 fs.zipIdx.all fun(f,i)=>fs.zipIdx.all fun(g,j)=>i==j || !f.meets g||(b.getD j 0).testBit i||(b.getD i 0).testBit j
def FX (o:Oper):Bool :=
 match o.op with
 | .call { callee := .value _,args:=_,argTypes }=>match argTypes[0]? with
  | some t=>match P.underlying t with
   | some (.pointer _)=>true
   | _=>false
  | none=>false
 | _=>false
def oQ (ops:Array Oper) (draw:Bool) (env:List DV) (S:ax):Option (List DV×ax) :=
 if draw then if !kV ops (Region.before ops) then none else match if ops.toList.any (FX P) then none else pn P ty aM call yf ops S ops.toList env with
  | some aD=>some (aD,S)
  | none=>match rF P ty aM call yf ops S.length ops.toList 0 env (S++List.replicate ops.size .none) with
   | some (aD,S',fs)=>if sw (Region.before ops) fs then some (aD,S') else none
   | none=>none
 else E8 P ty aM call yf ops ops.toList env S
inductive DX where
 | normal
 | exit (id:Nat)
 | ret
 deriving DecidableEq
def ni (f:List DV→ax→Option (DX×List DV×ax)):Nat→List DV→ax→Option (DX×List DV×ax)
 | 0,_,_=>none
 | n+1,env,S=>match f env S with
  | some (.normal,aD,S')=>ni f n aD S'
  | r=>r
def ct (L:Nat) (fn:FuncId) (iJ:Bool):Code→List DV→ax→Option (DX×List DV×ax)
 | .skip,env,S | .label _,env,S=>some (.normal,env,S)
 | .region _ ops draw,env,S=>(oQ P ty aM call yf ops draw env S).map (.normal,·)
 | .seq a b,env,S=>match ct L fn iJ a env S with
  | some (.normal,aD,S')=>ct L fn iJ b aD S'
  | r=>r
 | .cond c a b,env,S=>match jb env c with
  | some (.val (.bool true))=>ct L fn iJ a env S
  | some (.val (.bool false))=>ct L fn iJ b env S
  | _=>none
 | .block id c,env,S=>match ct L fn iJ c env S with
  | some (.exit jE,aD,S')=>some (if jE=id then .normal else .exit jE,aD,S')
  | r=>r
 | .loop c,env,S=>ni (ct L fn iJ c) L env S
 | .scope c,env,S=>ct L fn iJ c env S
 | .exit id,env,S=>some (.exit id,env,S)
 | .ret,env,S=>some (.ret,env,S)
 | .rangeFunc f ps Nl body,env,S=>if iJ then none else match jb env f with
  | some (.fn g fs cs)=>match call g (fs++[.xV (S.length+1)]++cs) (S++[.defer,.loop ⟨.ready,none,fn,env,ps.toList,Nl,body,S.length⟩]) with
   | some (_,S')=>match S'[S.length+1]? with
    | some (.loop r)=>if r.st == .busy then none else match r.kB with
     | none=>some (.normal,env,S'.set (S.length+1) (.loop { r with st := .exhausted }))
     | some .ret=>some (.ret,env,S'.set (S.length+1) (.loop { r with st := .exhausted }))
     | some (.exit e)=>some (.exit e,env,S'.set (S.length+1) (.loop { r with st := .exhausted }))
     | _=>none
    | _=>none
   | none=>none
  | _=>none
 | _,_,_=>none
def Bo:List DV→List (Tmp×DV)→List DV
 | env,[]=>env
 | env,(t,d)::l=>Bo (env.set t d) l
def JY (L:Nat):fI:=fun id args S=>match S[id]? with
 | some (.loop r)=>if args.length=r.params.length then
   match ct P ty aM call yf L r.fn true r.assign (Bo r.env (r.params.zip args)) S with
   | some (.normal,Bf,S1)=>match S1[id]? with
    | some (.loop r1)=>if r1.st = .ready then
      match ct P ty aM call yf L r.fn true r.body Bf (S1.set id (.loop { r1 with st := .busy })) with
      | some (e,_,S2)=>match S2[id]? with
       | some (.loop r2)=>match e with
        | .normal=>some (.val (.bool true),S2.set id (.loop { r2 with st := .ready,kB:=none }))
        | .ret=>some (.val (.bool false),S2.set id (.loop { r2 with st := .done,kB:=some .ret }))
        | .exit i=>some (.val (.bool false),S2.set id (.loop { r2 with st := .done,kB:=some (.exit i) }))
       | _=>none
      | none=>none
     else none
    | _=>none
   | _=>none
  else none
 | _=>none
def si (env:List DV) (S:ax):List ResultVar→Option (List DV)
 | []=>some []
 | .tmp t::r=>(si env S r).map (env.getD t bh::·)
 | .cell a t::r=>match kg ty S t (env.getD a bh),si env S r with
  | some v,some l=>some (v::l)
  | _,_=>none
def oneOf:List DV→DV
 | [d]=>d
 | l => .gd l
def uW (L:Nat) (f:FuncId) (fn:Func) (args:List DV) (S:ax):Option (DV×ax) :=
 match fn.body with
 | some c=>match ct P ty aM call yf L f false c (args++List.replicate (fn.ntmps-args.length) bh) S with
  | some (.normal,env,S') | some (.ret,env,S')=>(si ty env S' fn.results.toList).map fun l=>(oneOf l,S')
  | _=>none
 | none=>none
end
def kS (bG:bV) (call:bP):bV:=fun f args=>match bG f args with
 | some v=>if v.pure then some v else none
 | none=>match call f args [] with
  | some (v,S)=>if (lS (uH S v) v).strip.pure then some (lS (uH S v) v).strip else none
  | none=>none
def ee (P:Program) (ty:ir) (bG:bV) (L:Nat):Nat→bP×fI
 | 0=>(fun _ _ _=>none,fun _ _ _=>none)
 | n+1=>(fun f args S=>match P.funcs[f]? with
   | some fn=>uW P ty (kS bG (ee P ty bG L n).1) (ee P ty bG L n).1 (ee P ty bG L n).2 L f fn args S
   | none=>none,
  JY P ty (kS bG (ee P ty bG L n).1) (ee P ty bG L n).1 (ee P ty bG L n).2 L)
def afx (P:Program) (ty:ir) (bG:bV) (L n:Nat):bP:=(ee P ty bG L n).1
end Go.Di
end
section
namespace Go.Tv
open Go Go.Di
inductive TT where
 | int (k:IntKind)
 | bool
 | str
 | unit
 | pair (a b:TT)
 | sl (t:TT)
 deriving DecidableEq
abbrev TT.den:TT→Type
 | .int _=>Int
 | .bool=>Bool
 | .str=>ByteArray
 | .unit=>Unit
 | .pair a b=>a.den×b.den
 | .sl t=>List t.den
def TT.Zi:(t:TT)→t.den
 | .int _=>(0:Int)
 | .bool=>false
 | .str=>ByteArray.empty
 | .unit=>()
 | .pair a b=>(a.Zi,b.Zi)
 | .sl _=>[]
def TT.size:TT→Nat
 | .unit=>0
 | .pair a b=>a.size+b.size
 | _=>1
def TT.agg:TT→Bool
 | .unit | .pair _ _=>true
 | _=>false
inductive Ap where
 | no
 | full
 | oE (g:Nat)
inductive TV where
 | unk
 | val (v:Value)
 | gq
 | agg (l:List TV)
 | gd (l:List TV)
 | sl (t:TT) (l:List t.den) (ap:Ap)
 | ptr (id off:Nat)
 | eL (t:TT) (l:List t.den) (i off:Nat)
 | fn (f:FuncId) (first captured:List TV)
 | mp (id:Nat)
 | so (g:Nat) (t:TT)
 | sp (g:Nat) (t:TT) (i off:Nat)
instance:Inhabited TV:=⟨.unk⟩
def TT.cells:(t:TT)→t.den→List TV
 | .int k,n=>[.val (.int k n)]
 | .bool,b=>[.val (.bool b)]
 | .str,s=>[.val (.string s)]
 | .unit,_=>[]
 | .pair a b,x=>a.cells x.1++b.cells x.2
 | .sl t,l=>[.sl t l .no]
def ofInt (k:IntKind):List TV→Option (Int×List TV)
 | .val (.int k' n)::r=>if k'=k then some (n,r) else none
 | _=>none
def ofBool:List TV→Option (Bool×List TV)
 | .val (.bool b)::r=>some (b,r)
 | _=>none
def ofStr:List TV→Option (ByteArray×List TV)
 | .val (.string b)::r=>some (b,r)
 | _=>none
def Vk (t:TT):List TV→Option (List t.den×List TV)
 | .sl t' l _::r=>if h:t'=t then some (h▸l,r) else none
 | .gq::r=>some ([],r)
 | _=>none
def TT.of:(t:TT)→List TV→Option (t.den×List TV)
 | .int k,l=>ofInt k l
 | .bool,l=>ofBool l
 | .str,l=>ofStr l
 | .unit,l=>some ((),l)
 | .pair a b,l=>match a.of l with
  | some (x,r1)=>match b.of r1 with
   | some (y,r2)=>some ((x,y),r2)
   | none=>none
  | none=>none
 | .sl t,l=>Vk t l
def wU (agg:Bool) (r:DV):Prop:=if agg then ∃ l,r = .agg l else ∀ l,r ≠ .agg l
def eN {α:Type} (R:α→List DV→Prop) (agg:Bool):List α→List DV→Prop
 | [],[]=>True
 | x::l,r::rows=>(R x r.cells∧wU agg r)∧eN R agg l rows
 | _,_=>False
def CR:(t:TT)→t.den→List DV→Prop
 | .int k,n,cs=>cs=[.val (.int k n)]
 | .bool,b,cs=>cs=[.val (.bool b)]
 | .str,s,cs=>cs=[.val (.string s)]
 | .unit,_,cs=>cs=[]
 | .pair a b,x,cs=>∃ c1 c2,cs=c1++c2∧CR a x.1 c1∧CR b x.2 c2
 | .sl t,l,cs=>∃ rows f,cs=[.sl rows none f]∧eN (CR t) t.agg l rows
abbrev mm:=Nat→Option Nat
def uL (ι:mm) (S:ax) (n:Nat) (tok:Option Nat) (f:SF):Ap→Prop
 | .no=>True
 | .full=>tok=none∧f.full=true
 | .oE g=>(tok=none∧f.full=true∧n=0)∨∃ t e s,ι g=some t∧tok=some t∧S[t]? = some (.tail e s (n*s))
mutual
def RT (ι:mm) (S:ax):TV→DV→Prop
 | .unk,_=>True
 | .val v,.val u=>u=v
 | .gq,.sl rows tok f=>rows=[]∧tok=none∧f=⟨true,some true⟩
 | .agg l,.agg m=>dw ι S l m
 | .gd l,.gd m=>dw ι S l m
 | .sl t l ap,.sl rows tok f=>eN (CR t) t.agg l rows∧uL ι S rows.length tok f ap
 | .ptr id off,.ptr jE uB=>ι id=some jE∧uB=off
 | .eL t l i off,.eL rows i' uB=>eN (CR t) t.agg l rows∧i'=i∧uB=off∧i<l.length
 | .fn f a b,.fn f' a' b'=>f'=f∧dw ι S a a'∧dw ι S b b'
 | .mp id,.map jE=>ι id=some jE
 | .so g t,.jD id n agg=>ι g=some id∧agg=t.agg∧∃ e s l z,S[id]? = some (.op e s l z)∧n*s=l.length
 | .sp g t i off,.fC id n uB=>ι g=some id∧uB=i*t.size+off∧∃ e s l z,S[id]? = some (.op e s l z)∧n*s=l.length∧i*t.size+t.size≤l.length
 | _,_=>False
def dw (ι:mm) (S:ax):List TV→List DV→Prop
 | [],[]=>True
 | a::l,b::m=>RT ι S a b∧dw ι S l m
 | _,_=>False
end
section
variable {ι:mm} {S:ax}
theorem lz {α:Type} {R:α→List DV→Prop} {agg:Bool}:∀ {l:List α} {rows:List DV},eN R agg l rows→rows.length=l.length
 | [],[],_=>rfl
 | _::l,_::rows,h=>by simp[lz h.2]
theorem B1 {α:Type} {R:α→List DV→Prop} {agg:Bool}:∀ {l:List α} {rows:List DV} {i:Nat} {x:α},eN R agg l rows→l[i]? = some x→∃ r,rows[i]? = some r∧R x r.cells∧wU agg r
 | [],_,_,_,_,h=>by simp at h
 | _::_,[],_,_,h,_=>h.elim
 | y::l,r::rows,0,x,h,hx=>by
  simp only[List.getElem?_cons_zero,aB] at hx
  subst hx
  exact⟨r,rfl,h.1⟩
 | y::l,r::rows,i+1,x,h,hx=>by
  obtain⟨r',h1,h2⟩:=B1 (i:=i) h.2 (by simpa using hx)
  exact⟨r',by simpa using h1,h2⟩
theorem zK {α:Type} {R:α→List DV→Prop} {agg:Bool}:∀ {l m:List α} {rows X6:List DV},eN R agg l rows→eN R agg m X6→eN R agg (l++m) (rows++X6)
 | [],_,[],_,_,h=>h
 | _::_,_,_::_,_,h,k=>⟨h.1,zK h.2 k⟩
theorem qj {α:Type} {R:α→List DV→Prop} {agg:Bool}:∀ {l:List α} {rows:List DV} (n:Nat),eN R agg l rows→eN R agg (l.take n) (rows.take n)
 | _,_,0,_=>by simp[eN]
 | [],[],n+1,_=>by simp[eN]
 | _::_,_::_,n+1,h=>⟨h.1,qj n h.2⟩
theorem uc {α:Type} {R:α→List DV→Prop} {agg:Bool}:∀ {l:List α} {rows:List DV} (n:Nat),eN R agg l rows→eN R agg (l.drop n) (rows.drop n)
 | _,_,0,h=>h
 | [],[],n+1,_=>by simp[eN]
 | _::_,_::_,n+1,h=>uc n h.2
theorem mU:∀ {t:TT} {x:t.den} {cs:List DV},CR t x cs→cs.length=t.size
 | .int _,_,_,h=>by simp only[CR] at h; subst h; rfl
 | .bool,_,_,h=>by simp only[CR] at h; subst h; rfl
 | .str,_,_,h=>by simp only[CR] at h; subst h; rfl
 | .unit,_,_,h=>by simp only[CR] at h; subst h; rfl
 | .pair a b,x,_,h=>by
  simp only[CR] at h
  obtain⟨c1,c2,rfl,h1,h2⟩:=h
  simp only[b9,mU h1,mU h2,TT.size]
 | .sl t,_,_,h=>by
  simp only[CR] at h
  obtain⟨rows,f,rfl,-⟩:=h
  rfl
theorem jA {t:TT}:∀ {l:List t.den} {rows:List DV},eN (CR t) t.agg l rows→∀ r∈rows,r.cells.length=t.size
 | [],[],_,r,hr=>by simp at hr
 | _::l,r'::rows,h,r,hr=>by
  rcases bI.1 hr with rfl | hr
  ·exact mU h.1.1
  ·exact jA h.2 r hr
theorem iB:∀ {l:List TV} {m:List DV},dw ι S l m→m.length=l.length
 | [],[],_=>rfl
 | _::l,_::m,h=>by simp only[dw] at h; simp[iB h.2]
theorem cF:dw ι S [] []:=by simp only[dw]
theorem aP {a:TV} {d:DV} {l:List TV} {m:List DV} (h:RT ι S a d) (k:dw ι S l m):dw ι S (a::l) (d::m):=by simp only[dw]; exact⟨h,k⟩
theorem gf {a:TV} {d:DV} (h:RT ι S a d):dw ι S [a] [d]:=aP h cF
theorem aj {a:TV} {l:List TV} {m:List DV} (h:dw ι S (a::l) m):∃ d m',m=d::m'∧RT ι S a d∧dw ι S l m':=by
 cases m with
 | nil=>simp only[dw] at h
 | cons d m'=>simp only[dw] at h; exact⟨d,m',rfl,h⟩
theorem aU {m:List DV} (h:dw ι S [] m):m=[]:=by
 cases m with
 | nil=>rfl
 | cons d m'=>simp only[dw] at h
theorem tH:∀ {l:List TV} {m:List DV} {i:Nat} {a:TV},dw ι S l m→l[i]? = some a→∃ d,m[i]? = some d∧RT ι S a d
 | [],_,_,_,_,h=>by simp at h
 | b::l,m,0,a,h,hx=>by
  obtain⟨d,m',rfl,h1,-⟩:=aj h
  simp only[List.getElem?_cons_zero,aB] at hx
  subst hx
  exact⟨d,rfl,h1⟩
 | b::l,m,i+1,a,h,hx=>by
  obtain⟨d,m',rfl,-,h1⟩:=aj h
  obtain⟨d',h2,h3⟩:=tH (i:=i) h1 (by simpa using hx)
  exact⟨d',by simpa using h2,h3⟩
theorem fB:∀ {l l':List TV} {m m':List DV},dw ι S l m→dw ι S l' m'→dw ι S (l++l') (m++m')
 | [],l',m,m',h,k=>by rw[aU h]; exact k
 | a::l,l',m,m',h,k=>by
  obtain⟨d,m1,rfl,h1,h2⟩:=aj h
  exact aP h1 (fB h2 k)
theorem BX:∀ {l:List TV} {m:List DV} (n:Nat),dw ι S l m→dw ι S (l.take n) (m.take n)
 | _,_,0,_=>by simp only[List.take_zero]; exact cF
 | [],m,n+1,h=>by rw[aU h]; simp only[List.take_nil]; exact cF
 | a::l,m,n+1,h=>by
  obtain⟨d,m1,rfl,h1,h2⟩:=aj h
  exact aP h1 (BX n h2)
theorem BZ:∀ {l:List TV} {m:List DV} (n:Nat),dw ι S l m→dw ι S (l.drop n) (m.drop n)
 | _,_,0,h=>h
 | [],m,n+1,h=>by rw[aU h]; simp only[List.drop_nil]; exact cF
 | a::l,m,n+1,h=>by
  obtain⟨d,m1,rfl,-,h2⟩:=aj h
  exact BZ n h2
theorem AH:∀ {l:List TV} {m:List DV} (i:Nat) {a:TV} {d:DV},dw ι S l m→RT ι S a d→dw ι S (l.set i a) (m.set i d)
 | [],m,i,a,d,h,_=>by rw[aU h]; simp only[List.set_nil]; exact cF
 | b::l,m,0,a,d,h,k=>by
  obtain⟨d',m1,rfl,-,h2⟩:=aj h
  exact aP k h2
 | b::l,m,i+1,a,d,h,k=>by
  obtain⟨d',m1,rfl,h1,h2⟩:=aj h
  exact aP h1 (AH i h2 k)
theorem tF (d:DV):∀ n,dw ι S (List.replicate n .unk) (List.replicate n d)
 | 0=>cF
 | n+1=>by
  rw[List.replicate_succ,List.replicate_succ]
  exact aP (by simp only[RT]) (tF d n)
theorem sO {l:List TV} {m:List DV} (h:dw ι S l m) (i:Nat):RT ι S (l.getD i .unk) (m.getD i bh):=by
 rw[aN,aN]
 cases hi:l[i]? with
 | none=>simp only[Option.getD_none,RT]
 | some a =>
  obtain⟨d,h1,h2⟩:=tH h hi
  rw[h1]
  exact h2
theorem oz:∀ {t:TT} {x:t.den} {cs:List DV},CR t x cs→dw ι S (t.cells x) cs
 | .int _,_,_,h=>by simp only[CR] at h; subst h; exact gf (by simp only[RT])
 | .bool,_,_,h=>by simp only[CR] at h; subst h; exact gf (by simp only[RT])
 | .str,_,_,h=>by simp only[CR] at h; subst h; exact gf (by simp only[RT])
 | .unit,_,_,h=>by simp only[CR] at h; subst h; exact cF
 | .pair a b,x,_,h=>by
  simp only[CR] at h
  obtain⟨c1,c2,rfl,h1,h2⟩:=h
  exact fB (oz h1) (oz h2)
 | .sl t,_,_,h=>by
  simp only[CR] at h
  obtain⟨rows,f,rfl,h⟩:=h
  refine gf ?_
  simp only[RT,uL,and_true]
  exact h
theorem DU:∀ {t:TT} {l:List TV} {x:t.den} {r:List TV} {m:List DV},t.of l=some (x,r)→dw ι S l m→∃ c m',m=c++m'∧CR t x (c.map DV.aV)∧dw ι S r m'
 | .int k,l,x,r,m,h,hm=>by
  simp only[TT.of] at h
  unfold ofInt at h
  split at h
  ·split at h
   ·rename_i hk
    cases h
    obtain⟨d,m',rfl,h1,h2⟩:=aj hm
    cases d<;>simp only[RT] at h1
    subst h1
    subst hk
    exact⟨[_],m',rfl,by simp only[CR,bQ,fK,DV.aV],h2⟩
   ·cases h
  ·cases h
 | .bool,l,x,r,m,h,hm=>by
  simp only[TT.of] at h
  unfold ofBool at h
  split at h
  ·cases h
   obtain⟨d,m',rfl,h1,h2⟩:=aj hm
   cases d<;>simp only[RT] at h1
   subst h1
   exact⟨[_],m',rfl,by simp only[CR,bQ,fK,DV.aV],h2⟩
  ·cases h
 | .str,l,x,r,m,h,hm=>by
  simp only[TT.of] at h
  unfold ofStr at h
  split at h
  ·cases h
   obtain⟨d,m',rfl,h1,h2⟩:=aj hm
   cases d<;>simp only[RT] at h1
   subst h1
   exact⟨[_],m',rfl,by simp only[CR,bQ,fK,DV.aV],h2⟩
  ·cases h
 | .unit,l,x,r,m,h,hm=>by
  simp only[TT.of] at h
  cases h
  exact⟨[],m,rfl,by simp only[CR,fK],hm⟩
 | .pair a b,l,x,r,m,h,hm=>by
  simp only[TT.of] at h
  split at h
  ·rename_i x1 r1 h1
   split at h
   ·rename_i y r2 h2
    cases h
    obtain⟨c,m1,rfl,k1,k2⟩:=DU h1 hm
    obtain⟨c',m2,rfl,k3,k4⟩:=DU h2 k2
    exact⟨c++c',m2,by simp,by simp only[CR,gm]; exact⟨_,_,rfl,k1,k3⟩,k4⟩
   ·cases h
  ·cases h
 | .sl t,l,x,r,m,h,hm=>by
  simp only[TT.of] at h
  unfold Vk at h
  split at h
  ·split at h
   ·rename_i ht
    subst ht
    cases h
    obtain⟨d,m',rfl,h1,h2⟩:=aj hm
    cases d<;>simp only[RT] at h1
    rename_i rows tok f
    exact⟨[_],m',rfl,by simp only[CR,bQ,fK,DV.aV]; exact⟨rows,⟨false,f.isNil⟩,rfl,h1.1⟩,h2⟩
   ·cases h
  ·cases h
   obtain⟨d,m',rfl,h1,h2⟩:=aj hm
   cases d<;>simp only[RT] at h1
   obtain⟨rfl,rfl,rfl⟩:=h1
   exact⟨[_],m',rfl,by simp only[CR,bQ,fK,DV.aV]; exact⟨[],⟨false,some true⟩,rfl,by simp only[eN]⟩,h2⟩
  ·cases h
theorem qM:∀ {t:TT} {x:t.den} {cs:List DV},CR t x cs→cs.all DV.ck=true
 | .int _,_,_,h=>by simp only[CR] at h; subst h; rfl
 | .bool,_,_,h=>by simp only[CR] at h; subst h; rfl
 | .str,_,_,h=>by simp only[CR] at h; subst h; rfl
 | .unit,_,_,h=>by simp only[CR] at h; subst h; rfl
 | .pair a b,x,_,h=>by
  simp only[CR] at h
  obtain⟨c1,c2,rfl,h1,h2⟩:=h
  rw[mA,qM h1,qM h2]; rfl
 | .sl t,_,_,h=>by
  simp only[CR] at h
  obtain⟨rows,f,rfl,-⟩:=h
  rfl
end
end Go.Tv
end
