import GoSem.Step
section
namespace Go.Di
open Go
structure SF where
 full:Bool
 isNil:Option Bool
inductive DV where
 | val (v:Value)
 | agg (l:List DV)
 | ep (l:List DV)
 | sl (rows:List DV) (tok:Option Nat) (full:SF)
 | ptr (id off:Nat)
 | cV (rows:List DV) (i off:Nat)
 | fn (f:FuncId) (first captured:List DV)
 | map (id:Nat)
 | uN (id:Nat)
 | gI (id n:Nat) (agg:Bool)
 | dM (id n off:Nat)
instance:Inhabited DV:=⟨.val (.tuple #[])⟩
structure IK where
 st:LoopState
 iz:Option Code
 fn:FuncId
 env:List DV
 params:List Tmp
 assign:Code
 body:Code
 dfr:Nat
inductive DB where
 | none
 | cells (l:List DV)
 | tail (e:TypeId) (s n:Nat)
 | map (es:List (Value×Value))
 | defer
 | loop (r:IK)
 | op (e:TypeId) (s:Nat) (l:List DV) (z:Bool)
instance:Inhabited DB:=⟨.none⟩
abbrev ak:=List DB
def aO:DV := .val (.tuple #[])
def DV.cells:DV→List DV
 | .agg l=>l
 | d=>[d]
def flat (rows:List DV):List DV:=rows.flatMap DV.cells
def u9:Value→Bool
 | .agg _=>false
 | .tuple vs=>vs.size==0
 | _=>true
def Ct:Value→Option DV
 | .slice none 0 0=>some (.sl [] none ⟨true,some true⟩)
 | v=>if u9 v then some (.val v) else none
def nL:List Value→Option (List DV)
 | []=>some []
 | v::l=>match Ct v,nL l with
  | some d,some r=>some (d::r)
  | _,_=>none
def wu:Value→Option DV
 | .agg cs=>(nL cs.toList).map .agg
 | .func (.func f) fs cs=>if fs.size=0&&cs.size=0 then some (.fn f [] []) else none
 | v=>Ct v
def nJ:List DV→Option (List Value)
 | []=>some []
 | .val v::l=>(nJ l).map (v::·)
 | _=>none
def we:DV→Option Value
 | .val v=>some v
 | .agg l=>(nJ l).map fun r => .agg r.toArray
 | _=>none
def oU:List DV→Option (List Value)
 | []=>some []
 | d::l=>match we d,oU l with
  | some v,some r=>some (v::r)
  | _,_=>none
def DV.bn:DV→Bool
 | .val v => !(v matches .tuple _)
 | .sl _ none _=>true
 | _=>false
def DV.gV:DV→Bool
 | .agg l=>l.all DV.bn
 | .val _=>true
 | .sl _ none _=>true
 | _=>false
def DV.pure:DV→Bool
 | .ep l=>l.all DV.gV
 | d=>d.gV
def DV.aH:DV→DV
 | .sl r _ f => .sl r none ⟨false,f.isNil⟩
 | d=>d
def DV.cv:DV→DV
 | .agg l => .agg (l.map DV.aH)
 | .sl r _ f => .sl r none ⟨false,f.isNil⟩
 | d=>d
def DV.strip:DV→DV
 | .ep l => .ep (l.map DV.cv)
 | d=>d.cv
def DV.one:DV→Bool
 | .val v => !(v matches .tuple _)
 | .agg _ | .ep _=>false
 | _=>true
inductive TK where
 | one
 | struct (fs:List (Nat×Nat×Bool))
 | array (n s:Nat) (agg:Bool)
 | slice (e s b:Nat) (agg:Bool)
 deriving DecidableEq
structure TyD where
 k:TK
 size:Nat
 zero:Option (List DV)
def TK.isAgg:TK→Bool
 | .struct _ | .array _ _ _=>true
 | _=>false
section
variable (P:Program)
def lg (t:TypeId):Bool :=
 match P.underlying t with
 | some (.struct _) | some (.array _ _)=>true
 | _=>false
def bK {α:Type}:Sem α→Option α
 | .pure a=>some a
 | .program k=>bK (k P)
 | _=>none
def A7 (t:TypeId):Option TypeInfo :=
 match P.info? t,P.underlying t with
 | some i,some _=>some i
 | _,_=>none
def Aw (t:TypeId):Option TK :=
 match P.underlying t with
 | some (.struct fs)=>(fs.toList.mapM fun f=>(A7 P f.type).map fun i=>(f.offset,i.size,lg P f.type)).map .struct
 | some (.array n e)=>(A7 P e).map fun i => .array n i.size (lg P e)
 | some (.slice e)=>(A7 P e).map fun i => .slice e i.size i.bytes (lg P e)
 | some _=>some .one
 | none=>none
def zeroOf (i:TypeInfo):Option (List DV) :=
 match i.zero with
 | some z=>match nL z.cells.toList with
  | some cs=>if cs.length=i.size then some cs else none
  | none=>none
 | none=>none
def x7 (t:TypeId):Option TyD :=
 match Aw P t,P.info? t with
 | some k,some i=>some ⟨k,i.size,zeroOf i⟩
 | _,_=>none
end
def MG (l:List DV) (off n:Nat):Option (List DV):=if off+n≤l.length then some ((l.drop off).take n) else none
def qK (l:List DV) (off:Nat) (cs:List DV):Option (List DV):=if off+cs.length≤l.length then some (l.take off++cs++l.drop (off+cs.length)) else none
def kg (agg:Bool) (size:Nat) (l:List DV) (off:Nat):Option DV :=
 if agg then (MG l off size).map .agg else l[off]?
structure eY where
 f:TypeId→Option TyD
 hint:Tmp→TypeId→Nat
instance:CoeFun eY fun _=>TypeId→Option TyD:=⟨eY.f⟩
def eY.h (ty:eY) (o:Oper):Nat :=
 match o.dst with
 | some d=>ty.hint d o.type
 | none=>0
abbrev aW:=FuncId→List DV→ak→Option (DV×ak)
abbrev bk:=FuncId→List DV→Option DV
abbrev dR:=Nat→List DV→ak→Option (DV×ak)
section
variable (P:Program) (ty:eY) (aC:bk) (call:aW) (yf:dR)
def ga (env:List DV):Operand→Option DV
 | .tmp t=>some (env.getD t aO)
 | .const v=>wu v
 | .func f=>some (.fn f [] [])
 | .global _=>none
def evs (ρ:Operand→Option DV):List Operand→Option (List DV)
 | []=>some []
 | x::l=>match ρ x,evs ρ l with
  | some d,some r=>some (d::r)
  | _,_=>none
def valOf (ρ:Operand→Option DV) (x:Operand):Option Value:=(ρ x).bind we
def intOf (ρ:Operand→Option DV) (x:Operand):Option Int :=
 match ρ x with
 | some (.val (.int _ n))=>some n
 | _=>none
def yp:Option DV→Bool
 | some (.gI ..)=>true
 | _=>false
def Aq (S:ak) (id n:Nat):Option (TypeId×Nat×List DV×Bool) :=
 match S[id]? with
 | some (.op e s l z)=>if n*s=l.length then some (e,s,l,z) else none
 | _=>none
def gU (s:Sem Value):Option DV:=(bK P s).bind wu
def iq (S:ak) (t:TypeId) (a:DV):Option DV :=
 match ty t,a with
 | some d,.ptr id off=>match S[id]? with
  | some (.cells l)=>kg d.k.isAgg d.size l off
  | _=>none
 | some d,.cV rows i off=>match rows[i]? with
  | some r=>kg d.k.isAgg d.size r.cells off
  | none=>none
 | some d,.dM id n off=>match Aq S id n with
  | some (_,_,l,_)=>kg d.k.isAgg d.size l off
  | none=>none
 | _,_=>none
def di (S:ak) (i:Nat) (b:DB):ak:=if i<S.length then S.set i b else S++[b]
def lu (S:ak) (t:TypeId) (a v:DV):Option ak :=
 match ty t,a with
 | some d,.ptr id off=>match S[id]? with
  | some (.cells l)=>if v.cells.length=d.size&&v.cells.all DV.one then (qK l off v.cells).map fun l'=>S.set id (.cells l') else none
  | _=>none
 | some d,.dM id n off=>match Aq S id n with
  | some (e,s,l,false)=>if v.strip.cells.length=d.size&&v.strip.cells.all DV.bn then (qK l off v.strip.cells).map fun l'=>S.set id (.op e s l' false) else none
  | _=>none
 | _,_=>none
def iH (place:Nat→Option (Nat×Nat)) (cs:List DV):List (Nat×DV)→Option (List DV)
 | []=>some cs
 | (i,v)::r=>match place i with
  | none=>none
  | some (off,size)=>if v.cells.length=size then match qK cs off v.cells with
    | some gL=>iH place gL r
    | none=>none
   else none
def ic (ρ:Operand→Option DV):List (Nat×Operand)→Option (List (Nat×DV))
 | []=>some []
 | (i,x)::l=>match ρ x,ic ρ l with
  | some d,some r=>some ((i,d)::r)
  | _,_=>none
def rowOf (s:Nat) (agg:Bool) (l:List DV) (i:Nat):DV:=if agg then .agg ((l.drop (i*s)).take s) else l.getD (i*s) aO
def rowsOf (s:Nat) (agg:Bool) (l:List DV) (n:Nat):List DV:=(List.range n).map (rowOf s agg l)
def dQ:Nat:=140737488355328
def gO (S:ak) (ay:Nat) (t:TypeId) (a b:DV):Option (DV×ak) :=
 match ty t,a,b with
 | some ⟨.slice e s ji _,_,_⟩,.sl rows tok full,.sl news _ _ =>
  if news.isEmpty then some (a,S)
  else match ty e with
  | some ⟨_,_,some _⟩=>if decide (0<s)&&decide ((rows.length+news.length)*ji≤dQ)&&decide (rows.length+news.length≤140737488355328-4096)&&news.all (fun r=>decide (r.cells.length=s)) then
   let aa0:Option (DV×ak):=if full.full&&rows.all (fun r=>decide (r.cells.length=s)) then some (.sl (rows++news) (some ay) ⟨false,none⟩,di S ay (.tail e s ((rows.length+news.length)*s))) else none
   match tok with
   | none=>aa0
   | some t=>match S[t]? with
    | some (.tail e' s' n)=>if e'=e&&s'=s&&n=rows.length*s then some (.sl (rows++news) (some t) ⟨false,none⟩,S.set t (.tail e s ((rows.length+news.length)*s))) else none
    | _=>none
   else none
  | _=>none
 | _,_,_=>none
def kI (S:ak) (ay:Nat) (t:TypeId) (a b:DV):Option (DV×ak) :=
 match ty t,b with
 | some ⟨.slice e s ji agg,_,_⟩,.sl news _ _=>match ty e with
  | some ⟨_,_,some _⟩=>match a with
   | .gI id n _=>if decide (0<s)&&(agg||s==1)&&decide ((n+news.length)*ji≤dQ)&&decide (n+news.length≤140737488355328-4096)&&news.all (fun r=>decide (r.cells.length=s)) then match Aq S id n with
    | some (e',s',l,false)=>if e'=e&&s'=s then if news.isEmpty then some (a,S) else some (.gI id (n+news.length) agg,S.set id (.op e s (l++flat news) false)) else none
    | _=>none
    else none
   | .sl [] none f=>if news.isEmpty then some (a,S) else if f.full&&decide (0<s)&&(agg||s==1)&&decide (news.length*ji≤dQ)&&decide (news.length≤140737488355328-4096)&&news.all (fun r=>decide (r.cells.length=s)) then some (.gI ay news.length agg,di S ay (.op e s (flat news) false)) else none
   | _=>none
  | _=>none
 | _,_=>none
def jl (S:ak):DV→DV
 | .gI id n agg=>match Aq S id n with
  | some (_,s,l,true)=>if decide (0<s)&&(agg||s==1) then .sl (rowsOf s agg l n) none ⟨false,some false⟩ else .gI id n agg
  | _ => .gI id n agg
 | d=>d
def qS (S:ak):DV→ak
 | .gI id n _=>match Aq S id n with
  | some (e,s,l,false)=>S.set id (.op e s l true)
  | _=>S
 | _=>S
def eU (ρ:Operand→Option DV) (x:Option Operand) (acG cM:Nat):Option Nat :=
 match x with
 | none=>some acG
 | some x=>match intOf ρ x with
  | some i=>if 0≤i∧i.toNat≤cM then some i.toNat else none
  | none=>none
def Gj (rows:List DV) (f:SF):Option Bool:=if rows.isEmpty then f.isNil else some false
def yC (op:BinOp) (t:TypeId):Option DV→Option DV→Option DV
 | some (.sl rows _ f),some (.sl [] _ ⟨_,some true⟩)=>match ty t,Gj rows f with
  | some ⟨.slice _ _ _ _,_,_⟩,some b=>match op with
   | .eql=>some (.val (.bool b))
   | .neq=>some (.val (.bool (!b)))
   | _=>none
  | _,_=>none
 | _,_=>none
def nC (rows:List DV) (full:SF) (l h:Nat) (m:Option Nat):Option DV :=
 if l≤h then match m with
  | none=>some (.sl ((rows.take h).drop l) none ⟨full.full&&h==rows.length,Gj rows full⟩)
  | some m=>if h≤m then some (.sl ((rows.take h).drop l) none ⟨m==h,Gj rows full⟩) else none
 else none
def tH (g:FuncId) (args:List DV) (S:ak):Option (DV×ak) :=
 if (args.map DV.strip).all DV.pure then match aC g (args.map DV.strip) with
  | some v=>some (v,S)
  | none=>call g args S
 else call g args S
def PO (p:Value×Value):MapEntry:=⟨p.1,p.2,0⟩
def Ip (t:TypeId) (es:List MapEntry) (k:Value) (ok:Bool):Sem Value:=do
 let .map key elem ← underlying t | stuck "Lookup: map type expected"
 Instr.checkKey es.isEmpty 10000 key k
 let (v,o) ← match ← Instr.findKey key k es with
  | some (_,v)=>pure (v,true)
  | none=>pure (← zeroValue elem,false)
 pure (if ok then .tuple #[v,.bool o] else v)
def IA (t:TypeId) (es:List MapEntry) (k:Value):Sem (Option (Nat×Value)):=do
 let .map key _ ← underlying t | stuck "MapUpdate: map type expected"
 Instr.checkKey false 10000 key k
 Instr.findKey key k es
def D6:Value→Option DV
 | .tuple vs=>match vs.toList with
  | [v,.bool b]=>(wu v).map fun d => .ep [d,.val (.bool b)]
  | _=>none
 | v=>wu v
def Mp (es:List (Value×Value)) (k v:Value):Option (Nat×Value)→Option (List (Value×Value))
 | none=>some (es++[(k,v)])
 | some (i,_)=>match es[i]? with
  | some (k',_)=>if Instr.sameBits 10000 k' k then some (es.set i (k,v)) else none
  | none=>none
def ah (ρ:Operand→Option DV) (o:Oper) (S:ak) (ay:Nat):Option (DV×ak) :=
 match o.op with
 | .move x | .assign x=>(ρ x).map (·,S)
 | .pick c a b=>match ρ c with
  | some (.val (.bool t))=>(if t then ρ a else ρ b).map (·,S)
  | _=>none
 | .alloc e=>match ty e with
  | some ⟨_,_,some z⟩=>some (.ptr ay 0,di S ay (.cells z))
  | _=>none
 | .box _ x=>match ρ x with
  | some d=>some (.ptr ay 0,di S ay (.cells d.cells))
  | none=>none
 | .build t ps=>match ty t,ic ρ ps.toList with
  | some ⟨.struct fs,_,some z⟩,some l=>(iH (fun i=>(fs[i]?).map fun f=>(f.1,f.2.1)) z l).map fun cs=>(.agg cs,S)
  | some ⟨.array _ s _,_,some z⟩,some l=>(iH (fun i=>some (i*s,s)) z l).map fun cs=>(.agg cs,S)
  | _,_=>none
 | .buildSlice t n ps=>match ty t,ic ρ ps.toList with
  | some ⟨.slice e s _ agg,_,_⟩,some l=>match ty e with
   | some ⟨_,_,some z⟩=>if decide (0<s)&&decide (n*s≤16777216) then
     match iH (fun i=>some (i*s,s)) ((List.replicate n z).flatten) (l.map fun(i,v)=>(i,v.strip)) with
     | some cs=>if cs.all DV.bn&&(agg||s==1) then some (match ty.h o with
      | 1=>(.gI ay n agg,di S ay (.op e s cs false))
      | _=>(.sl (rowsOf s agg cs n) none ⟨true,some false⟩,S)) else none
     | none=>none
    else none
   | _=>none
  | _,_=>none
 | .makeSlice t a b=>match ty t,intOf ρ a,intOf ρ b with
  | some ⟨.slice e s ji agg,_,_⟩,some n,some m=>match ty e with
   | some ⟨_,_,some z⟩=>if decide (0≤n)&&decide (m=n)&&decide (0<s)&&(agg||s==1)&&decide (n≤140737488355328-4096)&&decide (n.toNat*ji≤dQ)&&(z.map DV.aH).all DV.bn then
     some (.gI ay n.toNat agg,di S ay (.op e s (List.replicate n.toNat (z.map DV.aH)).flatten false)) else none
   | _=>none
  | _,_,_=>none
 | .load t a=>match ρ a with
  | some a=>(iq ty S t a).map (·,S)
  | none=>none
 | .store t a x=>match ρ a,ρ x with
  | some a,some v=>(lu ty S t a v).map (aO,·)
  | _,_=>none
 | .nilCheck x=>match ρ x with
  | some (.ptr id off)=>some (.ptr id off,S)
  | _=>none
 | .binOp op t x y _=>match valOf ρ x,valOf ρ y with
  | some a,some b=>(gU P (do eqGuard op t x y a b; binOp op t a b)).map (·,S)
  | _,_=>(yC ty op t (ρ x) (ρ y)).map (·,S)
 | .unOp op _ x=>match valOf ρ x with
  | some a=>(gU P (Op.unary op a)).map (·,S)
  | none=>none
 | .convert s d x=>match valOf ρ x with
  | some a=>(gU P (Go.convert s d a)).map (·,S)
  | none=>none
 | .makeFunc (.func f) fs cs=>match evs ρ fs.toList,evs ρ cs.toList with
  | some a,some b=>some (.fn f a b,S)
  | _,_=>none
 | .slice t x lo hi mx=>match ty t,ρ x with
  | some ⟨.slice _ s _ _,_,_⟩,some (.sl rows _ full)=>if !rows.all (fun r=>decide (r.cells.length=s)) then none else
   match eU ρ mx rows.length rows.length with
   | some m=>match eU ρ hi rows.length m with
    | some h=>match eU ρ lo 0 h with
     | some l=>if hi.isNone&&mx.isSome then none else (nC rows full l h (mx.map fun _=>m)).map (·,S)
     | none=>none
    | none=>none
   | none=>none
  | _,_=>none
 | .fieldAddr t x f=>match ty t,ρ x with
  | some ⟨.struct fs,_,_⟩,some (.ptr id off)=>match fs[f]? with
   | some (o,s,_)=>if 0<s then some (.ptr id (off+o),S) else none
   | none=>none
  | some ⟨.struct fs,_,_⟩,some (.cV rows i off)=>match fs[f]? with
   | some (o,s,_)=>if 0<s then some (.cV rows i (off+o),S) else none
   | none=>none
  | some ⟨.struct fs,_,_⟩,some (.dM id n off)=>match fs[f]?,Aq S id n with
   | some (o,s,_),some _=>if 0<s then some (.dM id n (off+o),S) else none
   | _,_=>none
  | _,_=>none
 | .field t x f=>match ty t,ρ x with
  | some ⟨.struct fs,_,_⟩,some (.agg l)=>match fs[f]? with
   | some (off,s,agg)=>(kg agg s l off).map (·,S)
   | none=>none
  | _,_=>none
 | .indexAddr t x i=>match ty t,ρ x,intOf ρ i with
  | some ⟨.slice _ s _ _,_,_⟩,some (.sl rows _ _),some n=>if 0≤n then
    match rows[n.toNat]? with
    | some r=>if r.cells.length=s then some (.cV rows n.toNat 0,S) else none
    | none=>none
   else none
  | some ⟨.array k s _,_,_⟩,some (.ptr id off),some n=>if 0≤n∧n.toNat<k then some (.ptr id (off+n.toNat*s),S) else none
  | some ⟨.array k s _,_,_⟩,some (.cV rows j off),some n=>if 0≤n∧n.toNat<k then some (.cV rows j (off+n.toNat*s),S) else none
  | some ⟨.slice _ s _ _,_,_⟩,some (.gI id m _),some n=>match Aq S id m with
   | some (_,s',_,_)=>if 0≤n∧n.toNat<m∧s'=s then some (.dM id m (n.toNat*s),S) else none
   | none=>none
  | _,_,_=>none
 | .index t x i=>match ty t,ρ x,intOf ρ i with
  | some ⟨.array k s agg,_,_⟩,some (.agg l),some n=>if 0≤n∧n.toNat<k then (kg agg s l (n.toNat*s)).map (·,S) else none
  | _,_,_=>none
 | .makeMap _ none=>some (.map ay,di S ay (.map []))
 | .lookup t m k ok=>match ρ m,valOf ρ k with
  | some (.map id),some kv=>match S[id]? with
   | some (.map es)=>((bK P (Ip t (es.map PO) kv ok)).bind D6).map (·,S)
   | _=>none
  | _,_=>none
 | .mapUpdate t m k v=>match ρ m,valOf ρ k,valOf ρ v with
  | some (.map id),some kv,some vv=>match S[id]? with
   | some (.map es)=>match bK P (IA t (es.map PO) kv) with
    | some r=>(Mp es kv vv r).map fun es'=>(aO,S.set id (.map es'))
    | none=>none
   | _=>none
  | _,_,_=>none
 | .extract t i=>match ρ t with
  | some (.ep l)=>(l[i]?).map (·,S)
  | _=>none
 | .call { callee := .builtin b,args,argTypes }=>match b,args.toList,argTypes.toList with
  | .len,[x],[t]=>match ty t,ρ x with
   | some ⟨.slice _ _ _ _,_,_⟩,some (.sl rows _ _)=>some (.val (.int .i64 rows.length),S)
   | some ⟨.slice _ _ _ _,_,_⟩,some (.gI _ n _)=>some (.val (.int .i64 n),S)
   | some ⟨.array n _ _,_,_⟩,_=>some (.val (.int .i64 n),S)
   | _,some (.val v)=>(gU P (Builtin.len_ #[t] o.type #[v])).map (·,S)
   | _,_=>none
  | .append,[x,y],[t,u]=>if t=u then match ρ x,ρ y with
    | some a,some b=>match a with
     | .gI .. => kI ty S ay t a b
     | _=>match ty.h o with
      | 1=>kI ty S ay t a b
      | _=>gO ty S ay t a b
    | _,_=>none
   else none
  | .min,xs,_=>match (evs ρ xs).bind oU with
   | some vs=>(gU P (Builtin.min_ argTypes o.type vs.toArray)).map (·,S)
   | none=>none
  | .max,xs,_=>match (evs ρ xs).bind oU with
   | some vs=>(gU P (Builtin.max_ argTypes o.type vs.toArray)).map (·,S)
   | none=>none
  | _,_,_=>none
 | .call { callee := .value f,args,argTypes:=_ }=>match ρ f,evs ρ args.toList with
  | some (.fn g fs cs),some xs=>match ty.h o with
   | 1=>call g (fs++xs++cs) S
   | _=>tH aC call g (fs++xs++cs) S
  | some (.uN id),some xs=>yf id xs S
  | _,_=>none
 | _=>none
def bD (ops:Array Oper) (env:List DV) (o:Oper):Bool :=
 match o.guard with
 | none=>true
 | some (j,want)=>match (ops[j]?).bind (·.dst) with
  | some d=>match env[d]? with
   | some (.val (.bool b))=>b==want
   | _=>false
  | none=>false
def eP (env:List DV) (dst:Option Tmp) (v:DV):List DV :=
 match dst with
 | some d=>env.set d v
 | none=>env
def mK (env:List DV) (S:ak) (x:Operand):ak:=match ga env x with | some d=>qS S d | none=>S
def Ay (o:Oper) (env:List DV) (S:ak):List DV×ak :=
 match ty.h o with
 | 2 =>
  let S':=o.op.operands.toList.foldl (mK env) S
  (env.map (jl S'),S')
 | _=>(env,S)
def Ca (ops:Array Oper):List Oper→List DV→ak→Option (List DV×ak)
 | [],env,S=>some (env,S)
 | o::r,env,S =>
  if bD ops env o then match Ay ty o env S with
   | (env,S)=>match ah P ty aC call yf (ga env) o S S.length with
    | some (v,S')=>Ca ops r (eP env o.dst v) S'
    | none=>none
  else Ca ops r (eP env o.dst aO) S
def b7 (ρ:Operand→Option DV) (o:Oper) (S:ak):Option DV :=
 match o.op with
 | .alloc _ | .box .. | .store .. | .makeMap .. | .mapUpdate .. | .makeSlice .. => none
 | .buildSlice .. => match ty.h o with
  | 1=>none
  | _=>(ah P ty aC call yf ρ o S S.length).map (·.1)
 | .call { callee := .builtin .append,.. }=>none
 | .call { callee := .value f,args,argTypes:=_ }=>match ρ f,evs ρ args.toList with
  | some (.fn g fs cs),some xs=>if ty.h o=1 then none else if ((fs++xs++cs).map DV.strip).all DV.pure then aC g ((fs++xs++cs).map DV.strip) else none
  | _,_=>none
 | _=>(ah P ty aC call yf ρ o S S.length).map (·.1)
def mq (ops:Array Oper) (S:ak):List Oper→List DV→Option (List DV)
 | [],env=>some env
 | o::r,env =>
  if bD ops env o then match b7 P ty aC call yf (ga env) o S with
   | some v=>mq ops S r (eP env o.dst v)
   | none=>none
  else mq ops S r (eP env o.dst aO)
def wq (call:aW) (g:FuncId) (args:List DV) (S:ak):Option (Nat×DV×List DV) :=
 match args with
 | .ptr i off::rest=>match S[i]? with
  | some (.cells l) =>
   if (rest.map DV.strip).all DV.pure&&(l.map DV.aH).all DV.bn then
    match call g (.ptr 0 off::rest.map DV.strip) [.cells (l.map DV.aH)] with
    | some (v,.cells l'::_)=>if v.strip.pure&&(l'.map DV.aH).all DV.bn then some (i,v.strip,l'.map DV.aH) else none
    | _=>none
   else none
  | _=>none
 | _=>none
def ID (call:aW):aW:=fun g args S=>match wq call g args S with
 | some (i,v,l)=>some (v,S.set i (.cells l))
 | none=>call g args S
structure cu where
 ids:Option (List Nat)
 wr:Bool
def aB (ρ:Operand→Option DV) (o:Oper) (S:ak) (ay:Nat):Option (DV×ak×cu) :=
 match o.op with
 | .alloc _ | .box .. | .makeMap .. => match S[ay]? with
  | some .none=>(ah P ty aC call yf ρ o S ay).map fun r=>(r.1,r.2,⟨some [ay],true⟩)
  | _=>none
 | .store _ a _=>match ρ a with
  | some (.ptr id _)=>(ah P ty aC call yf ρ o S ay).map fun r=>(r.1,r.2,⟨some [id],true⟩)
  | some (.dM id _ _)=>(ah P ty aC call yf ρ o S ay).map fun r=>(r.1,r.2,⟨some [id],true⟩)
  | _=>none
 | .fieldAddr _ a _=>match ρ a with
  | some (.dM id _ _)=>(ah P ty aC call yf ρ o S ay).map fun r=>(r.1,r.2,⟨some [id],false⟩)
  | _=>(ah P ty aC call yf ρ o S ay).map fun r=>(r.1,r.2,⟨some [],false⟩)
 | .indexAddr _ a _=>match ρ a with
  | some (.gI id _ _)=>(ah P ty aC call yf ρ o S ay).map fun r=>(r.1,r.2,⟨some [id],false⟩)
  | _=>(ah P ty aC call yf ρ o S ay).map fun r=>(r.1,r.2,⟨some [],false⟩)
 | .buildSlice .. => match ty.h o with
  | 1=>none
  | _=>(ah P ty aC call yf ρ o S ay).map fun r=>(r.1,r.2,⟨some [],false⟩)
 | .makeSlice .. => none
 | .lookup _ m .. => match ρ m with
  | some (.map id)=>(ah P ty aC call yf ρ o S ay).map fun r=>(r.1,r.2,⟨some [id],false⟩)
  | _=>none
 | .mapUpdate _ m .. => match ρ m with
  | some (.map id)=>(ah P ty aC call yf ρ o S ay).map fun r=>(r.1,r.2,⟨some [id],true⟩)
  | _=>none
 | .load _ a=>match ρ a with
  | some (.ptr id _)=>(ah P ty aC call yf ρ o S ay).map fun r=>(r.1,r.2,⟨some [id],false⟩)
  | some (.dM id _ _)=>(ah P ty aC call yf ρ o S ay).map fun r=>(r.1,r.2,⟨some [id],false⟩)
  | _=>(ah P ty aC call yf ρ o S ay).map fun r=>(r.1,r.2,⟨some [],false⟩)
 | .call { callee := .builtin .append,args,.. }=>if ty.h o=1 then none else if yp ((args[0]?).bind ρ) then none else match S[ay]?,(args[0]?).bind ρ with
  | some .none,some (.sl _ (some t) _)=>(ah P ty aC call yf ρ o S ay).map fun r=>(r.1,r.2,⟨some [t,ay],true⟩)
  | some .none,_=>(ah P ty aC call yf ρ o S ay).map fun r=>(r.1,r.2,⟨some [ay],true⟩)
  | _,_=>none
 | .call { callee := .value f,args,argTypes:=_ }=>match ρ f,evs ρ args.toList with
  | some (.fn g fs cs),some xs =>
   let as_:=fs++xs++cs
   if ty.h o=1 then none
   else if (as_.map DV.strip).all DV.pure then (aC g (as_.map DV.strip)).map fun v=>(v,S,⟨some [],false⟩)
   else match wq call g as_ S with
    | some (i,v,l)=>some (v,S.set i (.cells l),⟨some [i],true⟩)
    | none=>(call g as_ S).map fun r=>(r.1,r.2,⟨none,true⟩)
  | some (.uN id),some xs=>(yf id xs S).map fun r=>(r.1,r.2,⟨none,true⟩)
  | _,_=>none
 | _=>(ah P ty aC call yf ρ o S ay).map fun r=>(r.1,r.2,⟨some [],false⟩)
def oe (ops:Array Oper) (n0:Nat):List Oper→Nat→List DV→ak→Option (List DV×ak×List cu)
 | [],_,env,S=>some (env,S,[])
 | o::r,i,env,S =>
  if bD ops env o then match aB P ty aC call yf (ga env) o S (n0+i) with
   | some (v,S',f)=>match oe ops n0 r (i+1) (eP env o.dst v) S' with
    | some (ax,rH,fs)=>some (ax,rH,f::fs)
    | none=>none
   | none=>none
  else match oe ops n0 r (i+1) (eP env o.dst aO) S with
   | some (ax,rH,fs)=>some (ax,rH,⟨some [],false⟩::fs)
   | none=>none
def iY (ops:Array Oper) (o:Oper):List Tmp :=
 o.dst.toList++o.op.operands.toList.filterMap (fun | .tmp t=>some t | _=>none)++(match o.guard with | some (j,_)=>((ops[j]?).bind (·.dst)).toList | none=>[])
def iX (ops:Array Oper) (b:Array Nat):Bool :=
 (ops.toList.zipIdx.all fun(o,i)=>o.after.all fun e => !Region.binds .any e||decide (e.on<i)) &&
 ops.toList.zipIdx.all fun(o,i)=>ops.toList.zipIdx.all fun(o',j)=>match o'.dst with
  | some d=>i==j || !(iY ops o).contains d||(b.getD j 0).testBit i||(b.getD i 0).testBit j
  | none=>true
def cu.meets (f g:cu):Bool :=
 (f.wr||g.wr)&&match f.ids,g.ids with
 | none,none=>true
 | none,some l => !l.isEmpty
 | some l,none => !l.isEmpty
 | some l,some m=>l.any m.contains
def oM (b:Array Nat) (fs:List cu):Bool :=
 fs.zipIdx.all fun(f,i)=>fs.zipIdx.all fun(g,j)=>i==j || !f.meets g||(b.getD j 0).testBit i||(b.getD i 0).testBit j
def CW (o:Oper):Bool :=
 match o.op with
 | .call { callee := .value _,args:=_,argTypes }=>match argTypes[0]? with
  | some t=>match P.underlying t with
   | some (.pointer _)=>true
   | _=>false
  | none=>false
 | _=>false
def lX (ops:Array Oper) (draw:Bool) (env:List DV) (S:ak):Option (List DV×ak) :=
 if draw then if !iX ops (Region.before ops) then none else match if ops.toList.any (CW P) then none else mq P ty aC call yf ops S ops.toList env with
  | some ax=>some (ax,S)
  | none=>match oe P ty aC call yf ops S.length ops.toList 0 env (S++List.replicate ops.size .none) with
   | some (ax,S',fs)=>if oM (Region.before ops) fs then some (ax,S') else none
   | none=>none
 else Ca P ty aC call yf ops ops.toList env S
inductive DX where
 | normal
 | exit (id:Nat)
 | ret
 deriving DecidableEq
def ki (f:List DV→ak→Option (DX×List DV×ak)):Nat→List DV→ak→Option (DX×List DV×ak)
 | 0,_,_=>none
 | n+1,env,S=>match f env S with
  | some (.normal,ax,S')=>ki f n ax S'
  | r=>r
def bC (L:Nat) (fn:FuncId) (fF:Bool):Code→List DV→ak→Option (DX×List DV×ak)
 | .skip,env,S | .label _,env,S=>some (.normal,env,S)
 | .region _ ops draw,env,S=>(lX P ty aC call yf ops draw env S).map (.normal,·)
 | .seq a b,env,S=>match bC L fn fF a env S with
  | some (.normal,ax,S')=>bC L fn fF b ax S'
  | r=>r
 | .cond c a b,env,S=>match ga env c with
  | some (.val (.bool true))=>bC L fn fF a env S
  | some (.val (.bool false))=>bC L fn fF b env S
  | _=>none
 | .block id c,env,S=>match bC L fn fF c env S with
  | some (.exit gJ,ax,S')=>some (if gJ=id then .normal else .exit gJ,ax,S')
  | r=>r
 | .loop c,env,S=>ki (bC L fn fF c) L env S
 | .scope c,env,S=>bC L fn fF c env S
 | .exit id,env,S=>some (.exit id,env,S)
 | .ret,env,S=>some (.ret,env,S)
 | .rangeFunc f ps JV body,env,S=>if fF then none else match ga env f with
  | some (.fn g fs cs)=>match call g (fs++[.uN (S.length+1)]++cs) (S++[.defer,.loop ⟨.ready,none,fn,env,ps.toList,JV,body,S.length⟩]) with
   | some (_,S')=>match S'[S.length+1]? with
    | some (.loop r)=>if r.st == .busy then none else match r.iz with
     | none=>some (.normal,env,S'.set (S.length+1) (.loop { r with st := .exhausted }))
     | some .ret=>some (.ret,env,S'.set (S.length+1) (.loop { r with st := .exhausted }))
     | some (.exit e)=>some (.exit e,env,S'.set (S.length+1) (.loop { r with st := .exhausted }))
     | _=>none
    | _=>none
   | none=>none
  | _=>none
 | _,_,_=>none
def ym:List DV→List (Tmp×DV)→List DV
 | env,[]=>env
 | env,(t,d)::l=>ym (env.set t d) l
def GD (L:Nat):dR:=fun id args S=>match S[id]? with
 | some (.loop r)=>if args.length=r.params.length then
   match bC P ty aC call yf L r.fn true r.assign (ym r.env (r.params.zip args)) S with
   | some (.normal,ye,S1)=>match S1[id]? with
    | some (.loop r1)=>if r1.st = .ready then
      match bC P ty aC call yf L r.fn true r.body ye (S1.set id (.loop { r1 with st := .busy })) with
      | some (e,_,S2)=>match S2[id]? with
       | some (.loop r2)=>match e with
        | .normal=>some (.val (.bool true),S2.set id (.loop { r2 with st := .ready,iz:=none }))
        | .ret=>some (.val (.bool false),S2.set id (.loop { r2 with st := .done,iz:=some .ret }))
        | .exit i=>some (.val (.bool false),S2.set id (.loop { r2 with st := .done,iz:=some (.exit i) }))
       | _=>none
      | none=>none
     else none
    | _=>none
   | _=>none
  else none
 | _=>none
def oI (env:List DV) (S:ak):List ResultVar→Option (List DV)
 | []=>some []
 | .tmp t::r=>(oI env S r).map (env.getD t aO::·)
 | .cell a t::r=>match iq ty S t (env.getD a aO),oI env S r with
  | some v,some l=>some (v::l)
  | _,_=>none
def oneOf:List DV→DV
 | [d]=>d
 | l => .ep l
def ry (L:Nat) (f:FuncId) (fn:Func) (args:List DV) (S:ak):Option (DV×ak) :=
 match fn.body with
 | some c=>match bC P ty aC call yf L f false c (args++List.replicate (fn.ntmps-args.length) aO) S with
  | some (.normal,env,S') | some (.ret,env,S')=>(oI ty env S' fn.results.toList).map fun l=>(oneOf l,S')
  | _=>none
 | none=>none
end
def iS (aV:bk) (call:aW):bk:=fun f args=>match aV f args with
 | some v=>if v.pure then some v else none
 | none=>match call f args [] with
  | some (v,S)=>if (jl (qS S v) v).strip.pure then some (jl (qS S v) v).strip else none
  | none=>none
def cG (P:Program) (ty:eY) (aV:bk) (L:Nat):Nat→aW×dR
 | 0=>(fun _ _ _=>none,fun _ _ _=>none)
 | n+1=>(fun f args S=>match P.funcs[f]? with
   | some fn=>ry P ty (iS aV (cG P ty aV L n).1) (cG P ty aV L n).1 (cG P ty aV L n).2 L f fn args S
   | none=>none,
  GD P ty (iS aV (cG P ty aV L n).1) (cG P ty aV L n).1 (cG P ty aV L n).2 L)
def acV (P:Program) (ty:eY) (aV:bk) (L n:Nat):aW:=(cG P ty aV L n).1
end Go.Di
end
section
namespace Go.Tv
open Go Go.Di
inductive TT where
 | int (k:IntKind)
 | bool
 | str
 | unit
 | pair (a b:TT)
 | sl (t:TT)
 deriving DecidableEq
abbrev TT.den:TT→Type
 | .int _=>Int
 | .bool=>Bool
 | .str=>ByteArray
 | .unit=>Unit
 | .pair a b=>a.den×b.den
 | .sl t=>List t.den
def TT.Vn:(t:TT)→t.den
 | .int _=>(0:Int)
 | .bool=>false
 | .str=>ByteArray.empty
 | .unit=>()
 | .pair a b=>(a.Vn,b.Vn)
 | .sl _=>[]
def TT.size:TT→Nat
 | .unit=>0
 | .pair a b=>a.size+b.size
 | _=>1
def TT.agg:TT→Bool
 | .unit | .pair _ _=>true
 | _=>false
inductive Ap where
 | no
 | full
 | oC (g:Nat)
inductive TV where
 | unk
 | val (v:Value)
 | eu
 | agg (l:List TV)
 | ep (l:List TV)
 | sl (t:TT) (l:List t.den) (ap:Ap)
 | ptr (id off:Nat)
 | cV (t:TT) (l:List t.den) (i off:Nat)
 | fn (f:FuncId) (first captured:List TV)
 | mp (id:Nat)
 | so (g:Nat) (t:TT)
 | sp (g:Nat) (t:TT) (i off:Nat)
instance:Inhabited TV:=⟨.unk⟩
def TT.cells:(t:TT)→t.den→List TV
 | .int k,n=>[.val (.int k n)]
 | .bool,b=>[.val (.bool b)]
 | .str,s=>[.val (.string s)]
 | .unit,_=>[]
 | .pair a b,x=>a.cells x.1++b.cells x.2
 | .sl t,l=>[.sl t l .no]
def ofInt (k:IntKind):List TV→Option (Int×List TV)
 | .val (.int k' n)::r=>if k'=k then some (n,r) else none
 | _=>none
def ofBool:List TV→Option (Bool×List TV)
 | .val (.bool b)::r=>some (b,r)
 | _=>none
def ofStr:List TV→Option (ByteArray×List TV)
 | .val (.string b)::r=>some (b,r)
 | _=>none
def QN (t:TT):List TV→Option (List t.den×List TV)
 | .sl t' l _::r=>if h:t'=t then some (h▸l,r) else none
 | .eu::r=>some ([],r)
 | _=>none
def TT.of:(t:TT)→List TV→Option (t.den×List TV)
 | .int k,l=>ofInt k l
 | .bool,l=>ofBool l
 | .str,l=>ofStr l
 | .unit,l=>some ((),l)
 | .pair a b,l=>match a.of l with
  | some (x,r1)=>match b.of r1 with
   | some (y,r2)=>some ((x,y),r2)
   | none=>none
  | none=>none
 | .sl t,l=>QN t l
def tK (agg:Bool) (r:DV):Prop:=if agg then ∃ l,r = .agg l else ∀ l,r ≠ .agg l
def de {α:Type} (R:α→List DV→Prop) (agg:Bool):List α→List DV→Prop
 | [],[]=>True
 | x::l,r::rows=>(R x r.cells∧tK agg r)∧de R agg l rows
 | _,_=>False
def CR:(t:TT)→t.den→List DV→Prop
 | .int k,n,cs=>cs=[.val (.int k n)]
 | .bool,b,cs=>cs=[.val (.bool b)]
 | .str,s,cs=>cs=[.val (.string s)]
 | .unit,_,cs=>cs=[]
 | .pair a b,x,cs=>∃ c1 c2,cs=c1++c2∧CR a x.1 c1∧CR b x.2 c2
 | .sl t,l,cs=>∃ rows f,cs=[.sl rows none f]∧de (CR t) t.agg l rows
abbrev jE:=Nat→Option Nat
def qV (ι:jE) (S:ak) (n:Nat) (tok:Option Nat) (f:SF):Ap→Prop
 | .no=>True
 | .full=>tok=none∧f.full=true
 | .oC g=>(tok=none∧f.full=true∧n=0)∨∃ t e s,ι g=some t∧tok=some t∧S[t]? = some (.tail e s (n*s))
mutual
def RT (ι:jE) (S:ak):TV→DV→Prop
 | .unk,_=>True
 | .val v,.val u=>u=v
 | .eu,.sl rows tok f=>rows=[]∧tok=none∧f=⟨true,some true⟩
 | .agg l,.agg m=>cq ι S l m
 | .ep l,.ep m=>cq ι S l m
 | .sl t l ap,.sl rows tok f=>de (CR t) t.agg l rows∧qV ι S rows.length tok f ap
 | .ptr id off,.ptr gJ qL=>ι id=some gJ∧qL=off
 | .cV t l i off,.cV rows i' qL=>de (CR t) t.agg l rows∧i'=i∧qL=off∧i<l.length
 | .fn f a b,.fn f' a' b'=>f'=f∧cq ι S a a'∧cq ι S b b'
 | .mp id,.map gJ=>ι id=some gJ
 | .so g t,.gI id n agg=>ι g=some id∧agg=t.agg∧∃ e s l z,S[id]? = some (.op e s l z)∧n*s=l.length
 | .sp g t i off,.dM id n qL=>ι g=some id∧qL=i*t.size+off∧∃ e s l z,S[id]? = some (.op e s l z)∧n*s=l.length∧i*t.size+t.size≤l.length
 | _,_=>False
def cq (ι:jE) (S:ak):List TV→List DV→Prop
 | [],[]=>True
 | a::l,b::m=>RT ι S a b∧cq ι S l m
 | _,_=>False
end
section
variable {ι:jE} {S:ak}
theorem ja {α:Type} {R:α→List DV→Prop} {agg:Bool}:∀ {l:List α} {rows:List DV},de R agg l rows→rows.length=l.length
 | [],[],_=>rfl
 | _::l,_::rows,h=>by simp[ja h.2]
theorem yU {α:Type} {R:α→List DV→Prop} {agg:Bool}:∀ {l:List α} {rows:List DV} {i:Nat} {x:α},de R agg l rows→l[i]? = some x→∃ r,rows[i]? = some r∧R x r.cells∧tK agg r
 | [],_,_,_,_,h=>by simp at h
 | _::_,[],_,_,h,_=>h.elim
 | y::l,r::rows,0,x,h,hx=>by
  simp only[List.getElem?_cons_zero,Option.some.injEq] at hx
  subst hx
  exact⟨r,rfl,h.1⟩
 | y::l,r::rows,i+1,x,h,hx=>by
  obtain⟨r',h1,h2⟩:=yU (i:=i) h.2 (by simpa using hx)
  exact⟨r',by simpa using h1,h2⟩
theorem wM {α:Type} {R:α→List DV→Prop} {agg:Bool}:∀ {l m:List α} {rows TZ:List DV},de R agg l rows→de R agg m TZ→de R agg (l++m) (rows++TZ)
 | [],_,[],_,_,h=>h
 | _::_,_,_::_,_,h,k=>⟨h.1,wM h.2 k⟩
theorem mY {α:Type} {R:α→List DV→Prop} {agg:Bool}:∀ {l:List α} {rows:List DV} (n:Nat),de R agg l rows→de R agg (l.take n) (rows.take n)
 | _,_,0,_=>by simp[de]
 | [],[],n+1,_=>by simp[de]
 | _::_,_::_,n+1,h=>⟨h.1,mY n h.2⟩
theorem qw {α:Type} {R:α→List DV→Prop} {agg:Bool}:∀ {l:List α} {rows:List DV} (n:Nat),de R agg l rows→de R agg (l.drop n) (rows.drop n)
 | _,_,0,h=>h
 | [],[],n+1,_=>by simp[de]
 | _::_,_::_,n+1,h=>qw n h.2
theorem j4:∀ {t:TT} {x:t.den} {cs:List DV},CR t x cs→cs.length=t.size
 | .int _,_,_,h=>by simp only[CR] at h; subst h; rfl
 | .bool,_,_,h=>by simp only[CR] at h; subst h; rfl
 | .str,_,_,h=>by simp only[CR] at h; subst h; rfl
 | .unit,_,_,h=>by simp only[CR] at h; subst h; rfl
 | .pair a b,x,_,h=>by
  simp only[CR] at h
  obtain⟨c1,c2,rfl,h1,h2⟩:=h
  simp only[List.length_append,j4 h1,j4 h2,TT.size]
 | .sl t,_,_,h=>by
  simp only[CR] at h
  obtain⟨rows,f,rfl,-⟩:=h
  rfl
theorem gF {t:TT}:∀ {l:List t.den} {rows:List DV},de (CR t) t.agg l rows→∀ r∈rows,r.cells.length=t.size
 | [],[],_,r,hr=>by simp at hr
 | _::l,r'::rows,h,r,hr=>by
  rcases List.mem_cons.1 hr with rfl | hr
  ·exact j4 h.1.1
  ·exact gF h.2 r hr
theorem fu:∀ {l:List TV} {m:List DV},cq ι S l m→m.length=l.length
 | [],[],_=>rfl
 | _::l,_::m,h=>by simp only[cq] at h; simp[fu h.2]
theorem bI:cq ι S [] []:=by simp only[cq]
theorem aD {a:TV} {d:DV} {l:List TV} {m:List DV} (h:RT ι S a d) (k:cq ι S l m):cq ι S (a::l) (d::m):=by simp only[cq]; exact⟨h,k⟩
theorem dA {a:TV} {d:DV} (h:RT ι S a d):cq ι S [a] [d]:=aD h bI
theorem ai {a:TV} {l:List TV} {m:List DV} (h:cq ι S (a::l) m):∃ d m',m=d::m'∧RT ι S a d∧cq ι S l m':=by
 cases m with
 | nil=>simp only[cq] at h
 | cons d m'=>simp only[cq] at h; exact⟨d,m',rfl,h⟩
theorem aF {m:List DV} (h:cq ι S [] m):m=[]:=by
 cases m with
 | nil=>rfl
 | cons d m'=>simp only[cq] at h
theorem qg:∀ {l:List TV} {m:List DV} {i:Nat} {a:TV},cq ι S l m→l[i]? = some a→∃ d,m[i]? = some d∧RT ι S a d
 | [],_,_,_,_,h=>by simp at h
 | b::l,m,0,a,h,hx=>by
  obtain⟨d,m',rfl,h1,-⟩:=ai h
  simp only[List.getElem?_cons_zero,Option.some.injEq] at hx
  subst hx
  exact⟨d,rfl,h1⟩
 | b::l,m,i+1,a,h,hx=>by
  obtain⟨d,m',rfl,-,h1⟩:=ai h
  obtain⟨d',h2,h3⟩:=qg (i:=i) h1 (by simpa using hx)
  exact⟨d',by simpa using h2,h3⟩
theorem dI:∀ {l l':List TV} {m m':List DV},cq ι S l m→cq ι S l' m'→cq ι S (l++l') (m++m')
 | [],l',m,m',h,k=>by rw[aF h]; exact k
 | a::l,l',m,m',h,k=>by
  obtain⟨d,m1,rfl,h1,h2⟩:=ai h
  exact aD h1 (dI h2 k)
theorem yS:∀ {l:List TV} {m:List DV} (n:Nat),cq ι S l m→cq ι S (l.take n) (m.take n)
 | _,_,0,_=>by simp only[List.take_zero]; exact bI
 | [],m,n+1,h=>by rw[aF h]; simp only[List.take_nil]; exact bI
 | a::l,m,n+1,h=>by
  obtain⟨d,m1,rfl,h1,h2⟩:=ai h
  exact aD h1 (yS n h2)
theorem yT:∀ {l:List TV} {m:List DV} (n:Nat),cq ι S l m→cq ι S (l.drop n) (m.drop n)
 | _,_,0,h=>h
 | [],m,n+1,h=>by rw[aF h]; simp only[List.drop_nil]; exact bI
 | a::l,m,n+1,h=>by
  obtain⟨d,m1,rfl,-,h2⟩:=ai h
  exact yT n h2
theorem xL:∀ {l:List TV} {m:List DV} (i:Nat) {a:TV} {d:DV},cq ι S l m→RT ι S a d→cq ι S (l.set i a) (m.set i d)
 | [],m,i,a,d,h,_=>by rw[aF h]; simp only[List.set_nil]; exact bI
 | b::l,m,0,a,d,h,k=>by
  obtain⟨d',m1,rfl,-,h2⟩:=ai h
  exact aD k h2
 | b::l,m,i+1,a,d,h,k=>by
  obtain⟨d',m1,rfl,h1,h2⟩:=ai h
  exact aD h1 (xL i h2 k)
theorem qd (d:DV):∀ n,cq ι S (List.replicate n .unk) (List.replicate n d)
 | 0=>bI
 | n+1=>by
  rw[List.replicate_succ,List.replicate_succ]
  exact aD (by simp only[RT]) (qd d n)
theorem o7 {l:List TV} {m:List DV} (h:cq ι S l m) (i:Nat):RT ι S (l.getD i .unk) (m.getD i aO):=by
 rw[List.getD_eq_getElem?_getD,List.getD_eq_getElem?_getD]
 cases hi:l[i]? with
 | none=>simp only[Option.getD_none,RT]
 | some a =>
  obtain⟨d,h1,h2⟩:=qg h hi
  rw[h1]
  exact h2
theorem lH:∀ {t:TT} {x:t.den} {cs:List DV},CR t x cs→cq ι S (t.cells x) cs
 | .int _,_,_,h=>by simp only[CR] at h; subst h; exact dA (by simp only[RT])
 | .bool,_,_,h=>by simp only[CR] at h; subst h; exact dA (by simp only[RT])
 | .str,_,_,h=>by simp only[CR] at h; subst h; exact dA (by simp only[RT])
 | .unit,_,_,h=>by simp only[CR] at h; subst h; exact bI
 | .pair a b,x,_,h=>by
  simp only[CR] at h
  obtain⟨c1,c2,rfl,h1,h2⟩:=h
  exact dI (lH h1) (lH h2)
 | .sl t,_,_,h=>by
  simp only[CR] at h
  obtain⟨rows,f,rfl,h⟩:=h
  refine dA ?_
  simp only[RT,qV,and_true]
  exact h
theorem A4:∀ {t:TT} {l:List TV} {x:t.den} {r:List TV} {m:List DV},t.of l=some (x,r)→cq ι S l m→∃ c m',m=c++m'∧CR t x (c.map DV.aH)∧cq ι S r m'
 | .int k,l,x,r,m,h,hm=>by
  simp only[TT.of] at h
  unfold ofInt at h
  split at h
  ·split at h
   ·rename_i hk
    cases h
    obtain⟨d,m',rfl,h1,h2⟩:=ai hm
    cases d<;>simp only[RT] at h1
    subst h1
    subst hk
    exact⟨[_],m',rfl,by simp only[CR,List.map_cons,List.map_nil,DV.aH],h2⟩
   ·cases h
  ·cases h
 | .bool,l,x,r,m,h,hm=>by
  simp only[TT.of] at h
  unfold ofBool at h
  split at h
  ·cases h
   obtain⟨d,m',rfl,h1,h2⟩:=ai hm
   cases d<;>simp only[RT] at h1
   subst h1
   exact⟨[_],m',rfl,by simp only[CR,List.map_cons,List.map_nil,DV.aH],h2⟩
  ·cases h
 | .str,l,x,r,m,h,hm=>by
  simp only[TT.of] at h
  unfold ofStr at h
  split at h
  ·cases h
   obtain⟨d,m',rfl,h1,h2⟩:=ai hm
   cases d<;>simp only[RT] at h1
   subst h1
   exact⟨[_],m',rfl,by simp only[CR,List.map_cons,List.map_nil,DV.aH],h2⟩
  ·cases h
 | .unit,l,x,r,m,h,hm=>by
  simp only[TT.of] at h
  cases h
  exact⟨[],m,rfl,by simp only[CR,List.map_nil],hm⟩
 | .pair a b,l,x,r,m,h,hm=>by
  simp only[TT.of] at h
  split at h
  ·rename_i x1 r1 h1
   split at h
   ·rename_i y r2 h2
    cases h
    obtain⟨c,m1,rfl,k1,k2⟩:=A4 h1 hm
    obtain⟨c',m2,rfl,k3,k4⟩:=A4 h2 k2
    exact⟨c++c',m2,by simp,by simp only[CR,List.map_append]; exact⟨_,_,rfl,k1,k3⟩,k4⟩
   ·cases h
  ·cases h
 | .sl t,l,x,r,m,h,hm=>by
  simp only[TT.of] at h
  unfold QN at h
  split at h
  ·split at h
   ·rename_i ht
    subst ht
    cases h
    obtain⟨d,m',rfl,h1,h2⟩:=ai hm
    cases d<;>simp only[RT] at h1
    rename_i rows tok f
    exact⟨[_],m',rfl,by simp only[CR,List.map_cons,List.map_nil,DV.aH]; exact⟨rows,⟨false,f.isNil⟩,rfl,h1.1⟩,h2⟩
   ·cases h
  ·cases h
   obtain⟨d,m',rfl,h1,h2⟩:=ai hm
   cases d<;>simp only[RT] at h1
   obtain⟨rfl,rfl,rfl⟩:=h1
   exact⟨[_],m',rfl,by simp only[CR,List.map_cons,List.map_nil,DV.aH]; exact⟨[],⟨false,some true⟩,rfl,by simp only[de]⟩,h2⟩
  ·cases h
theorem nN:∀ {t:TT} {x:t.den} {cs:List DV},CR t x cs→cs.all DV.bn=true
 | .int _,_,_,h=>by simp only[CR] at h; subst h; rfl
 | .bool,_,_,h=>by simp only[CR] at h; subst h; rfl
 | .str,_,_,h=>by simp only[CR] at h; subst h; rfl
 | .unit,_,_,h=>by simp only[CR] at h; subst h; rfl
 | .pair a b,x,_,h=>by
  simp only[CR] at h
  obtain⟨c1,c2,rfl,h1,h2⟩:=h
  rw[List.all_append,nN h1,nN h2]; rfl
 | .sl t,_,_,h=>by
  simp only[CR] at h
  obtain⟨rows,f,rfl,-⟩:=h
  rfl
end
end Go.Tv
end
