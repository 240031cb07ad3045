import Derived.Test.YtedcgbkilmlbhaaPk00
import GoSem.Step
import Derived.Test.YtedcgbkilmlbhaaProg
namespace Go.Di
open Go
structure SF where
 full:Bool
 isNil:Option Bool
inductive DV where
 |val (v:Value)
 |agg (l:List DV)
 |tup (l:List DV)
 |sl (rows:List DV) (tok:Option Nat) (full:SF)
 |ptr (id off:Nat)
 |fq (rows:List DV) (i off:Nat)
 |fn (f:FuncId) (first captured:List DV)
 |map (id:Nat)
 |od (id:Nat)
 |jS (id n:Nat) (agg:Bool)
 |gu (id n off:Nat)
instance:Inhabited DV:=⟨.val (.tuple #[])⟩
structure Gq where
 st:LoopState
 kz:Option Code
 fn:FuncId
 env:List DV
 params:List Tmp
 assign:Code
 body:Code
 Bp:Nat
inductive DB where
 |none
 |cells (l:List DV)
 |tail (e:TypeId) (s n:Nat)
 |map (es:List (Value×Value))
 |defer
 |loop (r:Gq)
 |op (e:TypeId) (s:Nat) (l:List DV) (z:Bool)
instance:Inhabited DB:=⟨.none⟩
abbrev ai:=List DB
def bF:DV:=.val (.tuple #[])
def DV.cells:DV->List DV
 |.agg l=>l
 |d=>[d]
def flat(rows:List DV):List DV:=rows.flatMap DV.cells
def Aw:Value->Bool
 |.agg _=>false
 |.tuple vs=>vs.size==0
 |_=>true
def Ij:Value->Option DV
 |.slice none 0 0=>some (.sl [] none ⟨true,some true⟩)
 |v=>if Aw v then some (.val v)else none
def sO:List Value->Option (List DV)
 |[]=>some []
 |v::l=>match Ij v,sO l with
  |some d,some r=>some (d::r)
  |_,_=>none
def Bv:Value->Option DV
 |.agg cs=>(sO cs.toList).map .agg
 |.func (.func f) fs cs=>if fs.size=0&&cs.size=0 then some (.fn f [] [])else none
 |v=>Ij v
def sL:List DV->Option (List Value)
 |[]=>some []
 |.val v::l=>(sL l).map (v::·)
 |_=>none
def Br:DV->Option Value
 |.val v=>some v
 |.agg l=>(sL l).map λr=>.agg r.toArray
 |_=>none
def uJ:List DV->Option (List Value)
 |[]=>some []
 |d::l=>match Br d,uJ l with
  |some v,some r=>some (v::r)
  |_,_=>none
def DV.ck:DV->Bool
 |.val v=>!(v matches .tuple _)
 |.sl _ none _=>true
 |_=>false
def DV.j9:DV->Bool
 |.agg l=>l.all DV.ck
 |.val _=>true
 |.sl _ none _=>true
 |_=>false
def DV.pure:DV->Bool
 |.tup l=>l.all DV.j9
 |d=>d.j9
def DV.aO:DV->DV
 |.sl r _ f=>.sl r none ⟨false,f.isNil⟩
 |d=>d
def DV.dA:DV->DV
 |.agg l=>.agg (l.map DV.aO)
 |.sl r _ f=>.sl r none ⟨false,f.isNil⟩
 |d=>d
def DV.strip:DV->DV
 |.tup l=>.tup (l.map DV.dA)
 |d=>d.dA
def DV.one:DV->Bool
 |.val v=>!(v matches .tuple _)
 |.agg _|.tup _=>false
 |_=>true
inductive TK where
 |one
 |struct (fs:List (Nat×Nat×Bool))
 |array (n s:Nat) (agg:Bool)
 |slice (e s b:Nat) (agg:Bool)
 deriving DecidableEq
structure TyD where
 k:TK
 size:Nat
 zero:Option (List DV)
def TK.isAgg:TK->Bool
 |.struct _|.array _ _ _=>true
 |_=>false
section
variable (P:Program)
def pV(t:TypeId):Bool:=
 match P.underlying t with
 |some (.struct _)|some (.array _ _)=>true
 |_=>false
def cu{α:Type}:Sem α->Option α
 |.pure a=>some a
 |.program k=>cu (k P)
 |_=>none
def Gf(t:TypeId):Option TypeInfo:=
 match P.info? t,P.underlying t with
 |some i,some _=>some i
 |_,_=>none
def Fw(t:TypeId):Option TK:=
 match P.underlying t with
 |some (.struct fs)=>(fs.toList.mapM λf=>(Gf P f.type).map λi=>(f.offset,i.size,pV P f.type)).map .struct
 |some (.array n e)=>(Gf P e).map λi=>.array n i.size (pV P e)
 |some (.slice e)=>(Gf P e).map λi=>.slice e i.size i.bytes (pV P e)
 |some _=>some .one
 |none=>none
def zeroOf(i:TypeInfo):Option (List DV):=
 match i.zero with
 |some z=>match sO z.cells.toList with
  |some cs=>if cs.length=i.size then some cs else none
  |none=>none
 |none=>none
def Tz(t:TypeId):Option TyD:=
 match Fw P t,P.info? t with
 |some k,some i=>some ⟨k,i.size,zeroOf i⟩
 |_,_=>none
end
def TU(l:List DV)(off n:Nat):Option (List DV):=if off+n<=l.length then some ((l.drop off).take n)else none
def wA(l:List DV)(off:Nat)(cs:List DV):Option (List DV):=if off+cs.length<=l.length then some (l.take off++cs++l.drop (off+cs.length))else none
def pO(agg:Bool)(size:Nat)(l:List DV)(off:Nat):Option DV:=
 if agg then(TU l off size).map .agg else l[off]?
structure fR where
 f:TypeId->Option TyD
 hint:Tmp->TypeId->Nat
instance:CoeFun fR λ_=>TypeId->Option TyD:=⟨fR.f⟩
def fR.h (ty:fR)(o:Oper):Nat:=
 match o.dst,o.op with
 |some d,.call {callee:=.value _,.. }=>ty.hint d o.type % 4
 |some d,_=>if ty.hint d o.type<16380 then ty.hint d o.type % 4 else 0
 |none,_=>0
abbrev bt:=FuncId->List DV->ai->Option (DV×ai)
abbrev bR:=FuncId->List DV->Option DV
abbrev ej:=Nat->List DV->ai->Option (DV×ai)
section
variable (P:Program) (ty:fR) (aK:bR) (call:bt) (yf:ej)
def jr(env:List DV):Operand->Option DV
 |.tmp t=>some (env.getD t bF)
 |.const v=>Bv v
 |.func f=>some (.fn f [] [])
 |.global _=>none
def evs(ρ:Operand->Option DV):List Operand->Option (List DV)
 |[]=>some []
 |x::l=>match ρ x,evs ρ l with
  |some d,some r=>some (d::r)
  |_,_=>none
def valOf(ρ:Operand->Option DV)(x:Operand):Option Value:=(ρ x).bind Br
def intOf(ρ:Operand->Option DV)(x:Operand):Option Int:=
 match ρ x with
 |some (.val (.int _ n))=>some n
 |_=>none
def Dl:Option DV->Bool
 |some (.jS ..)=>true
 |_=>false
def CE(S:ai)(id n:Nat):Option (TypeId×Nat×List DV×Bool):=
 match S[id]? with
 |some (.op e s l z)=>if n*s=l.length then some (e,s,l,z)else none
 |_=>none
def jw(s:Sem Value):Option DV:=(cu P s).bind Bv
def lE(S:ai)(t:TypeId)(a:DV):Option DV:=
 match ty t,a with
 |some d,.ptr id off=>match S[id]? with
  |some (.cells l)=>pO d.k.isAgg d.size l off
  |_=>none
 |some d,.fq rows i off=>match rows[i]? with
  |some r=>pO d.k.isAgg d.size r.cells off
  |none=>none
 |some d,.gu id n off=>match CE S id n with
  |some (_,_,l,_)=>pO d.k.isAgg d.size l off
  |none=>none
 |_,_=>none
def eU(S:ai)(i:Nat)(b:DB):ai:=if i<S.length then S.set i b else S++[b]
def pX(S:ai)(t:TypeId)(a v:DV):Option ai:=
 match ty t,a with
 |some d,.ptr id off=>match S[id]? with
  |some (.cells l)=>if v.cells.length=d.size&&v.cells.all DV.one then(wA l off v.cells).map λl'=>S.set id (.cells l')else none
  |_=>none
 |some d,.gu id n off=>match CE S id n with
  |some (e,s,l,false)=>if v.strip.cells.length=d.size&&v.strip.cells.all DV.ck then(wA l off v.strip.cells).map λl'=>S.set id (.op e s l' false)else none
  |_=>none
 |_,_=>none
def lG(place:Nat->Option (Nat×Nat))(cs:List DV):List (Nat×DV)->Option (List DV)
 |[]=>some cs
 |(i,v)::r=>match place i with
  |none=>none
  |some (off,size)=>if v.cells.length=size then match wA cs off v.cells with
    |some lC=>lG place lC r
    |none=>none
   else none
def kE(ρ:Operand->Option DV):List (Nat×Operand)->Option (List (Nat×DV))
 |[]=>some []
 |(i,x)::l=>match ρ x,kE ρ l with
  |some d,some r=>some ((i,d)::r)
  |_,_=>none
def rowOf(s:Nat)(agg:Bool)(l:List DV)(i:Nat):DV:=if agg then .agg ((l.drop (i*s)).take s)else l.getD (i*s) bF
def rowsOf(s:Nat)(agg:Bool)(l:List DV)(n:Nat):List DV:=(List.range n).map (rowOf s agg l)
def fQ:Nat:=140737488355328
def jW(S:ai)(aF:Nat)(t:TypeId)(a b:DV):Option (DV×ai):=
 match ty t,a,b with
 |some ⟨.slice e s lR _,_,_⟩,.sl rows tok full,.sl news _ _=>
  if news.isEmpty then some (a,S)
  else match ty e with
  |some ⟨_,_,some _⟩=>if decide (0<s)&&decide ((rows.length+news.length)*lR<=fQ)&&decide (rows.length+news.length<=140737488355328-4096)&&news.all (λr=>decide (r.cells.length=s))then
   let agJ:Option (DV×ai):=if full.full&&rows.all (λr=>decide (r.cells.length=s))then some (.sl (rows++news) (some aF) ⟨false,none⟩,eU S aF (.tail e s ((rows.length+news.length)*s)))else none
   match tok with
   |none=>agJ
   |some t=>match S[t]? with
    |some (.tail e' s' n)=>if e'=e&&s'=s&&n=rows.length*s then some (.sl (rows++news) (some t) ⟨false,none⟩,S.set t (.tail e s ((rows.length+news.length)*s)))else none
    |_=>none
   else none
  |_=>none
 |_,_,_=>none
def oS(S:ai)(aF:Nat)(t:TypeId)(a b:DV):Option (DV×ai):=
 match ty t,b with
 |some ⟨.slice e s lR agg,_,_⟩,.sl news _ _=>match ty e with
  |some ⟨_,_,some _⟩=>match a with
   |.jS id n _=>if decide (0<s)&&(agg||s==1)&&decide ((n+news.length)*lR<=fQ)&&decide (n+news.length<=140737488355328-4096)&&news.all (λr=>decide (r.cells.length=s))then match CE S id n with
    |some (e',s',l,false)=>if e'=e&&s'=s then if news.isEmpty then some (a,S)else some (.jS id (n+news.length) agg,S.set id (.op e s (l++flat news) false))else none
    |_=>none
    else none
   |.sl [] none f=>if news.isEmpty then some (a,S)else if f.full&&decide (0<s)&&(agg||s==1)&&decide (news.length*lR<=fQ)&&decide (news.length<=140737488355328-4096)&&news.all (λr=>decide (r.cells.length=s))then some (.jS aF news.length agg,eU S aF (.op e s (flat news) false))else none
   |_=>none
  |_=>none
 |_,_=>none
def kI(S:ai):DV->DV
 |.jS id n agg=>match CE S id n with
  |some (_,s,l,true)=>if decide (0<s)&&(agg||s==1)then .sl (rowsOf s agg l n) none ⟨false,some false⟩else .jS id n agg
  |_=>.jS id n agg
 |d=>d
def yt(S:ai):DV->ai
 |.jS id n _=>match CE S id n with
  |some (e,s,l,false)=>S.set id (.op e s l true)
  |_=>S
 |_=>S
def tV(S:ai):DV->ai
 |.agg l=>l.foldl yt S
 |d=>yt S d
def HW(S:ai):DV->ai
 |.tup l=>l.foldl tV S
 |d=>tV S d
def tJ(S:ai):DV->DV
 |.agg l=>.agg (l.map (kI S))
 |d=>kI S d
def uu(S:ai):DV->DV
 |.tup l=>.tup (l.map (tJ S))
 |d=>tJ S d
def iq(ρ:Operand->Option DV)(x:Option Operand)(aid eL:Nat):Option Nat:=
 match x with
 |none=>some aid
 |some x=>match intOf ρ x with
  |some i=>if 0<=i/\i.toNat<=eL then some i.toNat else none
  |none=>none
def MF(rows:List DV)(f:SF):Option Bool:=if rows.isEmpty then f.isNil else some false
def Dz(op:BinOp)(t:TypeId):Option DV->Option DV->Option DV
 |some (.sl rows _ f),some (.sl [] _ ⟨_,some true⟩)=>match ty t,MF rows f with
  |some ⟨.slice _ _ _ _,_,_⟩,some b=>match op with
   |.eql=>some (.val (.bool b))
   |.neq=>some (.val (.bool (!b)))
   |_=>none
  |_,_=>none
 |_,_=>none
def sF(rows:List DV)(full:SF)(l h:Nat)(m:Option Nat):Option DV:=
 if l<=h then match m with
  |none=>some (.sl ((rows.take h).drop l) none ⟨full.full&&h==rows.length,MF rows full⟩)
  |some m=>if h<=m then some (.sl ((rows.take h).drop l) none ⟨m==h,MF rows full⟩)else none
 else none
def wO(g:FuncId)(args:List DV)(S:ai):Option (DV×ai):=
 if(args.map DV.strip).all DV.pure then match aK g (args.map DV.strip)with
  |some v=>some (v,S)
  |none=>call g args S
 else call g args S
def Om(p:Value×Value):MapEntry:=⟨p.1,p.2,0⟩
def J3(t:TypeId)(es:List MapEntry)(k:Value)(ok:Bool):Sem Value:=do
 let .map key elem<-underlying t|stuck "Lookup: map type expected"
 Instr.checkKey es.isEmpty 10000 key k
 let (v,o)<-match<-Instr.findKey key k es with
  |some (_,v)=>pure (v,true)
  |none=>pure (<-zeroValue elem,false)
 pure (if ok then .tuple #[v,.bool o]else v)
def Kb(t:TypeId)(es:List MapEntry)(k:Value):Sem (Option (Nat×Value)):=do
 let .map key _<-underlying t|stuck "MapUpdate: map type expected"
 Instr.checkKey false 10000 key k
 Instr.findKey key k es
def JY:Value->Option DV
 |.tuple vs=>match vs.toList with
  |[v,.bool b]=>(Bv v).map λd=>.tup [d,.val (.bool b)]
  |_=>none
 |v=>Bv v
def My(es:List (Value×Value))(k v:Value):Option (Nat×Value)->Option (List (Value×Value))
 |none=>some (es++[(k,v)])
 |some (i,_)=>match es[i]? with
  |some (k',_)=>if Instr.sameBits 10000 k' k then some (es.set i (k,v))else none
  |none=>none
def ah(ρ:Operand->Option DV)(o:Oper)(S:ai)(aF:Nat):Option (DV×ai):=
 match o.op with
 |.move x|.assign x=>(ρ x).map (·,S)
 |.pick c a b=>match ρ c with
  |some (.val (.bool t))=>(if t then ρ a else ρ b).map (·,S)
  |_=>none
 |.alloc e=>match ty e with
  |some ⟨_,_,some z⟩=>some (.ptr aF 0,eU S aF (.cells z))
  |_=>none
 |.box _ x=>match ρ x with
  |some d=>some (.ptr aF 0,eU S aF (.cells d.cells))
  |none=>none
 |.build t ps=>match ty t,kE ρ ps.toList with
  |some ⟨.struct fs,_,some z⟩,some l=>(lG (λi=>(fs[i]?).map λf=>(f.1,f.2.1)) z l).map λcs=>(.agg cs,S)
  |some ⟨.array _ s _,_,some z⟩,some l=>(lG (λi=>some (i*s,s)) z l).map λcs=>(.agg cs,S)
  |_,_=>none
 |.buildSlice t n ps=>match ty t,kE ρ ps.toList with
  |some ⟨.slice e s _ agg,_,_⟩,some l=>match ty e with
   |some ⟨_,_,some z⟩=>if decide (0<s)&&decide (n*s<=16777216)then
     match lG (λi=>some (i*s,s)) ((List.replicate n z).flatten) (l.map λ(i,v)=>(i,v.strip))with
     |some cs=>if cs.all DV.ck&&(agg||s==1)then some (match ty.h o with
      |1=>(.jS aF n agg,eU S aF (.op e s cs false))
      |_=>(.sl (rowsOf s agg cs n) none ⟨true,some false⟩,S))else none
     |none=>none
    else none
   |_=>none
  |_,_=>none
 |.makeSlice t a b=>match ty t,intOf ρ a,intOf ρ b with
  |some ⟨.slice e s lR agg,_,_⟩,some n,some m=>match ty e with
   |some ⟨_,_,some z⟩=>if decide (0<=n)&&decide (m=n)&&decide (0<s)&&(agg||s==1)&&decide (n<=140737488355328-4096)&&decide (n.toNat*lR<=fQ)&&(z.map DV.aO).all DV.ck then
     some (.jS aF n.toNat agg,eU S aF (.op e s (List.replicate n.toNat (z.map DV.aO)).flatten false))else none
   |_=>none
  |_,_,_=>none
 |.load t a=>match ρ a with
  |some a=>(lE ty S t a).map (·,S)
  |none=>none
 |.store t a x=>match ρ a,ρ x with
  |some a,some v=>(pX ty S t a v).map (bF,·)
  |_,_=>none
 |.nilCheck x=>match ρ x with
  |some (.ptr id off)=>some (.ptr id off,S)
  |_=>none
 |.binOp op t x y _=>match valOf ρ x,valOf ρ y with
  |some a,some b=>(jw P (do eqGuard op t x y a b;binOp op t a b)).map (·,S)
  |_,_=>(Dz ty op t (ρ x) (ρ y)).map (·,S)
 |.unOp op _ x=>match valOf ρ x with
  |some a=>(jw P (Op.unary op a)).map (·,S)
  |none=>none
 |.convert s d x=>match valOf ρ x with
  |some a=>(jw P (Go.convert s d a)).map (·,S)
  |none=>none
 |.makeFunc (.func f) fs cs=>match evs ρ fs.toList,evs ρ cs.toList with
  |some a,some b=>some (.fn f a b,S)
  |_,_=>none
 |.slice t x lo hi mx=>match ty t,ρ x with
  |some ⟨.slice _ s _ _,_,_⟩,some (.sl rows _ full)=>if !rows.all (λr=>decide (r.cells.length=s))then none else
   match iq ρ mx rows.length rows.length with
   |some m=>match iq ρ hi rows.length m with
    |some h=>match iq ρ lo 0 h with
     |some l=>if hi.isNone&&mx.isSome then none else(sF rows full l h (mx.map λ_=>m)).map (·,S)
     |none=>none
    |none=>none
   |none=>none
  |_,_=>none
 |.fieldAddr t x f=>match ty t,ρ x with
  |some ⟨.struct fs,_,_⟩,some (.ptr id off)=>match fs[f]? with
   |some (o,s,_)=>if 0<s then some (.ptr id (off+o),S)else none
   |none=>none
  |some ⟨.struct fs,_,_⟩,some (.fq rows i off)=>match fs[f]? with
   |some (o,s,_)=>if 0<s then some (.fq rows i (off+o),S)else none
   |none=>none
  |some ⟨.struct fs,_,_⟩,some (.gu id n off)=>match fs[f]?,CE S id n with
   |some (o,s,_),some _=>if 0<s then some (.gu id n (off+o),S)else none
   |_,_=>none
  |_,_=>none
 |.field t x f=>match ty t,ρ x with
  |some ⟨.struct fs,_,_⟩,some (.agg l)=>match fs[f]? with
   |some (off,s,agg)=>(pO agg s l off).map (·,S)
   |none=>none
  |_,_=>none
 |.indexAddr t x i=>match ty t,ρ x,intOf ρ i with
  |some ⟨.slice _ s _ _,_,_⟩,some (.sl rows _ _),some n=>if 0<=n then
    match rows[n.toNat]? with
    |some r=>if r.cells.length=s then some (.fq rows n.toNat 0,S)else none
    |none=>none
   else none
  |some ⟨.array k s _,_,_⟩,some (.ptr id off),some n=>if 0<=n/\n.toNat<k then some (.ptr id (off+n.toNat*s),S)else none
  |some ⟨.array k s _,_,_⟩,some (.fq rows j off),some n=>if 0<=n/\n.toNat<k then some (.fq rows j (off+n.toNat*s),S)else none
  |some ⟨.slice _ s _ _,_,_⟩,some (.jS id m _),some n=>match CE S id m with
   |some (_,s',_,_)=>if 0<=n/\n.toNat<m/\s'=s then some (.gu id m (n.toNat*s),S)else none
   |none=>none
  |_,_,_=>none
 |.index t x i=>match ty t,ρ x,intOf ρ i with
  |some ⟨.array k s agg,_,_⟩,some (.agg l),some n=>if 0<=n/\n.toNat<k then(pO agg s l (n.toNat*s)).map (·,S)else none
  |_,_,_=>none
 |.makeMap _ none=>some (.map aF,eU S aF (.map []))
 |.lookup t m k ok=>match ρ m,valOf ρ k with
  |some (.map id),some kv=>match S[id]? with
   |some (.map es)=>((cu P (J3 t (es.map Om) kv ok)).bind JY).map (·,S)
   |_=>none
  |_,_=>none
 |.mapUpdate t m k v=>match ρ m,valOf ρ k,valOf ρ v with
  |some (.map id),some kv,some vv=>match S[id]? with
   |some (.map es)=>match cu P (Kb t (es.map Om) kv)with
    |some r=>(My es kv vv r).map λes'=>(bF,S.set id (.map es'))
    |none=>none
   |_=>none
  |_,_,_=>none
 |.extract t i=>match ρ t with
  |some (.tup l)=>(l[i]?).map (·,S)
  |_=>none
 |.call {callee:=.builtin b,args,argTypes}=>match b,args.toList,argTypes.toList with
  |.len,[x],[t]=>match ty t,ρ x with
   |some ⟨.slice _ _ _ _,_,_⟩,some (.sl rows _ _)=>some (.val (.int .i64 rows.length),S)
   |some ⟨.slice _ _ _ _,_,_⟩,some (.jS _ n _)=>some (.val (.int .i64 n),S)
   |some ⟨.array n _ _,_,_⟩,_=>some (.val (.int .i64 n),S)
   |_,some (.val v)=>(jw P (Builtin.len_ #[t] o.type #[v])).map (·,S)
   |_,_=>none
  |.append,[x,y],[t,u]=>if t=u then match ρ x,ρ y with
    |some a,some b=>match a with
     |.jS .. =>oS ty S aF t a b
     |_=>match ty.h o with
      |1=>oS ty S aF t a b
      |_=>jW ty S aF t a b
    |_,_=>none
   else none
  |.min,xs,_=>match(evs ρ xs).bind uJ with
   |some vs=>(jw P (Builtin.min_ argTypes o.type vs.toArray)).map (·,S)
   |none=>none
  |.max,xs,_=>match(evs ρ xs).bind uJ with
   |some vs=>(jw P (Builtin.max_ argTypes o.type vs.toArray)).map (·,S)
   |none=>none
  |_,_,_=>none
 |.call {callee:=.value f,args,argTypes:=_}=>match ρ f,evs ρ args.toList with
  |some (.fn g fs cs),some xs=>match ty.h o with
   |1=>call g (fs++xs++cs) S
   |_=>wO aK call g (fs++xs++cs) S
  |some (.od id),some xs=>yf id xs S
  |_,_=>none
 |_=>none
def cD(ops:Array Oper)(env:List DV)(o:Oper):Bool:=
 match o.guard with
 |none=>true
 |some (j,want)=>match(ops[j]?).bind (·.dst)with
  |some d=>match env[d]? with
   |some (.val (.bool b))=>b==want
   |_=>false
  |none=>false
def ku(env:List DV)(dst:Option Tmp)(v:DV):List DV:=
 match dst with
 |some d=>env.set d v
 |none=>env
def rG(env:List DV)(S:ai)(x:Operand):ai:=match jr env x with|some d=>yt S d|none=>S
def FB(o:Oper)(env:List DV)(S:ai):List DV×ai:=
 match ty.h o with
 |2=>
  let S':=o.op.operands.toList.foldl (rG env) S
  (env.map (kI S'),S')
 |_=>(env,S)
def HM(ops:Array Oper):List Oper->List DV->ai->Option (List DV×ai)
 |[],env,S=>some (env,S)
 |o::r,env,S=>
  if cD ops env o then match FB ty o env S with
   |(env,S)=>match ah P ty aK call yf (jr env) o S S.length with
    |some (v,S')=>HM ops r (ku env o.dst v) S'
    |none=>none
  else HM ops r (ku env o.dst bF) S
def dD(ρ:Operand->Option DV)(o:Oper)(S:ai):Option DV:=
 match o.op with
 |.alloc _|.box .. |.store .. |.makeMap .. |.mapUpdate .. |.makeSlice .. =>none
 |.buildSlice .. =>match ty.h o with
  |1=>none
  |_=>(ah P ty aK call yf ρ o S S.length).map (·.1)
 |.call {callee:=.builtin .append,.. }=>none
 |.call {callee:=.value f,args,argTypes:=_}=>match ρ f,evs ρ args.toList with
  |some (.fn g fs cs),some xs=>if ty.h o=1 then none else if((fs++xs++cs).map DV.strip).all DV.pure then aK g ((fs++xs++cs).map DV.strip)else none
  |_,_=>none
 |_=>(ah P ty aK call yf ρ o S S.length).map (·.1)
def qU(ops:Array Oper)(S:ai):List Oper->List DV->Option (List DV)
 |[],env=>some env
 |o::r,env=>
  if cD ops env o then match dD P ty aK call yf (jr env) o S with
   |some v=>qU ops S r (ku env o.dst v)
   |none=>none
  else qU ops S r (ku env o.dst bF)
def pQ(call:bt)(g:FuncId)(args:List DV)(S:ai):Option (Nat×DV×List DV):=
 match args with
 |.ptr i off::rest=>match S[i]? with
  |some (.cells l)=>
   if(rest.map DV.strip).all DV.pure&&(l.map DV.aO).all DV.ck then
    match call g (.ptr 0 off::rest.map DV.strip) [.cells (l.map DV.aO)]with
    |some (v,.cells l'::_)=>if v.strip.pure&&(l'.map DV.aO).all DV.ck then some (i,v.strip,l'.map DV.aO)else none
    |_=>none
   else none
  |_=>none
 |_=>none
def Yz(R:List Nat):DV->Bool
 |.ptr i _=>R.contains i
 |d=>d.ck
def Ml(R:List Nat):DV->Bool
 |.ptr i _=>R.contains i
 |.fn _ fs cs=>fs.all (Yz R)&&cs.all (Yz R)
 |d=>d.ck
def okA(R:List Nat):DV->Bool
 |.ptr i _=>R.contains i
 |.fn _ fs cs=>fs.all (Yz R)&&cs.all (Yz R)
 |d=>d.pure
def dz:DV->DV
 |.fn f fs cs=>.fn f (fs.map DV.aO) (cs.map DV.aO)
 |d=>d.aO
def jB:DV->DV
 |.fn f fs cs=>.fn f (fs.map DV.aO) (cs.map DV.aO)
 |d=>d.strip
def TE:DV->List Nat
 |.ptr i _=>[i]
 |_=>[]
def Al:DV->List Nat
 |.ptr i _=>[i]
 |.fn _ fs cs=>fs.flatMap TE++cs.flatMap TE
 |_=>[]
def HR(S:ai)(i:Nat):List Nat:=
 match S[i]? with
 |some (.cells l)=>l.flatMap Al
 |_=>[]
def rI(S:ai)(R:List Nat):List Nat:=R++(R.flatMap (HR S)).filter λi=>!R.contains i
def jC(S:ai)(args:List DV):List Nat:=rI S (rI S (rI S (args.flatMap Al)))
def kS(S:ai)(R:List Nat)(i:Nat):Bool:=
 match S[i]? with
 |some (.cells l)=>(l.map dz).all (Ml R)
 |_=>false
def Us(b:DB):DB:=
 match b with
 |.cells l=>.cells (l.map dz)
 |_=>.none
def tI(S:ai)(R:List Nat):ai:=S.mapIdx λi b=>if R.contains i then Us b else .none
def UM(S1:ai)(i:Nat)(b:DB):DB:=
 match S1[i]? with
 |some (.cells l)=>.cells (l.map dz)
 |_=>b
def lH(S S1:ai)(R:List Nat):ai:=S.mapIdx λi b=>if R.contains i then UM S1 i b else b
def ov(call:bt)(g:FuncId)(args:List DV)(S:ai):Option (List Nat×DV×ai):=
 if !(jC S args).isEmpty&&(args.map jB).all (okA (jC S args))&&(jC S args).all (kS S (jC S args))then
  match call g (args.map jB) (tI S (jC S args))with
  |some (v,S1)=>if v.strip.pure&&(jC S args).all (kS S1 (jC S args))then some (jC S args,v.strip,S1)else none
  |none=>none
 else none
def OR(call:bt):bt:=λg args S=>match ov call g args S with
 |some (R,v,S1)=>some (v,lH S S1 R)
 |none=>call g args S
def Kj(call:bt):bt:=λg args S=>match pQ call g args S with
 |some (i,v,l)=>some (v,S.set i (.cells l))
 |none=>OR call g args S
def YU(r:Option (DV×ai)):Option (List DV×TypeId×Nat):=
 match r with
 |some (.sl rows (some t) _,S)=>match S[t]? with
  |some (.tail e s n)=>if n=rows.length*s then some (rows,e,s)else none
  |_=>none
 |_=>none
def acB(call:bt)(g:FuncId)(args:List DV):Option (List DV×TypeId×Nat):=
 if(args.map DV.strip).all DV.pure then YU (call g (args.map DV.strip) [])else none
def yB(call:bt)(aF:Nat):bt:=λg args S=>match S[aF]?,acB call g args with
 |some .none,some (rows,e,s)=>some (.sl rows (some aF) ⟨false,none⟩,S.set aF (.tail e s (rows.length*s)))
 |_,_=>none
structure de where
 ids:Option (List Nat)
 wr:Bool
def aM(ρ:Operand->Option DV)(o:Oper)(S:ai)(aF:Nat):Option (DV×ai×de):=
 match o.op with
 |.alloc _|.box .. |.makeMap .. =>match S[aF]? with
  |some .none=>(ah P ty aK call yf ρ o S aF).map λr=>(r.1,r.2,⟨some [aF],true⟩)
  |_=>none
 |.store _ a _=>match ρ a with
  |some (.ptr id _)=>(ah P ty aK call yf ρ o S aF).map λr=>(r.1,r.2,⟨some [id],true⟩)
  |some (.gu id _ _)=>(ah P ty aK call yf ρ o S aF).map λr=>(r.1,r.2,⟨some [id],true⟩)
  |_=>none
 |.fieldAddr _ a _=>match ρ a with
  |some (.gu id _ _)=>(ah P ty aK call yf ρ o S aF).map λr=>(r.1,r.2,⟨some [id],false⟩)
  |_=>(ah P ty aK call yf ρ o S aF).map λr=>(r.1,r.2,⟨some [],false⟩)
 |.indexAddr _ a _=>match ρ a with
  |some (.jS id _ _)=>(ah P ty aK call yf ρ o S aF).map λr=>(r.1,r.2,⟨some [id],false⟩)
  |_=>(ah P ty aK call yf ρ o S aF).map λr=>(r.1,r.2,⟨some [],false⟩)
 |.buildSlice .. =>match ty.h o with
  |1=>none
  |_=>(ah P ty aK call yf ρ o S aF).map λr=>(r.1,r.2,⟨some [],false⟩)
 |.makeSlice .. =>none
 |.lookup _ m .. =>match ρ m with
  |some (.map id)=>(ah P ty aK call yf ρ o S aF).map λr=>(r.1,r.2,⟨some [id],false⟩)
  |_=>none
 |.mapUpdate _ m .. =>match ρ m with
  |some (.map id)=>(ah P ty aK call yf ρ o S aF).map λr=>(r.1,r.2,⟨some [id],true⟩)
  |_=>none
 |.load _ a=>match ρ a with
  |some (.ptr id _)=>(ah P ty aK call yf ρ o S aF).map λr=>(r.1,r.2,⟨some [id],false⟩)
  |some (.gu id _ _)=>(ah P ty aK call yf ρ o S aF).map λr=>(r.1,r.2,⟨some [id],false⟩)
  |_=>(ah P ty aK call yf ρ o S aF).map λr=>(r.1,r.2,⟨some [],false⟩)
 |.call {callee:=.builtin .append,args,.. }=>if ty.h o=1 then none else if Dl ((args[0]?).bind ρ)then none else match S[aF]?,(args[0]?).bind ρ with
  |some .none,some (.sl _ (some t) _)=>(ah P ty aK call yf ρ o S aF).map λr=>(r.1,r.2,⟨some [t,aF],true⟩)
  |some .none,_=>(ah P ty aK call yf ρ o S aF).map λr=>(r.1,r.2,⟨some [aF],true⟩)
  |_,_=>none
 |.call {callee:=.value f,args,argTypes:=_}=>match ρ f,evs ρ args.toList with
  |some (.fn g fs cs),some xs=>
   let as_:=fs++xs++cs
   if ty.h o=1 then(yB call aF g as_ S).map λr=>(r.1,r.2,⟨some [aF],true⟩)
   else if(as_.map DV.strip).all DV.pure then(aK g (as_.map DV.strip)).map λv=>(v,S,⟨some [],false⟩)
   else match pQ call g as_ S with
    |some (i,v,l)=>some (v,S.set i (.cells l),⟨some [i],true⟩)
    |none=>match ov call g as_ S with
     |some (R,v,S1)=>some (v,lH S S1 R,⟨some R,true⟩)
     |none=>(call g as_ S).map λr=>(r.1,r.2,⟨none,true⟩)
  |some (.od id),some xs=>(yf id xs S).map λr=>(r.1,r.2,⟨none,true⟩)
  |_,_=>none
 |_=>(ah P ty aK call yf ρ o S aF).map λr=>(r.1,r.2,⟨some [],false⟩)
def tG(ops:Array Oper)(n0:Nat):List Oper->Nat->List DV->ai->Option (List DV×ai×List de)
 |[],_,env,S=>some (env,S,[])
 |o::r,i,env,S=>
  if cD ops env o then match aM P ty aK call yf (jr env) o S (n0+i)with
   |some (v,S',f)=>match tG ops n0 r (i+1) (ku env o.dst v) S' with
    |some (aL,xk,fs)=>some (aL,xk,f::fs)
    |none=>none
   |none=>none
  else match tG ops n0 r (i+1) (ku env o.dst bF) S with
   |some (aL,xk,fs)=>some (aL,xk,⟨some [],false⟩::fs)
   |none=>none
def mj(ops:Array Oper)(o:Oper):List Tmp:=
 o.dst.toList++o.op.operands.toList.filterMap (λ|.tmp t=>some t|_=>none)++(match o.guard with|some (j,_)=>((ops[j]?).bind (·.dst)).toList|none=>[])
def mg(ops:Array Oper)(b:Array Nat):Bool:=
 (ops.toList.zipIdx.all λ(o,i)=>o.after.all λe=>!Region.binds .any e||decide (e.on<i))&&
 ops.toList.zipIdx.all λ(o,i)=>ops.toList.zipIdx.all λ(o',j)=>match o'.dst with
  |some d=>i==j||!(mj ops o).contains d||(b.getD j 0).testBit i||(b.getD i 0).testBit j
  |none=>true
def de.meets (f g:de):Bool:=
 (f.wr||g.wr)&&match f.ids,g.ids with
 |none,none=>true
 |none,some l=>!l.isEmpty
 |some l,none=>!l.isEmpty
 |some l,some m=>l.any m.contains
def ur(b:Array Nat)(fs:List de):Bool:=
 fs.zipIdx.all λ(f,i)=>fs.zipIdx.all λ(g,j)=>i==j||!f.meets g||(b.getD j 0).testBit i||(b.getD i 0).testBit j
def IV(o:Oper):Bool:=
 match o.op with
 |.call {callee:=.value f,args:=_,argTypes}=>(match f,P.underlying o.type with
  |.tmp _,some .bool=>true
  |_,_=>false)||match argTypes[0]? with
  |some t=>match P.underlying t with
   |some (.pointer _)=>true
   |_=>false
  |none=>false
 |_=>false
def qC(ops:Array Oper)(draw:Bool)(env:List DV)(S:ai):Option (List DV×ai):=
 if draw then if !mg ops (Region.before ops)then none else match if ops.toList.any (IV P)then none else qU P ty aK call yf ops S ops.toList env with
  |some aL=>some (aL,S)
  |none=>match tG P ty aK call yf ops S.length ops.toList 0 env (S++List.replicate ops.size .none)with
   |some (aL,S',fs)=>if ur (Region.before ops) fs then some (aL,S')else none
   |none=>none
 else HM P ty aK call yf ops ops.toList env S
inductive DX where
 |normal
 |exit (id:Nat)
 |ret
 deriving DecidableEq
def oB(f:List DV->ai->Option (DX×List DV×ai)):Nat->List DV->ai->Option (DX×List DV×ai)
 |0,_,_=>none
 |n+1,env,S=>match f env S with
  |some (.normal,aL,S')=>oB f n aL S'
  |r=>r
def cU(L:Nat)(fn:FuncId)(jd:Bool):Code->List DV->ai->Option (DX×List DV×ai)
 |.skip,env,S|.label _,env,S=>some (.normal,env,S)
 |.region _ ops draw,env,S=>(qC P ty aK call yf ops draw env S).map (.normal,·)
 |.seq a b,env,S=>match cU L fn jd a env S with
  |some (.normal,aL,S')=>cU L fn jd b aL S'
  |r=>r
 |.cond c a b,env,S=>match jr env c with
  |some (.val (.bool true))=>cU L fn jd a env S
  |some (.val (.bool false))=>cU L fn jd b env S
  |_=>none
 |.block id c,env,S=>match cU L fn jd c env S with
  |some (.exit iT,aL,S')=>some (if iT=id then .normal else .exit iT,aL,S')
  |r=>r
 |.loop c,env,S=>oB (cU L fn jd c) L env S
 |.scope c,env,S=>cU L fn jd c env S
 |.exit id,env,S=>some (.exit id,env,S)
 |.ret,env,S=>some (.ret,env,S)
 |.rangeFunc f ps oD body,env,S=>if jd then none else match jr env f with
  |some (.fn g fs cs)=>match call g (fs++[.od (S.length+1)]++cs) (S++[.defer,.loop ⟨.ready,none,fn,env,ps.toList,oD,body,S.length⟩])with
   |some (_,S')=>match S'[S.length+1]? with
    |some (.loop r)=>if r.st==.busy then none else match r.kz with
     |none=>some (.normal,env,S'.set (S.length+1) (.loop {r with st:=.exhausted}))
     |some .ret=>some (.ret,env,S'.set (S.length+1) (.loop {r with st:=.exhausted}))
     |some (.exit e)=>some (.exit e,env,S'.set (S.length+1) (.loop {r with st:=.exhausted}))
     |_=>none
    |_=>none
   |none=>none
  |_=>none
 |_,_,_=>none
def tF:List DV->List (Tmp×DV)->List DV
 |env,[]=>env
 |env,(t,d)::l=>tF (env.set t d) l
def uK(L:Nat):ej:=λid args S=>match S[id]? with
 |some (.loop r)=>if args.length=r.params.length then
   match cU P ty aK call yf L r.fn true r.assign (tF r.env (r.params.zip args)) S with
   |some (.normal,adk,S1)=>match S1[id]? with
    |some (.loop r1)=>if r1.st=.ready then
      match cU P ty aK call yf L r.fn true r.body adk (S1.set id (.loop {r1 with st:=.busy}))with
      |some (e,_,S2)=>match S2[id]? with
       |some (.loop r2)=>match e with
        |.normal=>some (.val (.bool true),S2.set id (.loop {r2 with st:=.ready,kz:=none}))
        |.ret=>some (.val (.bool false),S2.set id (.loop {r2 with st:=.done,kz:=some .ret}))
        |.exit i=>some (.val (.bool false),S2.set id (.loop {r2 with st:=.done,kz:=some (.exit i)}))
       |_=>none
      |none=>none
     else none
    |_=>none
   |_=>none
  else none
 |_=>none
def tU(env:List DV)(S:ai):List ResultVar->Option (List DV)
 |[]=>some []
 |.tmp t::r=>(tU env S r).map (env.getD t bF::·)
 |.cell a t::r=>match lE ty S t (env.getD a bF),tU env S r with
  |some v,some l=>some (v::l)
  |_,_=>none
def oneOf:List DV->DV
 |[d]=>d
 |l=>.tup l
def tN(L:Nat)(f:FuncId)(fn:Func)(args:List DV)(S:ai):Option (DV×ai):=
 match fn.body with
 |some c=>match cU P ty aK call yf L f false c (args++List.replicate (fn.ntmps-args.length) bF) S with
  |some (.normal,env,S')|some (.ret,env,S')=>(tU ty env S' fn.results.toList).map λl=>(oneOf l,S')
  |_=>none
 |none=>none
end
def kJ(bH:bR)(call:bt):bR:=λf args=>match bH f args with
 |some v=>if v.pure then some v else none
 |none=>match call f args []with
  |some (v,S)=>if(uu (HW S v) v).strip.pure then some (uu (HW S v) v).strip else none
  |none=>none
def dx(P:Program)(ty:fR)(bH:bR)(L:Nat):Nat->bt×ej
 |0=>(λ_ _ _=>none,λ_ _ _=>none)
 |n+1=>(λf args S=>match P.funcs[f]? with
   |some fn=>tN P ty (kJ bH (dx P ty bH L n).1) (dx P ty bH L n).1 (dx P ty bH L n).2 L f fn args S
   |none=>none,
  uK P ty (kJ bH (dx P ty bH L n).1) (dx P ty bH L n).1 (dx P ty bH L n).2 L)
def aiA(P:Program)(ty:fR)(bH:bR)(L n:Nat):bt:=(dx P ty bH L n).1
end Go.Di
namespace Go.Tv
open Go Go.Proofs
def gG:Code->Option (List Tmp×Code×Code)
 |.seq a b|.cond _ a b=>match gG a with
  |some r=>some r
  |none=>gG b
 |.block _ c|.loop c|.scope c=>gG c
 |.rangeFunc _ ps a b=>some (ps.toList,a,b)
 |_=>none
def wP(y:List Tmp×Code×Code):Code->Prop
 |.seq a b|.cond _ a b=>wP y a/\wP y b
 |.block _ c|.loop c|.scope c=>wP y c
 |.rangeFunc _ ps a b=>(ps.toList,a,b)=y
 |_=>True
noncomputable def Cq (fn:FuncId):Option (List Tmp×Code×Code):=((Try.prog.funcs[fn]?).bind Func.body).bind gG
end Go.Tv
namespace Go.Tv
open Go Go.Di
inductive TT where
 |int (k:IntKind)
 |bool
 |str
 |unit
 |pair (a b:TT)
 |sl (t:TT)
 deriving DecidableEq
abbrev TT.den:TT->Type
 |.int _=>Int
 |.bool=>Bool
 |.str=>ByteArray
 |.unit=>Unit
 |.pair a b=>a.den×b.den
 |.sl t=>List t.den
def TT.dft:(t:TT)->t.den
 |.int _=>(0:Int)
 |.bool=>false
 |.str=>ByteArray.empty
 |.unit=>()
 |.pair a b=>(a.dft,b.dft)
 |.sl _=>[]
def TT.size:TT->Nat
 |.unit=>0
 |.pair a b=>a.size+b.size
 |_=>1
def TT.agg:TT->Bool
 |.unit|.pair _ _=>true
 |_=>false
inductive Ap where
 |no
 |full
 |je (g:Nat)
 |stop (b:Bool)
 |Cf (g:Nat)
inductive TV where
 |unk
 |val (v:Value)
 |ax
 |agg (l:List TV)
 |tup (l:List TV)
 |sl (t:TT) (l:List t.den) (ap:Ap)
 |ptr (id off:Nat)
 |fq (t:TT) (l:List t.den) (i off:Nat)
 |fn (f:FuncId) (first captured:List TV)
 |mp (id:Nat)
 |so (g:Nat) (t:TT)
 |sp (g:Nat) (t:TT) (i off:Nat)
 |od (k:Nat) (fn:FuncId) (te:List TV)
instance:Inhabited TV:=⟨.unk⟩
def TT.cells:(t:TT)->t.den->List TV
 |.int k,n=>[.val (.int k n)]
 |.bool,b=>[.val (.bool b)]
 |.str,s=>[.val (.string s)]
 |.unit,_=>[]
 |.pair a b,x=>a.cells x.1++b.cells x.2
 |.sl t,l=>[.sl t l .no]
def ofInt(k:IntKind):List TV->Option (Int×List TV)
 |.val (.int k' n)::r=>if k'=k then some (n,r)else none
 |_=>none
def ofBool:List TV->Option (Bool×List TV)
 |.val (.bool b)::r=>some (b,r)
 |_=>none
def ofStr:List TV->Option (ByteArray×List TV)
 |.val (.string b)::r=>some (b,r)
 |_=>none
def Y0(t:TT):List TV->Option (List t.den×List TV)
 |.sl t' l _::r=>if h:t'=t then some (h▸l,r)else none
 |.ax::r=>some ([],r)
 |_=>none
def TT.of:(t:TT)->List TV->Option (t.den×List TV)
 |.int k,l=>ofInt k l
 |.bool,l=>ofBool l
 |.str,l=>ofStr l
 |.unit,l=>some ((),l)
 |.pair a b,l=>match a.of l with
  |some (x,r1)=>match b.of r1 with
   |some (y,r2)=>some ((x,y),r2)
   |none=>none
  |none=>none
 |.sl t,l=>Y0 t l
def Ds(agg:Bool)(r:DV):Prop:=if agg then∃l,r=.agg l else∀l,r≠.agg l
def fC{α:Type}(R:α->List DV->Prop)(agg:Bool):List α->List DV->Prop
 |[],[]=>True
 |x::l,r::rows=>(R x r.cells/\Ds agg r)/\fC R agg l rows
 |_,_=>False
def CR:(t:TT)->t.den->List DV->Prop
 |.int k,n,cs=>cs=[.val (.int k n)]
 |.bool,b,cs=>cs=[.val (.bool b)]
 |.str,s,cs=>cs=[.val (.string s)]
 |.unit,_,cs=>cs=[]
 |.pair a b,x,cs=>∃c1 c2,cs=c1++c2/\CR a x.1 c1/\CR b x.2 c2
 |.sl t,l,cs=>∃rows f,cs=[.sl rows none f]/\fC (CR t) t.agg l rows
abbrev kY:=Nat->Option Nat
def pL(ι:kY)(S:ai)(n:Nat)(tok:Option Nat)(f:SF):Ap->Prop
 |.no|.stop _=>True
 |.full=>tok=none/\f.full=true
 |.je g|.Cf g=>(tok=none/\f.full=true/\n=0)\/∃t e s,ι g=some t/\tok=some t/\S[t]? =some (.tail e s (n*s))
mutual
def RT(ι:kY)(S:ai):TV->DV->Prop
 |.unk,_=>True
 |.val v,.val u=>u=v
 |.ax,.sl rows tok f=>rows=[]/\tok=none/\f=⟨true,some true⟩
 |.agg l,.agg m=>cK ι S l m
 |.tup l,.tup m=>cK ι S l m
 |.sl t l ap,.sl rows tok f=>fC (CR t) t.agg l rows/\pL ι S rows.length tok f ap
 |.ptr id off,.ptr iT sD=>ι id=some iT/\sD=off
 |.fq t l i off,.fq rows i' sD=>fC (CR t) t.agg l rows/\i'=i/\sD=off/\i<l.length
 |.fn f a b,.fn f' a' b'=>f'=f/\cK ι S a a'/\cK ι S b b'
 |.mp id,.map iT=>ι id=some iT
 |.so g t,.jS id n agg=>ι g=some id/\agg=t.agg/\∃e s l z,S[id]? =some (.op e s l z)/\n*s=l.length
 |.sp g t i off,.gu id n sD=>ι g=some id/\sD=i*t.size+off/\∃e s l z,S[id]? =some (.op e s l z)/\n*s=l.length/\i*t.size+t.size<=l.length
 |.od k fn te,.od id=>ι k=some id/\∃ps a b env Bp,Cq fn=some (ps,a,b)/\S[id]? =some (.loop ⟨.ready,none,fn,env,ps,a,b,Bp⟩)/\cK ι S te env
 |_,_=>False
def cK(ι:kY)(S:ai):List TV->List DV->Prop
 |[],[]=>True
 |a::l,b::m=>RT ι S a b/\cK ι S l m
 |_,_=>False
end
section
variable {ι:kY} {S:ai}
theorem kN{α:Type}{R:α->List DV->Prop}{agg:Bool}:∀{l:List α}{rows:List DV},fC R agg l rows->rows.length=l.length
 |[],[],_=>rfl
 |_::l,_::rows,h=>by simp[kN h.2]
theorem D5{α:Type}{R:α->List DV->Prop}{agg:Bool}:∀{l:List α}{rows:List DV}{i:Nat}{x:α},fC R agg l rows->l[i]? =some x->∃r,rows[i]? =some r/\R x r.cells/\Ds agg r
 |[],_,_,_,_,h=>by simp at h
 |_::_,[],_,_,h,_=>h.elim
 |y::l,r::rows,0,x,h,hx=>by simp only[bY,aB]at hx;subst hx;exact⟨r,rfl,h.1⟩
 |y::l,r::rows,i+1,x,h,hx=>by obtain⟨r',h1,h2⟩:=D5 (i:=i) h.2 (by simpa using hx);exact⟨r',by simpa using h1,h2⟩
theorem BR{α:Type}{R:α->List DV->Prop}{agg:Bool}:∀{l m:List α}{rows abw:List DV},fC R agg l rows->fC R agg m abw->fC R agg (l++m) (rows++abw)
 |[],_,[],_,_,h=>h
 |_::_,_,_::_,_,h,k=>⟨h.1,BR h.2 k⟩
theorem rU{α:Type}{R:α->List DV->Prop}{agg:Bool}:∀{l:List α}{rows:List DV}(n:Nat),fC R agg l rows->fC R agg (l.take n) (rows.take n)
 |_,_,0,_=>by simp[fC]
 |[],[],n+1,_=>by simp[fC]
 |_::_,_::_,n+1,h=>⟨h.1,rU n h.2⟩
theorem vX{α:Type}{R:α->List DV->Prop}{agg:Bool}:∀{l:List α}{rows:List DV}(n:Nat),fC R agg l rows->fC R agg (l.drop n) (rows.drop n)
 |_,_,0,h=>h
 |[],[],n+1,_=>by simp[fC]
 |_::_,_::_,n+1,h=>vX n h.2
theorem ru:∀{t:TT}{x:t.den}{cs:List DV},CR t x cs->cs.length=t.size
 |.int _,_,_,h=>by simp only[CR]at h;subst h;rfl
 |.bool,_,_,h=>by simp only[CR]at h;subst h;rfl
 |.str,_,_,h=>by simp only[CR]at h;subst h;rfl
 |.unit,_,_,h=>by simp only[CR]at h;subst h;rfl
 |.pair a b,x,_,h=>by simp only[CR]at h;obtain⟨c1,c2,rfl,h1,h2⟩:=h;simp only[bU,ru h1,ru h2,TT.size]
 |.sl t,_,_,h=>by simp only[CR]at h;obtain⟨rows,f,rfl,-⟩:=h;rfl
theorem jL{t:TT}:∀{l:List t.den}{rows:List DV},fC (CR t) t.agg l rows->∀r∈rows,r.cells.length=t.size
 |[],[],_,r,hr=>by simp at hr
 |_::l,r'::rows,h,r,hr=>by
  rcases bw.1 hr with rfl|hr;.exact ru h.1.1
  exact jL h.2 r hr
theorem gE:∀{l:List TV}{m:List DV},cK ι S l m->m.length=l.length
 |[],[],_=>rfl
 |_::l,_::m,h=>by simp only[cK]at h;simp[gE h.2]
theorem bO:cK ι S [] []:=by simp only[cK]
theorem aT{a:TV}{d:DV}{l:List TV}{m:List DV}(h:RT ι S a d)(k:cK ι S l m):cK ι S (a::l) (d::m):=by simp only[cK];exact⟨h,k⟩
theorem kQ{a:TV}{d:DV}(h:RT ι S a d):cK ι S [a] [d]:=aT h bO
theorem aj{a:TV}{l:List TV}{m:List DV}(h:cK ι S (a::l) m):∃d m',m=d::m'/\RT ι S a d/\cK ι S l m':=by
 cases m with
 |nil=>simp only[cK]at h
 |cons d m'=>simp only[cK]at h;exact⟨d,m',rfl,h⟩
theorem aR{m:List DV}(h:cK ι S [] m):m=[]:=by
 cases m with
 |nil=>rfl
 |cons d m'=>simp only[cK]at h
theorem vB:∀{l:List TV}{m:List DV}{i:Nat}{a:TV},cK ι S l m->l[i]? =some a->∃d,m[i]? =some d/\RT ι S a d
 |[],_,_,_,_,h=>by simp at h
 |b::l,m,0,a,h,hx=>by obtain⟨d,m',rfl,h1,-⟩:=aj h;simp only[bY,aB]at hx;subst hx;exact⟨d,rfl,h1⟩
 |b::l,m,i+1,a,h,hx=>by obtain⟨d,m',rfl,-,h1⟩:=aj h;obtain⟨d',h2,h3⟩:=vB (i:=i) h1 (by simpa using hx);exact⟨d',by simpa using h2,h3⟩
theorem er:∀{l l':List TV}{m m':List DV},cK ι S l m->cK ι S l' m'->cK ι S (l++l') (m++m')
 |[],l',m,m',h,k=>by rw[aR h];exact k
 |a::l,l',m,m',h,k=>by obtain⟨d,m1,rfl,h1,h2⟩:=aj h;exact aT h1 (er h2 k)
theorem D1:∀{l:List TV}{m:List DV}(n:Nat),cK ι S l m->cK ι S (l.take n) (m.take n)
 |_,_,0,_=>by simp only[List.take_zero];exact bO
 |[],m,n+1,h=>by rw[aR h];simp only[List.take_nil];exact bO
 |a::l,m,n+1,h=>by obtain⟨d,m1,rfl,h1,h2⟩:=aj h;exact aT h1 (D1 n h2)
theorem D4:∀{l:List TV}{m:List DV}(n:Nat),cK ι S l m->cK ι S (l.drop n) (m.drop n)
 |_,_,0,h=>h
 |[],m,n+1,h=>by rw[aR h];simp only[List.drop_nil];exact bO
 |a::l,m,n+1,h=>by obtain⟨d,m1,rfl,-,h2⟩:=aj h;exact D4 n h2
theorem IK:∀{l:List TV}{m:List DV}(i:Nat){a:TV}{d:DV},cK ι S l m->RT ι S a d->cK ι S (l.set i a) (m.set i d)
 |[],m,i,a,d,h,_=>by rw[aR h];simp only[List.set_nil];exact bO
 |b::l,m,0,a,d,h,k=>by obtain⟨d',m1,rfl,-,h2⟩:=aj h;exact aT k h2
 |b::l,m,i+1,a,d,h,k=>by obtain⟨d',m1,rfl,h1,h2⟩:=aj h;exact aT h1 (IK i h2 k)
theorem sM(d:DV):∀n,cK ι S (List.replicate n .unk) (List.replicate n d)
 |0=>bO
 |n+1=>by rw[zb,zb];exact aT (by simp only[RT]) (sM d n)
theorem D2{l:List TV}{m:List DV}(h:cK ι S l m)(i:Nat):RT ι S (l.getD i .unk) (m.getD i bF):=by
 rw[aP,aP];cases hi:l[i]? with
 |none=>simp only[Option.getD_none,RT]
 |some a=>obtain⟨d,h1,h2⟩:=vB h hi;rw[h1];exact h2
theorem rT:∀{t:TT}{x:t.den}{cs:List DV},CR t x cs->cK ι S (t.cells x) cs
 |.int _,_,_,h=>by simp only[CR]at h;subst h;exact kQ (by simp only[RT])
 |.bool,_,_,h=>by simp only[CR]at h;subst h;exact kQ (by simp only[RT])
 |.str,_,_,h=>by simp only[CR]at h;subst h;exact kQ (by simp only[RT])
 |.unit,_,_,h=>by simp only[CR]at h;subst h;exact bO
 |.pair a b,x,_,h=>by simp only[CR]at h;obtain⟨c1,c2,rfl,h1,h2⟩:=h;exact er (rT h1) (rT h2)
 |.sl t,_,_,h=>by simp only[CR]at h;obtain⟨rows,f,rfl,h⟩:=h;refine kQ ?_;simp only[RT,pL,and_true];exact h
theorem Ga:∀{t:TT}{l:List TV}{x:t.den}{r:List TV}{m:List DV},t.of l=some (x,r)->cK ι S l m->∃c m',m=c++m'/\CR t x (c.map DV.aO)/\cK ι S r m'
 |.int k,l,x,r,m,h,hm=>by
  simp only[TT.of]at h;unfold ofInt at h;split at h
  .split at h;.rename_i hk;cases h;obtain⟨d,m',rfl,h1,h2⟩:=aj hm;cases d<;>simp only[RT]at h1;subst h1;subst hk;exact⟨[_],m',rfl,by simp only[CR,bn,fG,DV.aO],h2⟩
   cases h
  cases h
 |.bool,l,x,r,m,h,hm=>by
  simp only[TT.of]at h;unfold ofBool at h;split at h;.cases h;obtain⟨d,m',rfl,h1,h2⟩:=aj hm;cases d<;>simp only[RT]at h1;subst h1;exact⟨[_],m',rfl,by simp only[CR,bn,fG,DV.aO],h2⟩
  cases h
 |.str,l,x,r,m,h,hm=>by
  simp only[TT.of]at h;unfold ofStr at h;split at h;.cases h;obtain⟨d,m',rfl,h1,h2⟩:=aj hm;cases d<;>simp only[RT]at h1;subst h1;exact⟨[_],m',rfl,by simp only[CR,bn,fG,DV.aO],h2⟩
  cases h
 |.unit,l,x,r,m,h,hm=>by simp only[TT.of]at h;cases h;exact⟨[],m,rfl,by simp only[CR,fG],hm⟩
 |.pair a b,l,x,r,m,h,hm=>by
  simp only[TT.of]at h;split at h
  .rename_i x1 r1 h1;split at h;.rename_i y r2 h2;cases h;obtain⟨c,m1,rfl,k1,k2⟩:=Ga h1 hm;obtain⟨c',m2,rfl,k3,k4⟩:=Ga h2 k2;exact⟨c++c',m2,by simp,by simp only[CR,dY];exact⟨_,_,rfl,k1,k3⟩,k4⟩
   cases h
  cases h
 |.sl t,l,x,r,m,h,hm=>by
  simp only[TT.of]at h;unfold Y0 at h;split at h
  .split at h;.rename_i ht;subst ht;cases h;obtain⟨d,m',rfl,h1,h2⟩:=aj hm;cases d<;>simp only[RT]at h1;rename_i rows tok f;exact⟨[_],m',rfl,by simp only[CR,bn,fG,DV.aO];exact⟨rows,⟨false,f.isNil⟩,rfl,h1.1⟩,h2⟩
   cases h
  .cases h;obtain⟨d,m',rfl,h1,h2⟩:=aj hm;cases d<;>simp only[RT]at h1;obtain⟨rfl,rfl,rfl⟩:=h1;exact⟨[_],m',rfl,by simp only[CR,bn,fG,DV.aO];exact⟨[],⟨false,some true⟩,rfl,by simp only[fC]⟩,h2⟩
  cases h
theorem vK:∀{t:TT}{x:t.den}{cs:List DV},CR t x cs->cs.all DV.ck=true
 |.int _,_,_,h=>by simp only[CR]at h;subst h;rfl
 |.bool,_,_,h=>by simp only[CR]at h;subst h;rfl
 |.str,_,_,h=>by simp only[CR]at h;subst h;rfl
 |.unit,_,_,h=>by simp only[CR]at h;subst h;rfl
 |.pair a b,x,_,h=>by simp only[CR]at h;obtain⟨c1,c2,rfl,h1,h2⟩:=h;rw[oV,vK h1,vK h2];rfl
 |.sl t,_,_,h=>by simp only[CR]at h;obtain⟨rows,f,rfl,-⟩:=h;rfl
end
end Go.Tv
