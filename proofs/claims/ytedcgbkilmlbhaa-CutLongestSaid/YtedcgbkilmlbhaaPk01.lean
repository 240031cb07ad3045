import Derived.Test.YtedcgbkilmlbhaaPk00
import GoSem.Step
import Derived.Test.YtedcgbkilmlbhaaProg
namespace Go.Di
open Go
structure SF where
 full:Bool
 isNil:Option Bool
inductive DV where
 |val (v:Value)
 |agg (l:List DV)
 |tup (l:List DV)
 |sl (rows:List DV) (tok:Option Nat) (full:SF)
 |ptr (id off:Nat)
 |fF (rows:List DV) (i off:Nat)
 |fn (f:FuncId) (first captured:List DV)
 |map (id:Nat)
 |oq (id:Nat)
 |jx (id n:Nat) (agg:Bool)
 |gD (id n off:Nat)
instance:Inhabited DV:=⟨.val (.tuple #[])⟩
structure Gz where
 st:LoopState
 kD:Option Code
 fn:FuncId
 env:List DV
 params:List Tmp
 assign:Code
 body:Code
 BI:Nat
inductive DB where
 |none
 |cells (l:List DV)
 |tail (e:TypeId) (s n:Nat)
 |map (es:List (Value×Value))
 |defer
 |loop (r:Gz)
 |op (e:TypeId) (s:Nat) (l:List DV) (z:Bool)
instance:Inhabited DB:=⟨.none⟩
abbrev ai:=List DB
def bE:DV:=.val (.tuple #[])
def DV.cells:DV->List DV
 |.agg l=>l
 |d=>[d]
def flat(rows:List DV):List DV:=rows.flatMap DV.cells
def AO:Value->Bool
 |.agg _=>false
 |.tuple vs=>vs.size==0
 |_=>true
def Is:Value->Option DV
 |.slice none 0 0=>some (.sl [] none ⟨true,some true⟩)
 |v=>if AO v then some (.val v)else none
def s5:List Value->Option (List DV)
 |[]=>some []
 |v::l=>match Is v,s5 l with
  |some d,some r=>some (d::r)
  |_,_=>none
def BP:Value->Option DV
 |.agg cs=>(s5 cs.toList).map .agg
 |.func (.func f) fs cs=>if fs.size=0&&cs.size=0 then some (.fn f [] [])else none
 |v=>Is v
def s4:List DV->Option (List Value)
 |[]=>some []
 |.val v::l=>(s4 l).map (v::·)
 |_=>none
def BL:DV->Option Value
 |.val v=>some v
 |.agg l=>(s4 l).map λr=>.agg r.toArray
 |_=>none
def uP:List DV->Option (List Value)
 |[]=>some []
 |d::l=>match BL d,uP l with
  |some v,some r=>some (v::r)
  |_,_=>none
def DV.bY:DV->Bool
 |.val v=>!(v matches .tuple _)
 |.sl _ none _=>true
 |_=>false
def DV.ko:DV->Bool
 |.agg l=>l.all DV.bY
 |.val _=>true
 |.sl _ none _=>true
 |_=>false
def DV.pure:DV->Bool
 |.tup l=>l.all DV.ko
 |d=>d.ko
def DV.aM:DV->DV
 |.sl r _ f=>.sl r none ⟨false,f.isNil⟩
 |d=>d
def DV.dF:DV->DV
 |.agg l=>.agg (l.map DV.aM)
 |.sl r _ f=>.sl r none ⟨false,f.isNil⟩
 |d=>d
def DV.strip:DV->DV
 |.tup l=>.tup (l.map DV.dF)
 |d=>d.dF
def DV.one:DV->Bool
 |.val v=>!(v matches .tuple _)
 |.agg _|.tup _=>false
 |_=>true
inductive TK where
 |one
 |struct (fs:List (Nat×Nat×Bool))
 |array (n s:Nat) (agg:Bool)
 |slice (e s b:Nat) (agg:Bool)
 deriving DecidableEq
structure TyD where
 k:TK
 size:Nat
 zero:Option (List DV)
def TK.isAgg:TK->Bool
 |.struct _|.array _ _ _=>true
 |_=>false
section
variable (P:Program)
def pY(t:TypeId):Bool:=
 match P.underlying t with
 |some (.struct _)|some (.array _ _)=>true
 |_=>false
def cu{α:Type}:Sem α->Option α
 |.pure a=>some a
 |.program k=>cu (k P)
 |_=>none
def Gp(t:TypeId):Option TypeInfo:=
 match P.info? t,P.underlying t with
 |some i,some _=>some i
 |_,_=>none
def FJ(t:TypeId):Option TK:=
 match P.underlying t with
 |some (.struct fs)=>(fs.toList.mapM λf=>(Gp P f.type).map λi=>(f.offset,i.size,pY P f.type)).map .struct
 |some (.array n e)=>(Gp P e).map λi=>.array n i.size (pY P e)
 |some (.slice e)=>(Gp P e).map λi=>.slice e i.size i.bytes (pY P e)
 |some _=>some .one
 |none=>none
def zeroOf(i:TypeInfo):Option (List DV):=
 match i.zero with
 |some z=>match s5 z.cells.toList with
  |some cs=>if cs.length=i.size then some cs else none
  |none=>none
 |none=>none
def TS(t:TypeId):Option TyD:=
 match FJ P t,P.info? t with
 |some k,some i=>some ⟨k,i.size,zeroOf i⟩
 |_,_=>none
end
def Uh(l:List DV)(off n:Nat):Option (List DV):=if off+n<=l.length then some ((l.drop off).take n)else none
def wP(l:List DV)(off:Nat)(cs:List DV):Option (List DV):=if off+cs.length<=l.length then some (l.take off++cs++l.drop (off+cs.length))else none
def pS(agg:Bool)(size:Nat)(l:List DV)(off:Nat):Option DV:=
 if agg then(Uh l off size).map .agg else l[off]?
structure fP where
 f:TypeId->Option TyD
 hint:Tmp->TypeId->Nat
instance:CoeFun fP λ_=>TypeId->Option TyD:=⟨fP.f⟩
def fP.h (ty:fP)(o:Oper):Nat:=
 match o.dst with
 |some d=>ty.hint d o.type % 4
 |none=>0
def fP.TH (ty:fP)(o:Oper):Nat:=
 match o.dst with
 |some d=>ty.hint d o.type/4
 |none=>0
abbrev bt:=FuncId->List DV->ai->Option (DV×ai)
abbrev bS:=FuncId->List DV->Option DV
abbrev ew:=Nat->List DV->ai->Option (DV×ai)
section
variable (P:Program) (ty:fP) (aI:bS) (call:bt) (yf:ew)
def jy(env:List DV):Operand->Option DV
 |.tmp t=>some (env.getD t bE)
 |.const v=>BP v
 |.func f=>some (.fn f [] [])
 |.global _=>none
def evs(ρ:Operand->Option DV):List Operand->Option (List DV)
 |[]=>some []
 |x::l=>match ρ x,evs ρ l with
  |some d,some r=>some (d::r)
  |_,_=>none
def valOf(ρ:Operand->Option DV)(x:Operand):Option Value:=(ρ x).bind BL
def intOf(ρ:Operand->Option DV)(x:Operand):Option Int:=
 match ρ x with
 |some (.val (.int _ n))=>some n
 |_=>none
def DD:Option DV->Bool
 |some (.jx ..)=>true
 |_=>false
def CS(S:ai)(id n:Nat):Option (TypeId×Nat×List DV×Bool):=
 match S[id]? with
 |some (.op e s l z)=>if n*s=l.length then some (e,s,l,z)else none
 |_=>none
def jC(s:Sem Value):Option DV:=(cu P s).bind BP
def lH(S:ai)(t:TypeId)(a:DV):Option DV:=
 match ty t,a with
 |some d,.ptr id off=>match S[id]? with
  |some (.cells l)=>pS d.k.isAgg d.size l off
  |_=>none
 |some d,.fF rows i off=>match rows[i]? with
  |some r=>pS d.k.isAgg d.size r.cells off
  |none=>none
 |some d,.gD id n off=>match CS S id n with
  |some (_,_,l,_)=>pS d.k.isAgg d.size l off
  |none=>none
 |_,_=>none
def eW(S:ai)(i:Nat)(b:DB):ai:=if i<S.length then S.set i b else S++[b]
def qc(S:ai)(t:TypeId)(a v:DV):Option ai:=
 match ty t,a with
 |some d,.ptr id off=>match S[id]? with
  |some (.cells l)=>if v.cells.length=d.size&&v.cells.all DV.one then(wP l off v.cells).map λl'=>S.set id (.cells l')else none
  |_=>none
 |some d,.gD id n off=>match CS S id n with
  |some (e,s,l,false)=>if v.strip.cells.length=d.size&&v.strip.cells.all DV.bY then(wP l off v.strip.cells).map λl'=>S.set id (.op e s l' false)else none
  |_=>none
 |_,_=>none
def lJ(place:Nat->Option (Nat×Nat))(cs:List DV):List (Nat×DV)->Option (List DV)
 |[]=>some cs
 |(i,v)::r=>match place i with
  |none=>none
  |some (off,size)=>if v.cells.length=size then match wP cs off v.cells with
    |some lG=>lJ place lG r
    |none=>none
   else none
def kI(ρ:Operand->Option DV):List (Nat×Operand)->Option (List (Nat×DV))
 |[]=>some []
 |(i,x)::l=>match ρ x,kI ρ l with
  |some d,some r=>some ((i,d)::r)
  |_,_=>none
def rowOf(s:Nat)(agg:Bool)(l:List DV)(i:Nat):DV:=if agg then .agg ((l.drop (i*s)).take s)else l.getD (i*s) bE
def rowsOf(s:Nat)(agg:Bool)(l:List DV)(n:Nat):List DV:=(List.range n).map (rowOf s agg l)
def fU:Nat:=140737488355328
def jZ(S:ai)(aD:Nat)(t:TypeId)(a b:DV):Option (DV×ai):=
 match ty t,a,b with
 |some ⟨.slice e s lU _,_,_⟩,.sl rows tok full,.sl news _ _=>
  if news.isEmpty then some (a,S)
  else match ty e with
  |some ⟨_,_,some _⟩=>if decide (0<s)&&decide ((rows.length+news.length)*lU<=fU)&&decide (rows.length+news.length<=140737488355328-4096)&&news.all (λr=>decide (r.cells.length=s))then
   let agI:Option (DV×ai):=if full.full&&rows.all (λr=>decide (r.cells.length=s))then some (.sl (rows++news) (some aD) ⟨false,none⟩,eW S aD (.tail e s ((rows.length+news.length)*s)))else none
   match tok with
   |none=>agI
   |some t=>match S[t]? with
    |some (.tail e' s' n)=>if e'=e&&s'=s&&n=rows.length*s then some (.sl (rows++news) (some t) ⟨false,none⟩,S.set t (.tail e s ((rows.length+news.length)*s)))else none
    |_=>none
   else none
  |_=>none
 |_,_,_=>none
def oW(S:ai)(aD:Nat)(t:TypeId)(a b:DV):Option (DV×ai):=
 match ty t,b with
 |some ⟨.slice e s lU agg,_,_⟩,.sl news _ _=>match ty e with
  |some ⟨_,_,some _⟩=>match a with
   |.jx id n _=>if decide (0<s)&&(agg||s==1)&&decide ((n+news.length)*lU<=fU)&&decide (n+news.length<=140737488355328-4096)&&news.all (λr=>decide (r.cells.length=s))then match CS S id n with
    |some (e',s',l,false)=>if e'=e&&s'=s then if news.isEmpty then some (a,S)else some (.jx id (n+news.length) agg,S.set id (.op e s (l++flat news) false))else none
    |_=>none
    else none
   |.sl [] none f=>if news.isEmpty then some (a,S)else if f.full&&decide (0<s)&&(agg||s==1)&&decide (news.length*lU<=fU)&&decide (news.length<=140737488355328-4096)&&news.all (λr=>decide (r.cells.length=s))then some (.jx aD news.length agg,eW S aD (.op e s (flat news) false))else none
   |_=>none
  |_=>none
 |_,_=>none
def kO(S:ai):DV->DV
 |.jx id n agg=>match CS S id n with
  |some (_,s,l,true)=>if decide (0<s)&&(agg||s==1)then .sl (rowsOf s agg l n) none ⟨false,some false⟩else .jx id n agg
  |_=>.jx id n agg
 |d=>d
def yH(S:ai):DV->ai
 |.jx id n _=>match CS S id n with
  |some (e,s,l,false)=>S.set id (.op e s l true)
  |_=>S
 |_=>S
def uc(S:ai):DV->ai
 |.agg l=>l.foldl yH S
 |d=>yH S d
def Ig(S:ai):DV->ai
 |.tup l=>l.foldl uc S
 |d=>uc S d
def tO(S:ai):DV->DV
 |.agg l=>.agg (l.map (kO S))
 |d=>kO S d
def uB(S:ai):DV->DV
 |.tup l=>.tup (l.map (tO S))
 |d=>tO S d
def iB(ρ:Operand->Option DV)(x:Option Operand)(ain eP:Nat):Option Nat:=
 match x with
 |none=>some ain
 |some x=>match intOf ρ x with
  |some i=>if 0<=i/\i.toNat<=eP then some i.toNat else none
  |none=>none
def MS(rows:List DV)(f:SF):Option Bool:=if rows.isEmpty then f.isNil else some false
def DW(op:BinOp)(t:TypeId):Option DV->Option DV->Option DV
 |some (.sl rows _ f),some (.sl [] _ ⟨_,some true⟩)=>match ty t,MS rows f with
  |some ⟨.slice _ _ _ _,_,_⟩,some b=>match op with
   |.eql=>some (.val (.bool b))
   |.neq=>some (.val (.bool (!b)))
   |_=>none
  |_,_=>none
 |_,_=>none
def sU(rows:List DV)(full:SF)(l h:Nat)(m:Option Nat):Option DV:=
 if l<=h then match m with
  |none=>some (.sl ((rows.take h).drop l) none ⟨full.full&&h==rows.length,MS rows full⟩)
  |some m=>if h<=m then some (.sl ((rows.take h).drop l) none ⟨m==h,MS rows full⟩)else none
 else none
def xh(g:FuncId)(args:List DV)(S:ai):Option (DV×ai):=
 if(args.map DV.strip).all DV.pure then match aI g (args.map DV.strip)with
  |some v=>some (v,S)
  |none=>call g args S
 else call g args S
def OD(p:Value×Value):MapEntry:=⟨p.1,p.2,0⟩
def Km(t:TypeId)(es:List MapEntry)(k:Value)(ok:Bool):Sem Value:=do
 let .map key elem<-underlying t|stuck "Lookup: map type expected"
 Instr.checkKey es.isEmpty 10000 key k
 let (v,o)<-match<-Instr.findKey key k es with
  |some (_,v)=>pure (v,true)
  |none=>pure (<-zeroValue elem,false)
 pure (if ok then .tuple #[v,.bool o]else v)
def Ku(t:TypeId)(es:List MapEntry)(k:Value):Sem (Option (Nat×Value)):=do
 let .map key _<-underlying t|stuck "MapUpdate: map type expected"
 Instr.checkKey false 10000 key k
 Instr.findKey key k es
def Ki:Value->Option DV
 |.tuple vs=>match vs.toList with
  |[v,.bool b]=>(BP v).map λd=>.tup [d,.val (.bool b)]
  |_=>none
 |v=>BP v
def ML(es:List (Value×Value))(k v:Value):Option (Nat×Value)->Option (List (Value×Value))
 |none=>some (es++[(k,v)])
 |some (i,_)=>match es[i]? with
  |some (k',_)=>if Instr.sameBits 10000 k' k then some (es.set i (k,v))else none
  |none=>none
def ah(ρ:Operand->Option DV)(o:Oper)(S:ai)(aD:Nat):Option (DV×ai):=
 match o.op with
 |.move x|.assign x=>(ρ x).map (·,S)
 |.pick c a b=>match ρ c with
  |some (.val (.bool t))=>(if t then ρ a else ρ b).map (·,S)
  |_=>none
 |.alloc e=>match ty e with
  |some ⟨_,_,some z⟩=>some (.ptr aD 0,eW S aD (.cells z))
  |_=>none
 |.box _ x=>match ρ x with
  |some d=>some (.ptr aD 0,eW S aD (.cells d.cells))
  |none=>none
 |.build t ps=>match ty t,kI ρ ps.toList with
  |some ⟨.struct fs,_,some z⟩,some l=>(lJ (λi=>(fs[i]?).map λf=>(f.1,f.2.1)) z l).map λcs=>(.agg cs,S)
  |some ⟨.array _ s _,_,some z⟩,some l=>(lJ (λi=>some (i*s,s)) z l).map λcs=>(.agg cs,S)
  |_,_=>none
 |.buildSlice t n ps=>match ty t,kI ρ ps.toList with
  |some ⟨.slice e s _ agg,_,_⟩,some l=>match ty e with
   |some ⟨_,_,some z⟩=>if decide (0<s)&&decide (n*s<=16777216)then
     match lJ (λi=>some (i*s,s)) ((List.replicate n z).flatten) (l.map λ(i,v)=>(i,v.strip))with
     |some cs=>if cs.all DV.bY&&(agg||s==1)then some (match ty.h o with
      |1=>(.jx aD n agg,eW S aD (.op e s cs false))
      |_=>(.sl (rowsOf s agg cs n) none ⟨true,some false⟩,S))else none
     |none=>none
    else none
   |_=>none
  |_,_=>none
 |.makeSlice t a b=>match ty t,intOf ρ a,intOf ρ b with
  |some ⟨.slice e s lU agg,_,_⟩,some n,some m=>match ty e with
   |some ⟨_,_,some z⟩=>if decide (0<=n)&&decide (m=n)&&decide (0<s)&&(agg||s==1)&&decide (n<=140737488355328-4096)&&decide (n.toNat*lU<=fU)&&(z.map DV.aM).all DV.bY then
     some (.jx aD n.toNat agg,eW S aD (.op e s (List.replicate n.toNat (z.map DV.aM)).flatten false))else none
   |_=>none
  |_,_,_=>none
 |.load t a=>match ρ a with
  |some a=>(lH ty S t a).map (·,S)
  |none=>none
 |.store t a x=>match ρ a,ρ x with
  |some a,some v=>(qc ty S t a v).map (bE,·)
  |_,_=>none
 |.nilCheck x=>match ρ x with
  |some (.ptr id off)=>some (.ptr id off,S)
  |_=>none
 |.binOp op t x y _=>match valOf ρ x,valOf ρ y with
  |some a,some b=>(jC P (do eqGuard op t x y a b;binOp op t a b)).map (·,S)
  |_,_=>(DW ty op t (ρ x) (ρ y)).map (·,S)
 |.unOp op _ x=>match valOf ρ x with
  |some a=>(jC P (Op.unary op a)).map (·,S)
  |none=>none
 |.convert s d x=>match valOf ρ x with
  |some a=>(jC P (Go.convert s d a)).map (·,S)
  |none=>none
 |.makeFunc (.func f) fs cs=>match evs ρ fs.toList,evs ρ cs.toList with
  |some a,some b=>some (.fn f a b,S)
  |_,_=>none
 |.slice t x lo hi mx=>match ty t,ρ x with
  |some ⟨.slice _ s _ _,_,_⟩,some (.sl rows _ full)=>if !rows.all (λr=>decide (r.cells.length=s))then none else
   match iB ρ mx rows.length rows.length with
   |some m=>match iB ρ hi rows.length m with
    |some h=>match iB ρ lo 0 h with
     |some l=>if hi.isNone&&mx.isSome then none else(sU rows full l h (mx.map λ_=>m)).map (·,S)
     |none=>none
    |none=>none
   |none=>none
  |_,_=>none
 |.fieldAddr t x f=>match ty t,ρ x with
  |some ⟨.struct fs,_,_⟩,some (.ptr id off)=>match fs[f]? with
   |some (o,s,_)=>if 0<s then some (.ptr id (off+o),S)else none
   |none=>none
  |some ⟨.struct fs,_,_⟩,some (.fF rows i off)=>match fs[f]? with
   |some (o,s,_)=>if 0<s then some (.fF rows i (off+o),S)else none
   |none=>none
  |some ⟨.struct fs,_,_⟩,some (.gD id n off)=>match fs[f]?,CS S id n with
   |some (o,s,_),some _=>if 0<s then some (.gD id n (off+o),S)else none
   |_,_=>none
  |_,_=>none
 |.field t x f=>match ty t,ρ x with
  |some ⟨.struct fs,_,_⟩,some (.agg l)=>match fs[f]? with
   |some (off,s,agg)=>(pS agg s l off).map (·,S)
   |none=>none
  |_,_=>none
 |.indexAddr t x i=>match ty t,ρ x,intOf ρ i with
  |some ⟨.slice _ s _ _,_,_⟩,some (.sl rows _ _),some n=>if 0<=n then
    match rows[n.toNat]? with
    |some r=>if r.cells.length=s then some (.fF rows n.toNat 0,S)else none
    |none=>none
   else none
  |some ⟨.array k s _,_,_⟩,some (.ptr id off),some n=>if 0<=n/\n.toNat<k then some (.ptr id (off+n.toNat*s),S)else none
  |some ⟨.array k s _,_,_⟩,some (.fF rows j off),some n=>if 0<=n/\n.toNat<k then some (.fF rows j (off+n.toNat*s),S)else none
  |some ⟨.slice _ s _ _,_,_⟩,some (.jx id m _),some n=>match CS S id m with
   |some (_,s',_,_)=>if 0<=n/\n.toNat<m/\s'=s then some (.gD id m (n.toNat*s),S)else none
   |none=>none
  |_,_,_=>none
 |.index t x i=>match ty t,ρ x,intOf ρ i with
  |some ⟨.array k s agg,_,_⟩,some (.agg l),some n=>if 0<=n/\n.toNat<k then(pS agg s l (n.toNat*s)).map (·,S)else none
  |_,_,_=>none
 |.makeMap _ none=>some (.map aD,eW S aD (.map []))
 |.lookup t m k ok=>match ρ m,valOf ρ k with
  |some (.map id),some kv=>match S[id]? with
   |some (.map es)=>((cu P (Km t (es.map OD) kv ok)).bind Ki).map (·,S)
   |_=>none
  |_,_=>none
 |.mapUpdate t m k v=>match ρ m,valOf ρ k,valOf ρ v with
  |some (.map id),some kv,some vv=>match S[id]? with
   |some (.map es)=>match cu P (Ku t (es.map OD) kv)with
    |some r=>(ML es kv vv r).map λes'=>(bE,S.set id (.map es'))
    |none=>none
   |_=>none
  |_,_,_=>none
 |.extract t i=>match ρ t with
  |some (.tup l)=>(l[i]?).map (·,S)
  |_=>none
 |.call {callee:=.builtin b,args,argTypes}=>match b,args.toList,argTypes.toList with
  |.len,[x],[t]=>match ty t,ρ x with
   |some ⟨.slice _ _ _ _,_,_⟩,some (.sl rows _ _)=>some (.val (.int .i64 rows.length),S)
   |some ⟨.slice _ _ _ _,_,_⟩,some (.jx _ n _)=>some (.val (.int .i64 n),S)
   |some ⟨.array n _ _,_,_⟩,_=>some (.val (.int .i64 n),S)
   |_,some (.val v)=>(jC P (Builtin.len_ #[t] o.type #[v])).map (·,S)
   |_,_=>none
  |.append,[x,y],[t,u]=>if t=u then match ρ x,ρ y with
    |some a,some b=>match a with
     |.jx .. =>oW ty S aD t a b
     |_=>match ty.h o with
      |1=>oW ty S aD t a b
      |_=>jZ ty S aD t a b
    |_,_=>none
   else none
  |.min,xs,_=>match(evs ρ xs).bind uP with
   |some vs=>(jC P (Builtin.min_ argTypes o.type vs.toArray)).map (·,S)
   |none=>none
  |.max,xs,_=>match(evs ρ xs).bind uP with
   |some vs=>(jC P (Builtin.max_ argTypes o.type vs.toArray)).map (·,S)
   |none=>none
  |_,_,_=>none
 |.call {callee:=.value f,args,argTypes:=_}=>match ρ f,evs ρ args.toList with
  |some (.fn g fs cs),some xs=>match ty.h o with
   |1=>call g (fs++xs++cs) S
   |_=>xh aI call g (fs++xs++cs) S
  |some (.oq id),some xs=>yf id xs S
  |_,_=>none
 |_=>none
def cI(ops:Array Oper)(env:List DV)(o:Oper):Bool:=
 match o.guard with
 |none=>true
 |some (j,want)=>match(ops[j]?).bind (·.dst)with
  |some d=>match env[d]? with
   |some (.val (.bool b))=>b==want
   |_=>false
  |none=>false
def kC(env:List DV)(dst:Option Tmp)(v:DV):List DV:=
 match dst with
 |some d=>env.set d v
 |none=>env
def rQ(env:List DV)(S:ai)(x:Operand):ai:=match jy env x with|some d=>yH S d|none=>S
def FL(o:Oper)(env:List DV)(S:ai):List DV×ai:=
 match ty.h o with
 |2=>
  let S':=o.op.operands.toList.foldl (rQ env) S
  (env.map (kO S'),S')
 |_=>(env,S)
def HX(ops:Array Oper):List Oper->List DV->ai->Option (List DV×ai)
 |[],env,S=>some (env,S)
 |o::r,env,S=>
  if cI ops env o then match FL ty o env S with
   |(env,S)=>match ah P ty aI call yf (jy env) o S S.length with
    |some (v,S')=>HX ops r (kC env o.dst v) S'
    |none=>none
  else HX ops r (kC env o.dst bE) S
def dH(ρ:Operand->Option DV)(o:Oper)(S:ai):Option DV:=
 match o.op with
 |.alloc _|.box .. |.store .. |.makeMap .. |.mapUpdate .. |.makeSlice .. =>none
 |.buildSlice .. =>match ty.h o with
  |1=>none
  |_=>(ah P ty aI call yf ρ o S S.length).map (·.1)
 |.call {callee:=.builtin .append,.. }=>none
 |.call {callee:=.value f,args,argTypes:=_}=>match ρ f,evs ρ args.toList with
  |some (.fn g fs cs),some xs=>if ty.h o=1 then none else if((fs++xs++cs).map DV.strip).all DV.pure then aI g ((fs++xs++cs).map DV.strip)else none
  |_,_=>none
 |_=>(ah P ty aI call yf ρ o S S.length).map (·.1)
def ry(ops:Array Oper)(S:ai):List Oper->List DV->Option (List DV)
 |[],env=>some env
 |o::r,env=>
  if cI ops env o then match dH P ty aI call yf (jy env) o S with
   |some v=>ry ops S r (kC env o.dst v)
   |none=>none
  else ry ops S r (kC env o.dst bE)
def pV(call:bt)(g:FuncId)(args:List DV)(S:ai):Option (Nat×DV×List DV):=
 match args with
 |.ptr i off::rest=>match S[i]? with
  |some (.cells l)=>
   if(rest.map DV.strip).all DV.pure&&(l.map DV.aM).all DV.bY then
    match call g (.ptr 0 off::rest.map DV.strip) [.cells (l.map DV.aM)]with
    |some (v,.cells l'::_)=>if v.strip.pure&&(l'.map DV.aM).all DV.bY then some (i,v.strip,l'.map DV.aM)else none
    |_=>none
   else none
  |_=>none
 |_=>none
def YJ(R:List Nat):DV->Bool
 |.ptr i _=>R.contains i
 |d=>d.bY
def MA(R:List Nat):DV->Bool
 |.ptr i _=>R.contains i
 |.fn _ fs cs=>fs.all (YJ R)&&cs.all (YJ R)
 |d=>d.bY
def okA(R:List Nat):DV->Bool
 |.ptr i _=>R.contains i
 |.fn _ fs cs=>fs.all (YJ R)&&cs.all (YJ R)
 |d=>d.pure
def dD:DV->DV
 |.fn f fs cs=>.fn f (fs.map DV.aM) (cs.map DV.aM)
 |d=>d.aM
def jG:DV->DV
 |.fn f fs cs=>.fn f (fs.map DV.aM) (cs.map DV.aM)
 |d=>d.strip
def TX:DV->List Nat
 |.ptr i _=>[i]
 |_=>[]
def AB:DV->List Nat
 |.ptr i _=>[i]
 |.fn _ fs cs=>fs.flatMap TX++cs.flatMap TX
 |_=>[]
def H9(S:ai)(i:Nat):List Nat:=
 match S[i]? with
 |some (.cells l)=>l.flatMap AB
 |_=>[]
def rS(S:ai)(R:List Nat):List Nat:=R++(R.flatMap (H9 S)).filter λi=>!R.contains i
def jH(S:ai)(args:List DV):List Nat:=rS S (rS S (rS S (args.flatMap AB)))
def kV(S:ai)(R:List Nat)(i:Nat):Bool:=
 match S[i]? with
 |some (.cells l)=>(l.map dD).all (MA R)
 |_=>false
def UG(b:DB):DB:=
 match b with
 |.cells l=>.cells (l.map dD)
 |_=>.none
def tN(S:ai)(R:List Nat):ai:=S.mapIdx λi b=>if R.contains i then UG b else .none
def U5(S1:ai)(i:Nat)(b:DB):DB:=
 match S1[i]? with
 |some (.cells l)=>.cells (l.map dD)
 |_=>b
def lK(S S1:ai)(R:List Nat):ai:=S.mapIdx λi b=>if R.contains i then U5 S1 i b else b
def oB(call:bt)(g:FuncId)(args:List DV)(S:ai):Option (List Nat×DV×ai):=
 if !(jH S args).isEmpty&&(args.map jG).all (okA (jH S args))&&(jH S args).all (kV S (jH S args))then
  match call g (args.map jG) (tN S (jH S args))with
  |some (v,S1)=>if v.strip.pure&&(jH S args).all (kV S1 (jH S args))then some (jH S args,v.strip,S1)else none
  |none=>none
 else none
def Pa(call:bt):bt:=λg args S=>match oB call g args S with
 |some (R,v,S1)=>some (v,lK S S1 R)
 |none=>call g args S
def KA(call:bt):bt:=λg args S=>match pV call g args S with
 |some (i,v,l)=>some (v,S.set i (.cells l))
 |none=>Pa call g args S
def DV.vl:DV->Bool
 |.val v=>DV.bY (.val v)
 |_=>false
def acN(S:ai)(t:Nat):DV->Bool
 |.val v=>DV.bY (.val v)
 |.sl rows tok _=>rows.isEmpty||match tok with
  |some k=>rows.all DV.vl&&k !=t&&(match S[k]? with
   |some (.tail _ s n)=>n==rows.length*s
   |_=>false)
  |none=>false
 |_=>false
def acK(r:Option (DV×ai))(f:Nat):Option (List DV×TypeId×List DV):=
 match r with
 |some (.agg l,S)=>match l[f]? with
  |some (.sl rows (some t) _)=>match S[t]? with
   |some (.tail e 1 n)=>if n==rows.length&&rows.all DV.vl&&(List.range l.length).all λj=>j==f||acN S t (l.getD j bE)then some (l.map DV.aM,e,rows)else none
   |_=>none
  |_=>none
 |_=>none
def UB(call:bt)(g:FuncId)(args:List DV)(f:Nat):Option (List DV×TypeId×List DV):=
 if(args.map DV.strip).all DV.pure then acK (call g (args.map DV.strip) []) f else none
def yL(call:bt)(f aD:Nat):bt:=λg args S=>match S[aD]?,UB call g args f with
 |some .none,some (l,e,rows)=>some (.agg (l.set f (.jx aD rows.length false)),S.set aD (.op e 1 rows false))
 |_,_=>none
structure dm where
 ids:Option (List Nat)
 wr:Bool
def aJ(ρ:Operand->Option DV)(o:Oper)(S:ai)(aD:Nat):Option (DV×ai×dm):=
 match o.op with
 |.alloc _|.box .. |.makeMap .. =>match S[aD]? with
  |some .none=>(ah P ty aI call yf ρ o S aD).map λr=>(r.1,r.2,⟨some [aD],true⟩)
  |_=>none
 |.store _ a _=>match ρ a with
  |some (.ptr id _)=>(ah P ty aI call yf ρ o S aD).map λr=>(r.1,r.2,⟨some [id],true⟩)
  |some (.gD id _ _)=>(ah P ty aI call yf ρ o S aD).map λr=>(r.1,r.2,⟨some [id],true⟩)
  |_=>none
 |.fieldAddr _ a _=>match ρ a with
  |some (.gD id _ _)=>(ah P ty aI call yf ρ o S aD).map λr=>(r.1,r.2,⟨some [id],false⟩)
  |_=>(ah P ty aI call yf ρ o S aD).map λr=>(r.1,r.2,⟨some [],false⟩)
 |.indexAddr _ a _=>match ρ a with
  |some (.jx id _ _)=>(ah P ty aI call yf ρ o S aD).map λr=>(r.1,r.2,⟨some [id],false⟩)
  |_=>(ah P ty aI call yf ρ o S aD).map λr=>(r.1,r.2,⟨some [],false⟩)
 |.buildSlice .. =>match ty.h o with
  |1=>none
  |_=>(ah P ty aI call yf ρ o S aD).map λr=>(r.1,r.2,⟨some [],false⟩)
 |.makeSlice .. =>none
 |.lookup _ m .. =>match ρ m with
  |some (.map id)=>(ah P ty aI call yf ρ o S aD).map λr=>(r.1,r.2,⟨some [id],false⟩)
  |_=>none
 |.mapUpdate _ m .. =>match ρ m with
  |some (.map id)=>(ah P ty aI call yf ρ o S aD).map λr=>(r.1,r.2,⟨some [id],true⟩)
  |_=>none
 |.load _ a=>match ρ a with
  |some (.ptr id _)=>(ah P ty aI call yf ρ o S aD).map λr=>(r.1,r.2,⟨some [id],false⟩)
  |some (.gD id _ _)=>(ah P ty aI call yf ρ o S aD).map λr=>(r.1,r.2,⟨some [id],false⟩)
  |_=>(ah P ty aI call yf ρ o S aD).map λr=>(r.1,r.2,⟨some [],false⟩)
 |.call {callee:=.builtin .append,args,.. }=>if ty.h o=1 then none else if DD ((args[0]?).bind ρ)then none else match S[aD]?,(args[0]?).bind ρ with
  |some .none,some (.sl _ (some t) _)=>(ah P ty aI call yf ρ o S aD).map λr=>(r.1,r.2,⟨some [t,aD],true⟩)
  |some .none,_=>(ah P ty aI call yf ρ o S aD).map λr=>(r.1,r.2,⟨some [aD],true⟩)
  |_,_=>none
 |.call {callee:=.value f,args,argTypes:=_}=>match ρ f,evs ρ args.toList with
  |some (.fn g fs cs),some xs=>
   let as_:=fs++xs++cs
   if ty.h o=1 then(yL call (ty.TH o) aD g as_ S).map λr=>(r.1,r.2,⟨some [aD],true⟩)
   else if(as_.map DV.strip).all DV.pure then(aI g (as_.map DV.strip)).map λv=>(v,S,⟨some [],false⟩)
   else match pV call g as_ S with
    |some (i,v,l)=>some (v,S.set i (.cells l),⟨some [i],true⟩)
    |none=>match oB call g as_ S with
     |some (R,v,S1)=>some (v,lK S S1 R,⟨some R,true⟩)
     |none=>(call g as_ S).map λr=>(r.1,r.2,⟨none,true⟩)
  |some (.oq id),some xs=>(yf id xs S).map λr=>(r.1,r.2,⟨none,true⟩)
  |_,_=>none
 |_=>(ah P ty aI call yf ρ o S aD).map λr=>(r.1,r.2,⟨some [],false⟩)
def tL(ops:Array Oper)(n0:Nat):List Oper->Nat->List DV->ai->Option (List DV×ai×List dm)
 |[],_,env,S=>some (env,S,[])
 |o::r,i,env,S=>
  if cI ops env o then match aJ P ty aI call yf (jy env) o S (n0+i)with
   |some (v,S',f)=>match tL ops n0 r (i+1) (kC env o.dst v) S' with
    |some (aK,xE,fs)=>some (aK,xE,f::fs)
    |none=>none
   |none=>none
  else match tL ops n0 r (i+1) (kC env o.dst bE) S with
   |some (aK,xE,fs)=>some (aK,xE,⟨some [],false⟩::fs)
   |none=>none
def mq(ops:Array Oper)(o:Oper):List Tmp:=
 o.dst.toList++o.op.operands.toList.filterMap (λ|.tmp t=>some t|_=>none)++(match o.guard with|some (j,_)=>((ops[j]?).bind (·.dst)).toList|none=>[])
def mm(ops:Array Oper)(b:Array Nat):Bool:=
 (ops.toList.zipIdx.all λ(o,i)=>o.after.all λe=>!Region.binds .any e||decide (e.on<i))&&
 ops.toList.zipIdx.all λ(o,i)=>ops.toList.zipIdx.all λ(o',j)=>match o'.dst with
  |some d=>i==j||!(mq ops o).contains d||(b.getD j 0).testBit i||(b.getD i 0).testBit j
  |none=>true
def dm.meets (f g:dm):Bool:=
 (f.wr||g.wr)&&match f.ids,g.ids with
 |none,none=>true
 |none,some l=>!l.isEmpty
 |some l,none=>!l.isEmpty
 |some l,some m=>l.any m.contains
def uA(b:Array Nat)(fs:List dm):Bool:=
 fs.zipIdx.all λ(f,i)=>fs.zipIdx.all λ(g,j)=>i==j||!f.meets g||(b.getD j 0).testBit i||(b.getD i 0).testBit j
def I6(o:Oper):Bool:=
 match o.op with
 |.call {callee:=.value f,args:=_,argTypes}=>(match f,P.underlying o.type with
  |.tmp _,some .bool=>true
  |_,_=>false)||match argTypes[0]? with
  |some t=>match P.underlying t with
   |some (.pointer _)=>true
   |_=>false
  |none=>false
 |_=>false
def qJ(ops:Array Oper)(draw:Bool)(env:List DV)(S:ai):Option (List DV×ai):=
 if draw then if !mm ops (Region.before ops)then none else match if ops.toList.any (I6 P)then none else ry P ty aI call yf ops S ops.toList env with
  |some aK=>some (aK,S)
  |none=>match tL P ty aI call yf ops S.length ops.toList 0 env (S++List.replicate ops.size .none)with
   |some (aK,S',fs)=>if uA (Region.before ops) fs then some (aK,S')else none
   |none=>none
 else HX P ty aI call yf ops ops.toList env S
inductive DX where
 |normal
 |exit (id:Nat)
 |ret
 deriving DecidableEq
def oH(f:List DV->ai->Option (DX×List DV×ai)):Nat->List DV->ai->Option (DX×List DV×ai)
 |0,_,_=>none
 |n+1,env,S=>match f env S with
  |some (.normal,aK,S')=>oH f n aK S'
  |r=>r
def cW(L:Nat)(fn:FuncId)(jj:Bool):Code->List DV->ai->Option (DX×List DV×ai)
 |.skip,env,S|.label _,env,S=>some (.normal,env,S)
 |.region _ ops draw,env,S=>(qJ P ty aI call yf ops draw env S).map (.normal,·)
 |.seq a b,env,S=>match cW L fn jj a env S with
  |some (.normal,aK,S')=>cW L fn jj b aK S'
  |r=>r
 |.cond c a b,env,S=>match jy env c with
  |some (.val (.bool true))=>cW L fn jj a env S
  |some (.val (.bool false))=>cW L fn jj b env S
  |_=>none
 |.block id c,env,S=>match cW L fn jj c env S with
  |some (.exit jd,aK,S')=>some (if jd=id then .normal else .exit jd,aK,S')
  |r=>r
 |.loop c,env,S=>oH (cW L fn jj c) L env S
 |.scope c,env,S=>cW L fn jj c env S
 |.exit id,env,S=>some (.exit id,env,S)
 |.ret,env,S=>some (.ret,env,S)
 |.rangeFunc f ps oJ body,env,S=>if jj then none else match jy env f with
  |some (.fn g fs cs)=>match call g (fs++[.oq (S.length+1)]++cs) (S++[.defer,.loop ⟨.ready,none,fn,env,ps.toList,oJ,body,S.length⟩])with
   |some (_,S')=>match S'[S.length+1]? with
    |some (.loop r)=>if r.st==.busy then none else match r.kD with
     |none=>some (.normal,env,S'.set (S.length+1) (.loop {r with st:=.exhausted}))
     |some .ret=>some (.ret,env,S'.set (S.length+1) (.loop {r with st:=.exhausted}))
     |some (.exit e)=>some (.exit e,env,S'.set (S.length+1) (.loop {r with st:=.exhausted}))
     |_=>none
    |_=>none
   |none=>none
  |_=>none
 |_,_,_=>none
def tK:List DV->List (Tmp×DV)->List DV
 |env,[]=>env
 |env,(t,d)::l=>tK (env.set t d) l
def uQ(L:Nat):ew:=λid args S=>match S[id]? with
 |some (.loop r)=>if args.length=r.params.length then
   match cW P ty aI call yf L r.fn true r.assign (tK r.env (r.params.zip args)) S with
   |some (.normal,adn,S1)=>match S1[id]? with
    |some (.loop r1)=>if r1.st=.ready then
      match cW P ty aI call yf L r.fn true r.body adn (S1.set id (.loop {r1 with st:=.busy}))with
      |some (e,_,S2)=>match S2[id]? with
       |some (.loop r2)=>match e with
        |.normal=>some (.val (.bool true),S2.set id (.loop {r2 with st:=.ready,kD:=none}))
        |.ret=>some (.val (.bool false),S2.set id (.loop {r2 with st:=.done,kD:=some .ret}))
        |.exit i=>some (.val (.bool false),S2.set id (.loop {r2 with st:=.done,kD:=some (.exit i)}))
       |_=>none
      |none=>none
     else none
    |_=>none
   |_=>none
  else none
 |_=>none
def uw(env:List DV)(S:ai):List ResultVar->Option (List DV)
 |[]=>some []
 |.tmp t::r=>(uw env S r).map (env.getD t bE::·)
 |.cell a t::r=>match lH ty S t (env.getD a bE),uw env S r with
  |some v,some l=>some (v::l)
  |_,_=>none
def oneOf:List DV->DV
 |[d]=>d
 |l=>.tup l
def uH(L:Nat)(f:FuncId)(fn:Func)(args:List DV)(S:ai):Option (DV×ai):=
 match fn.body with
 |some c=>match cW P ty aI call yf L f false c (args++List.replicate (fn.ntmps-args.length) bE) S with
  |some (.normal,env,S')|some (.ret,env,S')=>(uw ty env S' fn.results.toList).map λl=>(oneOf l,S')
  |_=>none
 |none=>none
end
def mc(bM:bS)(call:bt):bS:=λf args=>match bM f args with
 |some v=>if v.pure then some v else none
 |none=>match call f args []with
  |some (v,S)=>if(uB (Ig S v) v).strip.pure then some (uB (Ig S v) v).strip else none
  |none=>none
def ej(P:Program)(ty:fP)(bM:bS)(L:Nat):Nat->bt×ew
 |0=>(λ_ _ _=>none,λ_ _ _=>none)
 |n+1=>(λf args S=>match P.funcs[f]? with
   |some fn=>uH P ty (mc bM (ej P ty bM L n).1) (ej P ty bM L n).1 (ej P ty bM L n).2 L f fn args S
   |none=>none,
  uQ P ty (mc bM (ej P ty bM L n).1) (ej P ty bM L n).1 (ej P ty bM L n).2 L)
def aiB(P:Program)(ty:fP)(bM:bS)(L n:Nat):bt:=(ej P ty bM L n).1
end Go.Di
namespace Go.Tv
open Go Go.Proofs
def gN:Code->Option (List Tmp×Code×Code)
 |.seq a b|.cond _ a b=>match gN a with
  |some r=>some r
  |none=>gN b
 |.block _ c|.loop c|.scope c=>gN c
 |.rangeFunc _ ps a b=>some (ps.toList,a,b)
 |_=>none
def xk(y:List Tmp×Code×Code):Code->Prop
 |.seq a b|.cond _ a b=>xk y a/\xk y b
 |.block _ c|.loop c|.scope c=>xk y c
 |.rangeFunc _ ps a b=>(ps.toList,a,b)=y
 |_=>True
noncomputable def CF (fn:FuncId):Option (List Tmp×Code×Code):=((Try.prog.funcs[fn]?).bind Func.body).bind gN
end Go.Tv
namespace Go.Tv
open Go Go.Di
inductive TT where
 |int (k:IntKind)
 |bool
 |str
 |unit
 |pair (a b:TT)
 |sl (t:TT)
 deriving DecidableEq
abbrev TT.den:TT->Type
 |.int _=>Int
 |.bool=>Bool
 |.str=>ByteArray
 |.unit=>Unit
 |.pair a b=>a.den×b.den
 |.sl t=>List t.den
def TT.dft:(t:TT)->t.den
 |.int _=>(0:Int)
 |.bool=>false
 |.str=>ByteArray.empty
 |.unit=>()
 |.pair a b=>(a.dft,b.dft)
 |.sl _=>[]
def TT.size:TT->Nat
 |.unit=>0
 |.pair a b=>a.size+b.size
 |_=>1
def TT.agg:TT->Bool
 |.unit|.pair _ _=>true
 |_=>false
inductive Ap where
 |no
 |full
 |kA (g:Nat)
 |stop (b:Bool)
 |Cz (g:Nat)
inductive TV where
 |unk
 |val (v:Value)
 |au
 |agg (l:List TV)
 |tup (l:List TV)
 |sl (t:TT) (l:List t.den) (ap:Ap)
 |ptr (id off:Nat)
 |fF (t:TT) (l:List t.den) (i off:Nat)
 |fn (f:FuncId) (first captured:List TV)
 |mp (id:Nat)
 |so (g:Nat) (t:TT)
 |sp (g:Nat) (t:TT) (i off:Nat)
 |oq (k:Nat) (fn:FuncId) (te:List TV)
instance:Inhabited TV:=⟨.unk⟩
def TT.cells:(t:TT)->t.den->List TV
 |.int k,n=>[.val (.int k n)]
 |.bool,b=>[.val (.bool b)]
 |.str,s=>[.val (.string s)]
 |.unit,_=>[]
 |.pair a b,x=>a.cells x.1++b.cells x.2
 |.sl t,l=>[.sl t l .no]
def ofInt(k:IntKind):List TV->Option (Int×List TV)
 |.val (.int k' n)::r=>if k'=k then some (n,r)else none
 |_=>none
def ofBool:List TV->Option (Bool×List TV)
 |.val (.bool b)::r=>some (b,r)
 |_=>none
def ofStr:List TV->Option (ByteArray×List TV)
 |.val (.string b)::r=>some (b,r)
 |_=>none
def Zb(t:TT):List TV->Option (List t.den×List TV)
 |.sl t' l _::r=>if h:t'=t then some (h▸l,r)else none
 |.au::r=>some ([],r)
 |_=>none
def TT.of:(t:TT)->List TV->Option (t.den×List TV)
 |.int k,l=>ofInt k l
 |.bool,l=>ofBool l
 |.str,l=>ofStr l
 |.unit,l=>some ((),l)
 |.pair a b,l=>match a.of l with
  |some (x,r1)=>match b.of r1 with
   |some (y,r2)=>some ((x,y),r2)
   |none=>none
  |none=>none
 |.sl t,l=>Zb t l
def DK(agg:Bool)(r:DV):Prop:=if agg then∃l,r=.agg l else∀l,r≠.agg l
def fS{α:Type}(R:α->List DV->Prop)(agg:Bool):List α->List DV->Prop
 |[],[]=>True
 |x::l,r::rows=>(R x r.cells/\DK agg r)/\fS R agg l rows
 |_,_=>False
def CR:(t:TT)->t.den->List DV->Prop
 |.int k,n,cs=>cs=[.val (.int k n)]
 |.bool,b,cs=>cs=[.val (.bool b)]
 |.str,s,cs=>cs=[.val (.string s)]
 |.unit,_,cs=>cs=[]
 |.pair a b,x,cs=>∃c1 c2,cs=c1++c2/\CR a x.1 c1/\CR b x.2 c2
 |.sl t,l,cs=>∃rows f,cs=[.sl rows none f]/\fS (CR t) t.agg l rows
abbrev lq:=Nat->Option Nat
def pQ(ι:lq)(S:ai)(n:Nat)(tok:Option Nat)(f:SF):Ap->Prop
 |.no|.stop _=>True
 |.full=>tok=none/\f.full=true
 |.kA g|.Cz g=>(tok=none/\f.full=true/\n=0)\/∃t e s,ι g=some t/\tok=some t/\S[t]? =some (.tail e s (n*s))
mutual
def RT(ι:lq)(S:ai):TV->DV->Prop
 |.unk,_=>True
 |.val v,.val u=>u=v
 |.au,.sl rows tok f=>rows=[]/\tok=none/\f=⟨true,some true⟩
 |.agg l,.agg m=>cQ ι S l m
 |.tup l,.tup m=>cQ ι S l m
 |.sl t l ap,.sl rows tok f=>fS (CR t) t.agg l rows/\pQ ι S rows.length tok f ap
 |.ptr id off,.ptr jd sQ=>ι id=some jd/\sQ=off
 |.fF t l i off,.fF rows i' sQ=>fS (CR t) t.agg l rows/\i'=i/\sQ=off/\i<l.length
 |.fn f a b,.fn f' a' b'=>f'=f/\cQ ι S a a'/\cQ ι S b b'
 |.mp id,.map jd=>ι id=some jd
 |.so g t,.jx id n agg=>ι g=some id/\agg=t.agg/\∃e s l z,S[id]? =some (.op e s l z)/\n*s=l.length
 |.sp g t i off,.gD id n sQ=>ι g=some id/\sQ=i*t.size+off/\∃e s l z,S[id]? =some (.op e s l z)/\n*s=l.length/\i*t.size+t.size<=l.length
 |.oq k fn te,.oq id=>ι k=some id/\∃ps a b env BI,CF fn=some (ps,a,b)/\S[id]? =some (.loop ⟨.ready,none,fn,env,ps,a,b,BI⟩)/\cQ ι S te env
 |_,_=>False
def cQ(ι:lq)(S:ai):List TV->List DV->Prop
 |[],[]=>True
 |a::l,b::m=>RT ι S a b/\cQ ι S l m
 |_,_=>False
end
section
variable {ι:lq} {S:ai}
theorem mI{α:Type}{R:α->List DV->Prop}{agg:Bool}:∀{l:List α}{rows:List DV},fS R agg l rows->rows.length=l.length
 |[],[],_=>rfl
 |_::l,_::rows,h=>by simp[mI h.2]
theorem Ei{α:Type}{R:α->List DV->Prop}{agg:Bool}:∀{l:List α}{rows:List DV}{i:Nat}{x:α},fS R agg l rows->l[i]? =some x->∃r,rows[i]? =some r/\R x r.cells/\DK agg r
 |[],_,_,_,_,h=>by simp at h
 |_::_,[],_,_,h,_=>h.elim
 |y::l,r::rows,0,x,h,hx=>by simp only[cg,aB]at hx;subst hx;exact⟨r,rfl,h.1⟩
 |y::l,r::rows,i+1,x,h,hx=>by obtain⟨r',h1,h2⟩:=Ei (i:=i) h.2 (by simpa using hx);exact⟨r',by simpa using h1,h2⟩
theorem B9{α:Type}{R:α->List DV->Prop}{agg:Bool}:∀{l m:List α}{rows abx:List DV},fS R agg l rows->fS R agg m abx->fS R agg (l++m) (rows++abx)
 |[],_,[],_,_,h=>h
 |_::_,_,_::_,_,h,k=>⟨h.1,B9 h.2 k⟩
theorem sB{α:Type}{R:α->List DV->Prop}{agg:Bool}:∀{l:List α}{rows:List DV}(n:Nat),fS R agg l rows->fS R agg (l.take n) (rows.take n)
 |_,_,0,_=>by simp[fS]
 |[],[],n+1,_=>by simp[fS]
 |_::_,_::_,n+1,h=>⟨h.1,sB n h.2⟩
theorem wB{α:Type}{R:α->List DV->Prop}{agg:Bool}:∀{l:List α}{rows:List DV}(n:Nat),fS R agg l rows->fS R agg (l.drop n) (rows.drop n)
 |_,_,0,h=>h
 |[],[],n+1,_=>by simp[fS]
 |_::_,_::_,n+1,h=>wB n h.2
theorem rH:∀{t:TT}{x:t.den}{cs:List DV},CR t x cs->cs.length=t.size
 |.int _,_,_,h=>by simp only[CR]at h;subst h;rfl
 |.bool,_,_,h=>by simp only[CR]at h;subst h;rfl
 |.str,_,_,h=>by simp only[CR]at h;subst h;rfl
 |.unit,_,_,h=>by simp only[CR]at h;subst h;rfl
 |.pair a b,x,_,h=>by simp only[CR]at h;obtain⟨c1,c2,rfl,h1,h2⟩:=h;simp only[cD,rH h1,rH h2,TT.size]
 |.sl t,_,_,h=>by simp only[CR]at h;obtain⟨rows,f,rfl,-⟩:=h;rfl
theorem jQ{t:TT}:∀{l:List t.den}{rows:List DV},fS (CR t) t.agg l rows->∀r∈rows,r.cells.length=t.size
 |[],[],_,r,hr=>by simp at hr
 |_::l,r'::rows,h,r,hr=>by
  rcases bz.1 hr with rfl|hr;.exact rH h.1.1
  exact jQ h.2 r hr
theorem iq:∀{l:List TV}{m:List DV},cQ ι S l m->m.length=l.length
 |[],[],_=>rfl
 |_::l,_::m,h=>by simp only[cQ]at h;simp[iq h.2]
theorem bL:cQ ι S [] []:=by simp only[cQ]
theorem aQ{a:TV}{d:DV}{l:List TV}{m:List DV}(h:RT ι S a d)(k:cQ ι S l m):cQ ι S (a::l) (d::m):=by simp only[cQ];exact⟨h,k⟩
theorem kT{a:TV}{d:DV}(h:RT ι S a d):cQ ι S [a] [d]:=aQ h bL
theorem ak{a:TV}{l:List TV}{m:List DV}(h:cQ ι S (a::l) m):∃d m',m=d::m'/\RT ι S a d/\cQ ι S l m':=by
 cases m with
 |nil=>simp only[cQ]at h
 |cons d m'=>simp only[cQ]at h;exact⟨d,m',rfl,h⟩
theorem aP{m:List DV}(h:cQ ι S [] m):m=[]:=by
 cases m with
 |nil=>rfl
 |cons d m'=>simp only[cQ]at h
theorem vH:∀{l:List TV}{m:List DV}{i:Nat}{a:TV},cQ ι S l m->l[i]? =some a->∃d,m[i]? =some d/\RT ι S a d
 |[],_,_,_,_,h=>by simp at h
 |b::l,m,0,a,h,hx=>by obtain⟨d,m',rfl,h1,-⟩:=ak h;simp only[cg,aB]at hx;subst hx;exact⟨d,rfl,h1⟩
 |b::l,m,i+1,a,h,hx=>by obtain⟨d,m',rfl,-,h1⟩:=ak h;obtain⟨d',h2,h3⟩:=vH (i:=i) h1 (by simpa using hx);exact⟨d',by simpa using h2,h3⟩
theorem eN:∀{l l':List TV}{m m':List DV},cQ ι S l m->cQ ι S l' m'->cQ ι S (l++l') (m++m')
 |[],l',m,m',h,k=>by rw[aP h];exact k
 |a::l,l',m,m',h,k=>by obtain⟨d,m1,rfl,h1,h2⟩:=ak h;exact aQ h1 (eN h2 k)
theorem Ef:∀{l:List TV}{m:List DV}(n:Nat),cQ ι S l m->cQ ι S (l.take n) (m.take n)
 |_,_,0,_=>by simp only[List.take_zero];exact bL
 |[],m,n+1,h=>by rw[aP h];simp only[List.take_nil];exact bL
 |a::l,m,n+1,h=>by obtain⟨d,m1,rfl,h1,h2⟩:=ak h;exact aQ h1 (Ef n h2)
theorem Eh:∀{l:List TV}{m:List DV}(n:Nat),cQ ι S l m->cQ ι S (l.drop n) (m.drop n)
 |_,_,0,h=>h
 |[],m,n+1,h=>by rw[aP h];simp only[List.drop_nil];exact bL
 |a::l,m,n+1,h=>by obtain⟨d,m1,rfl,-,h2⟩:=ak h;exact Eh n h2
theorem C2:∀{l:List TV}{m:List DV}(i:Nat){a:TV}{d:DV},cQ ι S l m->RT ι S a d->cQ ι S (l.set i a) (m.set i d)
 |[],m,i,a,d,h,_=>by rw[aP h];simp only[List.set_nil];exact bL
 |b::l,m,0,a,d,h,k=>by obtain⟨d',m1,rfl,-,h2⟩:=ak h;exact aQ k h2
 |b::l,m,i+1,a,d,h,k=>by obtain⟨d',m1,rfl,h1,h2⟩:=ak h;exact aQ h1 (C2 i h2 k)
theorem vF(d:DV):∀n,cQ ι S (List.replicate n .unk) (List.replicate n d)
 |0=>bL
 |n+1=>by rw[zx,zx];exact aQ (by simp only[RT]) (vF d n)
theorem Eg{l:List TV}{m:List DV}(h:cQ ι S l m)(i:Nat):RT ι S (l.getD i .unk) (m.getD i bE):=by
 rw[aR,aR];cases hi:l[i]? with
 |none=>simp only[Option.getD_none,RT]
 |some a=>obtain⟨d,h1,h2⟩:=vH h hi;rw[h1];exact h2
theorem sx:∀{t:TT}{x:t.den}{cs:List DV},CR t x cs->cQ ι S (t.cells x) cs
 |.int _,_,_,h=>by simp only[CR]at h;subst h;exact kT (by simp only[RT])
 |.bool,_,_,h=>by simp only[CR]at h;subst h;exact kT (by simp only[RT])
 |.str,_,_,h=>by simp only[CR]at h;subst h;exact kT (by simp only[RT])
 |.unit,_,_,h=>by simp only[CR]at h;subst h;exact bL
 |.pair a b,x,_,h=>by simp only[CR]at h;obtain⟨c1,c2,rfl,h1,h2⟩:=h;exact eN (sx h1) (sx h2)
 |.sl t,_,_,h=>by simp only[CR]at h;obtain⟨rows,f,rfl,h⟩:=h;refine kT ?_;simp only[RT,pQ,and_true];exact h
theorem Gl:∀{t:TT}{l:List TV}{x:t.den}{r:List TV}{m:List DV},t.of l=some (x,r)->cQ ι S l m->∃c m',m=c++m'/\CR t x (c.map DV.aM)/\cQ ι S r m'
 |.int k,l,x,r,m,h,hm=>by
  simp only[TT.of]at h;unfold ofInt at h;split at h
  .split at h;.rename_i hk;cases h;obtain⟨d,m',rfl,h1,h2⟩:=ak hm;cases d<;>simp only[RT]at h1;subst h1;subst hk;exact⟨[_],m',rfl,by simp only[CR,aV,fe,DV.aM],h2⟩
   cases h
  cases h
 |.bool,l,x,r,m,h,hm=>by
  simp only[TT.of]at h;unfold ofBool at h;split at h;.cases h;obtain⟨d,m',rfl,h1,h2⟩:=ak hm;cases d<;>simp only[RT]at h1;subst h1;exact⟨[_],m',rfl,by simp only[CR,aV,fe,DV.aM],h2⟩
  cases h
 |.str,l,x,r,m,h,hm=>by
  simp only[TT.of]at h;unfold ofStr at h;split at h;.cases h;obtain⟨d,m',rfl,h1,h2⟩:=ak hm;cases d<;>simp only[RT]at h1;subst h1;exact⟨[_],m',rfl,by simp only[CR,aV,fe,DV.aM],h2⟩
  cases h
 |.unit,l,x,r,m,h,hm=>by simp only[TT.of]at h;cases h;exact⟨[],m,rfl,by simp only[CR,fe],hm⟩
 |.pair a b,l,x,r,m,h,hm=>by
  simp only[TT.of]at h;split at h
  .rename_i x1 r1 h1;split at h;.rename_i y r2 h2;cases h;obtain⟨c,m1,rfl,k1,k2⟩:=Gl h1 hm;obtain⟨c',m2,rfl,k3,k4⟩:=Gl h2 k2;exact⟨c++c',m2,by simp,by simp only[CR,dW];exact⟨_,_,rfl,k1,k3⟩,k4⟩
   cases h
  cases h
 |.sl t,l,x,r,m,h,hm=>by
  simp only[TT.of]at h;unfold Zb at h;split at h
  .split at h;.rename_i ht;subst ht;cases h;obtain⟨d,m',rfl,h1,h2⟩:=ak hm;cases d<;>simp only[RT]at h1;rename_i rows tok f;exact⟨[_],m',rfl,by simp only[CR,aV,fe,DV.aM];exact⟨rows,⟨false,f.isNil⟩,rfl,h1.1⟩,h2⟩
   cases h
  .cases h;obtain⟨d,m',rfl,h1,h2⟩:=ak hm;cases d<;>simp only[RT]at h1;obtain⟨rfl,rfl,rfl⟩:=h1;exact⟨[_],m',rfl,by simp only[CR,aV,fe,DV.aM];exact⟨[],⟨false,some true⟩,rfl,by simp only[fS]⟩,h2⟩
  cases h
theorem vS:∀{t:TT}{x:t.den}{cs:List DV},CR t x cs->cs.all DV.bY=true
 |.int _,_,_,h=>by simp only[CR]at h;subst h;rfl
 |.bool,_,_,h=>by simp only[CR]at h;subst h;rfl
 |.str,_,_,h=>by simp only[CR]at h;subst h;rfl
 |.unit,_,_,h=>by simp only[CR]at h;subst h;rfl
 |.pair a b,x,_,h=>by simp only[CR]at h;obtain⟨c1,c2,rfl,h1,h2⟩:=h;rw[o6,vS h1,vS h2];rfl
 |.sl t,_,_,h=>by simp only[CR]at h;obtain⟨rows,f,rfl,-⟩:=h;rfl
end
end Go.Tv
