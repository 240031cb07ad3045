import Derived.Test.YtedcgbkilmlbhaaGreatPk00
import GoSem.Step
import Derived.Test.YtedcgbkilmlbhaaGreatProg
namespace Go.Di
open Go
structure SF where
 full:Bool
 isNil:Option Bool
inductive DV where
 |val (v:Value)
 |agg (l:List DV)
 |tup (l:List DV)
 |sl (rows:List DV) (tok:Option Nat) (full:SF)
 |ptr (id off:Nat)
 |fM (rows:List DV) (i off:Nat)
 |fn (f:FuncId) (first captured:List DV)
 |map (id:Nat)
 |oz (id:Nat)
 |jX (id n:Nat) (agg:Bool)
 |gF (id n off:Nat)
abbrev cX:=List DV
abbrev cj:=List DV
instance:Inhabited DV:=⟨.val (.tuple #[])⟩
structure GK where
 st:LoopState
 kI:Option Code
 fn:FuncId
 env:cj
 params:List Tmp
 assign:Code
 body:Code
 BS:Nat
inductive DB where
 |none
 |cells (l:cj)
 |tail (e:TypeId) (s n:Nat)
 |map (es:List (Value×Value))
 |defer
 |loop (r:GK)
 |op (e:TypeId) (s:Nat) (l:cj) (z:Bool)
instance:Inhabited DB:=⟨.none⟩
abbrev ai:=List DB
def bK:DV:=.val (.tuple #[])
def DV.cells:DV->cj
 |.agg l=>l
 |d=>[d]
def flat(rows:cj):cj:=rows.flatMap DV.cells
def A3:Value->Bool
 |.agg _=>false
 |.tuple vs=>vs.size==0
 |_=>true
def IQ:Value->Option DV
 |.slice none 0 0=>some (.sl [] none ⟨true,some true⟩)
 |v=>if A3 v then some (.val v)else none
def tw:List Value->Option cj
 |[]=>some []
 |v::l=>match IQ v,tw l with
  |some d,some r=>some (d::r)
  |_,_=>none
def BZ:Value->Option DV
 |.agg cs=>(tw cs.toList).map .agg
 |.func (.func f) fs cs=>if fs.size=0&&cs.size=0 then some (.fn f [] [])else none
 |v=>IQ v
def th:cj->Option (List Value)
 |[]=>some []
 |.val v::l=>(th l).map (v::·)
 |_=>none
def BT:DV->Option Value
 |.val v=>some v
 |.agg l=>(th l).map λr=>.agg r.toArray
 |_=>none
def vh:cj->Option (List Value)
 |[]=>some []
 |d::l=>match BT d,vh l with
  |some v,some r=>some (v::r)
  |_,_=>none
def DV.ct:DV->Bool
 |.val v=>!(v matches .tuple _)
 |.sl _ none _=>true
 |_=>false
def DV.kD:DV->Bool
 |.agg l=>l.all DV.ct
 |.val _=>true
 |.sl _ none _=>true
 |_=>false
def DV.pure:DV->Bool
 |.tup l=>l.all DV.kD
 |d=>d.kD
def DV.aO:DV->DV
 |.sl r _ f=>.sl r none ⟨false,f.isNil⟩
 |d=>d
def DV.dL:DV->DV
 |.agg l=>.agg (l.map DV.aO)
 |.sl r _ f=>.sl r none ⟨false,f.isNil⟩
 |d=>d
def DV.strip:DV->DV
 |.tup l=>.tup (l.map DV.dL)
 |d=>d.dL
def DV.one:DV->Bool
 |.val v=>!(v matches .tuple _)
 |.agg _|.tup _=>false
 |_=>true
inductive TK where
 |one
 |struct (fs:List (Nat×Nat×Bool))
 |array (n s:Nat) (agg:Bool)
 |slice (e s b:Nat) (agg:Bool)
 deriving DecidableEq
structure TyD where
 k:TK
 size:Nat
 zero:Option cj
def TK.isAgg:TK->Bool
 |.struct _|.array _ _ _=>true
 |_=>false
section
variable (P:Program)
def qg(t:TypeId):Bool:=
 match P.underlying t with
 |some (.struct _)|some (.array _ _)=>true
 |_=>false
def cZ{α:Type}:Sem α->Option α
 |.pure a=>some a
 |.program k=>cZ (k P)
 |_=>none
def Gz(t:TypeId):Option TypeInfo:=
 match P.info? t,P.underlying t with
 |some i,some _=>some i
 |_,_=>none
def FQ(t:TypeId):Option TK:=
 match P.underlying t with
 |some (.struct fs)=>(fs.toList.mapM λf=>(Gz P f.type).map λi=>(f.offset,i.size,qg P f.type)).map .struct
 |some (.array n e)=>(Gz P e).map λi=>.array n i.size (qg P e)
 |some (.slice e)=>(Gz P e).map λi=>.slice e i.size i.bytes (qg P e)
 |some _=>some .one
 |none=>none
def zeroOf(i:TypeInfo):Option cj:=
 match i.zero with
 |some z=>match tw z.cells.toList with
  |some cs=>if cs.length=i.size then some cs else none
  |none=>none
 |none=>none
def Va(t:TypeId):Option TyD:=
 match FQ P t,P.info? t with
 |some k,some i=>some ⟨k,i.size,zeroOf i⟩
 |_,_=>none
end
def Vq(l:cj)(off n:Nat):Option cj:=if off+n<=l.length then some ((l.drop off).take n)else none
def wV(l:cj)(off:Nat)(cs:cj):Option cj:=if off+cs.length<=l.length then some (l.take off++cs++l.drop (off+cs.length))else none
def pY(agg:Bool)(size:Nat)(l:cj)(off:Nat):Option DV:=
 if agg then(Vq l off size).map .agg else l[off]?
structure gb where
 f:TypeId->Option TyD
 hint:Tmp->TypeId->Nat
instance:CoeFun gb λ_=>TypeId->Option TyD:=⟨gb.f⟩
def gb.h (ty:gb)(o:Oper):Nat:=
 match o.dst,o.op with
 |some d,.call {callee:=.value _,.. }=>ty.hint d o.type % 4
 |some d,_=>if ty.hint d o.type<16380 then ty.hint d o.type % 4 else 0
 |none,_=>0
abbrev bG:=FuncId->cj->ai->Option (DV×ai)
abbrev b9:=FuncId->cj->Option DV
abbrev ez:=Nat->cj->ai->Option (DV×ai)
section
variable (P:Program) (ty:gb) (aI:b9) (call:bG) (yf:ez)
def jA(env:cj):Operand->Option DV
 |.tmp t=>some (env.getD t bK)
 |.const v=>BZ v
 |.func f=>some (.fn f [] [])
 |.global _=>none
def evs(ρ:Operand->Option DV):List Operand->Option cj
 |[]=>some []
 |x::l=>match ρ x,evs ρ l with
  |some d,some r=>some (d::r)
  |_,_=>none
def valOf(ρ:Operand->Option DV)(x:Operand):Option Value:=(ρ x).bind BT
def intOf(ρ:Operand->Option DV)(x:Operand):Option Int:=
 match ρ x with
 |some (.val (.int _ n))=>some n
 |_=>none
def DR:Option DV->Bool
 |some (.jX ..)=>true
 |_=>false
def C2(S:ai)(id n:Nat):Option (TypeId×Nat×cj×Bool):=
 match S[id]? with
 |some (.op e s l z)=>if n*s=l.length then some (e,s,l,z)else none
 |_=>none
def jC(s:Sem Value):Option DV:=(cZ P s).bind BZ
def lQ(S:ai)(t:TypeId)(a:DV):Option DV:=
 match ty t,a with
 |some d,.ptr id off=>match S[id]? with
  |some (.cells l)=>pY d.k.isAgg d.size l off
  |_=>none
 |some d,.fM rows i off=>match rows[i]? with
  |some r=>pY d.k.isAgg d.size r.cells off
  |none=>none
 |some d,.gF id n off=>match C2 S id n with
  |some (_,_,l,_)=>pY d.k.isAgg d.size l off
  |none=>none
 |_,_=>none
def fu(S:ai)(i:Nat)(b:DB):ai:=if i<S.length then S.set i b else S++[b]
def qi(S:ai)(t:TypeId)(a v:DV):Option ai:=
 match ty t,a with
 |some d,.ptr id off=>match S[id]? with
  |some (.cells l)=>if v.cells.length=d.size&&v.cells.all DV.one then(wV l off v.cells).map λl'=>S.set id (.cells l')else none
  |_=>none
 |some d,.gF id n off=>match C2 S id n with
  |some (e,s,l,false)=>if v.strip.cells.length=d.size&&v.strip.cells.all DV.ct then(wV l off v.strip.cells).map λl'=>S.set id (.op e s l' false)else none
  |_=>none
 |_,_=>none
def lS(place:Nat->Option (Nat×Nat))(cs:cj):List (Nat×DV)->Option cj
 |[]=>some cs
 |(i,v)::r=>match place i with
  |none=>none
  |some (off,size)=>if v.cells.length=size then match wV cs off v.cells with
    |some iZ=>lS place iZ r
    |none=>none
   else none
def kO(ρ:Operand->Option DV):List (Nat×Operand)->Option (List (Nat×DV))
 |[]=>some []
 |(i,x)::l=>match ρ x,kO ρ l with
  |some d,some r=>some ((i,d)::r)
  |_,_=>none
def rowOf(s:Nat)(agg:Bool)(l:cj)(i:Nat):DV:=if agg then .agg ((l.drop (i*s)).take s)else l.getD (i*s) bK
def rowsOf(s:Nat)(agg:Bool)(l:cj)(n:Nat):cj:=(List.range n).map (rowOf s agg l)
def ga:Nat:=140737488355328
def j6(S:ai)(aC:Nat)(t:TypeId)(a b:DV):Option (DV×ai):=
 match ty t,a,b with
 |some ⟨.slice e s mh _,_,_⟩,.sl rows tok full,.sl news _ _=>
  if news.isEmpty then some (a,S)
  else match ty e with
  |some ⟨_,_,some _⟩=>if decide (0<s)&&decide ((rows.length+news.length)*mh<=ga)&&decide (rows.length+news.length<=140737488355328-4096)&&news.all (λr=>decide (r.cells.length=s))then
   let aib:Option (DV×ai):=if full.full&&rows.all (λr=>decide (r.cells.length=s))then some (.sl (rows++news) (some aC) ⟨false,none⟩,fu S aC (.tail e s ((rows.length+news.length)*s)))else none
   match tok with
   |none=>aib
   |some t=>match S[t]? with
    |some (.tail e' s' n)=>if e'=e&&s'=s&&n=rows.length*s then some (.sl (rows++news) (some t) ⟨false,none⟩,S.set t (.tail e s ((rows.length+news.length)*s)))else none
    |_=>none
   else none
  |_=>none
 |_,_,_=>none
def pg(S:ai)(aC:Nat)(t:TypeId)(a b:DV):Option (DV×ai):=
 match ty t,b with
 |some ⟨.slice e s mh agg,_,_⟩,.sl news _ _=>match ty e with
  |some ⟨_,_,some _⟩=>match a with
   |.jX id n _=>if decide (0<s)&&(agg||s==1)&&decide ((n+news.length)*mh<=ga)&&decide (n+news.length<=140737488355328-4096)&&news.all (λr=>decide (r.cells.length=s))then match C2 S id n with
    |some (e',s',l,false)=>if e'=e&&s'=s then if news.isEmpty then some (a,S)else some (.jX id (n+news.length) agg,S.set id (.op e s (l++flat news) false))else none
    |_=>none
    else none
   |.sl [] none f=>if news.isEmpty then some (a,S)else if f.full&&decide (0<s)&&(agg||s==1)&&decide (news.length*mh<=ga)&&decide (news.length<=140737488355328-4096)&&news.all (λr=>decide (r.cells.length=s))then some (.jX aC news.length agg,fu S aC (.op e s (flat news) false))else none
   |_=>none
  |_=>none
 |_,_=>none
def kT(S:ai):DV->DV
 |.jX id n agg=>match C2 S id n with
  |some (_,s,l,true)=>if decide (0<s)&&(agg||s==1)then .sl (rowsOf s agg l n) none ⟨false,some false⟩else .jX id n agg
  |_=>.jX id n agg
 |d=>d
def yQ(S:ai):DV->ai
 |.jX id n _=>match C2 S id n with
  |some (e,s,l,false)=>S.set id (.op e s l true)
  |_=>S
 |_=>S
def uJ(S:ai):DV->ai
 |.agg l=>l.foldl yQ S
 |d=>yQ S d
def IA(S:ai):DV->ai
 |.tup l=>l.foldl uJ S
 |d=>uJ S d
def uv(S:ai):DV->DV
 |.agg l=>.agg (l.map (kT S))
 |d=>kT S d
def uV(S:ai):DV->DV
 |.tup l=>.tup (l.map (uv S))
 |d=>uv S d
def iE(ρ:Operand->Option DV)(x:Option Operand)(ajZ eU:Nat):Option Nat:=
 match x with
 |none=>some ajZ
 |some x=>match intOf ρ x with
  |some i=>if 0<=i/\i.toNat<=eU then some i.toNat else none
  |none=>none
def ND(rows:cj)(f:SF):Option Bool:=if rows.isEmpty then f.isNil else some false
def D6(op:BinOp)(t:TypeId):Option DV->Option DV->Option DV
 |some (.sl rows _ f),some (.sl [] _ ⟨_,some true⟩)=>match ty t,ND rows f with
  |some ⟨.slice _ _ _ _,_,_⟩,some b=>match op with
   |.eql=>some (.val (.bool b))
   |.neq=>some (.val (.bool (!b)))
   |_=>none
  |_,_=>none
 |_,_=>none
def s7(rows:cj)(full:SF)(l h:Nat)(m:Option Nat):Option DV:=
 if l<=h then match m with
  |none=>some (.sl ((rows.take h).drop l) none ⟨full.full&&h==rows.length,ND rows full⟩)
  |some m=>if h<=m then some (.sl ((rows.take h).drop l) none ⟨m==h,ND rows full⟩)else none
 else none
def xz(g:FuncId)(args:cj)(S:ai):Option (DV×ai):=
 if(args.map DV.strip).all DV.pure then match aI g (args.map DV.strip)with
  |some v=>some (v,S)
  |none=>call g args S
 else call g args S
def Zm(p:Value×Value):MapEntry:=⟨p.1,p.2,0⟩
def PE(t:TypeId)(es:List MapEntry)(k:Value)(ok:Bool):Sem Value:=do
 let .map key elem<-underlying t|stuck "Lookup: map type expected"
 Instr.checkKey es.isEmpty 10000 key k
 let (v,o)<-match<-Instr.findKey key k es with
  |some (_,v)=>pure (v,true)
  |none=>pure (<-zeroValue elem,false)
 pure (if ok then .tuple #[v,.bool o]else v)
def PS(t:TypeId)(es:List MapEntry)(k:Value):Sem (Option (Nat×Value)):=do
 let .map key _<-underlying t|stuck "MapUpdate: map type expected"
 Instr.checkKey false 10000 key k
 Instr.findKey key k es
def KR:Value->Option DV
 |.tuple vs=>match vs.toList with
  |[v,.bool b]=>(BZ v).map λd=>.tup [d,.val (.bool b)]
  |_=>none
 |v=>BZ v
def Ve(es:List (Value×Value))(k v:Value):Option (Nat×Value)->Option (List (Value×Value))
 |none=>some (es++[(k,v)])
 |some (i,_)=>match es[i]? with
  |some (k',_)=>if Instr.sameBits 10000 k' k then some (es.set i (k,v))else none
  |none=>none
def af(ρ:Operand->Option DV)(o:Oper)(S:ai)(aC:Nat):Option (DV×ai):=
 match o.op with
 |.move x|.assign x=>(ρ x).map (·,S)
 |.pick c a b=>match ρ c with
  |some (.val (.bool t))=>(if t then ρ a else ρ b).map (·,S)
  |_=>none
 |.alloc e=>match ty e with
  |some ⟨_,_,some z⟩=>some (.ptr aC 0,fu S aC (.cells z))
  |_=>none
 |.box _ x=>match ρ x with
  |some d=>some (.ptr aC 0,fu S aC (.cells d.cells))
  |none=>none
 |.build t ps=>match ty t,kO ρ ps.toList with
  |some ⟨.struct fs,_,some z⟩,some l=>(lS (λi=>(fs[i]?).map λf=>(f.1,f.2.1)) z l).map λcs=>(.agg cs,S)
  |some ⟨.array _ s _,_,some z⟩,some l=>(lS (λi=>some (i*s,s)) z l).map λcs=>(.agg cs,S)
  |_,_=>none
 |.buildSlice t n ps=>match ty t,kO ρ ps.toList with
  |some ⟨.slice e s _ agg,_,_⟩,some l=>match ty e with
   |some ⟨_,_,some z⟩=>if decide (0<s)&&decide (n*s<=16777216)then
     match lS (λi=>some (i*s,s)) ((List.replicate n z).flatten) (l.map λ(i,v)=>(i,v.strip))with
     |some cs=>if cs.all DV.ct&&(agg||s==1)then some (match ty.h o with
      |1=>(.jX aC n agg,fu S aC (.op e s cs false))
      |_=>(.sl (rowsOf s agg cs n) none ⟨true,some false⟩,S))else none
     |none=>none
    else none
   |_=>none
  |_,_=>none
 |.makeSlice t a b=>match ty t,intOf ρ a,intOf ρ b with
  |some ⟨.slice e s mh agg,_,_⟩,some n,some m=>match ty e with
   |some ⟨_,_,some z⟩=>if decide (0<=n)&&decide (m=n)&&decide (0<s)&&(agg||s==1)&&decide (n<=140737488355328-4096)&&decide (n.toNat*mh<=ga)&&(z.map DV.aO).all DV.ct then
     some (.jX aC n.toNat agg,fu S aC (.op e s (List.replicate n.toNat (z.map DV.aO)).flatten false))else none
   |_=>none
  |_,_,_=>none
 |.load t a=>match ρ a with
  |some a=>(lQ ty S t a).map (·,S)
  |none=>none
 |.store t a x=>match ρ a,ρ x with
  |some a,some v=>(qi ty S t a v).map (bK,·)
  |_,_=>none
 |.nilCheck x=>match ρ x with
  |some (.ptr id off)=>some (.ptr id off,S)
  |_=>none
 |.binOp op t x y _=>match valOf ρ x,valOf ρ y with
  |some a,some b=>(jC P (do eqGuard op t x y a b;binOp op t a b)).map (·,S)
  |_,_=>(D6 ty op t (ρ x) (ρ y)).map (·,S)
 |.unOp op _ x=>match valOf ρ x with
  |some a=>(jC P (Op.unary op a)).map (·,S)
  |none=>none
 |.convert s d x=>match valOf ρ x with
  |some a=>(jC P (Go.convert s d a)).map (·,S)
  |none=>none
 |.makeFunc (.func f) fs cs=>match evs ρ fs.toList,evs ρ cs.toList with
  |some a,some b=>some (.fn f a b,S)
  |_,_=>none
 |.slice t x lo hi mx=>match ty t,ρ x with
  |some ⟨.slice _ s _ _,_,_⟩,some (.sl rows _ full)=>if !rows.all (λr=>decide (r.cells.length=s))then none else
   match iE ρ mx rows.length rows.length with
   |some m=>match iE ρ hi rows.length m with
    |some h=>match iE ρ lo 0 h with
     |some l=>if hi.isNone&&mx.isSome then none else(s7 rows full l h (mx.map λ_=>m)).map (·,S)
     |none=>none
    |none=>none
   |none=>none
  |_,_=>none
 |.fieldAddr t x f=>match ty t,ρ x with
  |some ⟨.struct fs,_,_⟩,some (.ptr id off)=>match fs[f]? with
   |some (o,s,_)=>if 0<s then some (.ptr id (off+o),S)else none
   |none=>none
  |some ⟨.struct fs,_,_⟩,some (.fM rows i off)=>match fs[f]? with
   |some (o,s,_)=>if 0<s then some (.fM rows i (off+o),S)else none
   |none=>none
  |some ⟨.struct fs,_,_⟩,some (.gF id n off)=>match fs[f]?,C2 S id n with
   |some (o,s,_),some _=>if 0<s then some (.gF id n (off+o),S)else none
   |_,_=>none
  |_,_=>none
 |.field t x f=>match ty t,ρ x with
  |some ⟨.struct fs,_,_⟩,some (.agg l)=>match fs[f]? with
   |some (off,s,agg)=>(pY agg s l off).map (·,S)
   |none=>none
  |_,_=>none
 |.indexAddr t x i=>match ty t,ρ x,intOf ρ i with
  |some ⟨.slice _ s _ _,_,_⟩,some (.sl rows _ _),some n=>if 0<=n then
    match rows[n.toNat]? with
    |some r=>if r.cells.length=s then some (.fM rows n.toNat 0,S)else none
    |none=>none
   else none
  |some ⟨.array k s _,_,_⟩,some (.ptr id off),some n=>if 0<=n/\n.toNat<k then some (.ptr id (off+n.toNat*s),S)else none
  |some ⟨.array k s _,_,_⟩,some (.fM rows j off),some n=>if 0<=n/\n.toNat<k then some (.fM rows j (off+n.toNat*s),S)else none
  |some ⟨.slice _ s _ _,_,_⟩,some (.jX id m _),some n=>match C2 S id m with
   |some (_,s',_,_)=>if 0<=n/\n.toNat<m/\s'=s then some (.gF id m (n.toNat*s),S)else none
   |none=>none
  |_,_,_=>none
 |.index t x i=>match ty t,ρ x,intOf ρ i with
  |some ⟨.array k s agg,_,_⟩,some (.agg l),some n=>if 0<=n/\n.toNat<k then(pY agg s l (n.toNat*s)).map (·,S)else none
  |_,_,_=>none
 |.makeMap _ none=>some (.map aC,fu S aC (.map []))
 |.lookup t m k ok=>match ρ m,valOf ρ k with
  |some (.map id),some kv=>match S[id]? with
   |some (.map es)=>((cZ P (PE t (es.map Zm) kv ok)).bind KR).map (·,S)
   |_=>none
  |_,_=>none
 |.mapUpdate t m k v=>match ρ m,valOf ρ k,valOf ρ v with
  |some (.map id),some kv,some vv=>match S[id]? with
   |some (.map es)=>match cZ P (PS t (es.map Zm) kv)with
    |some r=>(Ve es kv vv r).map λes'=>(bK,S.set id (.map es'))
    |none=>none
   |_=>none
  |_,_,_=>none
 |.extract t i=>match ρ t with
  |some (.tup l)=>(l[i]?).map (·,S)
  |_=>none
 |.call {callee:=.builtin b,args,argTypes}=>match b,args.toList,argTypes.toList with
  |.len,[x],[t]=>match ty t,ρ x with
   |some ⟨.slice _ _ _ _,_,_⟩,some (.sl rows _ _)=>some (.val (.int .i64 rows.length),S)
   |some ⟨.slice _ _ _ _,_,_⟩,some (.jX _ n _)=>some (.val (.int .i64 n),S)
   |some ⟨.array n _ _,_,_⟩,_=>some (.val (.int .i64 n),S)
   |_,some (.val v)=>(jC P (Builtin.len_ #[t] o.type #[v])).map (·,S)
   |_,_=>none
  |.append,[x,y],[t,u]=>if t=u then match ρ x,ρ y with
    |some a,some b=>match a with
     |.jX .. =>pg ty S aC t a b
     |_=>match ty.h o with
      |1=>pg ty S aC t a b
      |_=>j6 ty S aC t a b
    |_,_=>none
   else none
  |.min,xs,_=>match(evs ρ xs).bind vh with
   |some vs=>(jC P (Builtin.min_ argTypes o.type vs.toArray)).map (·,S)
   |none=>none
  |.max,xs,_=>match(evs ρ xs).bind vh with
   |some vs=>(jC P (Builtin.max_ argTypes o.type vs.toArray)).map (·,S)
   |none=>none
  |_,_,_=>none
 |.call {callee:=.value f,args,argTypes:=_}=>match ρ f,evs ρ args.toList with
  |some (.fn g fs cs),some xs=>match ty.h o with
   |1=>call g (fs++xs++cs) S
   |_=>xz aI call g (fs++xs++cs) S
  |some (.oz id),some xs=>yf id xs S
  |_,_=>none
 |_=>none
def cI(ops:Array Oper)(env:cj)(o:Oper):Bool:=
 match o.guard with
 |none=>true
 |some (j,want)=>match(ops[j]?).bind (·.dst)with
  |some d=>match env[d]? with
   |some (.val (.bool b))=>b==want
   |_=>false
  |none=>false
def kH(env:cj)(dst:Option Tmp)(v:DV):cj:=
 match dst with
 |some d=>env.set d v
 |none=>env
def rW(env:cj)(S:ai)(x:Operand):ai:=match jA env x with|some d=>yQ S d|none=>S
def FT(o:Oper)(env:cj)(S:ai):cj×ai:=
 match ty.h o with
 |2=>
  let S':=o.op.operands.toList.foldl (rW env) S
  (env.map (kT S'),S')
 |_=>(env,S)
def Il(ops:Array Oper):List Oper->cj->ai->Option (cj×ai)
 |[],env,S=>some (env,S)
 |o::r,env,S=>
  if cI ops env o then match FT ty o env S with
   |(env,S)=>match af P ty aI call yf (jA env) o S S.length with
    |some (v,S')=>Il ops r (kH env o.dst v) S'
    |none=>none
  else Il ops r (kH env o.dst bK) S
def dO(ρ:Operand->Option DV)(o:Oper)(S:ai):Option DV:=
 match o.op with
 |.alloc _|.box .. |.store .. |.makeMap .. |.mapUpdate .. |.makeSlice .. =>none
 |.buildSlice .. =>match ty.h o with
  |1=>none
  |_=>(af P ty aI call yf ρ o S S.length).map (·.1)
 |.call {callee:=.builtin .append,.. }=>none
 |.call {callee:=.value f,args,argTypes:=_}=>match ρ f,evs ρ args.toList with
  |some (.fn g fs cs),some xs=>if ty.h o=1 then none else if((fs++xs++cs).map DV.strip).all DV.pure then aI g ((fs++xs++cs).map DV.strip)else none
  |_,_=>none
 |_=>(af P ty aI call yf ρ o S S.length).map (·.1)
def rF(ops:Array Oper)(S:ai):List Oper->cj->Option cj
 |[],env=>some env
 |o::r,env=>
  if cI ops env o then match dO P ty aI call yf (jA env) o S with
   |some v=>rF ops S r (kH env o.dst v)
   |none=>none
  else rF ops S r (kH env o.dst bK)
def pZ(call:bG)(g:FuncId)(args:cj)(S:ai):Option (Nat×DV×cj):=
 match args with
 |.ptr i off::rest=>match S[i]? with
  |some (.cells l)=>
   if(rest.map DV.strip).all DV.pure&&(l.map DV.aO).all DV.ct then
    match call g (.ptr 0 off::rest.map DV.strip) [.cells (l.map DV.aO)]with
    |some (v,.cells l'::_)=>if v.strip.pure&&(l'.map DV.aO).all DV.ct then some (i,v.strip,l'.map DV.aO)else none
    |_=>none
   else none
  |_=>none
 |_=>none
def ZP(R:cy):DV->Bool
 |.ptr i _=>R.contains i
 |d=>d.ct
def Nk(R:cy):DV->Bool
 |.ptr i _=>R.contains i
 |.fn _ fs cs=>fs.all (ZP R)&&cs.all (ZP R)
 |d=>d.ct
def okA(R:cy):DV->Bool
 |.ptr i _=>R.contains i
 |.fn _ fs cs=>fs.all (ZP R)&&cs.all (ZP R)
 |d=>d.pure
def dK:DV->DV
 |.fn f fs cs=>.fn f (fs.map DV.aO) (cs.map DV.aO)
 |d=>d.aO
def jG:DV->DV
 |.fn f fs cs=>.fn f (fs.map DV.aO) (cs.map DV.aO)
 |d=>d.strip
def Vh:DV->cy
 |.ptr i _=>[i]
 |_=>[]
def AV:DV->cy
 |.ptr i _=>[i]
 |.fn _ fs cs=>fs.flatMap Vh++cs.flatMap Vh
 |_=>[]
def Is(S:ai)(i:Nat):cy:=
 match S[i]? with
 |some (.cells l)=>l.flatMap AV
 |_=>[]
def rY(S:ai)(R:cy):cy:=R++(R.flatMap (Is S)).filter λi=>!R.contains i
def jH(S:ai)(args:cj):cy:=rY S (rY S (rY S (args.flatMap AV)))
def lz(S:ai)(R:cy)(i:Nat):Bool:=
 match S[i]? with
 |some (.cells l)=>(l.map dK).all (Nk R)
 |_=>false
def VR(b:DB):DB:=
 match b with
 |.cells l=>.cells (l.map dK)
 |_=>.none
def uu(S:ai)(R:cy):ai:=S.mapIdx λi b=>if R.contains i then VR b else .none
def Wc(S1:ai)(i:Nat)(b:DB):DB:=
 match S1[i]? with
 |some (.cells l)=>.cells (l.map dK)
 |_=>b
def lT(S S1:ai)(R:cy):ai:=S.mapIdx λi b=>if R.contains i then Wc S1 i b else b
def oH(call:bG)(g:FuncId)(args:cj)(S:ai):Option (cy×DV×ai):=
 if !(jH S args).isEmpty&&(args.map jG).all (okA (jH S args))&&(jH S args).all (lz S (jH S args))then
  match call g (args.map jG) (uu S (jH S args))with
  |some (v,S1)=>if v.strip.pure&&(jH S args).all (lz S1 (jH S args))then some (jH S args,v.strip,S1)else none
  |none=>none
 else none
def PV(call:bG):bG:=λg args S=>match oH call g args S with
 |some (R,v,S1)=>some (v,lT S S1 R)
 |none=>call g args S
def K9(call:bG):bG:=λg args S=>match pZ call g args S with
 |some (i,v,l)=>some (v,S.set i (.cells l))
 |none=>PV call g args S
def R6(r:Option (DV×ai)):Option (cj×Option (TypeId×Nat)):=
 match r with
 |some (.sl rows (some t) _,S)=>match S[t]? with
  |some (.tail e s n)=>if n=rows.length*s then some (rows,some (e,s))else none
  |_=>none
 |some (.sl [] none f,_)=>if f.full then some ([],none)else none
 |_=>none
def Vd(call:bG)(g:FuncId)(args:cj):Option (cj×Option (TypeId×Nat)):=
 if(args.map DV.strip).all DV.pure then R6 (call g (args.map DV.strip) [])else none
theorem Wv{α:Type}{S:List α}{n:Nat}{b:α}(h:S[n]? =some b):S.set n b=S:=by obtain⟨h1,rfl⟩:=aM.1 h;exact List.set_getElem_self h1
def xo(call:bG)(aC:Nat):bG:=λg args S=>match S[aC]?,Vd call g args with
 |some .none,some (rows,some (e,s))=>some (.sl rows (some aC) ⟨false,none⟩,S.set aC (.tail e s (rows.length*s)))
 |some .none,some (_,none)=>some (.sl [] none ⟨true,none⟩,S.set aC .none)
 |_,_=>none
structure dz where
 ids:Option cy
 wr:Bool
abbrev cY:=List dz
def aJ(ρ:Operand->Option DV)(o:Oper)(S:ai)(aC:Nat):Option (DV×ai×dz):=
 match o.op with
 |.alloc _|.box .. |.makeMap .. =>match S[aC]? with
  |some .none=>(af P ty aI call yf ρ o S aC).map λr=>(r.1,r.2,⟨some [aC],true⟩)
  |_=>none
 |.store _ a _=>match ρ a with
  |some (.ptr id _)=>(af P ty aI call yf ρ o S aC).map λr=>(r.1,r.2,⟨some [id],true⟩)
  |some (.gF id _ _)=>(af P ty aI call yf ρ o S aC).map λr=>(r.1,r.2,⟨some [id],true⟩)
  |_=>none
 |.fieldAddr _ a _=>match ρ a with
  |some (.gF id _ _)=>(af P ty aI call yf ρ o S aC).map λr=>(r.1,r.2,⟨some [id],false⟩)
  |_=>(af P ty aI call yf ρ o S aC).map λr=>(r.1,r.2,⟨some [],false⟩)
 |.indexAddr _ a _=>match ρ a with
  |some (.jX id _ _)=>(af P ty aI call yf ρ o S aC).map λr=>(r.1,r.2,⟨some [id],false⟩)
  |_=>(af P ty aI call yf ρ o S aC).map λr=>(r.1,r.2,⟨some [],false⟩)
 |.buildSlice .. =>match ty.h o with
  |1=>none
  |_=>(af P ty aI call yf ρ o S aC).map λr=>(r.1,r.2,⟨some [],false⟩)
 |.makeSlice .. =>none
 |.lookup _ m .. =>match ρ m with
  |some (.map id)=>(af P ty aI call yf ρ o S aC).map λr=>(r.1,r.2,⟨some [id],false⟩)
  |_=>none
 |.mapUpdate _ m .. =>match ρ m with
  |some (.map id)=>(af P ty aI call yf ρ o S aC).map λr=>(r.1,r.2,⟨some [id],true⟩)
  |_=>none
 |.load _ a=>match ρ a with
  |some (.ptr id _)=>(af P ty aI call yf ρ o S aC).map λr=>(r.1,r.2,⟨some [id],false⟩)
  |some (.gF id _ _)=>(af P ty aI call yf ρ o S aC).map λr=>(r.1,r.2,⟨some [id],false⟩)
  |_=>(af P ty aI call yf ρ o S aC).map λr=>(r.1,r.2,⟨some [],false⟩)
 |.call {callee:=.builtin .append,args,.. }=>if ty.h o=1 then none else if DR ((args[0]?).bind ρ)then none else match S[aC]?,(args[0]?).bind ρ with
  |some .none,some (.sl _ (some t) _)=>(af P ty aI call yf ρ o S aC).map λr=>(r.1,r.2,⟨some [t,aC],true⟩)
  |some .none,_=>(af P ty aI call yf ρ o S aC).map λr=>(r.1,r.2,⟨some [aC],true⟩)
  |_,_=>none
 |.call {callee:=.value f,args,argTypes:=_}=>match ρ f,evs ρ args.toList with
  |some (.fn g fs cs),some xs=>
   let as_:=fs++xs++cs
   if ty.h o=1 then(xo call aC g as_ S).map λr=>(r.1,r.2,⟨some [aC],true⟩)
   else if(as_.map DV.strip).all DV.pure then(aI g (as_.map DV.strip)).map λv=>(v,S,⟨some [],false⟩)
   else match pZ call g as_ S with
    |some (i,v,l)=>some (v,S.set i (.cells l),⟨some [i],true⟩)
    |none=>match oH call g as_ S with
     |some (R,v,S1)=>some (v,lT S S1 R,⟨some R,true⟩)
     |none=>(call g as_ S).map λr=>(r.1,r.2,⟨none,true⟩)
  |some (.oz id),some xs=>(yf id xs S).map λr=>(r.1,r.2,⟨none,true⟩)
  |_,_=>none
 |_=>(af P ty aI call yf ρ o S aC).map λr=>(r.1,r.2,⟨some [],false⟩)
def uq(ops:Array Oper)(n0:Nat):List Oper->Nat->cj->ai->Option (cj×ai×cY)
 |[],_,env,S=>some (env,S,[])
 |o::r,i,env,S=>
  if cI ops env o then match aJ P ty aI call yf (jA env) o S (n0+i)with
   |some (v,S',f)=>match uq ops n0 r (i+1) (kH env o.dst v) S' with
    |some (aL,xM,fs)=>some (aL,xM,f::fs)
    |none=>none
   |none=>none
  else match uq ops n0 r (i+1) (kH env o.dst bK) S with
   |some (aL,xM,fs)=>some (aL,xM,⟨some [],false⟩::fs)
   |none=>none
def mL(ops:Array Oper)(o:Oper):List Tmp:=
 o.dst.toList++o.op.operands.toList.filterMap (λ|.tmp t=>some t|_=>none)++(match o.guard with|some (j,_)=>((ops[j]?).bind (·.dst)).toList|none=>[])
def mJ(ops:Array Oper)(b:Array Nat):Bool:=
 (ops.toList.zipIdx.all λ(o,i)=>o.after.all λe=>!Region.binds .any e||decide (e.on<i))&&
 ops.toList.zipIdx.all λ(o,i)=>ops.toList.zipIdx.all λ(o',j)=>match o'.dst with
  |some d=>i==j||!(mL ops o).contains d||(b.getD j 0).testBit i||(b.getD i 0).testBit j
  |none=>true
def dz.meets (f g:dz):Bool:=
 (f.wr||g.wr)&&match f.ids,g.ids with
 |none,none=>true
 |none,some l=>!l.isEmpty
 |some l,none=>!l.isEmpty
 |some l,some m=>l.any m.contains
def uU(b:Array Nat)(fs:cY):Bool:=
 fs.zipIdx.all λ(f,i)=>fs.zipIdx.all λ(g,j)=>i==j||!f.meets g||(b.getD j 0).testBit i||(b.getD i 0).testBit j
def Js(o:Oper):Bool:=
 match o.op with
 |.call {callee:=.value f,args:=_,argTypes}=>(match f,P.underlying o.type with
  |.tmp _,some .bool=>true
  |_,_=>false)||match argTypes[0]? with
  |some t=>match P.underlying t with
   |some (.pointer _)=>true
   |_=>false
  |none=>false
 |_=>false
def qT(ops:Array Oper)(draw:Bool)(env:cj)(S:ai):Option (cj×ai):=
 if draw then if !mJ ops (Region.before ops)then none else match if ops.toList.any (Js P)then none else rF P ty aI call yf ops S ops.toList env with
  |some aL=>some (aL,S)
  |none=>match uq P ty aI call yf ops S.length ops.toList 0 env (S++List.replicate ops.size .none)with
   |some (aL,S',fs)=>if uU (Region.before ops) fs then some (aL,S')else none
   |none=>none
 else Il P ty aI call yf ops ops.toList env S
inductive DX where
 |normal
 |exit (id:Nat)
 |ret
 deriving DecidableEq
def oO(f:cj->ai->Option (DX×cj×ai)):Nat->cj->ai->Option (DX×cj×ai)
 |0,_,_=>none
 |n+1,env,S=>match f env S with
  |some (.normal,aL,S')=>oO f n aL S'
  |r=>r
def de(L:Nat)(fn:FuncId)(jg:Bool):Code->cj->ai->Option (DX×cj×ai)
 |.skip,env,S|.label _,env,S=>some (.normal,env,S)
 |.region _ ops draw,env,S=>(qT P ty aI call yf ops draw env S).map (.normal,·)
 |.seq a b,env,S=>match de L fn jg a env S with
  |some (.normal,aL,S')=>de L fn jg b aL S'
  |r=>r
 |.cond c a b,env,S=>match jA env c with
  |some (.val (.bool true))=>de L fn jg a env S
  |some (.val (.bool false))=>de L fn jg b env S
  |_=>none
 |.block id c,env,S=>match de L fn jg c env S with
  |some (.exit jf,aL,S')=>some (if jf=id then .normal else .exit jf,aL,S')
  |r=>r
 |.loop c,env,S=>oO (de L fn jg c) L env S
 |.scope c,env,S=>de L fn jg c env S
 |.exit id,env,S=>some (.exit id,env,S)
 |.ret,env,S=>some (.ret,env,S)
 |.rangeFunc f ps oS body,env,S=>if jg then none else match jA env f with
  |some (.fn g fs cs)=>match call g (fs++[.oz (S.length+1)]++cs) (S++[.defer,.loop ⟨.ready,none,fn,env,ps.toList,oS,body,S.length⟩])with
   |some (_,S')=>match S'[S.length+1]? with
    |some (.loop r)=>if r.st==.busy then none else match r.kI with
     |none=>some (.normal,env,S'.set (S.length+1) (.loop {r with st:=.exhausted}))
     |some .ret=>some (.ret,env,S'.set (S.length+1) (.loop {r with st:=.exhausted}))
     |some (.exit e)=>some (.exit e,env,S'.set (S.length+1) (.loop {r with st:=.exhausted}))
     |_=>none
    |_=>none
   |none=>none
  |_=>none
 |_,_,_=>none
def uo:cj->List (Tmp×DV)->cj
 |env,[]=>env
 |env,(t,d)::l=>uo (env.set t d) l
def vk(L:Nat):ez:=λid args S=>match S[id]? with
 |some (.loop r)=>if args.length=r.params.length then
   match de P ty aI call yf L r.fn true r.assign (uo r.env (r.params.zip args)) S with
   |some (.normal,aez,S1)=>match S1[id]? with
    |some (.loop r1)=>if r1.st=.ready then
      match de P ty aI call yf L r.fn true r.body aez (S1.set id (.loop {r1 with st:=.busy}))with
      |some (e,_,S2)=>match S2[id]? with
       |some (.loop r2)=>match e with
        |.normal=>some (.val (.bool true),S2.set id (.loop {r2 with st:=.ready,kI:=none}))
        |.ret=>some (.val (.bool false),S2.set id (.loop {r2 with st:=.done,kI:=some .ret}))
        |.exit i=>some (.val (.bool false),S2.set id (.loop {r2 with st:=.done,kI:=some (.exit i)}))
       |_=>none
      |none=>none
     else none
    |_=>none
   |_=>none
  else none
 |_=>none
def uI(env:cj)(S:ai):List ResultVar->Option cj
 |[]=>some []
 |.tmp t::r=>(uI env S r).map (env.getD t bK::·)
 |.cell a t::r=>match lQ ty S t (env.getD a bK),uI env S r with
  |some v,some l=>some (v::l)
  |_,_=>none
def oneOf:cj->DV
 |[d]=>d
 |l=>.tup l
def uA(L:Nat)(f:FuncId)(fn:Func)(args:cj)(S:ai):Option (DV×ai):=
 match fn.body with
 |some c=>match de P ty aI call yf L f false c (args++List.replicate (fn.ntmps-args.length) bK) S with
  |some (.normal,env,S')|some (.ret,env,S')=>(uI ty env S' fn.results.toList).map λl=>(oneOf l,S')
  |_=>none
 |none=>none
end
def kV(bI:b9)(call:bG):b9:=λf args=>match bI f args with
 |some v=>if v.pure then some v else none
 |none=>match call f args []with
  |some (v,S)=>if(uV (IA S v) v).strip.pure then some (uV (IA S v) v).strip else none
  |none=>none
def dI(P:Program)(ty:gb)(bI:b9)(L:Nat):Nat->bG×ez
 |0=>(λ_ _ _=>none,λ_ _ _=>none)
 |n+1=>(λf args S=>match P.funcs[f]? with
   |some fn=>uA P ty (kV bI (dI P ty bI L n).1) (dI P ty bI L n).1 (dI P ty bI L n).2 L f fn args S
   |none=>none,
  vk P ty (kV bI (dI P ty bI L n).1) (dI P ty bI L n).1 (dI P ty bI L n).2 L)
def akl(P:Program)(ty:gb)(bI:b9)(L n:Nat):bG:=(dI P ty bI L n).1
end Go.Di
namespace Go.Tv
open Go Go.Proofs
def gO:Code->Option (List Tmp×Code×Code)
 |.seq a b|.cond _ a b=>match gO a with
  |some r=>some r
  |none=>gO b
 |.block _ c|.loop c|.scope c=>gO c
 |.rangeFunc _ ps a b=>some (ps.toList,a,b)
 |_=>none
def xA(y:List Tmp×Code×Code):Code->Prop
 |.seq a b|.cond _ a b=>xA y a/\xA y b
 |.block _ c|.loop c|.scope c=>xA y c
 |.rangeFunc _ ps a b=>(ps.toList,a,b)=y
 |_=>True
noncomputable def CO (fn:FuncId):Option (List Tmp×Code×Code):=((Tryz.prog.funcs[fn]?).bind Func.body).bind gO
end Go.Tv
namespace Go.Tv
open Go Go.Di
inductive TT where
 |int (k:IntKind)
 |bool
 |str
 |unit
 |pair (a b:TT)
 |sl (t:TT)
 deriving DecidableEq
abbrev cJ:=Option TT
abbrev TT.den:TT->Type
 |.int _=>Int
 |.bool=>Bool
 |.str=>ByteArray
 |.unit=>Unit
 |.pair a b=>a.den×b.den
 |.sl t=>List t.den
def TT.dft:(t:TT)->t.den
 |.int _=>(0:Int)
 |.bool=>false
 |.str=>ByteArray.empty
 |.unit=>()
 |.pair a b=>(a.dft,b.dft)
 |.sl _=>[]
def TT.size:TT->Nat
 |.unit=>0
 |.pair a b=>a.size+b.size
 |_=>1
def TT.agg:TT->Bool
 |.unit|.pair _ _=>true
 |_=>false
inductive Ap where
 |no
 |full
 |iT (g:Nat)
 |stop (b:Bool)
 |CG (g:Nat)
inductive TV where
 |unk
 |val (v:Value)
 |ax
 |agg (l:List TV)
 |tup (l:List TV)
 |sl (t:TT) (l:List t.den) (ap:Ap)
 |ptr (id off:Nat)
 |fM (t:TT) (l:List t.den) (i off:Nat)
 |fn (f:FuncId) (first captured:List TV)
 |mp (id:Nat)
 |so (g:Nat) (t:TT)
 |sp (g:Nat) (t:TT) (i off:Nat)
 |oz (k:Nat) (fn:FuncId) (te:List TV)
abbrev dj:=List TV
abbrev cp:=List TV
instance:Inhabited TV:=⟨.unk⟩
def TT.cells:(t:TT)->t.den->cp
 |.int k,n=>[.val (.int k n)]
 |.bool,b=>[.val (.bool b)]
 |.str,s=>[.val (.string s)]
 |.unit,_=>[]
 |.pair a b,x=>a.cells x.1++b.cells x.2
 |.sl t,l=>[.sl t l .no]
def ofInt(k:IntKind):cp->Option (Int×cp)
 |.val (.int k' n)::r=>if k'=k then some (n,r)else none
 |_=>none
def ofBool:cp->Option (Bool×cp)
 |.val (.bool b)::r=>some (b,r)
 |_=>none
def ofStr:cp->Option (ByteArray×cp)
 |.val (.string b)::r=>some (b,r)
 |_=>none
def aak(t:TT):cp->Option (List t.den×cp)
 |.sl t' l _::r=>if h:t'=t then some (h▸l,r)else none
 |.ax::r=>some ([],r)
 |_=>none
def TT.of:(t:TT)->cp->Option (t.den×cp)
 |.int k,l=>ofInt k l
 |.bool,l=>ofBool l
 |.str,l=>ofStr l
 |.unit,l=>some ((),l)
 |.pair a b,l=>match a.of l with
  |some (x,r1)=>match b.of r1 with
   |some (y,r2)=>some ((x,y),r2)
   |none=>none
  |none=>none
 |.sl t,l=>aak t l
def y8(agg:Bool)(r:DV):Prop:=if agg then∃l,r=.agg l else∀l,r≠.agg l
def eX{α:Type}(R:α->cj->Prop)(agg:Bool):List α->cj->Prop
 |[],[]=>True
 |x::l,r::rows=>(R x r.cells/\y8 agg r)/\eX R agg l rows
 |_,_=>False
def CR:(t:TT)->t.den->cj->Prop
 |.int k,n,cs=>cs=[.val (.int k n)]
 |.bool,b,cs=>cs=[.val (.bool b)]
 |.str,s,cs=>cs=[.val (.string s)]
 |.unit,_,cs=>cs=[]
 |.pair a b,x,cs=>∃c1 c2,cs=c1++c2/\CR a x.1 c1/\CR b x.2 c2
 |.sl t,l,cs=>∃rows f,cs=[.sl rows none f]/\eX (CR t) t.agg l rows
abbrev lp:=Nat->Option Nat
def pU(ι:lp)(S:ai)(n:Nat)(tok:Option Nat)(f:SF):Ap->Prop
 |.no|.stop _=>True
 |.full=>tok=none/\f.full=true
 |.iT g|.CG g=>(tok=none/\f.full=true/\n=0)\/∃t e s,ι g=some t/\tok=some t/\S[t]? =some (.tail e s (n*s))
mutual
def RT(ι:lp)(S:ai):TV->DV->Prop
 |.unk,_=>True
 |.val v,.val u=>u=v
 |.ax,.sl rows tok f=>rows=[]/\tok=none/\f=⟨true,some true⟩
 |.agg l,.agg m=>cO ι S l m
 |.tup l,.tup m=>cO ι S l m
 |.sl t l ap,.sl rows tok f=>eX (CR t) t.agg l rows/\pU ι S rows.length tok f ap
 |.ptr id off,.ptr jf s6=>ι id=some jf/\s6=off
 |.fM t l i off,.fM rows i' s6=>eX (CR t) t.agg l rows/\i'=i/\s6=off/\i<l.length
 |.fn f a b,.fn f' a' b'=>f'=f/\cO ι S a a'/\cO ι S b b'
 |.mp id,.map jf=>ι id=some jf
 |.so g t,.jX id n agg=>ι g=some id/\agg=t.agg/\∃e s l z,S[id]? =some (.op e s l z)/\n*s=l.length
 |.sp g t i off,.gF id n s6=>ι g=some id/\s6=i*t.size+off/\∃e s l z,S[id]? =some (.op e s l z)/\n*s=l.length/\i*t.size+t.size<=l.length
 |.oz k fn te,.oz id=>ι k=some id/\∃ps a b env BS,CO fn=some (ps,a,b)/\S[id]? =some (.loop ⟨.ready,none,fn,env,ps,a,b,BS⟩)/\cO ι S te env
 |_,_=>False
def cO(ι:lp)(S:ai):cp->cj->Prop
 |[],[]=>True
 |a::l,b::m=>RT ι S a b/\cO ι S l m
 |_,_=>False
end
section
variable {ι:lp} {S:ai}
theorem kZ{α:Type}{R:α->cj->Prop}{agg:Bool}:∀{l:List α}{rows:cj},eX R agg l rows->rows.length=l.length
 |[],[],_=>rfl
 |_::l,_::rows,h=>by simp[kZ h.2]
theorem En{α:Type}{R:α->cj->Prop}{agg:Bool}:∀{l:List α}{rows:cj}{i:Nat}{x:α},eX R agg l rows->l[i]? =some x->∃r,rows[i]? =some r/\R x r.cells/\y8 agg r
 |[],_,_,_,_,h=>by simp at h
 |_::_,[],_,_,h,_=>h.elim
 |y::l,r::rows,0,x,h,hx=>by simp only[eu,aG]at hx;subst hx;exact⟨r,rfl,h.1⟩
 |y::l,r::rows,i+1,x,h,hx=>by obtain⟨r',h1,h2⟩:=En (i:=i) h.2 (by simpa using hx);exact⟨r',by simpa using h1,h2⟩
theorem Ck{α:Type}{R:α->cj->Prop}{agg:Bool}:∀{l m:List α}{rows acQ:cj},eX R agg l rows->eX R agg m acQ->eX R agg (l++m) (rows++acQ)
 |[],_,[],_,_,h=>h
 |_::_,_,_::_,_,h,k=>⟨h.1,Ck h.2 k⟩
theorem sG{α:Type}{R:α->cj->Prop}{agg:Bool}:∀{l:List α}{rows:cj}(n:Nat),eX R agg l rows->eX R agg (l.take n) (rows.take n)
 |_,_,0,_=>by simp[eX]
 |[],[],n+1,_=>by simp[eX]
 |_::_,_::_,n+1,h=>⟨h.1,sG n h.2⟩
theorem wM{α:Type}{R:α->cj->Prop}{agg:Bool}:∀{l:List α}{rows:cj}(n:Nat),eX R agg l rows->eX R agg (l.drop n) (rows.drop n)
 |_,_,0,h=>h
 |[],[],n+1,_=>by simp[eX]
 |_::_,_::_,n+1,h=>wM n h.2
theorem oJ:∀{t:TT}{x:t.den}{cs:cj},CR t x cs->cs.length=t.size
 |.int _,_,_,h=>by simp only[CR]at h;subst h;rfl
 |.bool,_,_,h=>by simp only[CR]at h;subst h;rfl
 |.str,_,_,h=>by simp only[CR]at h;subst h;rfl
 |.unit,_,_,h=>by simp only[CR]at h;subst h;rfl
 |.pair a b,x,_,h=>by simp only[CR]at h;obtain⟨c1,c2,rfl,h1,h2⟩:=h;simp only[cn,oJ h1,oJ h2,TT.size]
 |.sl t,_,_,h=>by simp only[CR]at h;obtain⟨rows,f,rfl,-⟩:=h;rfl
theorem jQ{t:TT}:∀{l:List t.den}{rows:cj},eX (CR t) t.agg l rows->∀r∈rows,r.cells.length=t.size
 |[],[],_,r,hr=>by simp at hr
 |_::l,r'::rows,h,r,hr=>by rcases bE.1 hr with rfl|hr;exact oJ h.1.1;exact jQ h.2 r hr
theorem gN:∀{l:cp}{m:cj},cO ι S l m->m.length=l.length
 |[],[],_=>rfl
 |_::l,_::m,h=>by simp only[cO]at h;simp[gN h.2]
theorem bS:cO ι S [] []:=by simp only[cO]
theorem aR{a:TV}{d:DV}{l:cp}{m:cj}(h:RT ι S a d)(k:cO ι S l m):cO ι S (a::l) (d::m):=by simp only[cO];exact⟨h,k⟩
theorem lq{a:TV}{d:DV}(h:RT ι S a d):cO ι S [a] [d]:=aR h bS
theorem aj{a:TV}{l:cp}{m:cj}(h:cO ι S (a::l) m):∃d m',m=d::m'/\RT ι S a d/\cO ι S l m':=by
 cases m with
 |nil=>simp only[cO]at h
 |cons d m'=>simp only[cO]at h;exact⟨d,m',rfl,h⟩
theorem aQ{m:cj}(h:cO ι S [] m):m=[]:=by
 cases m with
 |nil=>rfl
 |cons d m'=>simp only[cO]at h
theorem wh:∀{l:cp}{m:cj}{i:Nat}{a:TV},cO ι S l m->l[i]? =some a->∃d,m[i]? =some d/\RT ι S a d
 |[],_,_,_,_,h=>by simp at h
 |b::l,m,0,a,h,hx=>by obtain⟨d,m',rfl,h1,-⟩:=aj h;simp only[eu,aG]at hx;subst hx;exact⟨d,rfl,h1⟩
 |b::l,m,i+1,a,h,hx=>by obtain⟨d,m',rfl,-,h1⟩:=aj h;obtain⟨d',h2,h3⟩:=wh (i:=i) h1 (by simpa using hx);exact⟨d',by simpa using h2,h3⟩
theorem eB:∀{l l':cp}{m m':cj},cO ι S l m->cO ι S l' m'->cO ι S (l++l') (m++m')
 |[],l',m,m',h,k=>by rw[aQ h];exact k
 |a::l,l',m,m',h,k=>by obtain⟨d,m1,rfl,h1,h2⟩:=aj h;exact aR h1 (eB h2 k)
theorem Ek:∀{l:cp}{m:cj}(n:Nat),cO ι S l m->cO ι S (l.take n) (m.take n)
 |_,_,0,_=>by simp only[List.take_zero];exact bS
 |[],m,n+1,h=>by rw[aQ h];simp only[List.take_nil];exact bS
 |a::l,m,n+1,h=>by obtain⟨d,m1,rfl,h1,h2⟩:=aj h;exact aR h1 (Ek n h2)
theorem Em:∀{l:cp}{m:cj}(n:Nat),cO ι S l m->cO ι S (l.drop n) (m.drop n)
 |_,_,0,h=>h
 |[],m,n+1,h=>by rw[aQ h];simp only[List.drop_nil];exact bS
 |a::l,m,n+1,h=>by obtain⟨d,m1,rfl,-,h2⟩:=aj h;exact Em n h2
theorem Jm:∀{l:cp}{m:cj}(i:Nat){a:TV}{d:DV},cO ι S l m->RT ι S a d->cO ι S (l.set i a) (m.set i d)
 |[],m,i,a,d,h,_=>by rw[aQ h];simp only[List.set_nil];exact bS
 |b::l,m,0,a,d,h,k=>by obtain⟨d',m1,rfl,-,h2⟩:=aj h;exact aR k h2
 |b::l,m,i+1,a,d,h,k=>by obtain⟨d',m1,rfl,h1,h2⟩:=aj h;exact aR h1 (Jm i h2 k)
theorem tj(d:DV):∀n,cO ι S (List.replicate n .unk) (List.replicate n d)
 |0=>bS
 |n+1=>by rw[zJ,zJ];exact aR (by simp only[RT]) (tj d n)
theorem El{l:cp}{m:cj}(h:cO ι S l m)(i:Nat):RT ι S (l.getD i .unk) (m.getD i bK):=by
 rw[aU,aU];cases hi:l[i]? with
 |none=>simp only[Option.getD_none,RT]
 |some a=>obtain⟨d,h1,h2⟩:=wh h hi;rw[h1];exact h2
theorem qu:∀{t:TT}{x:t.den}{cs:cj},CR t x cs->cO ι S (t.cells x) cs
 |.int _,_,_,h=>by simp only[CR]at h;subst h;exact lq (by simp only[RT])
 |.bool,_,_,h=>by simp only[CR]at h;subst h;exact lq (by simp only[RT])
 |.str,_,_,h=>by simp only[CR]at h;subst h;exact lq (by simp only[RT])
 |.unit,_,_,h=>by simp only[CR]at h;subst h;exact bS
 |.pair a b,x,_,h=>by simp only[CR]at h;obtain⟨c1,c2,rfl,h1,h2⟩:=h;exact eB (qu h1) (qu h2)
 |.sl t,_,_,h=>by simp only[CR]at h;obtain⟨rows,f,rfl,h⟩:=h;refine lq ?_;simp only[RT,pU,and_true];exact h
theorem Gw:∀{t:TT}{l:cp}{x:t.den}{r:cp}{m:cj},t.of l=some (x,r)->cO ι S l m->∃c m',m=c++m'/\CR t x (c.map DV.aO)/\cO ι S r m'
 |.int k,l,x,r,m,h,hm=>by simp only[TT.of]at h;unfold ofInt at h;split at h;split at h;rename_i hk;cases h;obtain⟨d,m',rfl,h1,h2⟩:=aj hm;cases d<;>simp only[RT]at h1;subst h1;subst hk;exact⟨[_],m',rfl,by simp only[CR,aY,eO,DV.aO],h2⟩;cases h;cases h
 |.bool,l,x,r,m,h,hm=>by simp only[TT.of]at h;unfold ofBool at h;split at h;cases h;obtain⟨d,m',rfl,h1,h2⟩:=aj hm;cases d<;>simp only[RT]at h1;subst h1;exact⟨[_],m',rfl,by simp only[CR,aY,eO,DV.aO],h2⟩;cases h
 |.str,l,x,r,m,h,hm=>by simp only[TT.of]at h;unfold ofStr at h;split at h;cases h;obtain⟨d,m',rfl,h1,h2⟩:=aj hm;cases d<;>simp only[RT]at h1;subst h1;exact⟨[_],m',rfl,by simp only[CR,aY,eO,DV.aO],h2⟩;cases h
 |.unit,l,x,r,m,h,hm=>by simp only[TT.of]at h;cases h;exact⟨[],m,rfl,by simp only[CR,eO],hm⟩
 |.pair a b,l,x,r,m,h,hm=>by simp only[TT.of]at h;split at h;rename_i x1 r1 h1;split at h;rename_i y r2 h2;cases h;obtain⟨c,m1,rfl,k1,k2⟩:=Gw h1 hm;obtain⟨c',m2,rfl,k3,k4⟩:=Gw h2 k2;exact⟨c++c',m2,ae,by simp only[CR,fG];exact⟨_,_,rfl,k1,k3⟩,k4⟩;cases h;cases h
 |.sl t,l,x,r,m,h,hm=>by simp only[TT.of]at h;unfold aak at h;split at h;split at h;rename_i ht;subst ht;cases h;obtain⟨d,m',rfl,h1,h2⟩:=aj hm;cases d<;>simp only[RT]at h1;rename_i rows tok f;exact⟨[_],m',rfl,by simp only[CR,aY,eO,DV.aO];exact⟨rows,⟨false,f.isNil⟩,rfl,h1.1⟩,h2⟩;cases h;cases h;obtain⟨d,m',rfl,h1,h2⟩:=aj hm;cases d<;>simp only[RT]at h1;obtain⟨rfl,rfl,rfl⟩:=h1;exact⟨[_],m',rfl,by simp only[CR,aY,eO,DV.aO];exact⟨[],⟨false,some true⟩,rfl,by simp only[eX]⟩,h2⟩;cases h
theorem tE:∀{t:TT}{x:t.den}{cs:cj},CR t x cs->cs.all DV.ct=true
 |.int _,_,_,h=>by simp only[CR]at h;subst h;rfl
 |.bool,_,_,h=>by simp only[CR]at h;subst h;rfl
 |.str,_,_,h=>by simp only[CR]at h;subst h;rfl
 |.unit,_,_,h=>by simp only[CR]at h;subst h;rfl
 |.pair a b,x,_,h=>by simp only[CR]at h;obtain⟨c1,c2,rfl,h1,h2⟩:=h;rw[qZ,tE h1,tE h2];rfl
 |.sl t,_,_,h=>by simp only[CR]at h;obtain⟨rows,f,rfl,-⟩:=h;rfl
end
end Go.Tv
