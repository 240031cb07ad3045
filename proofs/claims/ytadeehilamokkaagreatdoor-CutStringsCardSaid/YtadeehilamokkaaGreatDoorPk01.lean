import Derived.Test.YtadeehilamokkaaGreatDoorPk00
import GoSem.Step
import Derived.Test.YtadeehilamokkaaGreatDoorProg
namespace Go.Di
open Go
structure SF where
 full:Bool
 isNil:Option Bool
inductive DV where
 |val (v:Value)
 |agg (l:List DV)
 |tup (l:List DV)
 |sl (rows:List DV) (tok:Option Nat) (full:SF)
 |ptr (id off:Nat)
 |eU (rows:List DV) (i off:Nat)
 |fn (f:FuncId) (first captured:List DV)
 |map (id:Nat)
 |nN (id:Nat)
 |jB (id n:Nat) (agg:Bool)
 |fV (id n off:Nat)
abbrev cX:=List DV
abbrev cn:=List DV
instance:Inhabited DV:=⟨.val (.tuple #[])⟩
structure GA where
 st:LoopState
 j5:Option Code
 fn:FuncId
 env:cn
 params:List Tmp
 assign:Code
 body:Code
 Bv:Nat
inductive DB where
 |none
 |cells (l:cn)
 |tail (e:TypeId) (s n:Nat)
 |map (es:List (Value×Value))
 |defer
 |loop (r:GA)
 |op (e:TypeId) (s:Nat) (l:cn) (z:Bool)
instance:Inhabited DB:=⟨.none⟩
abbrev aj:=List DB
def bD:DV:=.val (.tuple #[])
def DV.cells:DV->cn
 |.agg l=>l
 |d=>[d]
def flat(rows:cn):cn:=rows.flatMap DV.cells
def Ax:Value->Bool
 |.agg _=>false
 |.tuple vs=>vs.size==0
 |_=>true
def Iy:Value->Option DV
 |.slice none 0 0=>some (.sl [] none ⟨true,some true⟩)
 |v=>if Ax v then some (.val v)else none
def sw:List Value->Option cn
 |[]=>some []
 |v::l=>match Iy v,sw l with
  |some d,some r=>some (d::r)
  |_,_=>none
def wF:Value->Option DV
 |.agg cs=>(sw cs.toList).map .agg
 |.func (.func f) fs cs=>if fs.size=0&&cs.size=0 then some (.fn f [] [])else none
 |v=>Iy v
def sj:cn->Option (List Value)
 |[]=>some []
 |.val v::l=>(sj l).map (v::·)
 |_=>none
def wA:DV->Option Value
 |.val v=>some v
 |.agg l=>(sj l).map λr=>.agg r.toArray
 |_=>none
def uk:cn->Option (List Value)
 |[]=>some []
 |d::l=>match wA d,uk l with
  |some v,some r=>some (v::r)
  |_,_=>none
def DV.bU:DV->Bool
 |.val v=>!(v matches .tuple _)
 |.sl _ none _=>true
 |_=>false
def DV.jW:DV->Bool
 |.agg l=>l.all DV.bU
 |.val _=>true
 |.sl _ none _=>true
 |_=>false
def DV.pure:DV->Bool
 |.tup l=>l.all DV.jW
 |d=>d.jW
def DV.aM:DV->DV
 |.sl r _ f=>.sl r none ⟨false,f.isNil⟩
 |d=>d
def DV.cZ:DV->DV
 |.agg l=>.agg (l.map DV.aM)
 |.sl r _ f=>.sl r none ⟨false,f.isNil⟩
 |d=>d
def DV.strip:DV->DV
 |.tup l=>.tup (l.map DV.cZ)
 |d=>d.cZ
def DV.one:DV->Bool
 |.val v=>!(v matches .tuple _)
 |.agg _|.tup _=>false
 |_=>true
inductive TK where
 |one
 |struct (fs:List (Nat×Nat×Bool))
 |array (n s:Nat) (agg:Bool)
 |slice (e s b:Nat) (agg:Bool)
 deriving DecidableEq
structure TyD where
 k:TK
 size:Nat
 zero:Option cn
def TK.isAgg:TK->Bool
 |.struct _|.array _ _ _=>true
 |_=>false
section
variable (P:Program)
def pE(t:TypeId):Bool:=
 match P.underlying t with
 |some (.struct _)|some (.array _ _)=>true
 |_=>false
def bN{α:Type}:Sem α->Option α
 |.pure a=>some a
 |.program k=>bN (k P)
 |_=>none
def Gp(t:TypeId):Option TypeInfo:=
 match P.info? t,P.underlying t with
 |some i,some _=>some i
 |_,_=>none
def FJ(t:TypeId):Option TK:=
 match P.underlying t with
 |some (.struct fs)=>(fs.toList.mapM λf=>(Gp P f.type).map λi=>(f.offset,i.size,pE P f.type)).map .struct
 |some (.array n e)=>(Gp P e).map λi=>.array n i.size (pE P e)
 |some (.slice e)=>(Gp P e).map λi=>.slice e i.size i.bytes (pE P e)
 |some _=>some .one
 |none=>none
def zeroOf(i:TypeInfo):Option cn:=
 match i.zero with
 |some z=>match sw z.cells.toList with
  |some cs=>if cs.length=i.size then some cs else none
  |none=>none
 |none=>none
def Va(t:TypeId):Option TyD:=
 match FJ P t,P.info? t with
 |some k,some i=>some ⟨k,i.size,zeroOf i⟩
 |_,_=>none
end
def Vr(l:cn)(off n:Nat):Option cn:=if off+n<=l.length then some ((l.drop off).take n)else none
def vY(l:cn)(off:Nat)(cs:cn):Option cn:=if off+cs.length<=l.length then some (l.take off++cs++l.drop (off+cs.length))else none
def pg(agg:Bool)(size:Nat)(l:cn)(off:Nat):Option DV:=
 if agg then(Vr l off size).map .agg else l[off]?
structure fo where
 f:TypeId->Option TyD
 hint:Tmp->TypeId->Nat
instance:CoeFun fo λ_=>TypeId->Option TyD:=⟨fo.f⟩
def fo.h (ty:fo)(o:Oper):Nat:=
 match o.dst,o.op with
 |some d,.call {callee:=.value _,.. }=>ty.hint d o.type % 4
 |some d,_=>if ty.hint d o.type<16380 then ty.hint d o.type % 4 else 0
 |none,_=>0
abbrev bg:=FuncId->cn->aj->Option (DV×aj)
abbrev bT:=FuncId->cn->Option DV
abbrev dx:=Nat->cn->aj->Option (DV×aj)
section
variable (P:Program) (ty:fo) (aD:bT) (call:bg) (yf:dx)
def ir(env:cn):Operand->Option DV
 |.tmp t=>some (env.getD t bD)
 |.const v=>wF v
 |.func f=>some (.fn f [] [])
 |.global _=>none
def evs(ρ:Operand->Option DV):List Operand->Option cn
 |[]=>some []
 |x::l=>match ρ x,evs ρ l with
  |some d,some r=>some (d::r)
  |_,_=>none
def valOf(ρ:Operand->Option DV)(x:Operand):Option Value:=(ρ x).bind wA
def intOf(ρ:Operand->Option DV)(x:Operand):Option Int:=
 match ρ x with
 |some (.val (.int _ n))=>some n
 |_=>none
def Dy:Option DV->Bool
 |some (.jB ..)=>true
 |_=>false
def CI(S:aj)(id n:Nat):Option (TypeId×Nat×cn×Bool):=
 match S[id]? with
 |some (.op e s l z)=>if n*s=l.length then some (e,s,l,z)else none
 |_=>none
def fG(s:Sem Value):Option DV:=(bN P s).bind wF
def N3(s d:TypeId):Value->Option DV
 |.string b=>match P.underlying s,P.underlying d with
  |some _,some (.slice e)=>match P.underlying e with
   |some (.int .u8)=>some (.sl (b.data.toList.map λc=>.val (.int .u8 c.toNat)) none ⟨false,some false⟩)
   |_=>none
  |_,_=>none
 |_=>none
def u8D:cn->Option cj
 |[]=>some []
 |.val (.int .u8 n)::r=>(u8D r).map (n::·)
 |_=>none
def aaa(s d:TypeId)(rows:cn):Option DV:=
 match P.underlying s,P.underlying d with
 |some (.slice e),some .string=>match P.underlying e with
  |some (.int .u8)=>(u8D rows).map λl=>.val (.string ⟨(l.map λn=>UInt8.ofNat n.toNat).toArray⟩)
  |_=>none
 |_,_=>none
def wC(ρ:Operand->Option DV):Option Operand->Option (Option Value)
 |none=>some none
 |some x=>(valOf ρ x).map some
def kX(S:aj)(t:TypeId)(a:DV):Option DV:=
 match ty t,a with
 |some d,.ptr id off=>match S[id]? with
  |some (.cells l)=>pg d.k.isAgg d.size l off
  |_=>none
 |some d,.eU rows i off=>match rows[i]? with
  |some r=>pg d.k.isAgg d.size r.cells off
  |none=>none
 |some d,.fV id n off=>match CI S id n with
  |some (_,_,l,_)=>pg d.k.isAgg d.size l off
  |none=>none
 |_,_=>none
def eF(S:aj)(i:Nat)(b:DB):aj:=if i<S.length then S.set i b else S++[b]
def pG(S:aj)(t:TypeId)(a v:DV):Option aj:=
 match ty t,a with
 |some d,.ptr id off=>match S[id]? with
  |some (.cells l)=>if v.cells.length=d.size&&v.cells.all DV.one then(vY l off v.cells).map λl'=>S.set id (.cells l')else none
  |_=>none
 |some d,.fV id n off=>match CI S id n with
  |some (e,s,l,false)=>if v.strip.cells.length=d.size&&v.strip.cells.all DV.bU then(vY l off v.strip.cells).map λl'=>S.set id (.op e s l' false)else none
  |_=>none
 |_,_=>none
def kY(place:Nat->Option (Nat×Nat))(cs:cn):List (Nat×DV)->Option cn
 |[]=>some cs
 |(i,v)::r=>match place i with
  |none=>none
  |some (off,size)=>if v.cells.length=size then match vY cs off v.cells with
    |some iB=>kY place iB r
    |none=>none
   else none
def ku(ρ:Operand->Option DV):List (Nat×Operand)->Option (List (Nat×DV))
 |[]=>some []
 |(i,x)::l=>match ρ x,ku ρ l with
  |some d,some r=>some ((i,d)::r)
  |_,_=>none
def rowOf(s:Nat)(agg:Bool)(l:cn)(i:Nat):DV:=if agg then .agg ((l.drop (i*s)).take s)else l.getD (i*s) bD
def rowsOf(s:Nat)(agg:Bool)(l:cn)(n:Nat):cn:=(List.range n).map (rowOf s agg l)
def fE:Nat:=140737488355328
def jJ(S:aj)(aB:Nat)(t:TypeId)(a b:DV):Option (DV×aj):=
 match ty t,a,b with
 |some ⟨.slice e s iU _,_,_⟩,.sl rows tok full,.sl news _ _=>
  if news.isEmpty then some (a,S)
  else match ty e with
  |some ⟨_,_,some _⟩=>if decide (0<s)&&decide ((rows.length+news.length)*iU<=fE)&&decide (rows.length+news.length<=140737488355328-4096)&&news.all (λr=>decide (r.cells.length=s))then
   let ahz:Option (DV×aj):=if full.full&&rows.all (λr=>decide (r.cells.length=s))then some (.sl (rows++news) (some aB) ⟨false,none⟩,eF S aB (.tail e s ((rows.length+news.length)*s)))else none
   match tok with
   |none=>ahz
   |some t=>match S[t]? with
    |some (.tail e' s' n)=>if e'=e&&s'=s&&n=rows.length*s then some (.sl (rows++news) (some t) ⟨false,none⟩,S.set t (.tail e s ((rows.length+news.length)*s)))else none
    |_=>none
   else none
  |_=>none
 |_,_,_=>none
def oF(S:aj)(aB:Nat)(t:TypeId)(a b:DV):Option (DV×aj):=
 match ty t,b with
 |some ⟨.slice e s iU agg,_,_⟩,.sl news _ _=>match ty e with
  |some ⟨_,_,some _⟩=>match a with
   |.jB id n _=>if decide (0<s)&&(agg||s==1)&&decide ((n+news.length)*iU<=fE)&&decide (n+news.length<=140737488355328-4096)&&news.all (λr=>decide (r.cells.length=s))then match CI S id n with
    |some (e',s',l,false)=>if e'=e&&s'=s then if news.isEmpty then some (a,S)else some (.jB id (n+news.length) agg,S.set id (.op e s (l++flat news) false))else none
    |_=>none
    else none
   |.sl [] none f=>if news.isEmpty then some (a,S)else if f.full&&decide (0<s)&&(agg||s==1)&&decide (news.length*iU<=fE)&&decide (news.length<=140737488355328-4096)&&news.all (λr=>decide (r.cells.length=s))then some (.jB aB news.length agg,eF S aB (.op e s (flat news) false))else none
   |_=>none
  |_=>none
 |_,_=>none
def iK(S:aj):DV->DV
 |.jB id n agg=>match CI S id n with
  |some (_,s,l,true)=>if decide (0<s)&&(agg||s==1)then .sl (rowsOf s agg l n) none ⟨false,some false⟩else .jB id n agg
  |_=>.jB id n agg
 |d=>d
def yg(S:aj):DV->aj
 |.jB id n _=>match CI S id n with
  |some (e,s,l,false)=>S.set id (.op e s l true)
  |_=>S
 |_=>S
def tA(S:aj):DV->aj
 |.agg l=>l.foldl yg S
 |d=>yg S d
def Iq(S:aj):DV->aj
 |.tup l=>l.foldl tA S
 |d=>tA S d
def s9(S:aj):DV->DV
 |.agg l=>.agg (l.map (iK S))
 |d=>iK S d
def tT(S:aj):DV->DV
 |.tup l=>.tup (l.map (s9 S))
 |d=>s9 S d
def gQ(ρ:Operand->Option DV)(x:Option Operand)(ajT we:Nat):Option Nat:=
 match x with
 |none=>some ajT
 |some x=>match intOf ρ x with
  |some i=>if 0<=i/\i.toNat<=we then some i.toNat else none
  |none=>none
def Nk(rows:cn)(f:SF):Option Bool:=if rows.isEmpty then f.isNil else some false
def DO(op:BinOp)(t:TypeId):Option DV->Option DV->Option DV
 |some (.sl rows _ f),some (.sl [] _ ⟨_,some true⟩)=>match ty t,Nk rows f with
  |some ⟨.slice _ _ _ _,_,_⟩,some b=>match op with
   |.eql=>some (.val (.bool b))
   |.neq=>some (.val (.bool (!b)))
   |_=>none
  |_,_=>none
 |_,_=>none
def rY(rows:cn)(full:SF)(l h:Nat)(m:Option Nat):Option DV:=
 if l<=h then match m with
  |none=>some (.sl ((rows.take h).drop l) none ⟨full.full&&h==rows.length,Nk rows full⟩)
  |some m=>if h<=m then some (.sl ((rows.take h).drop l) none ⟨m==h,Nk rows full⟩)else none
 else none
def wN(g:FuncId)(args:cn)(S:aj):Option (DV×aj):=
 if(args.map DV.strip).all DV.pure then match aD g (args.map DV.strip)with
  |some v=>some (v,S)
  |none=>call g args S
 else call g args S
def Zl(p:Value×Value):MapEntry:=⟨p.1,p.2,0⟩
def PB(t:TypeId)(es:List MapEntry)(k:Value)(ok:Bool):Sem Value:=do
 let .map key elem<-underlying t|stuck "Lookup: map type expected"
 Instr.checkKey es.isEmpty 10000 key k
 let (v,o)<-match<-Instr.findKey key k es with
  |some (_,v)=>pure (v,true)
  |none=>pure (<-zeroValue elem,false)
 pure (if ok then .tuple #[v,.bool o]else v)
def PO(t:TypeId)(es:List MapEntry)(k:Value):Sem (Option (Nat×Value)):=do
 let .map key _<-underlying t|stuck "MapUpdate: map type expected"
 Instr.checkKey false 10000 key k
 Instr.findKey key k es
def Kn:Value->Option DV
 |.tuple vs=>match vs.toList with
  |[v,.bool b]=>(wF v).map λd=>.tup [d,.val (.bool b)]
  |_=>none
 |v=>wF v
def Vc(es:List (Value×Value))(k v:Value):Option (Nat×Value)->Option (List (Value×Value))
 |none=>some (es++[(k,v)])
 |some (i,_)=>match es[i]? with
  |some (k',_)=>if Instr.sameBits 10000 k' k then some (es.set i (k,v))else none
  |none=>none
def ah(ρ:Operand->Option DV)(o:Oper)(S:aj)(aB:Nat):Option (DV×aj):=
 match o.op with
 |.move x|.assign x=>(ρ x).map (·,S)
 |.pick c a b=>match ρ c with
  |some (.val (.bool t))=>(if t then ρ a else ρ b).map (·,S)
  |_=>none
 |.alloc e=>match ty e with
  |some ⟨_,_,some z⟩=>some (.ptr aB 0,eF S aB (.cells z))
  |_=>none
 |.box _ x=>match ρ x with
  |some d=>some (.ptr aB 0,eF S aB (.cells d.cells))
  |none=>none
 |.build t ps=>match ty t,ku ρ ps.toList with
  |some ⟨.struct fs,_,some z⟩,some l=>(kY (λi=>(fs[i]?).map λf=>(f.1,f.2.1)) z l).map λcs=>(.agg cs,S)
  |some ⟨.array _ s _,_,some z⟩,some l=>(kY (λi=>some (i*s,s)) z l).map λcs=>(.agg cs,S)
  |_,_=>none
 |.buildSlice t n ps=>match ty t,ku ρ ps.toList with
  |some ⟨.slice e s _ agg,_,_⟩,some l=>match ty e with
   |some ⟨_,_,some z⟩=>if decide (0<s)&&decide (n*s<=16777216)then
     match kY (λi=>some (i*s,s)) ((List.replicate n z).flatten) (l.map λ(i,v)=>(i,v.strip))with
     |some cs=>if cs.all DV.bU&&(agg||s==1)then some (match ty.h o with
      |1=>(.jB aB n agg,eF S aB (.op e s cs false))
      |_=>(.sl (rowsOf s agg cs n) none ⟨true,some false⟩,S))else none
     |none=>none
    else none
   |_=>none
  |_,_=>none
 |.makeSlice t a b=>match ty t,intOf ρ a,intOf ρ b with
  |some ⟨.slice e s iU agg,_,_⟩,some n,some m=>match ty e with
   |some ⟨_,_,some z⟩=>if decide (0<=n)&&decide (m=n)&&decide (0<s)&&(agg||s==1)&&decide (n<=140737488355328-4096)&&decide (n.toNat*iU<=fE)&&(z.map DV.aM).all DV.bU then
     some (.jB aB n.toNat agg,eF S aB (.op e s (List.replicate n.toNat (z.map DV.aM)).flatten false))else none
   |_=>none
  |_,_,_=>none
 |.load t a=>match ρ a with
  |some a=>(kX ty S t a).map (·,S)
  |none=>none
 |.store t a x=>match ρ a,ρ x with
  |some a,some v=>(pG ty S t a v).map (bD,·)
  |_,_=>none
 |.nilCheck x=>match ρ x with
  |some (.ptr id off)=>some (.ptr id off,S)
  |_=>none
 |.binOp op t x y _=>match valOf ρ x,valOf ρ y with
  |some a,some b=>(fG P (do eqGuard op t x y a b;binOp op t a b)).map (·,S)
  |_,_=>(DO ty op t (ρ x) (ρ y)).map (·,S)
 |.unOp op _ x=>match valOf ρ x with
  |some a=>(fG P (Op.unary op a)).map (·,S)
  |none=>none
 |.convert s d x=>match valOf ρ x with
  |some a=>match fG P (Go.convert s d a)with
   |some r=>some (r,S)
   |none=>(N3 P s d a).map (·,S)
  |none=>match ρ x with
   |some (.sl rows _ _)=>(aaa P s d rows).map (·,S)
   |_=>none
 |.makeInterface t x=>match valOf ρ x with
  |some a=>(fG P (Instr.makeInterface t a)).map (·,S)
  |none=>none
 |.makeFunc (.func f) fs cs=>match evs ρ fs.toList,evs ρ cs.toList with
  |some a,some b=>some (.fn f a b,S)
  |_,_=>none
 |.slice t x lo hi mx=>match ty t,ρ x with
  |some ⟨.slice _ s _ _,_,_⟩,some (.sl rows _ full)=>if !rows.all (λr=>decide (r.cells.length=s))then none else
   match gQ ρ mx rows.length rows.length with
   |some m=>match gQ ρ hi rows.length m with
    |some h=>match gQ ρ lo 0 h with
     |some l=>if hi.isNone&&mx.isSome then none else(rY rows full l h (mx.map λ_=>m)).map (·,S)
     |none=>none
    |none=>none
   |none=>none
  |_,some (.val (.string b))=>match wC ρ lo,wC ρ hi,mx with
   |some l,some h,none=>(fG P (Instr.sliceAt t (.string b) l h none)).map (·,S)
   |_,_,_=>none
  |_,_=>none
 |.fieldAddr t x f=>match ty t,ρ x with
  |some ⟨.struct fs,_,_⟩,some (.ptr id off)=>match fs[f]? with
   |some (o,s,_)=>if 0<s then some (.ptr id (off+o),S)else none
   |none=>none
  |some ⟨.struct fs,_,_⟩,some (.eU rows i off)=>match fs[f]? with
   |some (o,s,_)=>if 0<s then some (.eU rows i (off+o),S)else none
   |none=>none
  |some ⟨.struct fs,_,_⟩,some (.fV id n off)=>match fs[f]?,CI S id n with
   |some (o,s,_),some _=>if 0<s then some (.fV id n (off+o),S)else none
   |_,_=>none
  |_,_=>none
 |.field t x f=>match ty t,ρ x with
  |some ⟨.struct fs,_,_⟩,some (.agg l)=>match fs[f]? with
   |some (off,s,agg)=>(pg agg s l off).map (·,S)
   |none=>none
  |_,_=>none
 |.indexAddr t x i=>match ty t,ρ x,intOf ρ i with
  |some ⟨.slice _ s _ _,_,_⟩,some (.sl rows _ _),some n=>if 0<=n then
    match rows[n.toNat]? with
    |some r=>if r.cells.length=s then some (.eU rows n.toNat 0,S)else none
    |none=>none
   else none
  |some ⟨.array k s _,_,_⟩,some (.ptr id off),some n=>if 0<=n/\n.toNat<k then some (.ptr id (off+n.toNat*s),S)else none
  |some ⟨.array k s _,_,_⟩,some (.eU rows j off),some n=>if 0<=n/\n.toNat<k then some (.eU rows j (off+n.toNat*s),S)else none
  |some ⟨.slice _ s _ _,_,_⟩,some (.jB id m _),some n=>match CI S id m with
   |some (_,s',_,_)=>if 0<=n/\n.toNat<m/\s'=s then some (.fV id m (n.toNat*s),S)else none
   |none=>none
  |_,_,_=>none
 |.index t x i=>match ty t,ρ x,intOf ρ i with
  |some ⟨.array k s agg,_,_⟩,some (.agg l),some n=>if 0<=n/\n.toNat<k then(pg agg s l (n.toNat*s)).map (·,S)else none
  |_,some (.val (.string b)),some _=>match valOf ρ i with
   |some iv=>(fG P (Instr.index t (.string b) iv)).map (·,S)
   |none=>none
  |_,_,_=>none
 |.makeMap _ none=>some (.map aB,eF S aB (.map []))
 |.lookup t m k ok=>match ρ m,valOf ρ k with
  |some (.map id),some kv=>match S[id]? with
   |some (.map es)=>((bN P (PB t (es.map Zl) kv ok)).bind Kn).map (·,S)
   |_=>none
  |_,_=>none
 |.mapUpdate t m k v=>match ρ m,valOf ρ k,valOf ρ v with
  |some (.map id),some kv,some vv=>match S[id]? with
   |some (.map es)=>match bN P (PO t (es.map Zl) kv)with
    |some r=>(Vc es kv vv r).map λes'=>(bD,S.set id (.map es'))
    |none=>none
   |_=>none
  |_,_,_=>none
 |.extract t i=>match ρ t with
  |some (.tup l)=>(l[i]?).map (·,S)
  |_=>none
 |.call {callee:=.builtin b,args,argTypes}=>match b,args.toList,argTypes.toList with
  |.len,[x],[t]=>match ty t,ρ x with
   |some ⟨.slice _ _ _ _,_,_⟩,some (.sl rows _ _)=>some (.val (.int .i64 rows.length),S)
   |some ⟨.slice _ _ _ _,_,_⟩,some (.jB _ n _)=>some (.val (.int .i64 n),S)
   |some ⟨.array n _ _,_,_⟩,_=>some (.val (.int .i64 n),S)
   |_,some (.val v)=>(fG P (Builtin.len_ #[t] o.type #[v])).map (·,S)
   |_,_=>none
  |.append,[x,y],[t,u]=>if t=u then match ρ x,ρ y with
    |some a,some b=>match a with
     |.jB .. =>oF ty S aB t a b
     |_=>match ty.h o with
      |1=>oF ty S aB t a b
      |_=>jJ ty S aB t a b
    |_,_=>none
   else none
  |.min,xs,_=>match(evs ρ xs).bind uk with
   |some vs=>(fG P (Builtin.min_ argTypes o.type vs.toArray)).map (·,S)
   |none=>none
  |.max,xs,_=>match(evs ρ xs).bind uk with
   |some vs=>(fG P (Builtin.max_ argTypes o.type vs.toArray)).map (·,S)
   |none=>none
  |_,_,_=>none
 |.call {callee:=.value f,args,argTypes:=_}=>match ρ f,evs ρ args.toList with
  |some (.fn g fs cs),some xs=>match ty.h o with
   |1=>call g (fs++xs++cs) S
   |_=>wN aD call g (fs++xs++cs) S
  |some (.nN id),some xs=>yf id xs S
  |_,_=>none
 |_=>none
def cv(ops:Array Oper)(env:cn)(o:Oper):Bool:=
 match o.guard with
 |none=>true
 |some (j,want)=>match(ops[j]?).bind (·.dst)with
  |some d=>match env[d]? with
   |some (.val (.bool b))=>b==want
   |_=>false
  |none=>false
def j4(env:cn)(dst:Option Tmp)(v:DV):cn:=
 match dst with
 |some d=>env.set d v
 |none=>env
def qX(env:cn)(S:aj)(x:Operand):aj:=match ir env x with|some d=>yg S d|none=>S
def FL(o:Oper)(env:cn)(S:aj):cn×aj:=
 match ty.h o with
 |2=>
  let S':=o.op.operands.toList.foldl (qX env) S
  (env.map (iK S'),S')
 |_=>(env,S)
def Ia(ops:Array Oper):List Oper->cn->aj->Option (cn×aj)
 |[],env,S=>some (env,S)
 |o::r,env,S=>
  if cv ops env o then match FL ty o env S with
   |(env,S)=>match ah P ty aD call yf (ir env) o S S.length with
    |some (v,S')=>Ia ops r (j4 env o.dst v) S'
    |none=>none
  else Ia ops r (j4 env o.dst bD) S
def de(ρ:Operand->Option DV)(o:Oper)(S:aj):Option DV:=
 match o.op with
 |.alloc _|.box .. |.store .. |.makeMap .. |.mapUpdate .. |.makeSlice .. =>none
 |.buildSlice .. =>match ty.h o with
  |1=>none
  |_=>(ah P ty aD call yf ρ o S S.length).map (·.1)
 |.call {callee:=.builtin .append,.. }=>none
 |.call {callee:=.value f,args,argTypes:=_}=>match ρ f,evs ρ args.toList with
  |some (.fn g fs cs),some xs=>if ty.h o=1 then none else if((fs++xs++cs).map DV.strip).all DV.pure then aD g ((fs++xs++cs).map DV.strip)else none
  |_,_=>none
 |_=>(ah P ty aD call yf ρ o S S.length).map (·.1)
def qI(ops:Array Oper)(S:aj):List Oper->cn->Option cn
 |[],env=>some env
 |o::r,env=>
  if cv ops env o then match de P ty aD call yf (ir env) o S with
   |some v=>qI ops S r (j4 env o.dst v)
   |none=>none
  else qI ops S r (j4 env o.dst bD)
def pn(call:bg)(g:FuncId)(args:cn)(S:aj):Option (Nat×DV×cn):=
 match args with
 |.ptr i off::rest=>match S[i]? with
  |some (.cells l)=>
   if(rest.map DV.strip).all DV.pure&&(l.map DV.aM).all DV.bU then
    match call g (.ptr 0 off::rest.map DV.strip) [.cells (l.map DV.aM)]with
    |some (v,.cells l'::_)=>if v.strip.pure&&(l'.map DV.aM).all DV.bU then some (i,v.strip,l'.map DV.aM)else none
    |_=>none
   else none
  |_=>none
 |_=>none
def ZJ(R:cy):DV->Bool
 |.ptr i _=>R.contains i
 |d=>d.bU
def MT(R:cy):DV->Bool
 |.ptr i _=>R.contains i
 |.fn _ fs cs=>fs.all (ZJ R)&&cs.all (ZJ R)
 |d=>d.bU
def okA(R:cy):DV->Bool
 |.ptr i _=>R.contains i
 |.fn _ fs cs=>fs.all (ZJ R)&&cs.all (ZJ R)
 |d=>d.pure
def cW:DV->DV
 |.fn f fs cs=>.fn f (fs.map DV.aM) (cs.map DV.aM)
 |d=>d.aM
def jb:DV->DV
 |.fn f fs cs=>.fn f (fs.map DV.aM) (cs.map DV.aM)
 |d=>d.strip
def Vh:DV->cy
 |.ptr i _=>[i]
 |_=>[]
def Al:DV->cy
 |.ptr i _=>[i]
 |.fn _ fs cs=>fs.flatMap Vh++cs.flatMap Vh
 |_=>[]
def Ii(S:aj)(i:Nat):cy:=
 match S[i]? with
 |some (.cells l)=>l.flatMap Al
 |_=>[]
def qZ(S:aj)(R:cy):cy:=R++(R.flatMap (Ii S)).filter λi=>!R.contains i
def jd(S:aj)(args:cn):cy:=qZ S (qZ S (qZ S (args.flatMap Al)))
def kK(S:aj)(R:cy)(i:Nat):Bool:=
 match S[i]? with
 |some (.cells l)=>(l.map cW).all (MT R)
 |_=>false
def VR(b:DB):DB:=
 match b with
 |.cells l=>.cells (l.map cW)
 |_=>.none
def s8(S:aj)(R:cy):aj:=S.mapIdx λi b=>if R.contains i then VR b else .none
def Wd(S1:aj)(i:Nat)(b:DB):DB:=
 match S1[i]? with
 |some (.cells l)=>.cells (l.map cW)
 |_=>b
def kZ(S S1:aj)(R:cy):aj:=S.mapIdx λi b=>if R.contains i then Wd S1 i b else b
def nZ(call:bg)(g:FuncId)(args:cn)(S:aj):Option (cy×DV×aj):=
 if !(jd S args).isEmpty&&(args.map jb).all (okA (jd S args))&&(jd S args).all (kK S (jd S args))then
  match call g (args.map jb) (s8 S (jd S args))with
  |some (v,S1)=>if v.strip.pure&&(jd S args).all (kK S1 (jd S args))then some (jd S args,v.strip,S1)else none
  |none=>none
 else none
def PT(call:bg):bg:=λg args S=>match nZ call g args S with
 |some (R,v,S1)=>some (v,kZ S S1 R)
 |none=>call g args S
def KB(call:bg):bg:=λg args S=>match pn call g args S with
 |some (i,v,l)=>some (v,S.set i (.cells l))
 |none=>PT call g args S
def aac(r:Option (DV×aj)):Option (cn×Option (TypeId×Nat)):=
 match r with
 |some (.sl rows (some t) _,S)=>match S[t]? with
  |some (.tail e s n)=>if n=rows.length*s then some (rows,some (e,s))else none
  |_=>none
 |some (.sl [] none f,_)=>if f.full then some ([],none)else none
 |_=>none
def Vb(call:bg)(g:FuncId)(args:cn):Option (cn×Option (TypeId×Nat)):=
 if(args.map DV.strip).all DV.pure then aac (call g (args.map DV.strip) [])else none
theorem Wu{α:Type}{S:List α}{n:Nat}{b:α}(h:S[n]? =some b):S.set n b=S:=by obtain⟨h1,rfl⟩:=aI.1 h;exact List.set_getElem_self h1
def wE(call:bg)(aB:Nat):bg:=λg args S=>match S[aB]?,Vb call g args with
 |some .none,some (rows,some (e,s))=>some (.sl rows (some aB) ⟨false,none⟩,S.set aB (.tail e s (rows.length*s)))
 |some .none,some (_,none)=>some (.sl [] none ⟨true,none⟩,S.set aB .none)
 |_,_=>none
structure cQ where
 ids:Option cy
 wr:Bool
abbrev cY:=List cQ
def aH(ρ:Operand->Option DV)(o:Oper)(S:aj)(aB:Nat):Option (DV×aj×cQ):=
 match o.op with
 |.alloc _|.box .. |.makeMap .. =>match S[aB]? with
  |some .none=>(ah P ty aD call yf ρ o S aB).map λr=>(r.1,r.2,⟨some [aB],true⟩)
  |_=>none
 |.store _ a _=>match ρ a with
  |some (.ptr id _)=>(ah P ty aD call yf ρ o S aB).map λr=>(r.1,r.2,⟨some [id],true⟩)
  |some (.fV id _ _)=>(ah P ty aD call yf ρ o S aB).map λr=>(r.1,r.2,⟨some [id],true⟩)
  |_=>none
 |.fieldAddr _ a _=>match ρ a with
  |some (.fV id _ _)=>(ah P ty aD call yf ρ o S aB).map λr=>(r.1,r.2,⟨some [id],false⟩)
  |_=>(ah P ty aD call yf ρ o S aB).map λr=>(r.1,r.2,⟨some [],false⟩)
 |.indexAddr _ a _=>match ρ a with
  |some (.jB id _ _)=>(ah P ty aD call yf ρ o S aB).map λr=>(r.1,r.2,⟨some [id],false⟩)
  |_=>(ah P ty aD call yf ρ o S aB).map λr=>(r.1,r.2,⟨some [],false⟩)
 |.buildSlice .. =>match ty.h o with
  |1=>none
  |_=>(ah P ty aD call yf ρ o S aB).map λr=>(r.1,r.2,⟨some [],false⟩)
 |.makeSlice .. =>none
 |.lookup _ m .. =>match ρ m with
  |some (.map id)=>(ah P ty aD call yf ρ o S aB).map λr=>(r.1,r.2,⟨some [id],false⟩)
  |_=>none
 |.mapUpdate _ m .. =>match ρ m with
  |some (.map id)=>(ah P ty aD call yf ρ o S aB).map λr=>(r.1,r.2,⟨some [id],true⟩)
  |_=>none
 |.load _ a=>match ρ a with
  |some (.ptr id _)=>(ah P ty aD call yf ρ o S aB).map λr=>(r.1,r.2,⟨some [id],false⟩)
  |some (.fV id _ _)=>(ah P ty aD call yf ρ o S aB).map λr=>(r.1,r.2,⟨some [id],false⟩)
  |_=>(ah P ty aD call yf ρ o S aB).map λr=>(r.1,r.2,⟨some [],false⟩)
 |.call {callee:=.builtin .append,args,.. }=>if ty.h o=1 then none else if Dy ((args[0]?).bind ρ)then none else match S[aB]?,(args[0]?).bind ρ with
  |some .none,some (.sl _ (some t) _)=>(ah P ty aD call yf ρ o S aB).map λr=>(r.1,r.2,⟨some [t,aB],true⟩)
  |some .none,_=>(ah P ty aD call yf ρ o S aB).map λr=>(r.1,r.2,⟨some [aB],true⟩)
  |_,_=>none
 |.call {callee:=.value f,args,argTypes:=_}=>match ρ f,evs ρ args.toList with
  |some (.fn g fs cs),some xs=>
   let as_:=fs++xs++cs
   if ty.h o=1 then(wE call aB g as_ S).map λr=>(r.1,r.2,⟨some [aB],true⟩)
   else if(as_.map DV.strip).all DV.pure then(aD g (as_.map DV.strip)).map λv=>(v,S,⟨some [],false⟩)
   else match pn call g as_ S with
    |some (i,v,l)=>some (v,S.set i (.cells l),⟨some [i],true⟩)
    |none=>match nZ call g as_ S with
     |some (R,v,S1)=>some (v,kZ S S1 R,⟨some R,true⟩)
     |none=>(call g as_ S).map λr=>(r.1,r.2,⟨none,true⟩)
  |some (.nN id),some xs=>(yf id xs S).map λr=>(r.1,r.2,⟨none,true⟩)
  |_,_=>none
 |_=>(ah P ty aD call yf ρ o S aB).map λr=>(r.1,r.2,⟨some [],false⟩)
def s5(ops:Array Oper)(n0:Nat):List Oper->Nat->cn->aj->Option (cn×aj×cY)
 |[],_,env,S=>some (env,S,[])
 |o::r,i,env,S=>
  if cv ops env o then match aH P ty aD call yf (ir env) o S (n0+i)with
   |some (v,S',f)=>match s5 ops n0 r (i+1) (j4 env o.dst v) S' with
    |some (aL,xh,fs)=>some (aL,xh,f::fs)
    |none=>none
   |none=>none
  else match s5 ops n0 r (i+1) (j4 env o.dst bD) S with
   |some (aL,xh,fs)=>some (aL,xh,⟨some [],false⟩::fs)
   |none=>none
def lS(ops:Array Oper)(o:Oper):List Tmp:=
 o.dst.toList++o.op.operands.toList.filterMap (λ|.tmp t=>some t|_=>none)++(match o.guard with|some (j,_)=>((ops[j]?).bind (·.dst)).toList|none=>[])
def lR(ops:Array Oper)(b:Array Nat):Bool:=
 (ops.toList.zipIdx.all λ(o,i)=>o.after.all λe=>!Region.binds .any e||decide (e.on<i))&&
 ops.toList.zipIdx.all λ(o,i)=>ops.toList.zipIdx.all λ(o',j)=>match o'.dst with
  |some d=>i==j||!(lS ops o).contains d||(b.getD j 0).testBit i||(b.getD i 0).testBit j
  |none=>true
def cQ.meets (f g:cQ):Bool:=
 (f.wr||g.wr)&&match f.ids,g.ids with
 |none,none=>true
 |none,some l=>!l.isEmpty
 |some l,none=>!l.isEmpty
 |some l,some m=>l.any m.contains
def tR(b:Array Nat)(fs:cY):Bool:=
 fs.zipIdx.all λ(f,i)=>fs.zipIdx.all λ(g,j)=>i==j||!f.meets g||(b.getD j 0).testBit i||(b.getD i 0).testBit j
def Ja(o:Oper):Bool:=
 match o.op with
 |.call {callee:=.value f,args:=_,argTypes}=>(match f,P.underlying o.type with
  |.tmp _,some .bool=>true
  |_,_=>false)||match argTypes[0]? with
  |some t=>match P.underlying t with
   |some (.pointer _)=>true
   |_=>false
  |none=>false
 |_=>false
def aaz(S:aj)(i:Nat):aj:=match S[i]? with
 |some (.op e s l false)=>S.set i (.op e s l true)
 |_=>S
def Dw(S:aj):aj:=(List.range S.length).foldl aaz S
def om(S:aj):DB->DB
 |.cells l=>.cells (l.map (iK S))
 |b=>b
def Kk(_:fo)(_:Array Oper):Bool:=false
def lY(ops:Array Oper)(draw:Bool)(env:cn)(S:aj):Option (cn×aj):=
 if draw then if !lR ops (Region.before ops)then none else match if ops.toList.any (Ja P)then none else qI P ty aD call yf ops S ops.toList env with
  |some aL=>some (aL,S)
  |none=>match s5 P ty aD call yf ops S.length ops.toList 0 env (S++List.replicate ops.size .none)with
   |some (aL,S',fs)=>if tR (Region.before ops) fs then some (aL,S')else none
   |none=>none
 else Ia P ty aD call yf ops ops.toList env S
def qp(ops:Array Oper)(draw:Bool)(env:cn)(S:aj):Option (cn×aj):=
 if draw&&Kk ty ops then lY P ty aD call yf ops draw (env.map (iK (Dw S))) ((Dw S).map (om (Dw S)))
 else lY P ty aD call yf ops draw env S
inductive DX where
 |normal
 |exit (id:Nat)
 |ret
 deriving DecidableEq
def oq(f:cn->aj->Option (DX×cn×aj)):Nat->cn->aj->Option (DX×cn×aj)
 |0,_,_=>none
 |n+1,env,S=>match f env S with
  |some (.normal,aL,S')=>oq f n aL S'
  |r=>r
def cI(L:Nat)(fn:FuncId)(iH:Bool):Code->cn->aj->Option (DX×cn×aj)
 |.skip,env,S|.label _,env,S=>some (.normal,env,S)
 |.region _ ops draw,env,S=>(qp P ty aD call yf ops draw env S).map (.normal,·)
 |.seq a b,env,S=>match cI L fn iH a env S with
  |some (.normal,aL,S')=>cI L fn iH b aL S'
  |r=>r
 |.cond c a b,env,S=>match ir env c with
  |some (.val (.bool true))=>cI L fn iH a env S
  |some (.val (.bool false))=>cI L fn iH b env S
  |_=>none
 |.block id c,env,S=>match cI L fn iH c env S with
  |some (.exit iG,aL,S')=>some (if iG=id then .normal else .exit iG,aL,S')
  |r=>r
 |.loop c,env,S=>oq (cI L fn iH c) L env S
 |.scope c,env,S=>cI L fn iH c env S
 |.exit id,env,S=>some (.exit id,env,S)
 |.ret,env,S=>some (.ret,env,S)
 |.rangeFunc f ps ox body,env,S=>if iH then none else match ir env f with
  |some (.fn g fs cs)=>match call g (fs++[.nN (S.length+1)]++cs) (S++[.defer,.loop ⟨.ready,none,fn,env,ps.toList,ox,body,S.length⟩])with
   |some (_,S')=>match S'[S.length+1]? with
    |some (.loop r)=>if r.st==.busy then none else match r.j5 with
     |none=>some (.normal,env,S'.set (S.length+1) (.loop {r with st:=.exhausted}))
     |some .ret=>some (.ret,env,S'.set (S.length+1) (.loop {r with st:=.exhausted}))
     |some (.exit e)=>some (.exit e,env,S'.set (S.length+1) (.loop {r with st:=.exhausted}))
     |_=>none
    |_=>none
   |none=>none
  |_=>none
 |_,_,_=>none
def s4:cn->List (Tmp×DV)->cn
 |env,[]=>env
 |env,(t,d)::l=>s4 (env.set t d) l
def um(L:Nat):dx:=λid args S=>match S[id]? with
 |some (.loop r)=>if args.length=r.params.length then
   match cI P ty aD call yf L r.fn true r.assign (s4 r.env (r.params.zip args)) S with
   |some (.normal,aeg,S1)=>match S1[id]? with
    |some (.loop r1)=>if r1.st=.ready then
      match cI P ty aD call yf L r.fn true r.body aeg (S1.set id (.loop {r1 with st:=.busy}))with
      |some (e,_,S2)=>match S2[id]? with
       |some (.loop r2)=>match e with
        |.normal=>some (.val (.bool true),S2.set id (.loop {r2 with st:=.ready,j5:=none}))
        |.ret=>some (.val (.bool false),S2.set id (.loop {r2 with st:=.done,j5:=some .ret}))
        |.exit i=>some (.val (.bool false),S2.set id (.loop {r2 with st:=.done,j5:=some (.exit i)}))
       |_=>none
      |none=>none
     else none
    |_=>none
   |_=>none
  else none
 |_=>none
def tr(env:cn)(S:aj):List ResultVar->Option cn
 |[]=>some []
 |.tmp t::r=>(tr env S r).map (env.getD t bD::·)
 |.cell a t::r=>match kX ty S t (env.getD a bD),tr env S r with
  |some v,some l=>some (v::l)
  |_,_=>none
def oneOf:cn->DV
 |[d]=>d
 |l=>.tup l
def wO(L:Nat)(f:FuncId)(fn:Func)(args:cn)(S:aj):Option (DV×aj):=
 match fn.body with
 |some c=>match cI P ty aD call yf L f false c (args++List.replicate (fn.ntmps-args.length) bD) S with
  |some (.normal,env,S')|some (.ret,env,S')=>(tr ty env S' fn.results.toList).map λl=>(oneOf l,S')
  |_=>none
 |none=>none
end
def mo(cF:bT)(call:bg):bT:=λf args=>match cF f args with
 |some v=>if v.pure then some v else none
 |none=>match call f args []with
  |some (v,S)=>if(tT (Iq S v) v).strip.pure then some (tT (Iq S v) v).strip else none
  |none=>none
def dZ(P:Program)(ty:fo)(cF:bT)(L:Nat):Nat->bg×dx
 |0=>(λ_ _ _=>none,λ_ _ _=>none)
 |n+1=>(λf args S=>match P.funcs[f]? with
   |some fn=>wO P ty (mo cF (dZ P ty cF L n).1) (dZ P ty cF L n).1 (dZ P ty cF L n).2 L f fn args S
   |none=>none,
  um P ty (mo cF (dZ P ty cF L n).1) (dZ P ty cF L n).1 (dZ P ty cF L n).2 L)
def akd(P:Program)(ty:fo)(cF:bT)(L n:Nat):bg:=(dZ P ty cF L n).1
end Go.Di
namespace Go.Tv
open Go Go.Proofs
def vz:Code->Option (List Tmp×Code×Code)
 |.seq a b|.cond _ a b=>match vz a with
  |some r=>some r
  |none=>vz b
 |.block _ c|.loop c|.scope c=>vz c
 |.rangeFunc _ ps a b=>some (ps.toList,a,b)
 |_=>none
def DG(y:List Tmp×Code×Code):Code->Prop
 |.seq a b|.cond _ a b=>DG y a/\DG y b
 |.block _ c|.loop c|.scope c=>DG y c
 |.rangeFunc _ ps a b=>(ps.toList,a,b)=y
 |_=>True
noncomputable def Cu (fn:FuncId):Option (List Tmp×Code×Code):=((Tryz.prog.funcs[fn]?).bind Func.body).bind vz
end Go.Tv
namespace Go.Tv
open Go Go.Di
inductive TT where
 |int (k:IntKind)
 |bool
 |str
 |unit
 |pair (a b:TT)
 |sl (t:TT)
 deriving DecidableEq
abbrev cJ:=Option TT
abbrev TT.den:TT->Type
 |.int _=>Int
 |.bool=>Bool
 |.str=>ByteArray
 |.unit=>Unit
 |.pair a b=>a.den×b.den
 |.sl t=>List t.den
def TT.dft:(t:TT)->t.den
 |.int _=>(0:Int)
 |.bool=>false
 |.str=>ByteArray.empty
 |.unit=>()
 |.pair a b=>(a.dft,b.dft)
 |.sl _=>[]
def TT.size:TT->Nat
 |.unit=>0
 |.pair a b=>a.size+b.size
 |_=>1
def TT.agg:TT->Bool
 |.unit|.pair _ _=>true
 |_=>false
inductive Ap where
 |no
 |full
 |oS (g:Nat)
 |stop (b:Bool)
 |Ci (g:Nat)
inductive TV where
 |unk
 |val (v:Value)
 |jD
 |agg (l:List TV)
 |tup (l:List TV)
 |sl (t:TT) (l:List t.den) (ap:Ap)
 |ptr (id off:Nat)
 |eU (t:TT) (l:List t.den) (i off:Nat)
 |fn (f:FuncId) (first captured:List TV)
 |mp (id:Nat)
 |so (g:Nat) (t:TT)
 |sp (g:Nat) (t:TT) (i off:Nat)
 |nN (k:Nat) (fn:FuncId) (te:List TV)
abbrev dj:=List TV
abbrev cp:=List TV
instance:Inhabited TV:=⟨.unk⟩
def TT.cells:(t:TT)->t.den->cp
 |.int k,n=>[.val (.int k n)]
 |.bool,b=>[.val (.bool b)]
 |.str,s=>[.val (.string s)]
 |.unit,_=>[]
 |.pair a b,x=>a.cells x.1++b.cells x.2
 |.sl t,l=>[.sl t l .no]
def ofInt(k:IntKind):cp->Option (Int×cp)
 |.val (.int k' n)::r=>if k'=k then some (n,r)else none
 |_=>none
def ofBool:cp->Option (Bool×cp)
 |.val (.bool b)::r=>some (b,r)
 |_=>none
def ofStr:cp->Option (ByteArray×cp)
 |.val (.string b)::r=>some (b,r)
 |_=>none
def aah(t:TT):cp->Option (List t.den×cp)
 |.sl t' l _::r=>if h:t'=t then some (h▸l,r)else none
 |.jD::r=>some ([],r)
 |_=>none
def TT.of:(t:TT)->cp->Option (t.den×cp)
 |.int k,l=>ofInt k l
 |.bool,l=>ofBool l
 |.str,l=>ofStr l
 |.unit,l=>some ((),l)
 |.pair a b,l=>match a.of l with
  |some (x,r1)=>match b.of r1 with
   |some (y,r2)=>some ((x,y),r2)
   |none=>none
  |none=>none
 |.sl t,l=>aah t l
def wQ(agg:Bool)(r:DV):Prop:=if agg then∃l,r=.agg l else∀l,r≠.agg l
def ei{α:Type}(R:α->cn->Prop)(agg:Bool):List α->cn->Prop
 |[],[]=>True
 |x::l,r::rows=>(R x r.cells/\wQ agg r)/\ei R agg l rows
 |_,_=>False
def CR:(t:TT)->t.den->cn->Prop
 |.int k,n,cs=>cs=[.val (.int k n)]
 |.bool,b,cs=>cs=[.val (.bool b)]
 |.str,s,cs=>cs=[.val (.string s)]
 |.unit,_,cs=>cs=[]
 |.pair a b,x,cs=>∃c1 c2,cs=c1++c2/\CR a x.1 c1/\CR b x.2 c2
 |.sl t,l,cs=>∃rows f,cs=[.sl rows none f]/\ei (CR t) t.agg l rows
abbrev kW:=Nat->Option Nat
def qb(ι:kW)(S:aj)(n:Nat)(tok:Option Nat)(f:SF):Ap->Prop
 |.no|.stop _=>True
 |.full=>tok=none/\f.full=true
 |.oS g|.Ci g=>(tok=none/\f.full=true/\n=0)\/∃t e s,ι g=some t/\tok=some t/\S[t]? =some (.tail e s (n*s))
mutual
def RT(ι:kW)(S:aj):TV->DV->Prop
 |.unk,_=>True
 |.val v,.val u=>u=v
 |.jD,.sl rows tok f=>rows=[]/\tok=none/\f=⟨true,some true⟩
 |.agg l,.agg m=>cq ι S l m
 |.tup l,.tup m=>cq ι S l m
 |.sl t l ap,.sl rows tok f=>ei (CR t) t.agg l rows/\qb ι S rows.length tok f ap
 |.ptr id off,.ptr iG rV=>ι id=some iG/\rV=off
 |.eU t l i off,.eU rows i' rV=>ei (CR t) t.agg l rows/\i'=i/\rV=off/\i<l.length
 |.fn f a b,.fn f' a' b'=>f'=f/\cq ι S a a'/\cq ι S b b'
 |.mp id,.map iG=>ι id=some iG
 |.so g t,.jB id n agg=>ι g=some id/\agg=t.agg/\∃e s l z,S[id]? =some (.op e s l z)/\n*s=l.length
 |.sp g t i off,.fV id n rV=>ι g=some id/\rV=i*t.size+off/\∃e s l z,S[id]? =some (.op e s l z)/\n*s=l.length/\i*t.size+t.size<=l.length
 |.nN k fn te,.nN id=>ι k=some id/\∃ps a b env Bv,Cu fn=some (ps,a,b)/\S[id]? =some (.loop ⟨.ready,none,fn,env,ps,a,b,Bv⟩)/\cq ι S te env
 |_,_=>False
def cq(ι:kW)(S:aj):cp->cn->Prop
 |[],[]=>True
 |a::l,b::m=>RT ι S a b/\cq ι S l m
 |_,_=>False
end
section
variable {ι:kW} {S:aj}
theorem lX{α:Type}{R:α->cn->Prop}{agg:Bool}:∀{l:List α}{rows:cn},ei R agg l rows->rows.length=l.length
 |[],[],_=>rfl
 |_::l,_::rows,h=>by simp[lX h.2]
theorem Ed{α:Type}{R:α->cn->Prop}{agg:Bool}:∀{l:List α}{rows:cn}{i:Nat}{x:α},ei R agg l rows->l[i]? =some x->∃r,rows[i]? =some r/\R x r.cells/\wQ agg r
 |[],_,_,_,_,h=>by simp at h
 |_::_,[],_,_,h,_=>h.elim
 |y::l,r::rows,0,x,h,hx=>by simp only[dH,aF]at hx;subst hx;exact⟨r,rfl,h.1⟩
 |y::l,r::rows,i+1,x,h,hx=>by obtain⟨r',h1,h2⟩:=Ed (i:=i) h.2 (by simpa using hx);exact⟨r',by simpa using h1,h2⟩
theorem BT{α:Type}{R:α->cn->Prop}{agg:Bool}:∀{l m:List α}{rows acH:cn},ei R agg l rows->ei R agg m acH->ei R agg (l++m) (rows++acH)
 |[],_,[],_,_,h=>h
 |_::_,_,_::_,_,h,k=>⟨h.1,BT h.2 k⟩
theorem rF{α:Type}{R:α->cn->Prop}{agg:Bool}:∀{l:List α}{rows:cn}(n:Nat),ei R agg l rows->ei R agg (l.take n) (rows.take n)
 |_,_,0,_=>by simp[ei]
 |[],[],n+1,_=>by simp[ei]
 |_::_,_::_,n+1,h=>⟨h.1,rF n h.2⟩
theorem vM{α:Type}{R:α->cn->Prop}{agg:Bool}:∀{l:List α}{rows:cn}(n:Nat),ei R agg l rows->ei R agg (l.drop n) (rows.drop n)
 |_,_,0,h=>h
 |[],[],n+1,_=>by simp[ei]
 |_::_,_::_,n+1,h=>vM n h.2
theorem oa:∀{t:TT}{x:t.den}{cs:cn},CR t x cs->cs.length=t.size
 |.int _,_,_,h=>by simp only[CR]at h;subst h;rfl
 |.bool,_,_,h=>by simp only[CR]at h;subst h;rfl
 |.str,_,_,h=>by simp only[CR]at h;subst h;rfl
 |.unit,_,_,h=>by simp only[CR]at h;subst h;rfl
 |.pair a b,x,_,h=>by simp only[CR]at h;obtain⟨c1,c2,rfl,h1,h2⟩:=h;simp only[cL,oa h1,oa h2,TT.size]
 |.sl t,_,_,h=>by simp only[CR]at h;obtain⟨rows,f,rfl,-⟩:=h;rfl
theorem jr{t:TT}:∀{l:List t.den}{rows:cn},ei (CR t) t.agg l rows->∀r∈rows,r.cells.length=t.size
 |[],[],_,r,hr=>by simp at hr
 |_::l,r'::rows,h,r,hr=>by rcases aV.1 hr with rfl|hr;exact oa h.1.1;exact jr h.2 r hr
theorem gY:∀{l:cp}{m:cn},cq ι S l m->m.length=l.length
 |[],[],_=>rfl
 |_::l,_::m,h=>by simp only[cq]at h;simp[gY h.2]
theorem bJ:cq ι S [] []:=by simp only[cq]
theorem aP{a:TV}{d:DV}{l:cp}{m:cn}(h:RT ι S a d)(k:cq ι S l m):cq ι S (a::l) (d::m):=by simp only[cq];exact⟨h,k⟩
theorem kI{a:TV}{d:DV}(h:RT ι S a d):cq ι S [a] [d]:=aP h bJ
theorem ax{a:TV}{l:cp}{m:cn}(h:cq ι S (a::l) m):∃d m',m=d::m'/\RT ι S a d/\cq ι S l m':=by
 cases m with
 |nil=>simp only[cq]at h
 |cons d m'=>simp only[cq]at h;exact⟨d,m',rfl,h⟩
theorem aO{m:cn}(h:cq ι S [] m):m=[]:=by
 cases m with
 |nil=>rfl
 |cons d m'=>simp only[cq]at h
theorem vk:∀{l:cp}{m:cn}{i:Nat}{a:TV},cq ι S l m->l[i]? =some a->∃d,m[i]? =some d/\RT ι S a d
 |[],_,_,_,_,h=>by simp at h
 |b::l,m,0,a,h,hx=>by obtain⟨d,m',rfl,h1,-⟩:=ax h;simp only[dH,aF]at hx;subst hx;exact⟨d,rfl,h1⟩
 |b::l,m,i+1,a,h,hx=>by obtain⟨d,m',rfl,-,h1⟩:=ax h;obtain⟨d',h2,h3⟩:=vk (i:=i) h1 (by simpa using hx);exact⟨d',by simpa using h2,h3⟩
theorem eH:∀{l l':cp}{m m':cn},cq ι S l m->cq ι S l' m'->cq ι S (l++l') (m++m')
 |[],l',m,m',h,k=>by rw[aO h];exact k
 |a::l,l',m,m',h,k=>by obtain⟨d,m1,rfl,h1,h2⟩:=ax h;exact aP h1 (eH h2 k)
theorem Ea:∀{l:cp}{m:cn}(n:Nat),cq ι S l m->cq ι S (l.take n) (m.take n)
 |_,_,0,_=>by simp only[List.take_zero];exact bJ
 |[],m,n+1,h=>by rw[aO h];simp only[List.take_nil];exact bJ
 |a::l,m,n+1,h=>by obtain⟨d,m1,rfl,h1,h2⟩:=ax h;exact aP h1 (Ea n h2)
theorem Ec:∀{l:cp}{m:cn}(n:Nat),cq ι S l m->cq ι S (l.drop n) (m.drop n)
 |_,_,0,h=>h
 |[],m,n+1,h=>by rw[aO h];simp only[List.drop_nil];exact bJ
 |a::l,m,n+1,h=>by obtain⟨d,m1,rfl,-,h2⟩:=ax h;exact Ec n h2
theorem I3:∀{l:cp}{m:cn}(i:Nat){a:TV}{d:DV},cq ι S l m->RT ι S a d->cq ι S (l.set i a) (m.set i d)
 |[],m,i,a,d,h,_=>by rw[aO h];simp only[List.set_nil];exact bJ
 |b::l,m,0,a,d,h,k=>by obtain⟨d',m1,rfl,-,h2⟩:=ax h;exact aP k h2
 |b::l,m,i+1,a,d,h,k=>by obtain⟨d',m1,rfl,h1,h2⟩:=ax h;exact aP h1 (I3 i h2 k)
theorem yI(d:DV):∀n,cq ι S (List.replicate n .unk) (List.replicate n d)
 |0=>bJ
 |n+1=>by rw[De,De];exact aP (by simp only[RT]) (yI d n)
theorem Eb{l:cp}{m:cn}(h:cq ι S l m)(i:Nat):RT ι S (l.getD i .unk) (m.getD i bD):=by
 rw[aK,aK];cases hi:l[i]? with
 |none=>simp only[Option.getD_none,RT]
 |some a=>obtain⟨d,h1,h2⟩:=vk h hi;rw[h1];exact h2
theorem pO:∀{t:TT}{x:t.den}{cs:cn},CR t x cs->cq ι S (t.cells x) cs
 |.int _,_,_,h=>by simp only[CR]at h;subst h;exact kI (by simp only[RT])
 |.bool,_,_,h=>by simp only[CR]at h;subst h;exact kI (by simp only[RT])
 |.str,_,_,h=>by simp only[CR]at h;subst h;exact kI (by simp only[RT])
 |.unit,_,_,h=>by simp only[CR]at h;subst h;exact bJ
 |.pair a b,x,_,h=>by simp only[CR]at h;obtain⟨c1,c2,rfl,h1,h2⟩:=h;exact eH (pO h1) (pO h2)
 |.sl t,_,_,h=>by simp only[CR]at h;obtain⟨rows,f,rfl,h⟩:=h;refine kI ?_;simp only[RT,qb,and_true];exact h
theorem Gk:∀{t:TT}{l:cp}{x:t.den}{r:cp}{m:cn},t.of l=some (x,r)->cq ι S l m->∃c m',m=c++m'/\CR t x (c.map DV.aM)/\cq ι S r m'
 |.int k,l,x,r,m,h,hm=>by simp only[TT.of]at h;unfold ofInt at h;split at h;split at h;rename_i hk;cases h;obtain⟨d,m',rfl,h1,h2⟩:=ax hm;cases d<;>simp only[RT]at h1;subst h1;subst hk;exact⟨[_],m',rfl,by simp only[CR,aZ,dR,DV.aM],h2⟩;cases h;cases h
 |.bool,l,x,r,m,h,hm=>by simp only[TT.of]at h;unfold ofBool at h;split at h;cases h;obtain⟨d,m',rfl,h1,h2⟩:=ax hm;cases d<;>simp only[RT]at h1;subst h1;exact⟨[_],m',rfl,by simp only[CR,aZ,dR,DV.aM],h2⟩;cases h
 |.str,l,x,r,m,h,hm=>by simp only[TT.of]at h;unfold ofStr at h;split at h;cases h;obtain⟨d,m',rfl,h1,h2⟩:=ax hm;cases d<;>simp only[RT]at h1;subst h1;exact⟨[_],m',rfl,by simp only[CR,aZ,dR,DV.aM],h2⟩;cases h
 |.unit,l,x,r,m,h,hm=>by simp only[TT.of]at h;cases h;exact⟨[],m,rfl,by simp only[CR,dR],hm⟩
 |.pair a b,l,x,r,m,h,hm=>by simp only[TT.of]at h;split at h;rename_i x1 r1 h1;split at h;rename_i y r2 h2;cases h;obtain⟨c,m1,rfl,k1,k2⟩:=Gk h1 hm;obtain⟨c',m2,rfl,k3,k4⟩:=Gk h2 k2;exact⟨c++c',m2,ae,by simp only[CR,eY];exact⟨_,_,rfl,k1,k3⟩,k4⟩;cases h;cases h
 |.sl t,l,x,r,m,h,hm=>by simp only[TT.of]at h;unfold aah at h;split at h;split at h;rename_i ht;subst ht;cases h;obtain⟨d,m',rfl,h1,h2⟩:=ax hm;cases d<;>simp only[RT]at h1;rename_i rows tok f;exact⟨[_],m',rfl,by simp only[CR,aZ,dR,DV.aM];exact⟨rows,⟨false,f.isNil⟩,rfl,h1.1⟩,h2⟩;cases h;cases h;obtain⟨d,m',rfl,h1,h2⟩:=ax hm;cases d<;>simp only[RT]at h1;obtain⟨rfl,rfl,rfl⟩:=h1;exact⟨[_],m',rfl,by simp only[CR,aZ,dR,DV.aM];exact⟨[],⟨false,some true⟩,rfl,by simp only[ei]⟩,h2⟩;cases h
theorem sB:∀{t:TT}{x:t.den}{cs:cn},CR t x cs->cs.all DV.bU=true
 |.int _,_,_,h=>by simp only[CR]at h;subst h;rfl
 |.bool,_,_,h=>by simp only[CR]at h;subst h;rfl
 |.str,_,_,h=>by simp only[CR]at h;subst h;rfl
 |.unit,_,_,h=>by simp only[CR]at h;subst h;rfl
 |.pair a b,x,_,h=>by simp only[CR]at h;obtain⟨c1,c2,rfl,h1,h2⟩:=h;rw[lU,sB h1,sB h2];rfl
 |.sl t,_,_,h=>by simp only[CR]at h;obtain⟨rows,f,rfl,-⟩:=h;rfl
end
end Go.Tv
namespace Go.Tv
open Go Go.Di
variable {P:Program}
theorem nK{α β:Type}(s:Sem α)(f:α->Sem β):bN P (s>>=f)=(bN P s).bind λa=>bN P (f a):=by
 change bN P (s.bind f)=_;cases s with
 |pure a=>rfl
 |program k=>
  simp only[Sem.bind,bN];generalize k P=s';induction s' with
  |pure a=>rfl
  |program k ih=>simp only[Sem.bind,bN];exact ih P
  |_=>simp only[Sem.bind,bN,Option.bind_none]
 |_=>simp only[Sem.bind,bN,Option.bind_none]
theorem BZ{t:TypeId}{d:TypeDesc}(h:P.underlying t=some d):bN P (underlying t)=some d:=by unfold underlying;rw[nK];show(some P).bind _=_;simp only[bQ,h];rfl
def ixV(d:Int):Option Value->Option Int
 |none=>some d
 |some (.int _ n)=>some n
 |_=>none
theorem Mr{α:Type}(a:α):bN P (pure a:Sem α)=some a:=rfl
theorem E1{α:Type}{c:Prop}[Decidable c]{a b:Sem α}:bN P (if c then a else b)=if c then bN P a else bN P b:=by split<;>rfl
theorem B1(k:IntKind)(n:Int):bN P (asIntOf (.int k n))=some (k,n):=rfl
theorem LK{d n:Int}{x:Option Value}(h:ixV d x=some n):(x=none/\d=n)\/∃k,x=some (.int k n):=by
 unfold ixV at h;split at h;cases h;exact .inl ⟨rfl,rfl⟩
 cases h;exact .inr ⟨_,rfl⟩
 cases h
theorem Ox{t:TypeId}{b:ByteArray}(ht:P.underlying t=some .string){lo hi:Option Value}{a c:Int}(h1:ixV 0 lo=some a)(h2:ixV b.size hi=some c)(h:0<=a/\a<=c/\c<=b.size):
  fG P (Instr.sliceAt t (.string b) lo hi none)=some (.val (.string (b.extract a.toNat c.toNat))):=by
 have u1:=BZ ht;rcases LK h1 with ⟨rfl,rfl⟩|⟨k,rfl⟩<;>rcases LK h2 with ⟨rfl,rfl⟩|⟨k',rfl⟩<;>
  simp only[fG,Instr.sliceAt,Instr.slice,Instr.sliceBounds,Instr.sliceBound,nK,u1,bQ,E1,Mr,B1,Option.isSome_none,aJ,if_false]<;>
  first
  |rfl
  |(rw[if_pos ab];simp only[bQ,B1,nK,E1];first|rfl|(rw[if_pos ab];rfl))
theorem Oy{t:TypeId}{b:ByteArray}(ht:P.underlying t=some .string){k:IntKind}{n:Int}(h:0<=n/\n<b.size):
  fG P (Instr.index t (.string b) (.int k n))=some (.val (.int .u8 ((b.data.toList.getD n.toNat 0).toNat:Nat))):=by
 unfold fG Instr.index;rw[nK];show((some (k,n)).bind _).bind _=_;simp only[bQ];rw[nK,BZ ht];simp only[bQ];have hn:n.toNat<b.size:=by omega
 have e:(if 0<=n then b[n.toNat]? else none)=some (b.data.toList.getD n.toNat 0):=by rw[if_pos h.1];have h':n.toNat<b.data.size:=hn;show b[n.toNat]? =_;simp[getElem?_def,hn,aK,h'];rfl
 simp only[e];rfl
end Go.Tv
