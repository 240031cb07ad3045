import Derived.Test.YtadeehilamokkaaGreatDoorPk00
import GoSem.Step
import Derived.Test.YtadeehilamokkaaGreatDoorProg
namespace Go.Di
open Go
structure SF where
 full:Bool
 isNil:Option Bool
inductive DV where
 |val (v:Value)
 |agg (l:List DV)
 |tup (l:List DV)
 |sl (rows:List DV) (tok:Option Nat) (full:SF)
 |ptr (id off:Nat)
 |eU (rows:List DV) (i off:Nat)
 |fn (f:FuncId) (first captured:List DV)
 |map (id:Nat)
 |nj (id:Nat)
 |jl (id n:Nat) (agg:Bool)
 |fS (id n off:Nat)
abbrev cP:=List DV
abbrev cj:=List DV
instance:Inhabited DV:=⟨.val (.tuple #[])⟩
structure F2 where
 st:LoopState
 jO:Option Code
 fn:FuncId
 env:cj
 params:List Tmp
 assign:Code
 body:Code
 AW:Nat
inductive DB where
 |none
 |cells (l:cj)
 |tail (e:TypeId) (s n:Nat)
 |map (es:List (Value×Value))
 |defer
 |loop (r:F2)
 |op (e:TypeId) (s:Nat) (l:cj) (z:Bool)
instance:Inhabited DB:=⟨.none⟩
abbrev aj:=List DB
def bD:DV:=.val (.tuple #[])
def DV.cells:DV->cj
 |.agg l=>l
 |d=>[d]
def flat(rows:cj):cj:=rows.flatMap DV.cells
def zP:Value->Bool
 |.agg _=>false
 |.tuple vs=>vs.size==0
 |_=>true
def HP:Value->Option DV
 |.slice none 0 0=>some (.sl [] none ⟨true,some true⟩)
 |v=>if zP v then some (.val v)else none
def rG:List Value->Option cj
 |[]=>some []
 |v::l=>match HP v,rG l with
  |some d,some r=>some (d::r)
  |_,_=>none
def A7:Value->Option DV
 |.agg cs=>(rG cs.toList).map .agg
 |.func (.func f) fs cs=>if fs.size=0&&cs.size=0 then some (.fn f [] [])else none
 |v=>HP v
def rE:cj->Option (List Value)
 |[]=>some []
 |.val v::l=>(rE l).map (v::·)
 |_=>none
def AY:DV->Option Value
 |.val v=>some v
 |.agg l=>(rE l).map λr=>.agg r.toArray
 |_=>none
def tI:cj->Option (List Value)
 |[]=>some []
 |d::l=>match AY d,tI l with
  |some v,some r=>some (v::r)
  |_,_=>none
def DV.bS:DV->Bool
 |.val v=>!(v matches .tuple _)
 |.sl _ none _=>true
 |_=>false
def DV.jJ:DV->Bool
 |.agg l=>l.all DV.bS
 |.val _=>true
 |.sl _ none _=>true
 |_=>false
def DV.pure:DV->Bool
 |.tup l=>l.all DV.jJ
 |d=>d.jJ
def DV.aL:DV->DV
 |.sl r _ f=>.sl r none ⟨false,f.isNil⟩
 |d=>d
def DV.cT:DV->DV
 |.agg l=>.agg (l.map DV.aL)
 |.sl r _ f=>.sl r none ⟨false,f.isNil⟩
 |d=>d
def DV.strip:DV->DV
 |.tup l=>.tup (l.map DV.cT)
 |d=>d.cT
def DV.one:DV->Bool
 |.val v=>!(v matches .tuple _)
 |.agg _|.tup _=>false
 |_=>true
inductive TK where
 |one
 |struct (fs:List (Nat×Nat×Bool))
 |array (n s:Nat) (agg:Bool)
 |slice (e s b:Nat) (agg:Bool)
 deriving DecidableEq
structure TyD where
 k:TK
 size:Nat
 zero:Option cj
def TK.isAgg:TK->Bool
 |.struct _|.array _ _ _=>true
 |_=>false
section
variable (P:Program)
def oI(t:TypeId):Bool:=
 match P.underlying t with
 |some (.struct _)|some (.array _ _)=>true
 |_=>false
def cC{α:Type}:Sem α->Option α
 |.pure a=>some a
 |.program k=>cC (k P)
 |_=>none
def FR(t:TypeId):Option TypeInfo:=
 match P.info? t,P.underlying t with
 |some i,some _=>some i
 |_,_=>none
def E9(t:TypeId):Option TK:=
 match P.underlying t with
 |some (.struct fs)=>(fs.toList.mapM λf=>(FR P f.type).map λi=>(f.offset,i.size,oI P f.type)).map .struct
 |some (.array n e)=>(FR P e).map λi=>.array n i.size (oI P e)
 |some (.slice e)=>(FR P e).map λi=>.slice e i.size i.bytes (oI P e)
 |some _=>some .one
 |none=>none
def zeroOf(i:TypeInfo):Option cj:=
 match i.zero with
 |some z=>match rG z.cells.toList with
  |some cs=>if cs.length=i.size then some cs else none
  |none=>none
 |none=>none
def TW(t:TypeId):Option TyD:=
 match E9 P t,P.info? t with
 |some k,some i=>some ⟨k,i.size,zeroOf i⟩
 |_,_=>none
end
def Uh(l:cj)(off n:Nat):Option cj:=if off+n<=l.length then some ((l.drop off).take n)else none
def vu(l:cj)(off:Nat)(cs:cj):Option cj:=if off+cs.length<=l.length then some (l.take off++cs++l.drop (off+cs.length))else none
def oF(agg:Bool)(size:Nat)(l:cj)(off:Nat):Option DV:=
 if agg then(Uh l off size).map .agg else l[off]?
structure fo where
 f:TypeId->Option TyD
 hint:Tmp->TypeId->Nat
instance:CoeFun fo λ_=>TypeId->Option TyD:=⟨fo.f⟩
def fo.h (ty:fo)(o:Oper):Nat:=
 match o.dst,o.op with
 |some d,.call {callee:=.value _,.. }=>ty.hint d o.type % 4
 |some d,_=>if ty.hint d o.type<16380 then ty.hint d o.type % 4 else 0
 |none,_=>0
abbrev aY:=FuncId->cj->aj->Option (DV×aj)
abbrev bR:=FuncId->cj->Option DV
abbrev di:=Nat->cj->aj->Option (DV×aj)
section
variable (P:Program) (ty:fo) (aD:bR) (call:aY) (yf:di)
def iN(env:cj):Operand->Option DV
 |.tmp t=>some (env.getD t bD)
 |.const v=>A7 v
 |.func f=>some (.fn f [] [])
 |.global _=>none
def evs(ρ:Operand->Option DV):List Operand->Option cj
 |[]=>some []
 |x::l=>match ρ x,evs ρ l with
  |some d,some r=>some (d::r)
  |_,_=>none
def valOf(ρ:Operand->Option DV)(x:Operand):Option Value:=(ρ x).bind AY
def intOf(ρ:Operand->Option DV)(x:Operand):Option Int:=
 match ρ x with
 |some (.val (.int _ n))=>some n
 |_=>none
def C3:Option DV->Bool
 |some (.jl ..)=>true
 |_=>false
def Cb(S:aj)(id n:Nat):Option (TypeId×Nat×cj×Bool):=
 match S[id]? with
 |some (.op e s l z)=>if n*s=l.length then some (e,s,l,z)else none
 |_=>none
def gM(s:Sem Value):Option DV:=(cC P s).bind A7
def M6(s d:TypeId):Value->Option DV
 |.string b=>match P.underlying s,P.underlying d with
  |some _,some (.slice e)=>match P.underlying e with
   |some (.int .u8)=>some (.sl (b.data.toList.map λc=>.val (.int .u8 c.toNat)) none ⟨false,some false⟩)
   |_=>none
  |_,_=>none
 |_=>none
def AZ(ρ:Operand->Option DV):Option Operand->Option (Option Value)
 |none=>some none
 |some x=>(valOf ρ x).map some
def kC(S:aj)(t:TypeId)(a:DV):Option DV:=
 match ty t,a with
 |some d,.ptr id off=>match S[id]? with
  |some (.cells l)=>oF d.k.isAgg d.size l off
  |_=>none
 |some d,.eU rows i off=>match rows[i]? with
  |some r=>oF d.k.isAgg d.size r.cells off
  |none=>none
 |some d,.fS id n off=>match Cb S id n with
  |some (_,_,l,_)=>oF d.k.isAgg d.size l off
  |none=>none
 |_,_=>none
def eE(S:aj)(i:Nat)(b:DB):aj:=if i<S.length then S.set i b else S++[b]
def oL(S:aj)(t:TypeId)(a v:DV):Option aj:=
 match ty t,a with
 |some d,.ptr id off=>match S[id]? with
  |some (.cells l)=>if v.cells.length=d.size&&v.cells.all DV.one then(vu l off v.cells).map λl'=>S.set id (.cells l')else none
  |_=>none
 |some d,.fS id n off=>match Cb S id n with
  |some (e,s,l,false)=>if v.strip.cells.length=d.size&&v.strip.cells.all DV.bS then(vu l off v.strip.cells).map λl'=>S.set id (.op e s l' false)else none
  |_=>none
 |_,_=>none
def kE(place:Nat->Option (Nat×Nat))(cs:cj):List (Nat×DV)->Option cj
 |[]=>some cs
 |(i,v)::r=>match place i with
  |none=>none
  |some (off,size)=>if v.cells.length=size then match vu cs off v.cells with
    |some iq=>kE place iq r
    |none=>none
   else none
def jR(ρ:Operand->Option DV):List (Nat×Operand)->Option (List (Nat×DV))
 |[]=>some []
 |(i,x)::l=>match ρ x,jR ρ l with
  |some d,some r=>some ((i,d)::r)
  |_,_=>none
def rowOf(s:Nat)(agg:Bool)(l:cj)(i:Nat):DV:=if agg then .agg ((l.drop (i*s)).take s)else l.getD (i*s) bD
def rowsOf(s:Nat)(agg:Bool)(l:cj)(n:Nat):cj:=(List.range n).map (rowOf s agg l)
def fE:Nat:=140737488355328
def jv(S:aj)(aB:Nat)(t:TypeId)(a b:DV):Option (DV×aj):=
 match ty t,a,b with
 |some ⟨.slice e s kN _,_,_⟩,.sl rows tok full,.sl news _ _=>
  if news.isEmpty then some (a,S)
  else match ty e with
  |some ⟨_,_,some _⟩=>if decide (0<s)&&decide ((rows.length+news.length)*kN<=fE)&&decide (rows.length+news.length<=140737488355328-4096)&&news.all (λr=>decide (r.cells.length=s))then
   let afQ:Option (DV×aj):=if full.full&&rows.all (λr=>decide (r.cells.length=s))then some (.sl (rows++news) (some aB) ⟨false,none⟩,eE S aB (.tail e s ((rows.length+news.length)*s)))else none
   match tok with
   |none=>afQ
   |some t=>match S[t]? with
    |some (.tail e' s' n)=>if e'=e&&s'=s&&n=rows.length*s then some (.sl (rows++news) (some t) ⟨false,none⟩,S.set t (.tail e s ((rows.length+news.length)*s)))else none
    |_=>none
   else none
  |_=>none
 |_,_,_=>none
def nU(S:aj)(aB:Nat)(t:TypeId)(a b:DV):Option (DV×aj):=
 match ty t,b with
 |some ⟨.slice e s kN agg,_,_⟩,.sl news _ _=>match ty e with
  |some ⟨_,_,some _⟩=>match a with
   |.jl id n _=>if decide (0<s)&&(agg||s==1)&&decide ((n+news.length)*kN<=fE)&&decide (n+news.length<=140737488355328-4096)&&news.all (λr=>decide (r.cells.length=s))then match Cb S id n with
    |some (e',s',l,false)=>if e'=e&&s'=s then if news.isEmpty then some (a,S)else some (.jl id (n+news.length) agg,S.set id (.op e s (l++flat news) false))else none
    |_=>none
    else none
   |.sl [] none f=>if news.isEmpty then some (a,S)else if f.full&&decide (0<s)&&(agg||s==1)&&decide (news.length*kN<=fE)&&decide (news.length<=140737488355328-4096)&&news.all (λr=>decide (r.cells.length=s))then some (.jl aB news.length agg,eE S aB (.op e s (flat news) false))else none
   |_=>none
  |_=>none
 |_,_=>none
def iD(S:aj):DV->DV
 |.jl id n agg=>match Cb S id n with
  |some (_,s,l,true)=>if decide (0<s)&&(agg||s==1)then .sl (rowsOf s agg l n) none ⟨false,some false⟩else .jl id n agg
  |_=>.jl id n agg
 |d=>d
def xG(S:aj):DV->aj
 |.jl id n _=>match Cb S id n with
  |some (e,s,l,false)=>S.set id (.op e s l true)
  |_=>S
 |_=>S
def sS(S:aj):DV->aj
 |.agg l=>l.foldl xG S
 |d=>xG S d
def HH(S:aj):DV->aj
 |.tup l=>l.foldl sS S
 |d=>sS S d
def sK(S:aj):DV->DV
 |.agg l=>.agg (l.map (iD S))
 |d=>iD S d
def tf(S:aj):DV->DV
 |.tup l=>.tup (l.map (sK S))
 |d=>sK S d
def gI(ρ:Operand->Option DV)(x:Option Operand)(ah7 Ht:Nat):Option Nat:=
 match x with
 |none=>some ah7
 |some x=>match intOf ρ x with
  |some i=>if 0<=i/\i.toNat<=Ht then some i.toNat else none
  |none=>none
def Mq(rows:cj)(f:SF):Option Bool:=if rows.isEmpty then f.isNil else some false
def Df(op:BinOp)(t:TypeId):Option DV->Option DV->Option DV
 |some (.sl rows _ f),some (.sl [] _ ⟨_,some true⟩)=>match ty t,Mq rows f with
  |some ⟨.slice _ _ _ _,_,_⟩,some b=>match op with
   |.eql=>some (.val (.bool b))
   |.neq=>some (.val (.bool (!b)))
   |_=>none
  |_,_=>none
 |_,_=>none
def rz(rows:cj)(full:SF)(l h:Nat)(m:Option Nat):Option DV:=
 if l<=h then match m with
  |none=>some (.sl ((rows.take h).drop l) none ⟨full.full&&h==rows.length,Mq rows full⟩)
  |some m=>if h<=m then some (.sl ((rows.take h).drop l) none ⟨m==h,Mq rows full⟩)else none
 else none
def vO(g:FuncId)(args:cj)(S:aj):Option (DV×aj):=
 if(args.map DV.strip).all DV.pure then match aD g (args.map DV.strip)with
  |some v=>some (v,S)
  |none=>call g args S
 else call g args S
def X0(p:Value×Value):MapEntry:=⟨p.1,p.2,0⟩
def Ox(t:TypeId)(es:List MapEntry)(k:Value)(ok:Bool):Sem Value:=do
 let .map key elem<-underlying t|stuck "Lookup: map type expected"
 Instr.checkKey es.isEmpty 10000 key k
 let (v,o)<-match<-Instr.findKey key k es with
  |some (_,v)=>pure (v,true)
  |none=>pure (<-zeroValue elem,false)
 pure (if ok then .tuple #[v,.bool o]else v)
def OI(t:TypeId)(es:List MapEntry)(k:Value):Sem (Option (Nat×Value)):=do
 let .map key _<-underlying t|stuck "MapUpdate: map type expected"
 Instr.checkKey false 10000 key k
 Instr.findKey key k es
def JD:Value->Option DV
 |.tuple vs=>match vs.toList with
  |[v,.bool b]=>(A7 v).map λd=>.tup [d,.val (.bool b)]
  |_=>none
 |v=>A7 v
def TY(es:List (Value×Value))(k v:Value):Option (Nat×Value)->Option (List (Value×Value))
 |none=>some (es++[(k,v)])
 |some (i,_)=>match es[i]? with
  |some (k',_)=>if Instr.sameBits 10000 k' k then some (es.set i (k,v))else none
  |none=>none
def ah(ρ:Operand->Option DV)(o:Oper)(S:aj)(aB:Nat):Option (DV×aj):=
 match o.op with
 |.move x|.assign x=>(ρ x).map (·,S)
 |.pick c a b=>match ρ c with
  |some (.val (.bool t))=>(if t then ρ a else ρ b).map (·,S)
  |_=>none
 |.alloc e=>match ty e with
  |some ⟨_,_,some z⟩=>some (.ptr aB 0,eE S aB (.cells z))
  |_=>none
 |.box _ x=>match ρ x with
  |some d=>some (.ptr aB 0,eE S aB (.cells d.cells))
  |none=>none
 |.build t ps=>match ty t,jR ρ ps.toList with
  |some ⟨.struct fs,_,some z⟩,some l=>(kE (λi=>(fs[i]?).map λf=>(f.1,f.2.1)) z l).map λcs=>(.agg cs,S)
  |some ⟨.array _ s _,_,some z⟩,some l=>(kE (λi=>some (i*s,s)) z l).map λcs=>(.agg cs,S)
  |_,_=>none
 |.buildSlice t n ps=>match ty t,jR ρ ps.toList with
  |some ⟨.slice e s _ agg,_,_⟩,some l=>match ty e with
   |some ⟨_,_,some z⟩=>if decide (0<s)&&decide (n*s<=16777216)then
     match kE (λi=>some (i*s,s)) ((List.replicate n z).flatten) (l.map λ(i,v)=>(i,v.strip))with
     |some cs=>if cs.all DV.bS&&(agg||s==1)then some (match ty.h o with
      |1=>(.jl aB n agg,eE S aB (.op e s cs false))
      |_=>(.sl (rowsOf s agg cs n) none ⟨true,some false⟩,S))else none
     |none=>none
    else none
   |_=>none
  |_,_=>none
 |.makeSlice t a b=>match ty t,intOf ρ a,intOf ρ b with
  |some ⟨.slice e s kN agg,_,_⟩,some n,some m=>match ty e with
   |some ⟨_,_,some z⟩=>if decide (0<=n)&&decide (m=n)&&decide (0<s)&&(agg||s==1)&&decide (n<=140737488355328-4096)&&decide (n.toNat*kN<=fE)&&(z.map DV.aL).all DV.bS then
     some (.jl aB n.toNat agg,eE S aB (.op e s (List.replicate n.toNat (z.map DV.aL)).flatten false))else none
   |_=>none
  |_,_,_=>none
 |.load t a=>match ρ a with
  |some a=>(kC ty S t a).map (·,S)
  |none=>none
 |.store t a x=>match ρ a,ρ x with
  |some a,some v=>(oL ty S t a v).map (bD,·)
  |_,_=>none
 |.nilCheck x=>match ρ x with
  |some (.ptr id off)=>some (.ptr id off,S)
  |_=>none
 |.binOp op t x y _=>match valOf ρ x,valOf ρ y with
  |some a,some b=>(gM P (do eqGuard op t x y a b;binOp op t a b)).map (·,S)
  |_,_=>(Df ty op t (ρ x) (ρ y)).map (·,S)
 |.unOp op _ x=>match valOf ρ x with
  |some a=>(gM P (Op.unary op a)).map (·,S)
  |none=>none
 |.convert s d x=>match valOf ρ x with
  |some a=>match gM P (Go.convert s d a)with
   |some r=>some (r,S)
   |none=>(M6 P s d a).map (·,S)
  |none=>none
 |.makeInterface t x=>match valOf ρ x with
  |some a=>(gM P (Instr.makeInterface t a)).map (·,S)
  |none=>none
 |.makeFunc (.func f) fs cs=>match evs ρ fs.toList,evs ρ cs.toList with
  |some a,some b=>some (.fn f a b,S)
  |_,_=>none
 |.slice t x lo hi mx=>match ty t,ρ x with
  |some ⟨.slice _ s _ _,_,_⟩,some (.sl rows _ full)=>if !rows.all (λr=>decide (r.cells.length=s))then none else
   match gI ρ mx rows.length rows.length with
   |some m=>match gI ρ hi rows.length m with
    |some h=>match gI ρ lo 0 h with
     |some l=>if hi.isNone&&mx.isSome then none else(rz rows full l h (mx.map λ_=>m)).map (·,S)
     |none=>none
    |none=>none
   |none=>none
  |_,some (.val (.string b))=>match AZ ρ lo,AZ ρ hi,mx with
   |some l,some h,none=>(gM P (Instr.sliceAt t (.string b) l h none)).map (·,S)
   |_,_,_=>none
  |_,_=>none
 |.fieldAddr t x f=>match ty t,ρ x with
  |some ⟨.struct fs,_,_⟩,some (.ptr id off)=>match fs[f]? with
   |some (o,s,_)=>if 0<s then some (.ptr id (off+o),S)else none
   |none=>none
  |some ⟨.struct fs,_,_⟩,some (.eU rows i off)=>match fs[f]? with
   |some (o,s,_)=>if 0<s then some (.eU rows i (off+o),S)else none
   |none=>none
  |some ⟨.struct fs,_,_⟩,some (.fS id n off)=>match fs[f]?,Cb S id n with
   |some (o,s,_),some _=>if 0<s then some (.fS id n (off+o),S)else none
   |_,_=>none
  |_,_=>none
 |.field t x f=>match ty t,ρ x with
  |some ⟨.struct fs,_,_⟩,some (.agg l)=>match fs[f]? with
   |some (off,s,agg)=>(oF agg s l off).map (·,S)
   |none=>none
  |_,_=>none
 |.indexAddr t x i=>match ty t,ρ x,intOf ρ i with
  |some ⟨.slice _ s _ _,_,_⟩,some (.sl rows _ _),some n=>if 0<=n then
    match rows[n.toNat]? with
    |some r=>if r.cells.length=s then some (.eU rows n.toNat 0,S)else none
    |none=>none
   else none
  |some ⟨.array k s _,_,_⟩,some (.ptr id off),some n=>if 0<=n/\n.toNat<k then some (.ptr id (off+n.toNat*s),S)else none
  |some ⟨.array k s _,_,_⟩,some (.eU rows j off),some n=>if 0<=n/\n.toNat<k then some (.eU rows j (off+n.toNat*s),S)else none
  |some ⟨.slice _ s _ _,_,_⟩,some (.jl id m _),some n=>match Cb S id m with
   |some (_,s',_,_)=>if 0<=n/\n.toNat<m/\s'=s then some (.fS id m (n.toNat*s),S)else none
   |none=>none
  |_,_,_=>none
 |.index t x i=>match ty t,ρ x,intOf ρ i with
  |some ⟨.array k s agg,_,_⟩,some (.agg l),some n=>if 0<=n/\n.toNat<k then(oF agg s l (n.toNat*s)).map (·,S)else none
  |_,some (.val (.string b)),some _=>match valOf ρ i with
   |some iv=>(gM P (Instr.index t (.string b) iv)).map (·,S)
   |none=>none
  |_,_,_=>none
 |.makeMap _ none=>some (.map aB,eE S aB (.map []))
 |.lookup t m k ok=>match ρ m,valOf ρ k with
  |some (.map id),some kv=>match S[id]? with
   |some (.map es)=>((cC P (Ox t (es.map X0) kv ok)).bind JD).map (·,S)
   |_=>none
  |_,_=>none
 |.mapUpdate t m k v=>match ρ m,valOf ρ k,valOf ρ v with
  |some (.map id),some kv,some vv=>match S[id]? with
   |some (.map es)=>match cC P (OI t (es.map X0) kv)with
    |some r=>(TY es kv vv r).map λes'=>(bD,S.set id (.map es'))
    |none=>none
   |_=>none
  |_,_,_=>none
 |.extract t i=>match ρ t with
  |some (.tup l)=>(l[i]?).map (·,S)
  |_=>none
 |.call {callee:=.builtin b,args,argTypes}=>match b,args.toList,argTypes.toList with
  |.len,[x],[t]=>match ty t,ρ x with
   |some ⟨.slice _ _ _ _,_,_⟩,some (.sl rows _ _)=>some (.val (.int .i64 rows.length),S)
   |some ⟨.slice _ _ _ _,_,_⟩,some (.jl _ n _)=>some (.val (.int .i64 n),S)
   |some ⟨.array n _ _,_,_⟩,_=>some (.val (.int .i64 n),S)
   |_,some (.val v)=>(gM P (Builtin.len_ #[t] o.type #[v])).map (·,S)
   |_,_=>none
  |.append,[x,y],[t,u]=>if t=u then match ρ x,ρ y with
    |some a,some b=>match a with
     |.jl .. =>nU ty S aB t a b
     |_=>match ty.h o with
      |1=>nU ty S aB t a b
      |_=>jv ty S aB t a b
    |_,_=>none
   else none
  |.min,xs,_=>match(evs ρ xs).bind tI with
   |some vs=>(gM P (Builtin.min_ argTypes o.type vs.toArray)).map (·,S)
   |none=>none
  |.max,xs,_=>match(evs ρ xs).bind tI with
   |some vs=>(gM P (Builtin.max_ argTypes o.type vs.toArray)).map (·,S)
   |none=>none
  |_,_,_=>none
 |.call {callee:=.value f,args,argTypes:=_}=>match ρ f,evs ρ args.toList with
  |some (.fn g fs cs),some xs=>match ty.h o with
   |1=>call g (fs++xs++cs) S
   |_=>vO aD call g (fs++xs++cs) S
  |some (.nj id),some xs=>yf id xs S
  |_,_=>none
 |_=>none
def b9(ops:Array Oper)(env:cj)(o:Oper):Bool:=
 match o.guard with
 |none=>true
 |some (j,want)=>match(ops[j]?).bind (·.dst)with
  |some d=>match env[d]? with
   |some (.val (.bool b))=>b==want
   |_=>false
  |none=>false
def jN(env:cj)(dst:Option Tmp)(v:DV):cj:=
 match dst with
 |some d=>env.set d v
 |none=>env
def qz(env:cj)(S:aj)(x:Operand):aj:=match iN env x with|some d=>xG S d|none=>S
def Fb(o:Oper)(env:cj)(S:aj):cj×aj:=
 match ty.h o with
 |2=>
  let S':=o.op.operands.toList.foldl (qz env) S
  (env.map (iD S'),S')
 |_=>(env,S)
def Hr(ops:Array Oper):List Oper->cj->aj->Option (cj×aj)
 |[],env,S=>some (env,S)
 |o::r,env,S=>
  if b9 ops env o then match Fb ty o env S with
   |(env,S)=>match ah P ty aD call yf (iN env) o S S.length with
    |some (v,S')=>Hr ops r (jN env o.dst v) S'
    |none=>none
  else Hr ops r (jN env o.dst bD) S
def cV(ρ:Operand->Option DV)(o:Oper)(S:aj):Option DV:=
 match o.op with
 |.alloc _|.box .. |.store .. |.makeMap .. |.mapUpdate .. |.makeSlice .. =>none
 |.buildSlice .. =>match ty.h o with
  |1=>none
  |_=>(ah P ty aD call yf ρ o S S.length).map (·.1)
 |.call {callee:=.builtin .append,.. }=>none
 |.call {callee:=.value f,args,argTypes:=_}=>match ρ f,evs ρ args.toList with
  |some (.fn g fs cs),some xs=>if ty.h o=1 then none else if((fs++xs++cs).map DV.strip).all DV.pure then aD g ((fs++xs++cs).map DV.strip)else none
  |_,_=>none
 |_=>(ah P ty aD call yf ρ o S S.length).map (·.1)
def qd(ops:Array Oper)(S:aj):List Oper->cj->Option cj
 |[],env=>some env
 |o::r,env=>
  if b9 ops env o then match cV P ty aD call yf (iN env) o S with
   |some v=>qd ops S r (jN env o.dst v)
   |none=>none
  else qd ops S r (jN env o.dst bD)
def oG(call:aY)(g:FuncId)(args:cj)(S:aj):Option (Nat×DV×cj):=
 match args with
 |.ptr i off::rest=>match S[i]? with
  |some (.cells l)=>
   if(rest.map DV.strip).all DV.pure&&(l.map DV.aL).all DV.bS then
    match call g (.ptr 0 off::rest.map DV.strip) [.cells (l.map DV.aL)]with
    |some (v,.cells l'::_)=>if v.strip.pure&&(l'.map DV.aL).all DV.bS then some (i,v.strip,l'.map DV.aL)else none
    |_=>none
   else none
  |_=>none
 |_=>none
def Yq(R:cx):DV->Bool
 |.ptr i _=>R.contains i
 |d=>d.bS
def L8(R:cx):DV->Bool
 |.ptr i _=>R.contains i
 |.fn _ fs cs=>fs.all (Yq R)&&cs.all (Yq R)
 |d=>d.bS
def okA(R:cx):DV->Bool
 |.ptr i _=>R.contains i
 |.fn _ fs cs=>fs.all (Yq R)&&cs.all (Yq R)
 |d=>d.pure
def cS:DV->DV
 |.fn f fs cs=>.fn f (fs.map DV.aL) (cs.map DV.aL)
 |d=>d.aL
def iT:DV->DV
 |.fn f fs cs=>.fn f (fs.map DV.aL) (cs.map DV.aL)
 |d=>d.strip
def T7:DV->cx
 |.ptr i _=>[i]
 |_=>[]
def zB:DV->cx
 |.ptr i _=>[i]
 |.fn _ fs cs=>fs.flatMap T7++cs.flatMap T7
 |_=>[]
def Hx(S:aj)(i:Nat):cx:=
 match S[i]? with
 |some (.cells l)=>l.flatMap zB
 |_=>[]
def qB(S:aj)(R:cx):cx:=R++(R.flatMap (Hx S)).filter λi=>!R.contains i
def iU(S:aj)(args:cj):cx:=qB S (qB S (qB S (args.flatMap zB)))
def j6(S:aj)(R:cx)(i:Nat):Bool:=
 match S[i]? with
 |some (.cells l)=>(l.map cS).all (L8 R)
 |_=>false
def UB(b:DB):DB:=
 match b with
 |.cells l=>.cells (l.map cS)
 |_=>.none
def sJ(S:aj)(R:cx):aj:=S.mapIdx λi b=>if R.contains i then UB b else .none
def UX(S1:aj)(i:Nat)(b:DB):DB:=
 match S1[i]? with
 |some (.cells l)=>.cells (l.map cS)
 |_=>b
def kF(S S1:aj)(R:cx):aj:=S.mapIdx λi b=>if R.contains i then UX S1 i b else b
def nA(call:aY)(g:FuncId)(args:cj)(S:aj):Option (cx×DV×aj):=
 if !(iU S args).isEmpty&&(args.map iT).all (okA (iU S args))&&(iU S args).all (j6 S (iU S args))then
  match call g (args.map iT) (sJ S (iU S args))with
  |some (v,S1)=>if v.strip.pure&&(iU S args).all (j6 S1 (iU S args))then some (iU S args,v.strip,S1)else none
  |none=>none
 else none
def OL(call:aY):aY:=λg args S=>match nA call g args S with
 |some (R,v,S1)=>some (v,kF S S1 R)
 |none=>call g args S
def JQ(call:aY):aY:=λg args S=>match oG call g args S with
 |some (i,v,l)=>some (v,S.set i (.cells l))
 |none=>OL call g args S
def YS(r:Option (DV×aj)):Option (cj×Option (TypeId×Nat)):=
 match r with
 |some (.sl rows (some t) _,S)=>match S[t]? with
  |some (.tail e s n)=>if n=rows.length*s then some (rows,some (e,s))else none
  |_=>none
 |some (.sl [] none f,_)=>if f.full then some ([],none)else none
 |_=>none
def TX(call:aY)(g:FuncId)(args:cj):Option (cj×Option (TypeId×Nat)):=
 if(args.map DV.strip).all DV.pure then YS (call g (args.map DV.strip) [])else none
theorem U8{α:Type}{S:List α}{n:Nat}{b:α}(h:S[n]? =some b):S.set n b=S:=by obtain⟨h1,rfl⟩:=aI.1 h;exact List.set_getElem_self h1
def vH(call:aY)(aB:Nat):aY:=λg args S=>match S[aB]?,TX call g args with
 |some .none,some (rows,some (e,s))=>some (.sl rows (some aB) ⟨false,none⟩,S.set aB (.tail e s (rows.length*s)))
 |some .none,some (_,none)=>some (.sl [] none ⟨true,none⟩,S.set aB .none)
 |_,_=>none
structure cM where
 ids:Option cx
 wr:Bool
abbrev cX:=List cM
def aH(ρ:Operand->Option DV)(o:Oper)(S:aj)(aB:Nat):Option (DV×aj×cM):=
 match o.op with
 |.alloc _|.box .. |.makeMap .. =>match S[aB]? with
  |some .none=>(ah P ty aD call yf ρ o S aB).map λr=>(r.1,r.2,⟨some [aB],true⟩)
  |_=>none
 |.store _ a _=>match ρ a with
  |some (.ptr id _)=>(ah P ty aD call yf ρ o S aB).map λr=>(r.1,r.2,⟨some [id],true⟩)
  |some (.fS id _ _)=>(ah P ty aD call yf ρ o S aB).map λr=>(r.1,r.2,⟨some [id],true⟩)
  |_=>none
 |.fieldAddr _ a _=>match ρ a with
  |some (.fS id _ _)=>(ah P ty aD call yf ρ o S aB).map λr=>(r.1,r.2,⟨some [id],false⟩)
  |_=>(ah P ty aD call yf ρ o S aB).map λr=>(r.1,r.2,⟨some [],false⟩)
 |.indexAddr _ a _=>match ρ a with
  |some (.jl id _ _)=>(ah P ty aD call yf ρ o S aB).map λr=>(r.1,r.2,⟨some [id],false⟩)
  |_=>(ah P ty aD call yf ρ o S aB).map λr=>(r.1,r.2,⟨some [],false⟩)
 |.buildSlice .. =>match ty.h o with
  |1=>none
  |_=>(ah P ty aD call yf ρ o S aB).map λr=>(r.1,r.2,⟨some [],false⟩)
 |.makeSlice .. =>none
 |.lookup _ m .. =>match ρ m with
  |some (.map id)=>(ah P ty aD call yf ρ o S aB).map λr=>(r.1,r.2,⟨some [id],false⟩)
  |_=>none
 |.mapUpdate _ m .. =>match ρ m with
  |some (.map id)=>(ah P ty aD call yf ρ o S aB).map λr=>(r.1,r.2,⟨some [id],true⟩)
  |_=>none
 |.load _ a=>match ρ a with
  |some (.ptr id _)=>(ah P ty aD call yf ρ o S aB).map λr=>(r.1,r.2,⟨some [id],false⟩)
  |some (.fS id _ _)=>(ah P ty aD call yf ρ o S aB).map λr=>(r.1,r.2,⟨some [id],false⟩)
  |_=>(ah P ty aD call yf ρ o S aB).map λr=>(r.1,r.2,⟨some [],false⟩)
 |.call {callee:=.builtin .append,args,.. }=>if ty.h o=1 then none else if C3 ((args[0]?).bind ρ)then none else match S[aB]?,(args[0]?).bind ρ with
  |some .none,some (.sl _ (some t) _)=>(ah P ty aD call yf ρ o S aB).map λr=>(r.1,r.2,⟨some [t,aB],true⟩)
  |some .none,_=>(ah P ty aD call yf ρ o S aB).map λr=>(r.1,r.2,⟨some [aB],true⟩)
  |_,_=>none
 |.call {callee:=.value f,args,argTypes:=_}=>match ρ f,evs ρ args.toList with
  |some (.fn g fs cs),some xs=>
   let as_:=fs++xs++cs
   if ty.h o=1 then(vH call aB g as_ S).map λr=>(r.1,r.2,⟨some [aB],true⟩)
   else if(as_.map DV.strip).all DV.pure then(aD g (as_.map DV.strip)).map λv=>(v,S,⟨some [],false⟩)
   else match oG call g as_ S with
    |some (i,v,l)=>some (v,S.set i (.cells l),⟨some [i],true⟩)
    |none=>match nA call g as_ S with
     |some (R,v,S1)=>some (v,kF S S1 R,⟨some R,true⟩)
     |none=>(call g as_ S).map λr=>(r.1,r.2,⟨none,true⟩)
  |some (.nj id),some xs=>(yf id xs S).map λr=>(r.1,r.2,⟨none,true⟩)
  |_,_=>none
 |_=>(ah P ty aD call yf ρ o S aB).map λr=>(r.1,r.2,⟨some [],false⟩)
def sG(ops:Array Oper)(n0:Nat):List Oper->Nat->cj->aj->Option (cj×aj×cX)
 |[],_,env,S=>some (env,S,[])
 |o::r,i,env,S=>
  if b9 ops env o then match aH P ty aD call yf (iN env) o S (n0+i)with
   |some (v,S',f)=>match sG ops n0 r (i+1) (jN env o.dst v) S' with
    |some (aK,wq,fs)=>some (aK,wq,f::fs)
    |none=>none
   |none=>none
  else match sG ops n0 r (i+1) (jN env o.dst bD) S with
   |some (aK,wq,fs)=>some (aK,wq,⟨some [],false⟩::fs)
   |none=>none
def kZ(ops:Array Oper)(o:Oper):List Tmp:=
 o.dst.toList++o.op.operands.toList.filterMap (λ|.tmp t=>some t|_=>none)++(match o.guard with|some (j,_)=>((ops[j]?).bind (·.dst)).toList|none=>[])
def kY(ops:Array Oper)(b:Array Nat):Bool:=
 (ops.toList.zipIdx.all λ(o,i)=>o.after.all λe=>!Region.binds .any e||decide (e.on<i))&&
 ops.toList.zipIdx.all λ(o,i)=>ops.toList.zipIdx.all λ(o',j)=>match o'.dst with
  |some d=>i==j||!(kZ ops o).contains d||(b.getD j 0).testBit i||(b.getD i 0).testBit j
  |none=>true
def cM.meets (f g:cM):Bool:=
 (f.wr||g.wr)&&match f.ids,g.ids with
 |none,none=>true
 |none,some l=>!l.isEmpty
 |some l,none=>!l.isEmpty
 |some l,some m=>l.any m.contains
def tc(b:Array Nat)(fs:cX):Bool:=
 fs.zipIdx.all λ(f,i)=>fs.zipIdx.all λ(g,j)=>i==j||!f.meets g||(b.getD j 0).testBit i||(b.getD i 0).testBit j
def Iq(o:Oper):Bool:=
 match o.op with
 |.call {callee:=.value f,args:=_,argTypes}=>(match f,P.underlying o.type with
  |.tmp _,some .bool=>true
  |_,_=>false)||match argTypes[0]? with
  |some t=>match P.underlying t with
   |some (.pointer _)=>true
   |_=>false
  |none=>false
 |_=>false
def Zf(S:aj)(i:Nat):aj:=match S[i]? with
 |some (.op e s l false)=>S.set i (.op e s l true)
 |_=>S
def C1(S:aj):aj:=(List.range S.length).foldl Zf S
def nF(S:aj):DB->DB
 |.cells l=>.cells (l.map (iD S))
 |b=>b
def JA(_:fo)(_:Array Oper):Bool:=false
def lB(ops:Array Oper)(draw:Bool)(env:cj)(S:aj):Option (cj×aj):=
 if draw then if !kY ops (Region.before ops)then none else match if ops.toList.any (Iq P)then none else qd P ty aD call yf ops S ops.toList env with
  |some aK=>some (aK,S)
  |none=>match sG P ty aD call yf ops S.length ops.toList 0 env (S++List.replicate ops.size .none)with
   |some (aK,S',fs)=>if tc (Region.before ops) fs then some (aK,S')else none
   |none=>none
 else Hr P ty aD call yf ops ops.toList env S
def pN(ops:Array Oper)(draw:Bool)(env:cj)(S:aj):Option (cj×aj):=
 if draw&&JA ty ops then lB P ty aD call yf ops draw (env.map (iD (C1 S))) ((C1 S).map (nF (C1 S)))
 else lB P ty aD call yf ops draw env S
inductive DX where
 |normal
 |exit (id:Nat)
 |ret
 deriving DecidableEq
def nG(f:cj->aj->Option (DX×cj×aj)):Nat->cj->aj->Option (DX×cj×aj)
 |0,_,_=>none
 |n+1,env,S=>match f env S with
  |some (.normal,aK,S')=>nG f n aK S'
  |r=>r
def cD(L:Nat)(fn:FuncId)(iA:Bool):Code->cj->aj->Option (DX×cj×aj)
 |.skip,env,S|.label _,env,S=>some (.normal,env,S)
 |.region _ ops draw,env,S=>(pN P ty aD call yf ops draw env S).map (.normal,·)
 |.seq a b,env,S=>match cD L fn iA a env S with
  |some (.normal,aK,S')=>cD L fn iA b aK S'
  |r=>r
 |.cond c a b,env,S=>match iN env c with
  |some (.val (.bool true))=>cD L fn iA a env S
  |some (.val (.bool false))=>cD L fn iA b env S
  |_=>none
 |.block id c,env,S=>match cD L fn iA c env S with
  |some (.exit iz,aK,S')=>some (if iz=id then .normal else .exit iz,aK,S')
  |r=>r
 |.loop c,env,S=>nG (cD L fn iA c) L env S
 |.scope c,env,S=>cD L fn iA c env S
 |.exit id,env,S=>some (.exit id,env,S)
 |.ret,env,S=>some (.ret,env,S)
 |.rangeFunc f ps nL body,env,S=>if iA then none else match iN env f with
  |some (.fn g fs cs)=>match call g (fs++[.nj (S.length+1)]++cs) (S++[.defer,.loop ⟨.ready,none,fn,env,ps.toList,nL,body,S.length⟩])with
   |some (_,S')=>match S'[S.length+1]? with
    |some (.loop r)=>if r.st==.busy then none else match r.jO with
     |none=>some (.normal,env,S'.set (S.length+1) (.loop {r with st:=.exhausted}))
     |some .ret=>some (.ret,env,S'.set (S.length+1) (.loop {r with st:=.exhausted}))
     |some (.exit e)=>some (.exit e,env,S'.set (S.length+1) (.loop {r with st:=.exhausted}))
     |_=>none
    |_=>none
   |none=>none
  |_=>none
 |_,_,_=>none
def sF:cj->List (Tmp×DV)->cj
 |env,[]=>env
 |env,(t,d)::l=>sF (env.set t d) l
def tJ(L:Nat):di:=λid args S=>match S[id]? with
 |some (.loop r)=>if args.length=r.params.length then
   match cD P ty aD call yf L r.fn true r.assign (sF r.env (r.params.zip args)) S with
   |some (.normal,acM,S1)=>match S1[id]? with
    |some (.loop r1)=>if r1.st=.ready then
      match cD P ty aD call yf L r.fn true r.body acM (S1.set id (.loop {r1 with st:=.busy}))with
      |some (e,_,S2)=>match S2[id]? with
       |some (.loop r2)=>match e with
        |.normal=>some (.val (.bool true),S2.set id (.loop {r2 with st:=.ready,jO:=none}))
        |.ret=>some (.val (.bool false),S2.set id (.loop {r2 with st:=.done,jO:=some .ret}))
        |.exit i=>some (.val (.bool false),S2.set id (.loop {r2 with st:=.done,jO:=some (.exit i)}))
       |_=>none
      |none=>none
     else none
    |_=>none
   |_=>none
  else none
 |_=>none
def sQ(env:cj)(S:aj):List ResultVar->Option cj
 |[]=>some []
 |.tmp t::r=>(sQ env S r).map (env.getD t bD::·)
 |.cell a t::r=>match kC ty S t (env.getD a bD),sQ env S r with
  |some v,some l=>some (v::l)
  |_,_=>none
def oneOf:cj->DV
 |[d]=>d
 |l=>.tup l
def vP(L:Nat)(f:FuncId)(fn:Func)(args:cj)(S:aj):Option (DV×aj):=
 match fn.body with
 |some c=>match cD P ty aD call yf L f false c (args++List.replicate (fn.ntmps-args.length) bD) S with
  |some (.normal,env,S')|some (.ret,env,S')=>(sQ ty env S' fn.results.toList).map λl=>(oneOf l,S')
  |_=>none
 |none=>none
end
def lK(cE:bR)(call:aY):bR:=λf args=>match cE f args with
 |some v=>if v.pure then some v else none
 |none=>match call f args []with
  |some (v,S)=>if(tf (HH S v) v).strip.pure then some (tf (HH S v) v).strip else none
  |none=>none
def dU(P:Program)(ty:fo)(cE:bR)(L:Nat):Nat->aY×di
 |0=>(λ_ _ _=>none,λ_ _ _=>none)
 |n+1=>(λf args S=>match P.funcs[f]? with
   |some fn=>vP P ty (lK cE (dU P ty cE L n).1) (dU P ty cE L n).1 (dU P ty cE L n).2 L f fn args S
   |none=>none,
  tJ P ty (lK cE (dU P ty cE L n).1) (dU P ty cE L n).1 (dU P ty cE L n).2 L)
def ait(P:Program)(ty:fo)(cE:bR)(L n:Nat):aY:=(dU P ty cE L n).1
end Go.Di
namespace Go.Tv
open Go Go.Proofs
def uR:Code->Option (List Tmp×Code×Code)
 |.seq a b|.cond _ a b=>match uR a with
  |some r=>some r
  |none=>uR b
 |.block _ c|.loop c|.scope c=>uR c
 |.rangeFunc _ ps a b=>some (ps.toList,a,b)
 |_=>none
def C8(y:List Tmp×Code×Code):Code->Prop
 |.seq a b|.cond _ a b=>C8 y a/\C8 y b
 |.block _ c|.loop c|.scope c=>C8 y c
 |.rangeFunc _ ps a b=>(ps.toList,a,b)=y
 |_=>True
noncomputable def BU (fn:FuncId):Option (List Tmp×Code×Code):=((Tryz.prog.funcs[fn]?).bind Func.body).bind uR
end Go.Tv
namespace Go.Tv
open Go Go.Di
inductive TT where
 |int (k:IntKind)
 |bool
 |str
 |unit
 |pair (a b:TT)
 |sl (t:TT)
 deriving DecidableEq
abbrev cy:=Option TT
abbrev TT.den:TT->Type
 |.int _=>Int
 |.bool=>Bool
 |.str=>ByteArray
 |.unit=>Unit
 |.pair a b=>a.den×b.den
 |.sl t=>List t.den
def TT.dft:(t:TT)->t.den
 |.int _=>(0:Int)
 |.bool=>false
 |.str=>ByteArray.empty
 |.unit=>()
 |.pair a b=>(a.dft,b.dft)
 |.sl _=>[]
def TT.size:TT->Nat
 |.unit=>0
 |.pair a b=>a.size+b.size
 |_=>1
def TT.agg:TT->Bool
 |.unit|.pair _ _=>true
 |_=>false
inductive Ap where
 |no
 |full
 |o5 (g:Nat)
 |stop (b:Bool)
 |BM (g:Nat)
inductive TV where
 |unk
 |val (v:Value)
 |jo
 |agg (l:List TV)
 |tup (l:List TV)
 |sl (t:TT) (l:List t.den) (ap:Ap)
 |ptr (id off:Nat)
 |eU (t:TT) (l:List t.den) (i off:Nat)
 |fn (f:FuncId) (first captured:List TV)
 |mp (id:Nat)
 |so (g:Nat) (t:TT)
 |sp (g:Nat) (t:TT) (i off:Nat)
 |nj (k:Nat) (fn:FuncId) (te:List TV)
abbrev cY:=List TV
abbrev cn:=List TV
instance:Inhabited TV:=⟨.unk⟩
def TT.cells:(t:TT)->t.den->cn
 |.int k,n=>[.val (.int k n)]
 |.bool,b=>[.val (.bool b)]
 |.str,s=>[.val (.string s)]
 |.unit,_=>[]
 |.pair a b,x=>a.cells x.1++b.cells x.2
 |.sl t,l=>[.sl t l .no]
def ofInt(k:IntKind):cn->Option (Int×cn)
 |.val (.int k' n)::r=>if k'=k then some (n,r)else none
 |_=>none
def ofBool:cn->Option (Bool×cn)
 |.val (.bool b)::r=>some (b,r)
 |_=>none
def ofStr:cn->Option (ByteArray×cn)
 |.val (.string b)::r=>some (b,r)
 |_=>none
def YX(t:TT):cn->Option (List t.den×cn)
 |.sl t' l _::r=>if h:t'=t then some (h▸l,r)else none
 |.jo::r=>some ([],r)
 |_=>none
def TT.of:(t:TT)->cn->Option (t.den×cn)
 |.int k,l=>ofInt k l
 |.bool,l=>ofBool l
 |.str,l=>ofStr l
 |.unit,l=>some ((),l)
 |.pair a b,l=>match a.of l with
  |some (x,r1)=>match b.of r1 with
   |some (y,r2)=>some ((x,y),r2)
   |none=>none
  |none=>none
 |.sl t,l=>YX t l
def vR(agg:Bool)(r:DV):Prop:=if agg then∃l,r=.agg l else∀l,r≠.agg l
def dZ{α:Type}(R:α->cj->Prop)(agg:Bool):List α->cj->Prop
 |[],[]=>True
 |x::l,r::rows=>(R x r.cells/\vR agg r)/\dZ R agg l rows
 |_,_=>False
def CR:(t:TT)->t.den->cj->Prop
 |.int k,n,cs=>cs=[.val (.int k n)]
 |.bool,b,cs=>cs=[.val (.bool b)]
 |.str,s,cs=>cs=[.val (.string s)]
 |.unit,_,cs=>cs=[]
 |.pair a b,x,cs=>∃c1 c2,cs=c1++c2/\CR a x.1 c1/\CR b x.2 c2
 |.sl t,l,cs=>∃rows f,cs=[.sl rows none f]/\dZ (CR t) t.agg l rows
abbrev kB:=Nat->Option Nat
def pq(ι:kB)(S:aj)(n:Nat)(tok:Option Nat)(f:SF):Ap->Prop
 |.no|.stop _=>True
 |.full=>tok=none/\f.full=true
 |.o5 g|.BM g=>(tok=none/\f.full=true/\n=0)\/∃t e s,ι g=some t/\tok=some t/\S[t]? =some (.tail e s (n*s))
mutual
def RT(ι:kB)(S:aj):TV->DV->Prop
 |.unk,_=>True
 |.val v,.val u=>u=v
 |.jo,.sl rows tok f=>rows=[]/\tok=none/\f=⟨true,some true⟩
 |.agg l,.agg m=>cz ι S l m
 |.tup l,.tup m=>cz ι S l m
 |.sl t l ap,.sl rows tok f=>dZ (CR t) t.agg l rows/\pq ι S rows.length tok f ap
 |.ptr id off,.ptr iz ry=>ι id=some iz/\ry=off
 |.eU t l i off,.eU rows i' ry=>dZ (CR t) t.agg l rows/\i'=i/\ry=off/\i<l.length
 |.fn f a b,.fn f' a' b'=>f'=f/\cz ι S a a'/\cz ι S b b'
 |.mp id,.map iz=>ι id=some iz
 |.so g t,.jl id n agg=>ι g=some id/\agg=t.agg/\∃e s l z,S[id]? =some (.op e s l z)/\n*s=l.length
 |.sp g t i off,.fS id n ry=>ι g=some id/\ry=i*t.size+off/\∃e s l z,S[id]? =some (.op e s l z)/\n*s=l.length/\i*t.size+t.size<=l.length
 |.nj k fn te,.nj id=>ι k=some id/\∃ps a b env AW,BU fn=some (ps,a,b)/\S[id]? =some (.loop ⟨.ready,none,fn,env,ps,a,b,AW⟩)/\cz ι S te env
 |_,_=>False
def cz(ι:kB)(S:aj):cn->cj->Prop
 |[],[]=>True
 |a::l,b::m=>RT ι S a b/\cz ι S l m
 |_,_=>False
end
section
variable {ι:kB} {S:aj}
theorem lz{α:Type}{R:α->cj->Prop}{agg:Bool}:∀{l:List α}{rows:cj},dZ R agg l rows->rows.length=l.length
 |[],[],_=>rfl
 |_::l,_::rows,h=>by simp[lz h.2]
theorem DC{α:Type}{R:α->cj->Prop}{agg:Bool}:∀{l:List α}{rows:cj}{i:Nat}{x:α},dZ R agg l rows->l[i]? =some x->∃r,rows[i]? =some r/\R x r.cells/\vR agg r
 |[],_,_,_,_,h=>by simp at h
 |_::_,[],_,_,h,_=>h.elim
 |y::l,r::rows,0,x,h,hx=>by simp only[dB,aF]at hx;subst hx;exact⟨r,rfl,h.1⟩
 |y::l,r::rows,i+1,x,h,hx=>by obtain⟨r',h1,h2⟩:=DC (i:=i) h.2 (by simpa using hx);exact⟨r',by simpa using h1,h2⟩
theorem Br{α:Type}{R:α->cj->Prop}{agg:Bool}:∀{l m:List α}{rows aa8:cj},dZ R agg l rows->dZ R agg m aa8->dZ R agg (l++m) (rows++aa8)
 |[],_,[],_,_,h=>h
 |_::_,_,_::_,_,h,k=>⟨h.1,Br h.2 k⟩
theorem qN{α:Type}{R:α->cj->Prop}{agg:Bool}:∀{l:List α}{rows:cj}(n:Nat),dZ R agg l rows->dZ R agg (l.take n) (rows.take n)
 |_,_,0,_=>by simp[dZ]
 |[],[],n+1,_=>by simp[dZ]
 |_::_,_::_,n+1,h=>⟨h.1,qN n h.2⟩
theorem u7{α:Type}{R:α->cj->Prop}{agg:Bool}:∀{l:List α}{rows:cj}(n:Nat),dZ R agg l rows->dZ R agg (l.drop n) (rows.drop n)
 |_,_,0,h=>h
 |[],[],n+1,_=>by simp[dZ]
 |_::_,_::_,n+1,h=>u7 n h.2
theorem nB:∀{t:TT}{x:t.den}{cs:cj},CR t x cs->cs.length=t.size
 |.int _,_,_,h=>by simp only[CR]at h;subst h;rfl
 |.bool,_,_,h=>by simp only[CR]at h;subst h;rfl
 |.str,_,_,h=>by simp only[CR]at h;subst h;rfl
 |.unit,_,_,h=>by simp only[CR]at h;subst h;rfl
 |.pair a b,x,_,h=>by simp only[CR]at h;obtain⟨c1,c2,rfl,h1,h2⟩:=h;simp only[dM,nB h1,nB h2,TT.size]
 |.sl t,_,_,h=>by simp only[CR]at h;obtain⟨rows,f,rfl,-⟩:=h;rfl
theorem je{t:TT}:∀{l:List t.den}{rows:cj},dZ (CR t) t.agg l rows->∀r∈rows,r.cells.length=t.size
 |[],[],_,r,hr=>by simp at hr
 |_::l,r'::rows,h,r,hr=>by rcases aX.1 hr with rfl|hr;exact nB h.1.1;exact je h.2 r hr
theorem gR:∀{l:cn}{m:cj},cz ι S l m->m.length=l.length
 |[],[],_=>rfl
 |_::l,_::m,h=>by simp only[cz]at h;simp[gR h.2]
theorem bH:cz ι S [] []:=by simp only[cz]
theorem aO{a:TV}{d:DV}{l:cn}{m:cj}(h:RT ι S a d)(k:cz ι S l m):cz ι S (a::l) (d::m):=by simp only[cz];exact⟨h,k⟩
theorem j4{a:TV}{d:DV}(h:RT ι S a d):cz ι S [a] [d]:=aO h bH
theorem ax{a:TV}{l:cn}{m:cj}(h:cz ι S (a::l) m):∃d m',m=d::m'/\RT ι S a d/\cz ι S l m':=by
 cases m with
 |nil=>simp only[cz]at h
 |cons d m'=>simp only[cz]at h;exact⟨d,m',rfl,h⟩
theorem aN{m:cj}(h:cz ι S [] m):m=[]:=by
 cases m with
 |nil=>rfl
 |cons d m'=>simp only[cz]at h
theorem uI:∀{l:cn}{m:cj}{i:Nat}{a:TV},cz ι S l m->l[i]? =some a->∃d,m[i]? =some d/\RT ι S a d
 |[],_,_,_,_,h=>by simp at h
 |b::l,m,0,a,h,hx=>by obtain⟨d,m',rfl,h1,-⟩:=ax h;simp only[dB,aF]at hx;subst hx;exact⟨d,rfl,h1⟩
 |b::l,m,i+1,a,h,hx=>by obtain⟨d,m',rfl,-,h1⟩:=ax h;obtain⟨d',h2,h3⟩:=uI (i:=i) h1 (by simpa using hx);exact⟨d',by simpa using h2,h3⟩
theorem eH:∀{l l':cn}{m m':cj},cz ι S l m->cz ι S l' m'->cz ι S (l++l') (m++m')
 |[],l',m,m',h,k=>by rw[aN h];exact k
 |a::l,l',m,m',h,k=>by obtain⟨d,m1,rfl,h1,h2⟩:=ax h;exact aO h1 (eH h2 k)
theorem Dx:∀{l:cn}{m:cj}(n:Nat),cz ι S l m->cz ι S (l.take n) (m.take n)
 |_,_,0,_=>by simp only[List.take_zero];exact bH
 |[],m,n+1,h=>by rw[aN h];simp only[List.take_nil];exact bH
 |a::l,m,n+1,h=>by obtain⟨d,m1,rfl,h1,h2⟩:=ax h;exact aO h1 (Dx n h2)
theorem Dz:∀{l:cn}{m:cj}(n:Nat),cz ι S l m->cz ι S (l.drop n) (m.drop n)
 |_,_,0,h=>h
 |[],m,n+1,h=>by rw[aN h];simp only[List.drop_nil];exact bH
 |a::l,m,n+1,h=>by obtain⟨d,m1,rfl,-,h2⟩:=ax h;exact Dz n h2
theorem Ij:∀{l:cn}{m:cj}(i:Nat){a:TV}{d:DV},cz ι S l m->RT ι S a d->cz ι S (l.set i a) (m.set i d)
 |[],m,i,a,d,h,_=>by rw[aN h];simp only[List.set_nil];exact bH
 |b::l,m,0,a,d,h,k=>by obtain⟨d',m1,rfl,-,h2⟩:=ax h;exact aO k h2
 |b::l,m,i+1,a,d,h,k=>by obtain⟨d',m1,rfl,h1,h2⟩:=ax h;exact aO h1 (Ij i h2 k)
theorem x6(d:DV):∀n,cz ι S (List.replicate n .unk) (List.replicate n d)
 |0=>bH
 |n+1=>by rw[CK,CK];exact aO (by simp only[RT]) (x6 d n)
theorem Dy{l:cn}{m:cj}(h:cz ι S l m)(i:Nat):RT ι S (l.getD i .unk) (m.getD i bD):=by
 rw[aP,aP];cases hi:l[i]? with
 |none=>simp only[Option.getD_none,RT]
 |some a=>obtain⟨d,h1,h2⟩:=uI h hi;rw[h1];exact h2
theorem oT:∀{t:TT}{x:t.den}{cs:cj},CR t x cs->cz ι S (t.cells x) cs
 |.int _,_,_,h=>by simp only[CR]at h;subst h;exact j4 (by simp only[RT])
 |.bool,_,_,h=>by simp only[CR]at h;subst h;exact j4 (by simp only[RT])
 |.str,_,_,h=>by simp only[CR]at h;subst h;exact j4 (by simp only[RT])
 |.unit,_,_,h=>by simp only[CR]at h;subst h;exact bH
 |.pair a b,x,_,h=>by simp only[CR]at h;obtain⟨c1,c2,rfl,h1,h2⟩:=h;exact eH (oT h1) (oT h2)
 |.sl t,_,_,h=>by simp only[CR]at h;obtain⟨rows,f,rfl,h⟩:=h;refine j4 ?_;simp only[RT,pq,and_true];exact h
theorem FP:∀{t:TT}{l:cn}{x:t.den}{r:cn}{m:cj},t.of l=some (x,r)->cz ι S l m->∃c m',m=c++m'/\CR t x (c.map DV.aL)/\cz ι S r m'
 |.int k,l,x,r,m,h,hm=>by simp only[TT.of]at h;unfold ofInt at h;split at h;split at h;rename_i hk;cases h;obtain⟨d,m',rfl,h1,h2⟩:=ax hm;cases d<;>simp only[RT]at h1;subst h1;subst hk;exact⟨[_],m',rfl,by simp only[CR,bg,eY,DV.aL],h2⟩;cases h;cases h
 |.bool,l,x,r,m,h,hm=>by simp only[TT.of]at h;unfold ofBool at h;split at h;cases h;obtain⟨d,m',rfl,h1,h2⟩:=ax hm;cases d<;>simp only[RT]at h1;subst h1;exact⟨[_],m',rfl,by simp only[CR,bg,eY,DV.aL],h2⟩;cases h
 |.str,l,x,r,m,h,hm=>by simp only[TT.of]at h;unfold ofStr at h;split at h;cases h;obtain⟨d,m',rfl,h1,h2⟩:=ax hm;cases d<;>simp only[RT]at h1;subst h1;exact⟨[_],m',rfl,by simp only[CR,bg,eY,DV.aL],h2⟩;cases h
 |.unit,l,x,r,m,h,hm=>by simp only[TT.of]at h;cases h;exact⟨[],m,rfl,by simp only[CR,eY],hm⟩
 |.pair a b,l,x,r,m,h,hm=>by simp only[TT.of]at h;split at h;rename_i x1 r1 h1;split at h;rename_i y r2 h2;cases h;obtain⟨c,m1,rfl,k1,k2⟩:=FP h1 hm;obtain⟨c',m2,rfl,k3,k4⟩:=FP h2 k2;exact⟨c++c',m2,ab,by simp only[CR,iI];exact⟨_,_,rfl,k1,k3⟩,k4⟩;cases h;cases h
 |.sl t,l,x,r,m,h,hm=>by simp only[TT.of]at h;unfold YX at h;split at h;split at h;rename_i ht;subst ht;cases h;obtain⟨d,m',rfl,h1,h2⟩:=ax hm;cases d<;>simp only[RT]at h1;rename_i rows tok f;exact⟨[_],m',rfl,by simp only[CR,bg,eY,DV.aL];exact⟨rows,⟨false,f.isNil⟩,rfl,h1.1⟩,h2⟩;cases h;cases h;obtain⟨d,m',rfl,h1,h2⟩:=ax hm;cases d<;>simp only[RT]at h1;obtain⟨rfl,rfl,rfl⟩:=h1;exact⟨[_],m',rfl,by simp only[CR,bg,eY,DV.aL];exact⟨[],⟨false,some true⟩,rfl,by simp only[dZ]⟩,h2⟩;cases h
theorem rJ:∀{t:TT}{x:t.den}{cs:cj},CR t x cs->cs.all DV.bS=true
 |.int _,_,_,h=>by simp only[CR]at h;subst h;rfl
 |.bool,_,_,h=>by simp only[CR]at h;subst h;rfl
 |.str,_,_,h=>by simp only[CR]at h;subst h;rfl
 |.unit,_,_,h=>by simp only[CR]at h;subst h;rfl
 |.pair a b,x,_,h=>by simp only[CR]at h;obtain⟨c1,c2,rfl,h1,h2⟩:=h;rw[pV,rJ h1,rJ h2];rfl
 |.sl t,_,_,h=>by simp only[CR]at h;obtain⟨rows,f,rfl,-⟩:=h;rfl
end
end Go.Tv
