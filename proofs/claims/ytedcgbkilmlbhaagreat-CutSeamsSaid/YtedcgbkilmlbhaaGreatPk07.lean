import Derived.Test.YtedcgbkilmlbhaaGreatPk06
section
namespace Go.Tv
open Go Go.Di Go.Proofs
def aG (b:Bool) (A B:Prop):Prop :=
 match b with
 | true=>A
 | false=>B
def Bh:List Prop→Prop→Prop
 | [],R=>R
 | p::l,R=>p∧Bh l R
def dM:List Prop→Prop
 | []=>True
 | p::l=>p∧dM l
def impl:List Prop→Prop→Prop
 | [],R=>R
 | p::l,R=>p→impl l R
inductive uO:Type 1
 | ex (α:Type) (k:α→uO)
 | res (v:TV) (cs:List TV) (facts:List Prop)
def uO.all:uO→(TV→List TV→List Prop→Prop)→Prop
 | .ex _ k,K=>∀ x,(k x).all K
 | .res v cs fs,K=>K v cs fs
def uO.some:uO→(TV→List TV→List Prop→Prop)→Prop
 | .ex _ k,K=>∃ x,(k x).some K
 | .res v cs fs,K=>K v cs fs
def uO.holds (s:uO) (v:TV) (cs:List TV):Prop:=s.some fun v' jH fs=>v=v'∧cs=jH∧dM fs
def uO.vB (s:uO) (v:TV):Prop:=s.some fun v' _ fs=>v=v'∧dM fs
def uO.yq (s:uO) (cs:List TV):Prop:=s.some fun _ jH fs=>cs=jH∧dM fs
abbrev Sp:=Option (List Prop×uO)
structure Bd where
 sl:List (Nat×TV)
 pl:List (Nat×List TV):=[]
 own:List (Nat×Nat):=[]
 dm:List Prop:=[]
 mp:List (Nat×(Σ kt:TT,List kt.den)):=[]
 m:Nat:=0
inductive LA:Type 1
 | ex (α:Type) (k:α→LA)
 | st (b:Bd)
 | un (n:Nat)
 | dep (f:List TV→List TB→LA)
 | pe (n:Nat) (a:LA)
def LA.Yk:LA→Nat
 | .pe n _=>n
 | _=>0
def LA.inner:LA→LA
 | .pe _ a=>a
 | a=>a
def LA.at (la:LA) (te:List TV) (tS:List TB):LA :=
 match la with
 | .dep f=>f te tS
 | la=>la
def afp (te:List TV) (i:Nat) (k:List Int→LA):LA :=
 match te.getD i .unk with
 | .sl (.int .i64) l _=>k l
 | _ => .un 0
def LA.all:LA→(Bd→Prop)→Prop
 | .ex _ k,K=>∀ x,(k x).all K
 | .st b,K=>K b
 | _,_=>True
def LA.some:LA→(Bd→Prop)→Prop
 | .ex _ k,K=>∃ x,(k x).some K
 | .st b,K=>K b
 | _,_=>False
structure gP where
 I:FuncId→List TV→Sp
 C:FuncId→List TV→List TV→Sp
 N:FuncId→List TV→Sp
 X:FuncId→Option (Func×List (Nat×LA)):=fun _=>none
structure sA (T:gP) (aM:bV) (call:bP):Prop where
 I:∀ g a p s,T.I g a=some (p,s)→dM p→sE aM g a fun v=>s.vB v
 C:∀ g a c p s,T.C g a c=some (p,s)→dM p→zC call g a c fun v cs=>s.holds v cs
 N:∀ g a p s,T.N g a=some (p,s)→dM p→Bz aM call g a fun cs=>s.yq cs
mutual
def jm (v:TV) (K:TV→Prop):Prop :=
 match v with
 | .unk=>K .unk
 | .val (.int k n)=>K (.val (.int k n))
 | .val (.bool b)=>K (.val (.bool b))
 | .val v=>K (.val v)
 | .gq=>K .gq
 | .agg l=>eD l fun l=>K (.agg l)
 | .gd l=>eD l fun l=>K (.gd l)
 | .sl t l ap=>K (.sl t l ap)
 | .ptr id off=>K (.ptr id off)
 | .eL t l i off=>K (.eL t l i off)
 | .mp id=>K (.mp id)
 | .so g t=>K (.so g t)
 | .sp g t i off=>K (.sp g t i off)
 | .fn f a b=>eD a fun a=>eD b fun b=>K (.fn f a b)
def eD (l:List TV) (K:List TV→Prop):Prop :=
 match l with
 | []=>K []
 | a::l=>jm a fun a=>eD l fun l=>K (a::l)
end
def ei (l:List TB) (K:List TB→Prop):Prop :=
 match l with
 | []=>K []
 | .cells c::l=>eD c fun c=>ei l fun l=>K (.cells c::l)
 | .none::l=>ei l fun l=>K (.none::l)
 | .own e s::l=>ei l fun l=>K (.own e s::l)
 | .map kt c::l=>ei l fun l=>K (.map kt c::l)
 | .rows t e c z::l=>ei l fun l=>K (.rows t e c z::l)
def Dh:List TV→Nat→TV→(List TV→Prop)→Prop
 | [],_,_,K=>K []
 | _::l,0,v,K=>K (v::l)
 | a::l,n+1,v,K=>Dh l n v fun l=>K (a::l)
def kA (te:List TV) (dst:Option Tmp) (v:TV) (K:List TV→Prop):Prop :=
 match dst with
 | some d=>Dh te d v K
 | none=>K te
mutual
def Zh:TV→TV→Option (List Prop)
 | .unk,.unk=>some []
 | .val (.int k a),.val (.int k' b)=>if k=k' then some [a=b] else none
 | .val (.bool a),.val (.bool b)=>some [a=b]
 | .val a,.val b=>some [a=b]
 | .gq,.gq=>some []
 | .agg l,.agg m=>PN l m
 | .gd l,.gd m=>PN l m
 | .sl t l .no,.sl t' l' .no=>if h:t=t' then some [h▸l=l'] else none
 | .sl t l .full,.sl t' l' .full=>if h:t=t' then some [h▸l=l'] else none
 | .sl t l (.oE g),.sl t' l' (.oE g')=>if h:t=t' then if g=g' then some [h▸l=l'] else none else none
 | .ptr i o,.ptr i' o'=>if i=i'∧o=o' then some [] else none
 | .mp i,.mp i'=>if i=i' then some [] else none
 | .so i t,.so i' t'=>if i=i'∧t=t' then some [] else none
 | .eL t l i o,.eL t' l' i' o'=>if h:t=t' then some [h▸l=l',i=i',o=o'] else none
 | .fn f a b,.fn f' a' b'=>if f=f' then match PN a a',PN b b' with
  | some x,some y=>some (x++y)
  | _,_=>none else none
 | _,_=>none
def PN:List TV→List TV→Option (List Prop)
 | [],[]=>some []
 | a::l,b::m=>match Zh a b,PN l m with
  | some x,some y=>some (x++y)
  | _,_=>none
 | _,_=>none
end
mutual
def leT:TV→TV→Option (List Prop)
 | _,.unk=>some []
 | .sl t l _,.sl t' l' .no=>if h:t=t' then some [h▸l=l'] else none
 | .sl t l .full,.sl t' l' (.oE _)=>match l with
  | []=>if t=t' then some [[]=l'] else none
  | _::_=>none
 | .gq,.sl _ l _=>some [[]=l]
 | .agg l,.agg m=>Fb l m
 | v,u=>Zh v u
def Fb:List TV→List TV→Option (List Prop)
 | [],[]=>some []
 | a::l,b::m=>match leT a b,Fb l m with
  | some x,some y=>some (x++y)
  | _,_=>none
 | _,_=>none
end
def rO:List TB→List TB→Option (List Prop)
 | _,[]=>some []
 | _::l,.none::m=>rO l m
 | .cells a::l,.cells b::m=>match Fb a b,rO l m with
  | some x,some y=>some (x++y)
  | _,_=>none
 | .own e s::l,.own e' s'::m=>if e=e'∧s=s' then rO l m else none
 | .map kt a::l,.map XD b::m=>if h:kt=XD then match rO l m with
  | some y=>some ((h▸a=b)::y)
  | none=>none else none
 | .rows t e a z::l,.rows t' e' b z'::m=>if h:t=t' then if e=e'∧z=z' then match rO l m with
  | some y=>some ((h▸a=b)::y)
  | none=>none else none else none
 | [],.own _ _::m=>rO [] m
 | _,_=>none
def ask (o:Option (List Prop)) (K:Prop):Prop :=
 match o with
 | some l=>Bh l K
 | none=>False
section
variable (P:Program) (ty:ir) (tt:TypeId→Option TT) (T:gP)
def cE (n:Int):Prop := -9223372036854775808≤n∧n≤9223372036854775807
def BN (te:List TV) (o:Oper):Option (TV×Prop) :=
 match o.op with
 | .binOp .add _ x y _=>match iK te x,iK te y with
  | some (.val (.int .i64 a)),some (.val (.int .i64 b))=>some (.val (.int .i64 (a+b)),cE (a+b))
  | _,_=>none
 | .binOp .sub _ x y _=>match iK te x,iK te y with
  | some (.val (.int .i64 a)),some (.val (.int .i64 b))=>some (.val (.int .i64 (a-b)),cE (a-b))
  | _,_=>none
 | .binOp .mul _ x y _=>match iK te x,iK te y with
  | some (.val (.int .i64 a)),some (.val (.int .i64 b))=>some (.val (.int .i64 (a*b)),cE (a*b))
  | _,_=>none
 | .unOp .neg _ x=>match iK te x with
  | some (.val (.int .i64 a))=>some (.val (.int .i64 (-a)),cE (-a))
  | _=>none
 | _=>none
abbrev Z2 (xs ys:Array Value):List Field→Option Bool:=HA P (eqV P 1) xs ys
def Qe (te:List TV) (o:Oper):Option Bool :=
 match o.op with
 | .binOp .neq t x y _=>match (iK te x).bind iT,(iK te y).bind iT with
  | some (.agg xs),some (.agg ys)=>match P.underlying t,P.stoodInHeld t,P.eqGuardType P.depth t with
   | some (.struct fs),false,false=>(Z2 P xs ys fs.toList).map fun r => !r
   | _,_,_=>none
  | _,_=>none
 | .binOp .eql t x y _=>match (iK te x).bind iT,(iK te y).bind iT with
  | some (.agg xs),some (.agg ys)=>match P.underlying t,P.stoodInHeld t,P.eqGuardType P.depth t with
   | some (.struct fs),false,false=>Z2 P xs ys fs.toList
   | _,_,_=>none
  | _,_=>none
 | _=>none
def yw (o:Oper):Bool :=
 match o.op with
 | .slice .. | .indexAddr .. => true
 | .call { callee := .builtin .append,.. }=>true
 | _=>false
def Z7 (te:List TV) (o:Oper):Option (Tmp×Int×Nat) :=
 match o.op with
 | .indexAddr t _ (.tmp i)=>match ty t,te[i]? with
  | some ⟨.array k _ _,_,_⟩,some (.val (.int .i64 n))=>some (i,n,k)
  | _,_=>none
 | .index t _ (.tmp i)=>match ty t,te[i]? with
  | some ⟨.array k _ _,_,_⟩,some (.val (.int .i64 n))=>some (i,n,k)
  | _,_=>none
 | _=>none
def JS (n:Int) (K:Nat→Prop):Nat→Nat→Prop
 | 0,_=>False
 | c+1,j=>aG (decide (n=(j:Int))) (K j) (JS n K c (j+1))
def Zx (te:List TV) (o:Oper):Option (Bool×Prop) :=
 match o.op with
 | .binOp .eql t x y _=>match ty t,iK te x,iK te y with
  | some ⟨.slice _ _ _ _,_,_⟩,some (.sl _ l _),some .gq=>some (false,l≠[])
  | some ⟨.slice _ _ _ _,_,_⟩,some .gq,some .gq=>some (true,True)
  | _,_,_=>none
 | _=>none
def AR (tS:List TB) (k:Nat):Bool :=
 match tS[k]? with
 | some (.cells _)=>true
 | _=>false
mutual
def nk (tS:List TB):TV→TV
 | .sl t l (.oE _) => .sl t l .no
 | .ptr id off=>match AR tS id with
  | true => .ptr id off
  | false => .unk
 | .mp id => .unk
 | .so _ _ => .unk
 | .sp _ _ _ _ => .unk
 | .agg l => .agg (pX tS l)
 | .gd l => .gd (pX tS l)
 | .fn f a b => .fn f (pX tS a) (pX tS b)
 | v=>v
def pX (tS:List TB):List TV→List TV
 | []=>[]
 | a::l=>nk tS a::pX tS l
end
def gv:Nat→List TB→List Nat
 | _,[]=>[]
 | i,.cells _::l=>i::gv (i+1) l
 | i,_::l=>gv (i+1) l
def adh (o:Oper):Bool :=
 match o.op with
 | .binOp .neq .. | .binOp .eql .. => true
 | _=>false
def QM (te:List TV) (o:Oper):Option (FuncId×List TV) :=
 match o.op with
 | .call { callee := .value f,args,argTypes }=>match iK te f,oH te args.toList with
  | some (.fn g fs cs),some xs=>if (fs++xs++cs).all gQ then some (g,bT (jq tt fs argTypes) (fs++xs++cs)) else none
  | _,_=>none
 | _=>none
def J2 (te:List TV) (tS:List TB) (o:Oper):Option (FuncId×Nat×List TV×List TV) :=
 match o.op with
 | .call { callee := .value f,args,argTypes }=>match iK te f,oH te args.toList with
  | some (.fn g fs cs),some xs=>match Qo (fs++xs++cs) with
   | some kp=>match wS kp (jq tt fs argTypes) (fs++xs++cs),tS[kp]? with
    | some targs,some (.cells ts)=>if (fs++xs++cs).any isRef&&(ji ts).isEmpty then some (g,kp,targs,ts) else none
    | _,_=>none
   | none=>none
  | _,_=>none
 | _=>none
def J3 (te:List TV) (tS:List TB) (o:Oper):Option (FuncId×Nat×List TV×List TV) :=
 match o.op with
 | .call { callee := .value f,args,argTypes }=>match iK te f,oH te args.toList with
  | some (.fn g fs cs),some xs=>match fs++xs++cs with
   | .ptr kp off::rest=>match tS[kp]? with
    | some (.cells ts)=>if rest.all gQ&&ts.all wP then some (g,kp,.ptr 0 off::bT (jq tt fs argTypes).tail rest,ts) else none
    | _=>none
   | _=>none
  | _,_=>none
 | _=>none
def aa5 (md:Nat) (te:List TV) (tS:List TB) (o:Oper):Option (FuncId×Nat×List TV×List TV) :=
 match md with
 | 0=>J2 tt te tS o
 | 2=>J3 tt te tS o
 | _=>none
def Bv (md kp:Nat):dD :=
 match md with
 | 2=>⟨some [kp],true⟩
 | _=>⟨none,true⟩
def Hv (md:Nat) (v:TV) (cs:List TV) (K:Prop):Prop :=
 match md with
 | 2=>match LN v&&cs.all wP with
  | true=>K
  | false=>False
 | _=>K
def abY (te:List TV) (o:Oper):Option (FuncId×List TV) :=
 match o.op with
 | .call { callee := .value f,args,argTypes:=_ }=>match iK te f,oH te args.toList with
  | some (.fn g fs cs),some xs=>if (fs++xs++cs).any isRef||ty.h o==1 then some (g,fs++xs++cs) else none
  | _,_=>none
 | _=>none
def ZC (md:Nat) (te:List TV) (o:Oper):Option (List TV×Func×List (Nat×LA)) :=
 match md with
 | 0=>match abY ty te o with
  | some (g,A)=>match T.X g with
   | some (fn,j)=>some (A,fn,j)
   | none=>none
  | none=>none
 | _=>none
abbrev Inl:=Func→List (Nat×LA)→List TV→List TB→(TV→List TB→Prop)→Prop
inductive Gd
 | no (b:Bool)
 | ask (d:Tmp) (b want:Bool)
 | unk
def gdT (ops:Array Oper) (te:List TV) (o:Oper):Gd :=
 match o.guard with
 | none => .no true
 | some (j,want)=>match (ops[j]?).bind (·.dst) with
  | some d=>match te[d]? with
   | some (.val (.bool b)) => .ask d b want
   | some .unk => .unk
   | some (.val _) => .no false
   | _ => .unk
  | none => .no false
abbrev KO:=List TV→List TB→List dD→Prop
def gZ:dD:=⟨some [],false⟩
def Nv (md n0 k:Nat) (tS:List TB):Nat :=
 match md with
 | 2=>n0+k
 | _=>tS.length
variable (inl:Inl)
def QN (md:Nat) (o:Oper) (te:List TV) (tS:List TB) (fs:List dD) (K:KO):Prop :=
 match ZC ty T md te o with
 | some (A,fn,j)=>inl fn j A tS fun v cU=>jm v fun v=>eD (pX tS te) fun te=>kA te o.dst v fun te=>K te cU fs
 | none=>match ty.h o==1 with
 | true=>False
 | false=>match QM tt te o with
 | some (g,targs)=>match md==0,T.N g targs with
  | true,some (p,s)=>Bh p (s.all fun _ cs facts=>impl facts (kA te o.dst (.ptr tS.length 0) fun te=>K te (tS++[.cells cs]) fs))
  | _,_=>match T.I g targs with
   | some (p,s)=>Bh p (s.all fun v _ facts=>impl facts (jm v fun v=>kA te o.dst v fun te=>K te tS (fs++[gZ])))
   | none=>False
 | none=>match aa5 tt md te tS o with
  | some (g,kp,targs,ts)=>match T.C g targs ts with
   | some (p,s)=>Bh p (s.all fun v cs facts=>impl facts (Hv md v cs (jm v fun v=>kA te o.dst v fun te=>eD cs fun cs=>ei (tS.set kp (.cells cs)) fun tS=>K te tS (fs++[Bv md kp]))))
   | none=>False
  | none=>False
def mapM (md:Nat) (te:List TV) (tS:List TB) (o:Oper):Option (TV×List TB×Prop) :=
 match md with
 | 0=>Zy P tt te tS o tS.length
 | _=>none
def Ym (md:Nat) (te:List TV) (tS:List TB) (o:Oper) (nT:Nat):Option (TV×List TV×List TB×dD×Prop) :=
 match He ty tt te tS o with
 | some (v,g,c)=>some (v,te,tS,⟨some [g],false⟩,c)
 | none=>if md=1 then none else match Qr ty tt te tS o with
  | some (g,cU)=>some (.unk,te,cU,⟨some [g],true⟩,True)
  | none=>if md=0 then (Qq ty tt te tS o nT).map fun r=>(r.1,r.2.1,r.2.2.1,⟨none,true⟩,r.2.2.2) else none
def Vj (md n0 k:Nat) (o:Oper) (te:List TV) (tS:List TB) (fs:List dD) (K:KO):Prop :=
 match Fa tS (Nv md n0 k tS) with
 | false=>False
 | true=>match abj o with
  | true=>QN ty tt T inl md o te tS fs K
  | false=>match Ym ty tt md te tS o (Nv md n0 k tS) with
   | some (v,cT,cU,f,c)=>c∧jm v fun v=>eD cT fun te=>kA te o.dst v fun te=>ei cU fun tS=>K te tS (fs++[f])
   | none=>match mapM P tt md te tS o with
   | some (v,cU,c)=>c∧jm v fun v=>kA te o.dst v fun te=>ei cU fun tS=>K te tS (fs++[⟨none,true⟩])
   | none=>match BN te o with
   | some (v,c)=>c∧kA te o.dst v fun te=>K te tS (fs++[gZ])
   | none=>match adh o,Qe P te o,Zx ty te o with
    | true,some b,_=>kA te o.dst (.val (.bool b)) fun te=>K te tS (fs++[gZ])
    | true,none,some (b,c)=>c∧kA te o.dst (.val (.bool b)) fun te=>K te tS (fs++[gZ])
    | _,_,_=>match md with
     | 1=>match bX P ty tt te tS o with
      | some q=>match yw o with
       | true=>q.2∧jm q.1 fun v=>kA te o.dst v fun te=>K te tS (fs++[gZ])
       | false=>jm q.1 fun v=>kA te o.dst v fun te=>K te tS (fs++[gZ])
      | none=>False
     | _=>match stepT P ty tt te tS o (Nv md n0 k tS) with
      | some q=>match yw o with
       | true=>q.c∧jm q.v fun v=>eD q.te fun te=>kA te o.dst v fun te=>ei q.tS fun tS=>K te tS (fs++[⟨some q.Fg,nU o⟩])
       | false=>jm q.v fun v=>kA q.te o.dst v fun te=>ei q.tS fun tS=>K te tS (fs++[⟨some q.Fg,nU o⟩])
      | none=>False
def Nu (md n0 k:Nat) (o:Oper) (te:List TV) (tS:List TB) (fs:List dD) (K:KO):Prop :=
 match Z7 ty te o with
 | some (t,n,c)=>JS n (fun j=>Dh te t (.val (.int .i64 (j:Int))) fun te=>Vj P ty tt T inl md n0 k o te tS fs K) c 0
 | none=>Vj P ty tt T inl md n0 k o te tS fs K
def opK (md n0 k:Nat) (o:Oper) (te:List TV) (tS:List TB) (fs:List dD) (K:KO):Prop :=
 match md,ty.h o with
 | 0,2=>match JD ty te tS o with
  | some (te,tS)=>eD te fun te=>ei tS fun tS=>Nu P ty tt T inl md n0 k o te tS fs K
  | none=>False
 | _,_=>Nu P ty tt T inl md n0 k o te tS fs K
def LB (o:Oper) (te:List TV) (tS:List TB) (fs:List dD) (K:KO):Prop:=kA te o.dst Nq fun te=>K te tS (fs++[gZ])
def oK (md n0:Nat) (ops:Array Oper):List Oper→Nat→List TV→List TB→List dD→KO→Prop
 | [],_,te,tS,fs,K=>K te tS fs
 | o::r,k,te,tS,fs,K=>match gdT ops te o with
  | .no true=>opK P ty tt T inl md n0 k o te tS fs fun te tS fs=>oK md n0 ops r (k+1) te tS fs K
  | .no false=>LB o te tS fs fun te tS fs=>oK md n0 ops r (k+1) te tS fs K
  | .ask d b want=>match want with
   | true=>aG b (Dh te d (.val (.bool true)) fun te=>opK P ty tt T inl md n0 k o te tS fs fun te tS fs=>oK md n0 ops r (k+1) te tS fs K) (Dh te d (.val (.bool false)) fun te=>LB o te tS fs fun te tS fs=>oK md n0 ops r (k+1) te tS fs K)
   | false=>aG b (Dh te d (.val (.bool true)) fun te=>LB o te tS fs fun te tS fs=>oK md n0 ops r (k+1) te tS fs K) (Dh te d (.val (.bool false)) fun te=>opK P ty tt T inl md n0 k o te tS fs fun te tS fs=>oK md n0 ops r (k+1) te tS fs K)
  | .unk=>False
def afk (d:Option Tmp):Nat :=
 match d with
 | some d=>2 ^ d
 | none=>0
def aa8 (o:Oper):Nat:=o.op.operands.foldl (fun a x=>match x with | .tmp t=>a ||| 2 ^ t | _=>a) 0
def defs:Code→Nat
 | .region _ ops _=>ops.foldl (fun a o=>a ||| afk o.dst) 0
 | .seq a b | .cond _ a b=>defs a ||| defs b
 | .block _ c | .loop c | .scope c=>defs c
 | _=>0
def nV:Code→Nat
 | .region _ ops _=>ops.foldl (fun a o=>a ||| aa8 o) 0
 | .seq a b=>nV a ||| nV b
 | .cond x a b=>(match x with | .tmp t=>2 ^ t | _=>0) ||| nV a ||| nV b
 | .block _ c | .loop c | .scope c=>nV c
 | _=>0
def cnt:Code→Nat
 | .seq a b=>1+cnt a+cnt b
 | .cond _ a b=>cnt a+cnt b
 | .block _ c | .scope c=>cnt c
 | .loop c=>1+cnt c
 | _=>0
def nj (sl:List (Nat×TV)) (keep:Nat):Nat→List TV→List TV
 | _,[]=>[]
 | i,v::l=>(match sl.find? fun p=>p.1==i with
  | some p=>p.2
  | none=>match keep.testBit i with
   | true=>v
   | false => .unk)::nj sl keep (i+1) l
def uT (sl:List (Nat×TV)):Nat→List TV→Option (List Prop)
 | _,[]=>some []
 | i,v::l=>match sl.find? fun p=>p.1==i with
  | some p=>match leT v p.2,uT sl (i+1) l with
   | some x,some y=>some (x++y)
   | _,_=>none
  | none=>uT sl (i+1) l
abbrev MpL:=List (Nat×(Σ kt:TT,List kt.den))
def uU (pl:List (Nat×List TV)) (mp:MpL):Nat→List TB→List TB
 | _,[]=>[]
 | i,.cells c::l=>(match pl.find? fun p=>p.1==i with
  | some p => .cells p.2
  | none => .cells c)::uU pl mp (i+1) l
 | i,.map kt c::l=>(match mp.find? fun p=>p.1==i with
  | some (_,⟨XD,c'⟩) => .map XD c'
  | none => .map kt c)::uU pl mp (i+1) l
 | i,.rows t e c z::l=>(match mp.find? fun p=>p.1==i with
  | some (_,⟨t',c'⟩) => .rows t' e c' z
  | none => .rows t e c z)::uU pl mp (i+1) l
 | i,.own e s::l => .own e s::uU pl mp (i+1) l
 | i,.none::l => .none::uU pl mp (i+1) l
def kD (pl:List (Nat×List TV)) (mp:MpL):Nat→List TB→Option (List Prop)
 | _,[]=>some []
 | i,.cells c::l=>match pl.find? fun p=>p.1==i with
  | some p=>match Fb c p.2,kD pl mp (i+1) l with
   | some x,some y=>some (x++y)
   | _,_=>none
  | none=>kD pl mp (i+1) l
 | i,.map kt c::l=>match mp.find? fun p=>p.1==i with
  | some (_,⟨XD,c'⟩)=>if h:kt=XD then match kD pl mp (i+1) l with
   | some y=>some ((h▸c=c')::y)
   | none=>none else none
  | none=>kD pl mp (i+1) l
 | i,.rows t _ c _::l=>match mp.find? fun p=>p.1==i with
  | some (_,⟨t',c'⟩)=>if h:t=t' then match kD pl mp (i+1) l with
   | some y=>some ((h▸c=c')::y)
   | none=>none else none
  | none=>kD pl mp (i+1) l
 | i,.own _ _::l=>kD pl mp (i+1) l
 | i,.none::l=>kD pl mp (i+1) l
def wO (b:Bd) (tS:List TB):List TB:=uU b.pl b.mp 0 tS++b.own.map fun p => .own p.1 p.2
abbrev KC:=DX→List TV→List TB→Prop
def YL (J:List (Nat×LA)) (i:Nat) (te:List TV) (tS:List TB):Option LA :=
 match J.find? fun p=>p.1==i with
 | some p=>some (p.2.at te tS)
 | none=>none
def RJ (B:List Nat) (b:Bd) (keep:Nat) (te:List TV) (tS:List TB) (K:Prop):Prop :=
 aG (okB (nj b.sl keep 0 te) (wO b tS)&&B.all (oa (wO b tS))) (ask (uT b.sl 0 te) (ask (kD b.pl b.mp 0 tS) (Bh b.dm K))) False
def LS (B:List Nat) (mW:List TV) (jR:List TB) (b:Bd) (te:List TV) (tS:List TB) (K:Prop):Prop :=
 aG (okB mW jR&&B.all (oa jR)) (ask (Fb te mW) (ask (rO tS jR) (Bh b.dm K))) False
def unK (f:List TV→List TB→(List TV→List TB→Prop)→Prop) (K:List TV→List TB→Prop):Nat→List TV→List TB→Prop
 | 0,te,tS=>K te tS
 | n+1,te,tS=>f te tS (unK f K n)
def J1 (P:Program):Code→Option (Array Oper)
 | .region _ ops true=>if uR P ops then none else some ops
 | _=>none
def Rw (keep:Nat) (ops:Array Oper):Bool:=ops.toList.all fun o=>match o.dst with
 | some d => !keep.testBit d
 | none=>true
def Ql (x:Operand) (te:List TV) (v:Bool) (K:List TV→Prop):Prop :=
 match x with
 | .tmp t=>Dh te t (.val (.bool v)) K
 | _=>K te
variable (B:List Nat) (J:List (Nat×LA))
def wv:Code→Nat→Nat→List TV→List TB→KC→Prop
 | .skip,_,_,te,tS,K | .label _,_,_,te,tS,K=>K .normal te tS
 | .exit id,_,_,te,tS,K=>K (.exit id) te tS
 | .ret,_,_,te,tS,K=>K .ret te tS
 | .scope c,i,lv,te,tS,K=>wv c i lv te tS K
 | .block id c,i,lv,te,tS,K=>wv c i lv te tS fun e te tS=>match e with
  | .exit jE=>if jE=id then K .normal te tS else K (.exit jE) te tS
  | .normal=>K .normal te tS
  | .ret=>K .ret te tS
 | .cond x a b,i,lv,te,tS,K=>match iK te x with
  | some (.val (.bool t))=>aG t (Ql x te true fun te=>wv a i lv te tS K) (Ql x te false fun te=>wv b (i+cnt a) lv te tS K)
  | _=>False
 | .seq a b,i,lv,te,tS,K=>match YL J i te tS with
  | some la=>match J1 P a with
   | some ops=>aG (kV ops (Region.before ops)&&Rw ((lv ||| nV b) &&& (2 ^ 400-1-(defs a))) ops) (oK P ty tt T inl 1 0 ops ops.toList 0 te tS [] fun cT _ _=>la.some fun bd=>ask (uT bd.sl 0 cT) (Bh bd.dm True)) False ∧
    la.all fun bd=>impl bd.dm (eD (nj bd.sl ((lv ||| nV b) &&& (2 ^ 400-1-(defs a))) 0 te) fun mW=>wv b (i+1+cnt a) lv mW tS K)
   | none=>wv a (i+1) (lv ||| nV b) te tS (fun e cT cU=>match e with
    | .normal=>la.some fun bd=>LS B (nj bd.sl ((lv ||| nV b) &&& (2 ^ 400-1-(defs a))) 0 te) (wO bd tS) bd cT cU True
    | .exit id=>K (.exit id) cT cU
    | .ret=>K .ret cT cU)∧la.all fun bd=>impl bd.dm (eD (nj bd.sl ((lv ||| nV b) &&& (2 ^ 400-1-(defs a))) 0 te) fun mW=>ei (wO bd tS) fun jR=>wv b (i+1+cnt a) lv mW jR K)
  | none=>wv a (i+1) (lv ||| nV b) te tS fun e te tS=>match e with
   | .normal=>wv b (i+1+cnt a) lv te tS K
   | .exit id=>K (.exit id) te tS
   | .ret=>K .ret te tS
 | .loop c,i,lv,te,tS,K=>match YL J i te tS with
  | some la=>unK (fun te tS K'=>wv c (i+1) (lv ||| nV c) te tS fun e te tS=>match e with
    | .normal=>K' te tS
    | .exit id=>K (.exit id) te tS
    | .ret=>K .ret te tS) (fun te tS=>match la.inner.at te tS with
     | .un n=>unK (fun te tS K'=>wv c (i+1) (lv ||| nV c) te tS fun e te tS=>match e with
      | .normal=>K' te tS
      | .exit id=>K (.exit id) te tS
      | .ret=>K .ret te tS) (fun _ _=>False) (min n 1000) te tS
     | la=>(la.some fun bd=>RJ B bd ((lv ||| nV c) &&& (2 ^ 400-1-(defs c))) te tS (bd.m<1000000)) ∧
   la.all fun bd=>impl bd.dm (eD (nj bd.sl ((lv ||| nV c) &&& (2 ^ 400-1-(defs c))) 0 te) fun mW=>ei (wO bd tS) fun jR=>wv c (i+1) (lv ||| nV c) mW jR fun e cT cU=>match e with
    | .normal=>la.some fun bd'=>LS B (nj bd'.sl ((lv ||| nV c) &&& (2 ^ 400-1-(defs c))) 0 te) (wO bd' tS) bd' cT cU (bd'.m<bd.m)
    | .exit id=>K (.exit id) cT cU
    | .ret=>K .ret cT cU)) (min la.Yk 1000) te tS
  | none=>False
 | .region _ ops draw,_,_,te,tS,K=>match draw with
  | true=>match uR P ops with
   | true=>aG (kV ops (Region.before ops)) (ei (tS++List.replicate ops.size .none) fun rM=>oK P ty tt T inl 2 tS.length ops ops.toList 0 te rM [] fun te tS fs=>aG (sw (Region.before ops) fs) (ei (mY tS) fun tS=>K .normal te tS) False) False
   | false=>aG (kV ops (Region.before ops)) (oK P ty tt T inl 1 0 ops ops.toList 0 te tS [] fun te _ _=>K .normal te tS) False
  | false=>oK P ty tt T inl 0 0 ops ops.toList 0 te tS [] fun te tS _=>ei (mY tS) fun tS=>K .normal te tS
 | _,_,_,_,_,_=>False
def Vx (ty:ir) (rs:List ResultVar) (mX:List (Option TT)) (s:uO) (te:List TV) (tS:List TB):Prop :=
 match A9 ty te tS rs with
 | some vs=>eD (wH tS vs) fun vs=>aG (vs.all gQ&&(refs (kO (bT mX vs))).isEmpty) (s.some fun v _ facts=>ask (Zh (kO (bT mX vs)) v) (dM facts)) False
 | none=>False
def Z1 (ty:ir) (rs:List ResultVar) (mX pL:List (Option TT)) (s:uO) (te:List TV) (tS:List TB):Prop :=
 match A9 ty te tS rs,tS with
 | some vs,.cells ts::_=>aG (vs.all gQ&&(refs (kO (bT mX vs))).isEmpty&&(ts.all gQ&&(ji (bT pL ts)).isEmpty)) (s.some fun v cs facts=>ask (Zh (kO (bT mX vs)) v) (ask (PN (bT pL ts) cs) (dM facts))) False
 | _,_=>False
def Z0 (ty:ir) (rs:List ResultVar) (pL:List (Option TT)) (s:uO) (te:List TV) (tS:List TB):Prop :=
 match A9 ty te tS rs,tS with
 | some [.ptr 0 0],.cells ts::_=>aG (ts.all gQ&&(ji (bT pL ts)).isEmpty) (s.some fun _ cs facts=>ask (PN (bT pL ts) cs) (dM facts)) False
 | _,_=>False
def NA (F:List TV→List TB→Prop) (e:DX) (te:List TV) (tS:List TB):Prop :=
 match e with
 | .exit _=>False
 | .normal=>F te tS
 | .ret=>F te tS
end
def AJ (rs:List ResultVar):Nat:=rs.foldl (fun a x=>match x with | .tmp t=>a ||| 2 ^ t | .cell t _=>a ||| 2 ^ t) 0
def Nt (n:Nat) (l:List TV):List TV:=l++List.replicate (n-l.length) .unk
def zA (f:Func):Code:=f.body.getD .skip
def ZZ (ty:ir) (rs:List ResultVar) (K:TV→List TB→Prop) (te:List TV) (tS:List TB):Prop :=
 match A9 ty te tS rs with
 | some vs=>K (kO vs) tS
 | none=>False
def GV (P:Program) (ty:ir) (tt:TypeId→Option TT) (T:gP):Nat→Inl
 | 0=>fun _ _ _ _ _=>False
 | d+1=>fun fn j A tS K=>eD (Nt fn.ntmps A) fun te=>wv P ty tt T (GV P ty tt T d) (gv 0 tS) j (zA fn) 0 (AJ fn.results.toList) te tS (NA (ZZ ty fn.results.toList K))
end Go.Tv
end
section
namespace Go.Tv
open Go Go.Di Go.Proofs
theorem tR {b:Bool} {A B:Prop} (h:aG b A B):(b=true→A)∧(b=false→B):=by cases b<;>exact⟨fun e=>by cases e<;>exact h,fun e=>by cases e<;>exact h⟩
theorem nw {b:Bool} {A:Prop} (h:aG b A False):b=true∧A:=by
 cases b
 ·exact h.elim
 ·exact⟨rfl,h⟩
theorem kK:∀ {l:List Prop},dM l↔∀ p∈l,p
 | []=>by simp[dM]
 | p::l=>by
  have:=kK (l:=l)
  simp only[dM,this,bI,forall_eq_or_imp]
theorem kJ:∀ {l:List Prop} {R:Prop},Bh l R→dM l∧R
 | [],_,h=>⟨trivial,h⟩
 | p::l,R,h=>by
  obtain⟨h1,h2⟩:=kJ h.2
  exact⟨kK.2 (by rintro q hq; rcases bI.1 hq with rfl | hq; exact h.1; exact kK.1 h1 q hq),h2⟩
theorem mc {l m:List Prop} (h:dM (l++m)):dM l∧dM m:=by
 rw[kK] at h
 exact⟨kK.2 fun p hp=>h p (List.mem_append_left _ hp),kK.2 fun p hp=>h p (List.mem_append_right _ hp)⟩
theorem lZ:∀ {l:List Prop} {R:Prop},impl l R→dM l→R
 | [],_,h,_=>h
 | p::l,R,h,k=>by
  rw[kK] at k
  exact lZ (h (k p (o5 ..))) (kK.2 fun q hq=>k q (List.mem_cons_of_mem _ hq))
theorem lH {o:Option (List Prop)} {K:Prop} (h:ask o K):∃ l,o=some l∧dM l∧K:=by
 cases o with
 | none=>exact h.elim
 | some l=>exact⟨l,rfl,kJ h⟩
theorem Fj {R K:TV→List TV→List Prop→Prop}:∀ {s:uO},s.all R→s.some K→∃ v cs fs,R v cs fs∧K v cs fs
 | .ex _ _,h,⟨x,k⟩=>Fj (h x) k
 | .res v cs fs,h,k=>⟨v,cs,fs,h,k⟩
theorem O1 {R:TV→List TV→Prop} {v:TV} {cs:List TV} {s:uO} (h:s.all fun v cs fs=>impl fs (R v cs)) (k:s.holds v cs):R v cs:=by
 obtain⟨v',jH,fs,h,rfl,rfl,hf⟩:=Fj h k
 exact lZ h hf
theorem K9 {R:TV→Prop} {v:TV} {s:uO} (h:s.all fun v _ fs=>impl fs (R v)) (k:s.vB v):R v:=by
 obtain⟨v',jH,fs,h,rfl,hf⟩:=Fj h k
 exact lZ h hf
theorem La {R:List TV→Prop} {cs:List TV} {s:uO} (h:s.all fun _ cs fs=>impl fs (R cs)) (k:s.yq cs):R cs:=by
 obtain⟨v',jH,fs,h,rfl,hf⟩:=Fj h k
 exact lZ h hf
mutual
theorem iR:∀ (v:TV) {K:TV→Prop},jm v K→K v
 | .unk,_,h=>h
 | .val v,_,h=>by cases v<;>exact h
 | .gq,_,h=>h
 | .agg l,K,h=>by simp only[jm] at h; exact dg l (K:=fun l=>K (.agg l)) h
 | .gd l,K,h=>by simp only[jm] at h; exact dg l (K:=fun l=>K (.gd l)) h
 | .sl _ _ _,_,h=>h
 | .ptr _ _,_,h=>h
 | .eL _ _ _ _,_,h=>h
 | .mp _,_,h=>h
 | .so _ _,_,h=>h
 | .sp _ _ _ _,_,h=>h
 | .fn f a b,K,h=>by simp only[jm] at h; exact dg b (K:=fun b=>K (.fn f a b)) (dg a (K:=fun a=>eD b fun b=>K (.fn f a b)) h)
theorem dg:∀ (l:List TV) {K:List TV→Prop},eD l K→K l
 | [],_,h=>h
 | a::l,K,h=>dg l (K:=fun l=>K (a::l)) (iR a (K:=fun a=>eD l fun l=>K (a::l)) h)
end
theorem eu:∀ (l:List TB) {K:List TB→Prop},ei l K→K l
 | [],_,h=>h
 | .cells c::l,K,h=>eu l (K:=fun l=>K (.cells c::l)) (dg c (K:=fun c=>ei l fun l=>K (.cells c::l)) h)
 | .none::l,K,h=>eu l (K:=fun l=>K (.none::l)) h
 | .own e s::l,K,h=>eu l (K:=fun l=>K (.own e s::l)) h
 | .map kt c::l,K,h=>eu l (K:=fun l=>K (.map kt c::l)) h
 | .rows t e c z::l,K,h=>eu l (K:=fun l=>K (.rows t e c z::l)) h
theorem oP:∀ (l:List TV) (n:Nat) (v:TV) {K:List TV→Prop},Dh l n v K→K (l.set n v)
 | [],_,_,_,h=>h
 | _::_,0,_,_,h=>h
 | a::l,n+1,v,K,h=>oP l n v (K:=fun l=>K (a::l)) h
theorem jJ {te:List TV} {dst:Option Tmp} {v:TV} {K:List TV→Prop} (h:kA te dst v K):K (mZ te dst v):=by
 cases dst with
 | none=>exact h
 | some d=>exact oP te d v h
theorem ou:∀ {l:List TV} {n:Nat} {v:TV},l[n]? = some v→l.set n v=l
 | [],_,_,h=>by simp at h
 | _::_,0,_,h=>by simp only[List.getElem?_cons_zero,aB] at h; rw[h]; rfl
 | a::l,n+1,v,h=>by rw[List.set_cons_succ,ou (l:=l) (by simpa using h)]
mutual
theorem FD:∀ {a b:TV} {l:List Prop},Zh a b=some l→dM l→a=b
 | a,b,l,h,k=>by
  unfold Zh at h
  split at h
  ·rfl
  ·split at h
   ·rename_i hk
    subst hk
    cases h
    rw[show _=_ from k.1]
   ·cases h
  ·cases h; rw[show _=_ from k.1]
  ·cases h; rw[show _=_ from k.1]
  ·rfl
  ·rw[vF h k]
  ·rw[vF h k]
  ·split at h
   ·rename_i ht; subst ht; cases h; cases (show _=_ from k.1); rfl
   ·cases h
  ·split at h
   ·rename_i ht; subst ht; cases h; cases (show _=_ from k.1); rfl
   ·cases h
  ·split at h
   ·rename_i ht
    subst ht
    split at h
    ·rename_i hg; subst hg; cases h; cases (show _=_ from k.1); rfl
    ·cases h
   ·cases h
  ·split at h
   ·rename_i ht; obtain⟨rfl,rfl⟩:=ht; rfl
   ·cases h
  ·split at h
   ·rename_i ht; subst ht; rfl
   ·cases h
  ·split at h
   ·rename_i ht; obtain⟨rfl,rfl⟩:=ht; rfl
   ·cases h
  ·split at h
   ·rename_i ht
    subst ht
    cases h
    obtain⟨k1,k2,k3⟩:=k
    cases (show _=_ from k1); cases (show _=_ from k2); cases (show _=_ from k3.1); rfl
   ·cases h
  ·split at h
   ·rename_i hf
    subst hf
    split at h
    ·rename_i x y h1 h2
     cases h
     obtain⟨k1,k2⟩:=mc k
     rw[vF h1 k1,vF h2 k2]
    ·cases h
   ·cases h
  ·cases h
theorem vF:∀ {a b:List TV} {l:List Prop},PN a b=some l→dM l→a=b
 | [],[],_,_,_=>rfl
 | a::l,b::m,_,h,k=>by
  simp only[PN] at h
  split at h
  ·rename_i x y h1 h2
   cases h
   obtain⟨k1,k2⟩:=mc k
   rw[FD h1 k1,vF h2 k2]
  ·cases h
 | [],_::_,_,h,_=>by simp[PN] at h
 | _::_,[],_,h,_=>by simp[PN] at h
end
def LeV (u v:TV):Prop:=∀ l m,wD l m→wD (u::l) (v::m)
mutual
theorem J4:∀ {v u:TV} {l:List Prop},leT v u=some l→dM l→LeV u v
 | v,u,l,h,k=>by
  unfold leT at h
  split at h
  ·exact fun _ _ => .unk
  ·split at h
   ·rename_i ht
    subst ht
    cases h
    cases (show _=_ from k.1)
    exact fun _ _ => .no
   ·cases h
  ·split at h
   ·split at h
    ·rename_i ht
     subst ht
     cases h
     cases (show _=_ from k.1)
     exact fun _ _ => .oE
    ·cases h
   ·cases h
  ·cases h
   cases (show _=_ from k.1)
   exact fun _ _ => .gq
  ·rename_i a b
   have:=xe h k
   exact fun _ _ => .agg this
  ·rw[FD h k]
   exact fun _ _ => .same
theorem xe:∀ {v u:List TV} {l:List Prop},Fb v u=some l→dM l→wD u v
 | [],[],_,_,_ => .nil
 | a::l,b::m,_,h,k=>by
  simp only[Fb] at h
  split at h
  ·rename_i x y h1 h2
   cases h
   obtain⟨k1,k2⟩:=mc k
   exact J4 h1 k1 _ _ (xe h2 k2)
  ·cases h
 | [],_::_,_,h,_=>by simp[Fb] at h
 | _::_,[],_,h,_=>by simp[Fb] at h
end
theorem WU:∀ {v u:List TB} {l:List Prop},rO v u=some l→dM l→C8 u v
 | v,u,l,h,k=>by
  induction u generalizing v l with
  | nil=>exact .nil
  | cons b m ih =>
   cases v with
   | nil =>
    cases b with
    | own e s=>exact .new (ih _ _ h k)
    | _=>simp[rO] at h
   | cons a v =>
    cases b with
    | none=>exact .none (ih _ _ (by simpa [rO] using h) k)
    | cells c =>
     cases a with
     | cells d =>
      simp only[rO] at h
      split at h
      ·rename_i x y h1 h2
       cases h
       obtain⟨k1,k2⟩:=mc k
       exact .cells (xe h1 k1) (ih _ _ h2 k2)
      ·cases h
     | _=>simp[rO] at h
    | own e s =>
     cases a with
     | own e' s' =>
      simp only[rO] at h
      split at h
      ·rename_i he
       obtain⟨rfl,rfl⟩:=he
       exact .own (ih _ _ h k)
      ·cases h
     | _=>simp[rO] at h
    | map kt c =>
     cases a with
     | map XD c' =>
      simp only[rO] at h
      split at h
      ·rename_i he
       subst he
       split at h
       ·rename_i y h2
        cases h
        obtain⟨k1,k2⟩:=k
        cases (show _=_ from k1)
        exact .map (ih _ _ h2 k2)
       ·cases h
      ·cases h
     | _=>simp[rO] at h
    | rows t e c z =>
     cases a with
     | rows t' e' c' z' =>
      simp only[rO] at h
      split at h
      ·rename_i he
       subst he
       split at h
       ·rename_i hez
        obtain⟨rfl,rfl⟩:=hez
        split at h
        ·rename_i y h2
         cases h
         obtain⟨k1,k2⟩:=k
         cases (show _=_ from k1)
         exact .rows (ih _ _ h2 k2)
        ·cases h
       ·cases h
      ·cases h
     | _=>simp[rO] at h
theorem xC {sl:List (Nat×TV)} {keep:Nat}:∀ {i:Nat} {te:List TV} {l:List Prop},uT sl i te=some l→dM l→wD (nj sl keep i te) te
 | _,[],_,_,_ => .nil
 | i,v::te,l,h,k=>by
  simp only[uT] at h
  simp only[nj]
  split at h
  ·rename_i p hp
   split at h
   ·rename_i x y h1 h2
    cases h
    obtain⟨k1,k2⟩:=mc k
    exact J4 h1 k1 _ _ (xC h2 k2)
   ·cases h
  ·rename_i hp
   split
   ·exact .same (xC h k)
   ·exact .unk (xC h k)
theorem jO {pl:List (Nat×List TV)} {mp:MpL} {own:List (Nat×Nat)}:∀ {i:Nat} {tS:List TB} {l:List Prop},kD pl mp i tS=some l→dM l→C8 (uU pl mp i tS++own.map fun p=>TB.own p.1 p.2) tS
 | _,[],_,_,_=>Iq own
 | i,.none::tS,l,h,k=>by
  simp only[kD] at h
  exact .none (jO h k)
 | i,.own _ _::tS,l,h,k=>by
  simp only[kD] at h
  exact .own (jO h k)
 | i,.cells c::tS,l,h,k=>by
  simp only[kD] at h
  simp only[uU,List.cons_append]
  split at h
  ·rename_i p hp
   split at h
   ·rename_i x y h1 h2
    cases h
    obtain⟨k1,k2⟩:=mc k
    exact .cells (xe h1 k1) (jO h2 k2)
   ·cases h
  ·exact .cells (wD.refl c) (jO h k)
 | i,.map kt c::tS,l,h,k=>by
  simp only[kD] at h
  simp only[uU,List.cons_append]
  split at h
  ·rename_i a XD c' hp
   split at h
   ·rename_i he
    subst he
    split at h
    ·rename_i y h2
     cases h
     obtain⟨k1,k2⟩:=k
     cases (show c=c' from k1)
     exact .map (jO h2 k2)
    ·cases h
   ·cases h
  ·exact .map (jO h k)
 | i,.rows kt e c z::tS,l,h,k=>by
  simp only[kD] at h
  simp only[uU,List.cons_append]
  split at h
  ·rename_i a XD c' hp
   split at h
   ·rename_i he
    subst he
    split at h
    ·rename_i y h2
     cases h
     obtain⟨k1,k2⟩:=k
     cases (show c=c' from k1)
     exact .rows (jO h2 k2)
    ·cases h
   ·cases h
  ·exact .rows (jO h k)
variable {P:Program} {ty:ir} {tt:TypeId→Option TT} {T:gP} {ι ι' w:mm} {S S':ax} {te mW:List TV} {env:List DV} {tS jR:List TB} {aM:bV} {call:bP} {yf:fI} {o:Oper} {aH nT:Nat} {B:List Nat} {r:TR} {ops:Array Oper} {L:Nat} {fn:FuncId} {iJ:Bool}
theorem K8 {v:TV} {c:Prop} (h:BN te o=some (v,c)) (hc:c):bX P ty tt te tS o=some (v,True):=by
 unfold BN at h
 split at h
 ·rename_i t x y _ ho
  split at h
  ·rename_i a b h1 h2
   cases h
   have:jU P (do eqGuard .add t x y (.int .i64 a) (.int .i64 b); binOp .add t (.int .i64 a) (.int .i64 b))=some (.val (.int .i64 (IntKind.i64.wrap (a+b)))):=rfl
   simp only[bX,ho,h1,h2,Option.bind_some,iT,this,wE,Option.map_some,BA hc.1 hc.2]
  ·cases h
 ·rename_i t x y _ ho
  split at h
  ·rename_i a b h1 h2
   cases h
   have:jU P (do eqGuard .sub t x y (.int .i64 a) (.int .i64 b); binOp .sub t (.int .i64 a) (.int .i64 b))=some (.val (.int .i64 (IntKind.i64.wrap (a-b)))):=rfl
   simp only[bX,ho,h1,h2,Option.bind_some,iT,this,wE,Option.map_some,BA hc.1 hc.2]
  ·cases h
 ·rename_i t x y _ ho
  split at h
  ·rename_i a b h1 h2
   cases h
   have:jU P (do eqGuard .mul t x y (.int .i64 a) (.int .i64 b); binOp .mul t (.int .i64 a) (.int .i64 b))=some (.val (.int .i64 (IntKind.i64.wrap (a*b)))):=rfl
   simp only[bX,ho,h1,h2,Option.bind_some,iT,this,wE,Option.map_some,BA hc.1 hc.2]
  ·cases h
 ·rename_i t x ho
  split at h
  ·rename_i a h1
   cases h
   have:jU P (Op.unary .neg (.int .i64 a))=some (.val (.int .i64 (IntKind.i64.wrap (-a)))):=by rw[← Int.zero_sub]; rfl
   simp only[bX,ho,h1,Option.bind_some,iT,this,wE,Option.map_some,BA hc.1 hc.2]
  ·cases h
 ·cases h
theorem Xm {t:TypeId} {xs ys:Array Value} {b:Bool} (ht:P.underlying t=some (.struct (P.fieldsOf t))) (hp:P.stoodInHeld t=false) (hm:P.eqGuardType P.depth t=false) (hf:cg P (Op.eqFields 9999 xs ys (P.fieldsOf t).toList)=some b) (x y:Operand) :
  jU P (do eqGuard .eql t x y (.agg xs) (.agg ys); binOp .eql t (.agg xs) (.agg ys))=some (.val (.bool b)):=by
 have h1:cg P (eqGuard .eql t x y (.agg xs) (.agg ys))=some ():=by
  simp only[eqGuard]
  simp only[gl,aF,if_false,cG,mE,Option.bind_some,hm,Bool.not_false,if_true]
  rfl
 have h2:cg P (binOp .eql t (.agg xs) (.agg ys))=some (.bool b):=by
  simp only[binOp,cG,Op.equal,Op.maxDepth,rz 9999 t xs ys ht hp,hf,Option.bind_some]
  rfl
 rw[jU,cG,h1,Option.bind_some,h2]
 rfl
theorem MQ {xs ys:Array Value} {fs:List Field} {b:Bool} (h:Z2 P xs ys fs=some b):cg P (Op.eqFields 9999 xs ys fs)=some b:=Ci (fun _ _ _ _ h=>Kc (by omega) h) h
theorem TX {b:Bool} (h:Qe P te o=some b):bX P ty tt te tS o=some (.val (.bool b),True):=by
 unfold Qe at h
 split at h
 ·rename_i t x y _ ho
  split at h
  ·rename_i xs ys h1 h2
   split at h
   ·rename_i fs h3 h4 h5
    simp only[ai] at h
    obtain⟨r,h6,rfl⟩:=h
    have e:=Xl (P:=P) (q9 h3) h4 h5 (b:=r) (by simp only[Program.fieldsOf,h3]; exact MQ h6) x y
    simp only[bX,ho,h1,h2,e,wE,Option.map_some]
   ·cases h
  ·cases h
 ·rename_i t x y _ ho
  split at h
  ·rename_i xs ys h1 h2
   split at h
   ·rename_i fs h3 h4 h5
    have e:=Xm (P:=P) (q9 h3) h4 h5 (b:=b) (by simp only[Program.fieldsOf,h3]; exact MQ h) x y
    simp only[bX,ho,h1,h2,e,wE,Option.map_some]
   ·cases h
  ·cases h
 ·cases h
end Go.Tv
end
