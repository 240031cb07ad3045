import Derived.Test.YtedcgbkilmlbhaaPk06
section
namespace Go.Tv
open Go Go.Di Go.Proofs
def aL (b:Bool) (A B:Prop):Prop :=
 match b with
 | true=>A
 | false=>B
def xu:List Prop→Prop→Prop
 | [],R=>R
 | p::l,R=>p∧xu l R
def cI:List Prop→Prop
 | []=>True
 | p::l=>p∧cI l
def impl:List Prop→Prop→Prop
 | [],R=>R
 | p::l,R=>p→impl l R
inductive qO:Type 1
 | ex (α:Type) (k:α→qO)
 | res (v:TV) (cs:List TV) (facts:List Prop)
def qO.all:qO→(TV→List TV→List Prop→Prop)→Prop
 | .ex _ k,K=>∀ x,(k x).all K
 | .res v cs fs,K=>K v cs fs
def qO.some:qO→(TV→List TV→List Prop→Prop)→Prop
 | .ex _ k,K=>∃ x,(k x).some K
 | .res v cs fs,K=>K v cs fs
def qO.holds (s:qO) (v:TV) (cs:List TV):Prop:=s.some fun v' jj fs=>v=v'∧cs=jj∧cI fs
def qO.qZ (s:qO) (v:TV):Prop:=s.some fun v' _ fs=>v=v'∧cI fs
def qO.uq (s:qO) (cs:List TV):Prop:=s.some fun _ jj fs=>cs=jj∧cI fs
abbrev Sp:=Option (List Prop×qO)
structure Bd where
 sl:List (Nat×TV)
 pl:List (Nat×List TV):=[]
 own:List (Nat×Nat):=[]
 eE:List Prop:=[]
 mp:List (Nat×(Σ kt:TT,List kt.den)):=[]
 m:Nat:=0
inductive LA:Type 1
 | ex (α:Type) (k:α→LA)
 | st (b:Bd)
 | un (n:Nat)
 | dep (f:List TV→List TB→LA)
def LA.at (la:LA) (te:List TV) (tS:List TB):LA :=
 match la with
 | .dep f=>f te tS
 | la=>la
def Vt (te:List TV) (i:Nat) (k:List Int→LA):LA :=
 match te.getD i .unk with
 | .sl (.int .i64) l _=>k l
 | _ => .un 0
def LA.all:LA→(Bd→Prop)→Prop
 | .ex _ k,K=>∀ x,(k x).all K
 | .st b,K=>K b
 | _,_=>True
def LA.some:LA→(Bd→Prop)→Prop
 | .ex _ k,K=>∃ x,(k x).some K
 | .st b,K=>K b
 | _,_=>False
structure gN where
 I:FuncId→List TV→Sp
 C:FuncId→List TV→List TV→Sp
 N:FuncId→List TV→Sp
 X:FuncId→Option (Func×List (Nat×LA)):=fun _=>none
structure ow (T:gN) (aD:bq) (call:bg):Prop where
 I:∀ g a p s,T.I g a=some (p,s)→cI p→oA aD g a fun v=>s.qZ v
 C:∀ g a c p s,T.C g a c=some (p,s)→cI p→vw call g a c fun v cs=>s.holds v cs
 N:∀ g a p s,T.N g a=some (p,s)→cI p→xG aD call g a fun cs=>s.uq cs
mutual
def fP (v:TV) (K:TV→Prop):Prop :=
 match v with
 | .unk=>K .unk
 | .val (.int k n)=>K (.val (.int k n))
 | .val (.bool b)=>K (.val (.bool b))
 | .val v=>K (.val v)
 | .gl=>K .gl
 | .agg l=>cS l fun l=>K (.agg l)
 | .fB l=>cS l fun l=>K (.fB l)
 | .sl t l ap=>K (.sl t l ap)
 | .ptr id off=>K (.ptr id off)
 | .dB t l i off=>K (.dB t l i off)
 | .mp id=>K (.mp id)
 | .so g t=>K (.so g t)
 | .sp g t i off=>K (.sp g t i off)
 | .fn f a b=>cS a fun a=>cS b fun b=>K (.fn f a b)
def cS (l:List TV) (K:List TV→Prop):Prop :=
 match l with
 | []=>K []
 | a::l=>fP a fun a=>cS l fun l=>K (a::l)
end
def cL (l:List TB) (K:List TB→Prop):Prop :=
 match l with
 | []=>K []
 | .cells c::l=>cS c fun c=>cL l fun l=>K (.cells c::l)
 | .none::l=>cL l fun l=>K (.none::l)
 | .own e s::l=>cL l fun l=>K (.own e s::l)
 | .map kt c::l=>cL l fun l=>K (.map kt c::l)
 | .rows t e c z::l=>cL l fun l=>K (.rows t e c z::l)
def zN:List TV→Nat→TV→(List TV→Prop)→Prop
 | [],_,_,K=>K []
 | _::l,0,v,K=>K (v::l)
 | a::l,n+1,v,K=>zN l n v fun l=>K (a::l)
def gR (te:List TV) (dst:Option Tmp) (v:TV) (K:List TV→Prop):Prop :=
 match dst with
 | some d=>zN te d v K
 | none=>K te
mutual
def Ul:TV→TV→Option (List Prop)
 | .unk,.unk=>some []
 | .val (.int k a),.val (.int k' b)=>if k=k' then some [a=b] else none
 | .val (.bool a),.val (.bool b)=>some [a=b]
 | .val a,.val b=>some [a=b]
 | .gl,.gl=>some []
 | .agg l,.agg m=>Lg l m
 | .fB l,.fB m=>Lg l m
 | .sl t l .no,.sl t' l' .no=>if h:t=t' then some [h▸l=l'] else none
 | .sl t l .full,.sl t' l' .full=>if h:t=t' then some [h▸l=l'] else none
 | .sl t l (.nY g),.sl t' l' (.nY g')=>if h:t=t' then if g=g' then some [h▸l=l'] else none else none
 | .ptr i o,.ptr i' o'=>if i=i'∧o=o' then some [] else none
 | .mp i,.mp i'=>if i=i' then some [] else none
 | .so i t,.so i' t'=>if i=i'∧t=t' then some [] else none
 | .dB t l i o,.dB t' l' i' o'=>if h:t=t' then some [h▸l=l',i=i',o=o'] else none
 | .fn f a b,.fn f' a' b'=>if f=f' then match Lg a a',Lg b b' with
  | some x,some y=>some (x++y)
  | _,_=>none else none
 | _,_=>none
def Lg:List TV→List TV→Option (List Prop)
 | [],[]=>some []
 | a::l,b::m=>match Ul a b,Lg l m with
  | some x,some y=>some (x++y)
  | _,_=>none
 | _,_=>none
end
mutual
def leT:TV→TV→Option (List Prop)
 | _,.unk=>some []
 | .sl t l _,.sl t' l' .no=>if h:t=t' then some [h▸l=l'] else none
 | .sl t l .full,.sl t' l' (.nY _)=>match l with
  | []=>if t=t' then some [[]=l'] else none
  | _::_=>none
 | .gl,.sl _ l _=>some [[]=l]
 | .agg l,.agg m=>BF l m
 | v,u=>Ul v u
def BF:List TV→List TV→Option (List Prop)
 | [],[]=>some []
 | a::l,b::m=>match leT a b,BF l m with
  | some x,some y=>some (x++y)
  | _,_=>none
 | _,_=>none
end
def nV:List TB→List TB→Option (List Prop)
 | _,[]=>some []
 | _::l,.none::m=>nV l m
 | .cells a::l,.cells b::m=>match BF a b,nV l m with
  | some x,some y=>some (x++y)
  | _,_=>none
 | .own e s::l,.own e' s'::m=>if e=e'∧s=s' then nV l m else none
 | .map kt a::l,.map R9 b::m=>if h:kt=R9 then match nV l m with
  | some y=>some ((h▸a=b)::y)
  | none=>none else none
 | .rows t e a z::l,.rows t' e' b z'::m=>if h:t=t' then if e=e'∧z=z' then match nV l m with
  | some y=>some ((h▸a=b)::y)
  | none=>none else none else none
 | [],.own _ _::m=>nV [] m
 | _,_=>none
def ask (o:Option (List Prop)) (K:Prop):Prop :=
 match o with
 | some l=>xu l K
 | none=>False
section
variable (P:Program) (ty:eS) (tt:TypeId→Option TT) (T:gN)
def cq (n:Int):Prop := -9223372036854775808≤n∧n≤9223372036854775807
def xU (te:List TV) (o:Oper):Option (TV×Prop) :=
 match o.op with
 | .binOp .add _ x y _=>match eZ te x,eZ te y with
  | some (.val (.int .i64 a)),some (.val (.int .i64 b))=>some (.val (.int .i64 (a+b)),cq (a+b))
  | _,_=>none
 | .binOp .sub _ x y _=>match eZ te x,eZ te y with
  | some (.val (.int .i64 a)),some (.val (.int .i64 b))=>some (.val (.int .i64 (a-b)),cq (a-b))
  | _,_=>none
 | .binOp .mul _ x y _=>match eZ te x,eZ te y with
  | some (.val (.int .i64 a)),some (.val (.int .i64 b))=>some (.val (.int .i64 (a*b)),cq (a*b))
  | _,_=>none
 | .unOp .neg _ x=>match eZ te x with
  | some (.val (.int .i64 a))=>some (.val (.int .i64 (-a)),cq (-a))
  | _=>none
 | _=>none
abbrev Va (xs ys:Array Value):List Field→Option Bool:=Dy P (Yh P 1) xs ys
def LG (te:List TV) (o:Oper):Option Bool :=
 match o.op with
 | .binOp .neq t x y _=>match (eZ te x).bind fG,(eZ te y).bind fG with
  | some (.agg xs),some (.agg ys)=>match P.underlying t,P.stoodInHeld t,P.eqGuardType P.depth t with
   | some (.struct fs),false,false=>(Va P xs ys fs.toList).map fun r => !r
   | _,_,_=>none
  | _,_=>none
 | .binOp .eql t x y _=>match (eZ te x).bind fG,(eZ te y).bind fG with
  | some (.agg xs),some (.agg ys)=>match P.underlying t,P.stoodInHeld t,P.eqGuardType P.depth t with
   | some (.struct fs),false,false=>Va P xs ys fs.toList
   | _,_,_=>none
  | _,_=>none
 | _=>none
def uv (o:Oper):Bool :=
 match o.op with
 | .slice .. | .indexAddr .. => true
 | .call { callee := .builtin .append,.. }=>true
 | _=>false
def Ve (te:List TV) (o:Oper):Option (Tmp×Int×Nat) :=
 match o.op with
 | .indexAddr t _ (.tmp i)=>match ty t,te[i]? with
  | some ⟨.array k _ _,_,_⟩,some (.val (.int .i64 n))=>some (i,n,k)
  | _,_=>none
 | .index t _ (.tmp i)=>match ty t,te[i]? with
  | some ⟨.array k _ _,_,_⟩,some (.val (.int .i64 n))=>some (i,n,k)
  | _,_=>none
 | _=>none
def FL (n:Int) (K:Nat→Prop):Nat→Nat→Prop
 | 0,_=>False
 | c+1,j=>aL (decide (n=(j:Int))) (K j) (FL n K c (j+1))
def UD (te:List TV) (o:Oper):Option (Bool×Prop) :=
 match o.op with
 | .binOp .eql t x y _=>match ty t,eZ te x,eZ te y with
  | some ⟨.slice _ _ _ _,_,_⟩,some (.sl _ l _),some .gl=>some (false,l≠[])
  | some ⟨.slice _ _ _ _,_,_⟩,some .gl,some .gl=>some (true,True)
  | _,_,_=>none
 | _=>none
def wS (tS:List TB) (k:Nat):Bool :=
 match tS[k]? with
 | some (.cells _)=>true
 | _=>false
mutual
def jP (tS:List TB):TV→TV
 | .sl t l (.nY _) => .sl t l .no
 | .ptr id off=>match wS tS id with
  | true => .ptr id off
  | false => .unk
 | .mp id => .unk
 | .so _ _ => .unk
 | .sp _ _ _ _ => .unk
 | .agg l => .agg (mo tS l)
 | .fB l => .fB (mo tS l)
 | .fn f a b => .fn f (mo tS a) (mo tS b)
 | v=>v
def mo (tS:List TB):List TV→List TV
 | []=>[]
 | a::l=>jP tS a::mo tS l
end
def ee:Nat→List TB→List Nat
 | _,[]=>[]
 | i,.cells _::l=>i::ee (i+1) l
 | i,_::l=>ee (i+1) l
def Zv (o:Oper):Bool :=
 match o.op with
 | .binOp .neq .. | .binOp .eql .. => true
 | _=>false
def Mj (te:List TV) (o:Oper):Option (FuncId×List TV) :=
 match o.op with
 | .call { callee := .value f,args,argTypes }=>match eZ te f,kX te args.toList with
  | some (.fn g fs cs),some xs=>if (fs++xs++cs).all eC then some (g,bk (fR tt fs argTypes) (fs++xs++cs)) else none
  | _,_=>none
 | _=>none
def FR (te:List TV) (tS:List TB) (o:Oper):Option (FuncId×Nat×List TV×List TV) :=
 match o.op with
 | .call { callee := .value f,args,argTypes }=>match eZ te f,kX te args.toList with
  | some (.fn g fs cs),some xs=>match LQ (fs++xs++cs) with
   | some kp=>match sL kp (fR tt fs argTypes) (fs++xs++cs),tS[kp]? with
    | some targs,some (.cells ts)=>if (fs++xs++cs).any isRef&&(fN ts).isEmpty then some (g,kp,targs,ts) else none
    | _,_=>none
   | none=>none
  | _,_=>none
 | _=>none
def FT (te:List TV) (tS:List TB) (o:Oper):Option (FuncId×Nat×List TV×List TV) :=
 match o.op with
 | .call { callee := .value f,args,argTypes }=>match eZ te f,kX te args.toList with
  | some (.fn g fs cs),some xs=>match fs++xs++cs with
   | .ptr kp off::rest=>match tS[kp]? with
    | some (.cells ts)=>if rest.all eC&&ts.all sI then some (g,kp,.ptr 0 off::bk (fR tt fs argTypes).tail rest,ts) else none
    | _=>none
   | _=>none
  | _,_=>none
 | _=>none
def VY (md:Nat) (te:List TV) (tS:List TB) (o:Oper):Option (FuncId×Nat×List TV×List TV) :=
 match md with
 | 0=>FR tt te tS o
 | 2=>FT tt te tS o
 | _=>none
def xC (md kp:Nat):cz :=
 match md with
 | 2=>⟨some [kp],true⟩
 | _=>⟨none,true⟩
def Du (md:Nat) (v:TV) (cs:List TV) (K:Prop):Prop :=
 match md with
 | 2=>match HA v&&cs.all sI with
  | true=>K
  | false=>False
 | _=>K
def Yu (te:List TV) (o:Oper):Option (FuncId×List TV) :=
 match o.op with
 | .call { callee := .value f,args,argTypes:=_ }=>match eZ te f,kX te args.toList with
  | some (.fn g fs cs),some xs=>if (fs++xs++cs).any isRef||ty.h o==1 then some (g,fs++xs++cs) else none
  | _,_=>none
 | _=>none
def UG (md:Nat) (te:List TV) (o:Oper):Option (List TV×Func×List (Nat×LA)) :=
 match md with
 | 0=>match Yu ty te o with
  | some (g,A)=>match T.X g with
   | some (fn,j)=>some (A,fn,j)
   | none=>none
  | none=>none
 | _=>none
abbrev Ym:=Func→List (Nat×LA)→List TV→List TB→(TV→List TB→Prop)→Prop
inductive Gd
 | no (b:Bool)
 | ask (d:Tmp) (b want:Bool)
 | unk
def Yf (ops:Array Oper) (te:List TV) (o:Oper):Gd :=
 match o.guard with
 | none => .no true
 | some (j,want)=>match (ops[j]?).bind (·.dst) with
  | some d=>match te[d]? with
   | some (.val (.bool b)) => .ask d b want
   | some .unk => .unk
   | some (.val _) => .no false
   | _ => .unk
  | none => .no false
abbrev KO:=List TV→List TB→List cz→Prop
def eM:cz:=⟨some [],false⟩
def Jf (md n0 k:Nat) (tS:List TB):Nat :=
 match md with
 | 2=>n0+k
 | _=>tS.length
variable (inl:Ym)
def Mk (md:Nat) (o:Oper) (te:List TV) (tS:List TB) (fs:List cz) (K:KO):Prop :=
 match UG ty T md te o with
 | some (A,fn,j)=>inl fn j A tS fun v bU=>fP v fun v=>cS (mo tS te) fun te=>gR te o.dst v fun te=>K te bU fs
 | none=>match ty.h o==1 with
 | true=>False
 | false=>match Mj tt te o with
 | some (g,targs)=>match md==0,T.N g targs with
  | true,some (p,s)=>xu p (s.all fun _ cs facts=>impl facts (gR te o.dst (.ptr tS.length 0) fun te=>K te (tS++[.cells cs]) fs))
  | _,_=>match T.I g targs with
   | some (p,s)=>xu p (s.all fun v _ facts=>impl facts (fP v fun v=>gR te o.dst v fun te=>K te tS (fs++[eM])))
   | none=>False
 | none=>match VY tt md te tS o with
  | some (g,kp,targs,ts)=>match T.C g targs ts with
   | some (p,s)=>xu p (s.all fun v cs facts=>impl facts (Du md v cs (fP v fun v=>gR te o.dst v fun te=>cS cs fun cs=>cL (tS.set kp (.cells cs)) fun tS=>K te tS (fs++[xC md kp]))))
   | none=>False
  | none=>False
def mapM (md:Nat) (te:List TV) (tS:List TB) (o:Oper):Option (TV×List TB×Prop) :=
 match md with
 | 0=>UE P tt te tS o tS.length
 | _=>none
def SX (md:Nat) (te:List TV) (tS:List TB) (o:Oper) (nT:Nat):Option (TV×List TV×List TB×cz×Prop) :=
 match Dh ty tt te tS o with
 | some (v,g,c)=>some (v,te,tS,⟨some [g],false⟩,c)
 | none=>if md=1 then none else match LU ty tt te tS o with
  | some (g,bU)=>some (.unk,te,bU,⟨some [g],true⟩,True)
  | none=>if md=0 then (LS ty tt te tS o nT).map fun r=>(r.1,r.2.1,r.2.2.1,⟨none,true⟩,r.2.2.2) else none
def PW (md n0 k:Nat) (o:Oper) (te:List TV) (tS:List TB) (fs:List cz) (K:KO):Prop :=
 match BD tS (Jf md n0 k tS) with
 | false=>False
 | true=>match Wa o with
  | true=>Mk ty tt T inl md o te tS fs K
  | false=>match SX ty tt md te tS o (Jf md n0 k tS) with
   | some (v,bT,bU,f,c)=>c∧fP v fun v=>cS bT fun te=>gR te o.dst v fun te=>cL bU fun tS=>K te tS (fs++[f])
   | none=>match mapM P tt md te tS o with
   | some (v,bU,c)=>c∧fP v fun v=>gR te o.dst v fun te=>cL bU fun tS=>K te tS (fs++[⟨none,true⟩])
   | none=>match xU te o with
   | some (v,c)=>c∧gR te o.dst v fun te=>K te tS (fs++[eM])
   | none=>match Zv o,LG P te o,UD ty te o with
    | true,some b,_=>gR te o.dst (.val (.bool b)) fun te=>K te tS (fs++[eM])
    | true,none,some (b,c)=>c∧gR te o.dst (.val (.bool b)) fun te=>K te tS (fs++[eM])
    | _,_,_=>match md with
     | 1=>match bh P ty tt te tS o with
      | some q=>match uv o with
       | true=>q.2∧fP q.1 fun v=>gR te o.dst v fun te=>K te tS (fs++[eM])
       | false=>fP q.1 fun v=>gR te o.dst v fun te=>K te tS (fs++[eM])
      | none=>False
     | _=>match stepT P ty tt te tS o (Jf md n0 k tS) with
      | some q=>match uv o with
       | true=>q.c∧fP q.v fun v=>cS q.te fun te=>gR te o.dst v fun te=>cL q.tS fun tS=>K te tS (fs++[⟨some q.BL,kA o⟩])
       | false=>fP q.v fun v=>gR q.te o.dst v fun te=>cL q.tS fun tS=>K te tS (fs++[⟨some q.BL,kA o⟩])
      | none=>False
def Je (md n0 k:Nat) (o:Oper) (te:List TV) (tS:List TB) (fs:List cz) (K:KO):Prop :=
 match Ve ty te o with
 | some (t,n,c)=>FL n (fun j=>zN te t (.val (.int .i64 (j:Int))) fun te=>PW P ty tt T inl md n0 k o te tS fs K) c 0
 | none=>PW P ty tt T inl md n0 k o te tS fs K
def XA (md n0 k:Nat) (o:Oper) (te:List TV) (tS:List TB) (fs:List cz) (K:KO):Prop :=
 match md,ty.h o with
 | 0,2=>match Fv ty te tS o with
  | some (te,tS)=>cS te fun te=>cL tS fun tS=>Je P ty tt T inl md n0 k o te tS fs K
  | none=>False
 | _,_=>Je P ty tt T inl md n0 k o te tS fs K
def Hq (o:Oper) (te:List TV) (tS:List TB) (fs:List cz) (K:KO):Prop:=gR te o.dst Jb fun te=>K te tS (fs++[eM])
def lp (md n0:Nat) (ops:Array Oper):List Oper→Nat→List TV→List TB→List cz→KO→Prop
 | [],_,te,tS,fs,K=>K te tS fs
 | o::r,k,te,tS,fs,K=>match Yf ops te o with
  | .no true=>XA P ty tt T inl md n0 k o te tS fs fun te tS fs=>lp md n0 ops r (k+1) te tS fs K
  | .no false=>Hq o te tS fs fun te tS fs=>lp md n0 ops r (k+1) te tS fs K
  | .ask d b want=>match want with
   | true=>aL b (zN te d (.val (.bool true)) fun te=>XA P ty tt T inl md n0 k o te tS fs fun te tS fs=>lp md n0 ops r (k+1) te tS fs K) (zN te d (.val (.bool false)) fun te=>Hq o te tS fs fun te tS fs=>lp md n0 ops r (k+1) te tS fs K)
   | false=>aL b (zN te d (.val (.bool true)) fun te=>Hq o te tS fs fun te tS fs=>lp md n0 ops r (k+1) te tS fs K) (zN te d (.val (.bool false)) fun te=>XA P ty tt T inl md n0 k o te tS fs fun te tS fs=>lp md n0 ops r (k+1) te tS fs K)
  | .unk=>False
def aa3 (d:Option Tmp):Nat :=
 match d with
 | some d=>2 ^ d
 | none=>0
def V1 (o:Oper):Nat:=o.op.operands.foldl (fun a x=>match x with | .tmp t=>a ||| 2 ^ t | _=>a) 0
def defs:Code→Nat
 | .region _ ops _=>ops.foldl (fun a o=>a ||| aa3 o.dst) 0
 | .seq a b | .cond _ a b=>defs a ||| defs b
 | .block _ c | .loop c | .scope c=>defs c
 | _=>0
def lK:Code→Nat
 | .region _ ops _=>ops.foldl (fun a o=>a ||| V1 o) 0
 | .seq a b=>lK a ||| lK b
 | .cond x a b=>(match x with | .tmp t=>2 ^ t | _=>0) ||| lK a ||| lK b
 | .block _ c | .loop c | .scope c=>lK c
 | _=>0
def cnt:Code→Nat
 | .seq a b=>1+cnt a+cnt b
 | .cond _ a b=>cnt a+cnt b
 | .block _ c | .scope c=>cnt c
 | .loop c=>1+cnt c
 | _=>0
def jO (sl:List (Nat×TV)) (keep:Nat):Nat→List TV→List TV
 | _,[]=>[]
 | i,v::l=>(match sl.find? fun p=>p.1==i with
  | some p=>p.2
  | none=>match keep.testBit i with
   | true=>v
   | false => .unk)::jO sl keep (i+1) l
def qB (sl:List (Nat×TV)):Nat→List TV→Option (List Prop)
 | _,[]=>some []
 | i,v::l=>match sl.find? fun p=>p.1==i with
  | some p=>match leT v p.2,qB sl (i+1) l with
   | some x,some y=>some (x++y)
   | _,_=>none
  | none=>qB sl (i+1) l
abbrev MpL:=List (Nat×(Σ kt:TT,List kt.den))
def qC (pl:List (Nat×List TV)) (mp:MpL):Nat→List TB→List TB
 | _,[]=>[]
 | i,.cells c::l=>(match pl.find? fun p=>p.1==i with
  | some p => .cells p.2
  | none => .cells c)::qC pl mp (i+1) l
 | i,.map kt c::l=>(match mp.find? fun p=>p.1==i with
  | some (_,⟨R9,c'⟩) => .map R9 c'
  | none => .map kt c)::qC pl mp (i+1) l
 | i,.rows t e c z::l=>(match mp.find? fun p=>p.1==i with
  | some (_,⟨t',c'⟩) => .rows t' e c' z
  | none => .rows t e c z)::qC pl mp (i+1) l
 | i,.own e s::l => .own e s::qC pl mp (i+1) l
 | i,.none::l => .none::qC pl mp (i+1) l
def gV (pl:List (Nat×List TV)) (mp:MpL):Nat→List TB→Option (List Prop)
 | _,[]=>some []
 | i,.cells c::l=>match pl.find? fun p=>p.1==i with
  | some p=>match BF c p.2,gV pl mp (i+1) l with
   | some x,some y=>some (x++y)
   | _,_=>none
  | none=>gV pl mp (i+1) l
 | i,.map kt c::l=>match mp.find? fun p=>p.1==i with
  | some (_,⟨R9,c'⟩)=>if h:kt=R9 then match gV pl mp (i+1) l with
   | some y=>some ((h▸c=c')::y)
   | none=>none else none
  | none=>gV pl mp (i+1) l
 | i,.rows t _ c _::l=>match mp.find? fun p=>p.1==i with
  | some (_,⟨t',c'⟩)=>if h:t=t' then match gV pl mp (i+1) l with
   | some y=>some ((h▸c=c')::y)
   | none=>none else none
  | none=>gV pl mp (i+1) l
 | i,.own _ _::l=>gV pl mp (i+1) l
 | i,.none::l=>gV pl mp (i+1) l
def sH (b:Bd) (tS:List TB):List TB:=qC b.pl b.mp 0 tS++b.own.map fun p => .own p.1 p.2
abbrev KC:=DX→List TV→List TB→Prop
def Tx (J:List (Nat×LA)) (i:Nat) (te:List TV) (tS:List TB):Option LA :=
 match J.find? fun p=>p.1==i with
 | some p=>some (p.2.at te tS)
 | none=>none
def MX (B:List Nat) (b:Bd) (keep:Nat) (te:List TV) (tS:List TB) (K:Prop):Prop :=
 aL (okB (jO b.sl keep 0 te) (sH b tS)&&B.all (lu (sH b tS))) (ask (qB b.sl 0 te) (ask (gV b.pl b.mp 0 tS) (xu b.eE K))) False
def Mm (B:List Nat) (kY:List TV) (iu:List TB) (b:Bd) (te:List TV) (tS:List TB) (K:Prop):Prop :=
 aL (okB kY iu&&B.all (lu iu)) (ask (BF te kY) (ask (nV tS iu) (xu b.eE K))) False
def unK (f:List TV→List TB→(List TV→List TB→Prop)→Prop):Nat→List TV→List TB→Prop
 | 0,_,_=>False
 | n+1,te,tS=>f te tS (unK f n)
def FQ (P:Program):Code→Option (Array Oper)
 | .region _ ops true=>if qz P ops then none else some ops
 | _=>none
def ML (keep:Nat) (ops:Array Oper):Bool:=ops.toList.all fun o=>match o.dst with
 | some d => !keep.testBit d
 | none=>true
def LO (x:Operand) (te:List TV) (v:Bool) (K:List TV→Prop):Prop :=
 match x with
 | .tmp t=>zN te t (.val (.bool v)) K
 | _=>K te
variable (B:List Nat) (J:List (Nat×LA))
def wv:Code→Nat→Nat→List TV→List TB→KC→Prop
 | .skip,_,_,te,tS,K | .label _,_,_,te,tS,K=>K .normal te tS
 | .exit id,_,_,te,tS,K=>K (.exit id) te tS
 | .ret,_,_,te,tS,K=>K .ret te tS
 | .scope c,i,lv,te,tS,K=>wv c i lv te tS K
 | .block id c,i,lv,te,tS,K=>wv c i lv te tS fun e te tS=>match e with
  | .exit gf=>if gf=id then K .normal te tS else K (.exit gf) te tS
  | .normal=>K .normal te tS
  | .ret=>K .ret te tS
 | .cond x a b,i,lv,te,tS,K=>match eZ te x with
  | some (.val (.bool t))=>aL t (LO x te true fun te=>wv a i lv te tS K) (LO x te false fun te=>wv b (i+cnt a) lv te tS K)
  | _=>False
 | .seq a b,i,lv,te,tS,K=>match Tx J i te tS with
  | some la=>match FQ P a with
   | some ops=>aL (iE ops (Region.before ops)&&ML ((lv ||| lK b) &&& (2 ^ 400-1-(defs a))) ops) (lp P ty tt T inl 1 0 ops ops.toList 0 te tS [] fun bT _ _=>la.some fun bd=>ask (qB bd.sl 0 bT) (xu bd.eE True)) False ∧
    la.all fun bd=>impl bd.eE (cS (jO bd.sl ((lv ||| lK b) &&& (2 ^ 400-1-(defs a))) 0 te) fun kY=>wv b (i+1+cnt a) lv kY tS K)
   | none=>wv a (i+1) (lv ||| lK b) te tS (fun e bT bU=>match e with
    | .normal=>la.some fun bd=>Mm B (jO bd.sl ((lv ||| lK b) &&& (2 ^ 400-1-(defs a))) 0 te) (sH bd tS) bd bT bU True
    | .exit id=>K (.exit id) bT bU
    | .ret=>K .ret bT bU)∧la.all fun bd=>impl bd.eE (cS (jO bd.sl ((lv ||| lK b) &&& (2 ^ 400-1-(defs a))) 0 te) fun kY=>cL (sH bd tS) fun iu=>wv b (i+1+cnt a) lv kY iu K)
  | none=>wv a (i+1) (lv ||| lK b) te tS fun e te tS=>match e with
   | .normal=>wv b (i+1+cnt a) lv te tS K
   | .exit id=>K (.exit id) te tS
   | .ret=>K .ret te tS
 | .loop c,i,lv,te,tS,K=>match Tx J i te tS with
  | some (.un n)=>unK (fun te tS K'=>wv c (i+1) (lv ||| lK c) te tS fun e te tS=>match e with
    | .normal=>K' te tS
    | .exit id=>K (.exit id) te tS
    | .ret=>K .ret te tS) (min n 1000) te tS
  | some la=>(la.some fun bd=>MX B bd ((lv ||| lK c) &&& (2 ^ 400-1-(defs c))) te tS (bd.m<1000000)) ∧
   la.all fun bd=>impl bd.eE (cS (jO bd.sl ((lv ||| lK c) &&& (2 ^ 400-1-(defs c))) 0 te) fun kY=>cL (sH bd tS) fun iu=>wv c (i+1) (lv ||| lK c) kY iu fun e bT bU=>match e with
    | .normal=>la.some fun bd'=>Mm B (jO bd'.sl ((lv ||| lK c) &&& (2 ^ 400-1-(defs c))) 0 te) (sH bd' tS) bd' bT bU (bd'.m<bd.m)
    | .exit id=>K (.exit id) bT bU
    | .ret=>K .ret bT bU)
  | none=>False
 | .region _ ops draw,_,_,te,tS,K=>match draw with
  | true=>match qz P ops with
   | true=>aL (iE ops (Region.before ops)) (cL (tS++List.replicate ops.size .none) fun nU=>lp P ty tt T inl 2 tS.length ops ops.toList 0 te nU [] fun te tS fs=>aL (ou (Region.before ops) fs) (cL (jL tS) fun tS=>K .normal te tS) False) False
   | false=>aL (iE ops (Region.before ops)) (lp P ty tt T inl 1 0 ops ops.toList 0 te tS [] fun te _ _=>K .normal te tS) False
  | false=>lp P ty tt T inl 0 0 ops ops.toList 0 te tS [] fun te tS _=>cL (jL tS) fun tS=>K .normal te tS
 | _,_,_,_,_,_=>False
def U8 (ty:eS) (rs:List ResultVar) (kz:List (Option TT)) (s:qO) (te:List TV) (tS:List TB):Prop :=
 match xk ty te tS rs with
 | some vs=>cS (xw tS vs) fun vs=>aL (vs.all eC&&(refs (iP (bk kz vs))).isEmpty) (s.some fun v _ facts=>ask (Ul (iP (bk kz vs)) v) (cI facts)) False
 | none=>False
def U9 (ty:eS) (rs:List ResultVar) (kz mV:List (Option TT)) (s:qO) (te:List TV) (tS:List TB):Prop :=
 match xk ty te tS rs,tS with
 | some vs,.cells ts::_=>aL (vs.all eC&&(refs (iP (bk kz vs))).isEmpty&&(ts.all eC&&(fN (bk mV ts)).isEmpty)) (s.some fun v cs facts=>ask (Ul (iP (bk kz vs)) v) (ask (Lg (bk mV ts) cs) (cI facts))) False
 | _,_=>False
def U7 (ty:eS) (rs:List ResultVar) (mV:List (Option TT)) (s:qO) (te:List TV) (tS:List TB):Prop :=
 match xk ty te tS rs,tS with
 | some [.ptr 0 0],.cells ts::_=>aL (ts.all eC&&(fN (bk mV ts)).isEmpty) (s.some fun _ cs facts=>ask (Lg (bk mV ts) cs) (cI facts)) False
 | _,_=>False
def LD (F:List TV→List TB→Prop) (e:DX) (te:List TV) (tS:List TB):Prop :=
 match e with
 | .exit _=>False
 | .normal=>F te tS
 | .ret=>F te tS
end
def wM (rs:List ResultVar):Nat:=rs.foldl (fun a x=>match x with | .tmp t=>a ||| 2 ^ t | .cell t _=>a ||| 2 ^ t) 0
def Lk (n:Nat) (l:List TV):List TV:=l++List.replicate (n-l.length) .unk
def xD (f:Func):Code:=f.body.getD .skip
def U6 (ty:eS) (rs:List ResultVar) (K:TV→List TB→Prop) (te:List TV) (tS:List TB):Prop :=
 match xk ty te tS rs with
 | some vs=>K (iP vs) tS
 | none=>False
def Ll (P:Program) (ty:eS) (tt:TypeId→Option TT) (T:gN):Nat→Ym
 | 0=>fun _ _ _ _ _=>False
 | d+1=>fun fn j A tS K=>cS (Lk fn.ntmps A) fun te=>wv P ty tt T (Ll P ty tt T d) (ee 0 tS) j (xD fn) 0 (wM fn.results.toList) te tS (LD (U6 ty fn.results.toList K))
end Go.Tv
end
section
namespace Go.Tv
open Go Go.Di Go.Proofs
theorem pM {b:Bool} {A B:Prop} (h:aL b A B):(b=true→A)∧(b=false→B):=by cases b<;>exact⟨fun e=>by cases e<;>exact h,fun e=>by cases e<;>exact h⟩
theorem jU {b:Bool} {A:Prop} (h:aL b A False):b=true∧A:=by
 cases b
 ·exact h.elim
 ·exact⟨rfl,h⟩
theorem ig:∀ {l:List Prop},cI l↔∀ p∈l,p
 | []=>by simp[cI]
 | p::l=>by
  have:=ig (l:=l)
  simp only[cI,this,List.mem_cons,forall_eq_or_imp]
theorem ic:∀ {l:List Prop} {R:Prop},xu l R→cI l∧R
 | [],_,h=>⟨trivial,h⟩
 | p::l,R,h=>by
  obtain⟨h1,h2⟩:=ic h.2
  exact⟨ig.2 (by rintro q hq; rcases List.mem_cons.1 hq with rfl | hq; exact h.1; exact ig.1 h1 q hq),h2⟩
theorem je {l m:List Prop} (h:cI (l++m)):cI l∧cI m:=by
 rw[ig] at h
 exact⟨ig.2 fun p hp=>h p (List.mem_append_left _ hp),ig.2 fun p hp=>h p (List.mem_append_right _ hp)⟩
theorem jb:∀ {l:List Prop} {R:Prop},impl l R→cI l→R
 | [],_,h,_=>h
 | p::l,R,h,k=>by
  rw[ig] at k
  exact jb (h (k p (List.mem_cons_self ..))) (ig.2 fun q hq=>k q (List.mem_cons_of_mem _ hq))
theorem iM {o:Option (List Prop)} {K:Prop} (h:ask o K):∃ l,o=some l∧cI l∧K:=by
 cases o with
 | none=>exact h.elim
 | some l=>exact⟨l,rfl,ic h⟩
theorem BP {R K:TV→List TV→List Prop→Prop}:∀ {s:qO},s.all R→s.some K→∃ v cs fs,R v cs fs∧K v cs fs
 | .ex _ _,h,⟨x,k⟩=>BP (h x) k
 | .res v cs fs,h,k=>⟨v,cs,fs,h,k⟩
theorem Kz {R:TV→List TV→Prop} {v:TV} {cs:List TV} {s:qO} (h:s.all fun v cs fs=>impl fs (R v cs)) (k:s.holds v cs):R v cs:=by
 obtain⟨v',jj,fs,h,rfl,rfl,hf⟩:=BP h k
 exact jb h hf
theorem GZ {R:TV→Prop} {v:TV} {s:qO} (h:s.all fun v _ fs=>impl fs (R v)) (k:s.qZ v):R v:=by
 obtain⟨v',jj,fs,h,rfl,hf⟩:=BP h k
 exact jb h hf
theorem G0 {R:List TV→Prop} {cs:List TV} {s:qO} (h:s.all fun _ cs fs=>impl fs (R cs)) (k:s.uq cs):R cs:=by
 obtain⟨v',jj,fs,h,rfl,hf⟩:=BP h k
 exact jb h hf
mutual
theorem fE:∀ (v:TV) {K:TV→Prop},fP v K→K v
 | .unk,_,h=>h
 | .val v,_,h=>by cases v<;>exact h
 | .gl,_,h=>h
 | .agg l,K,h=>by simp only[fP] at h; exact cg l (K:=fun l=>K (.agg l)) h
 | .fB l,K,h=>by simp only[fP] at h; exact cg l (K:=fun l=>K (.fB l)) h
 | .sl _ _ _,_,h=>h
 | .ptr _ _,_,h=>h
 | .dB _ _ _ _,_,h=>h
 | .mp _,_,h=>h
 | .so _ _,_,h=>h
 | .sp _ _ _ _,_,h=>h
 | .fn f a b,K,h=>by simp only[fP] at h; exact cg b (K:=fun b=>K (.fn f a b)) (cg a (K:=fun a=>cS b fun b=>K (.fn f a b)) h)
theorem cg:∀ (l:List TV) {K:List TV→Prop},cS l K→K l
 | [],_,h=>h
 | a::l,K,h=>cg l (K:=fun l=>K (a::l)) (fE a (K:=fun a=>cS l fun l=>K (a::l)) h)
end
theorem cN:∀ (l:List TB) {K:List TB→Prop},cL l K→K l
 | [],_,h=>h
 | .cells c::l,K,h=>cN l (K:=fun l=>K (.cells c::l)) (cg c (K:=fun c=>cL l fun l=>K (.cells c::l)) h)
 | .none::l,K,h=>cN l (K:=fun l=>K (.none::l)) h
 | .own e s::l,K,h=>cN l (K:=fun l=>K (.own e s::l)) h
 | .map kt c::l,K,h=>cN l (K:=fun l=>K (.map kt c::l)) h
 | .rows t e c z::l,K,h=>cN l (K:=fun l=>K (.rows t e c z::l)) h
theorem lC:∀ (l:List TV) (n:Nat) (v:TV) {K:List TV→Prop},zN l n v K→K (l.set n v)
 | [],_,_,_,h=>h
 | _::_,0,_,_,h=>h
 | a::l,n+1,v,K,h=>lC l n v (K:=fun l=>K (a::l)) h
theorem gp {te:List TV} {dst:Option Tmp} {v:TV} {K:List TV→Prop} (h:gR te dst v K):K (jM te dst v):=by
 cases dst with
 | none=>exact h
 | some d=>exact lC te d v h
theorem kP:∀ {l:List TV} {n:Nat} {v:TV},l[n]? = some v→l.set n v=l
 | [],_,_,h=>by simp at h
 | _::_,0,_,h=>by simp only[List.getElem?_cons_zero,Option.some.injEq] at h; rw[h]; rfl
 | a::l,n+1,v,h=>by rw[List.set_cons_succ,kP (l:=l) (by simpa using h)]
mutual
theorem B3:∀ {a b:TV} {l:List Prop},Ul a b=some l→cI l→a=b
 | a,b,l,h,k=>by
  unfold Ul at h
  split at h
  ·rfl
  ·split at h
   ·rename_i hk
    subst hk
    cases h
    rw[show _=_ from k.1]
   ·cases h
  ·cases h; rw[show _=_ from k.1]
  ·cases h; rw[show _=_ from k.1]
  ·rfl
  ·rw[ry h k]
  ·rw[ry h k]
  ·split at h
   ·rename_i ht; subst ht; cases h; cases (show _=_ from k.1); rfl
   ·cases h
  ·split at h
   ·rename_i ht; subst ht; cases h; cases (show _=_ from k.1); rfl
   ·cases h
  ·split at h
   ·rename_i ht
    subst ht
    split at h
    ·rename_i hg; subst hg; cases h; cases (show _=_ from k.1); rfl
    ·cases h
   ·cases h
  ·split at h
   ·rename_i ht; obtain⟨rfl,rfl⟩:=ht; rfl
   ·cases h
  ·split at h
   ·rename_i ht; subst ht; rfl
   ·cases h
  ·split at h
   ·rename_i ht; obtain⟨rfl,rfl⟩:=ht; rfl
   ·cases h
  ·split at h
   ·rename_i ht
    subst ht
    cases h
    obtain⟨k1,k2,k3⟩:=k
    cases (show _=_ from k1); cases (show _=_ from k2); cases (show _=_ from k3.1); rfl
   ·cases h
  ·split at h
   ·rename_i hf
    subst hf
    split at h
    ·rename_i x y h1 h2
     cases h
     obtain⟨k1,k2⟩:=je k
     rw[ry h1 k1,ry h2 k2]
    ·cases h
   ·cases h
  ·cases h
theorem ry:∀ {a b:List TV} {l:List Prop},Lg a b=some l→cI l→a=b
 | [],[],_,_,_=>rfl
 | a::l,b::m,_,h,k=>by
  simp only[Lg] at h
  split at h
  ·rename_i x y h1 h2
   cases h
   obtain⟨k1,k2⟩:=je k
   rw[B3 h1 k1,ry h2 k2]
  ·cases h
 | [],_::_,_,h,_=>by simp[Lg] at h
 | _::_,[],_,h,_=>by simp[Lg] at h
end
def LeV (u v:TV):Prop:=∀ l m,tV l m→tV (u::l) (v::m)
mutual
theorem FV:∀ {v u:TV} {l:List Prop},leT v u=some l→cI l→LeV u v
 | v,u,l,h,k=>by
  unfold leT at h
  split at h
  ·exact fun _ _ => .unk
  ·split at h
   ·rename_i ht
    subst ht
    cases h
    cases (show _=_ from k.1)
    exact fun _ _ => .no
   ·cases h
  ·split at h
   ·split at h
    ·rename_i ht
     subst ht
     cases h
     cases (show _=_ from k.1)
     exact fun _ _ => .nY
    ·cases h
   ·cases h
  ·cases h
   cases (show _=_ from k.1)
   exact fun _ _ => .gl
  ·rename_i a b
   have:=sU h k
   exact fun _ _ => .agg this
  ·rw[B3 h k]
   exact fun _ _ => .same
theorem sU:∀ {v u:List TV} {l:List Prop},BF v u=some l→cI l→tV u v
 | [],[],_,_,_ => .nil
 | a::l,b::m,_,h,k=>by
  simp only[BF] at h
  split at h
  ·rename_i x y h1 h2
   cases h
   obtain⟨k1,k2⟩:=je k
   exact FV h1 k1 _ _ (sU h2 k2)
  ·cases h
 | [],_::_,_,h,_=>by simp[BF] at h
 | _::_,[],_,h,_=>by simp[BF] at h
end
theorem Rk:∀ {v u:List TB} {l:List Prop},nV v u=some l→cI l→zI u v
 | v,u,l,h,k=>by
  induction u generalizing v l with
  | nil=>exact .nil
  | cons b m ih =>
   cases v with
   | nil =>
    cases b with
    | own e s=>exact .new (ih _ _ h k)
    | _=>simp[nV] at h
   | cons a v =>
    cases b with
    | none=>exact .none (ih _ _ (by simpa [nV] using h) k)
    | cells c =>
     cases a with
     | cells d =>
      simp only[nV] at h
      split at h
      ·rename_i x y h1 h2
       cases h
       obtain⟨k1,k2⟩:=je k
       exact .cells (sU h1 k1) (ih _ _ h2 k2)
      ·cases h
     | _=>simp[nV] at h
    | own e s =>
     cases a with
     | own e' s' =>
      simp only[nV] at h
      split at h
      ·rename_i he
       obtain⟨rfl,rfl⟩:=he
       exact .own (ih _ _ h k)
      ·cases h
     | _=>simp[nV] at h
    | map kt c =>
     cases a with
     | map R9 c' =>
      simp only[nV] at h
      split at h
      ·rename_i he
       subst he
       split at h
       ·rename_i y h2
        cases h
        obtain⟨k1,k2⟩:=k
        cases (show _=_ from k1)
        exact .map (ih _ _ h2 k2)
       ·cases h
      ·cases h
     | _=>simp[nV] at h
    | rows t e c z =>
     cases a with
     | rows t' e' c' z' =>
      simp only[nV] at h
      split at h
      ·rename_i he
       subst he
       split at h
       ·rename_i hez
        obtain⟨rfl,rfl⟩:=hez
        split at h
        ·rename_i y h2
         cases h
         obtain⟨k1,k2⟩:=k
         cases (show _=_ from k1)
         exact .rows (ih _ _ h2 k2)
        ·cases h
       ·cases h
      ·cases h
     | _=>simp[nV] at h
theorem tq {sl:List (Nat×TV)} {keep:Nat}:∀ {i:Nat} {te:List TV} {l:List Prop},qB sl i te=some l→cI l→tV (jO sl keep i te) te
 | _,[],_,_,_ => .nil
 | i,v::te,l,h,k=>by
  simp only[qB] at h
  simp only[jO]
  split at h
  ·rename_i p hp
   split at h
   ·rename_i x y h1 h2
    cases h
    obtain⟨k1,k2⟩:=je k
    exact FV h1 k1 _ _ (tq h2 k2)
   ·cases h
  ·rename_i hp
   split
   ·exact .same (tq h k)
   ·exact .unk (tq h k)
theorem gr {pl:List (Nat×List TV)} {mp:MpL} {own:List (Nat×Nat)}:∀ {i:Nat} {tS:List TB} {l:List Prop},gV pl mp i tS=some l→cI l→zI (qC pl mp i tS++own.map fun p=>TB.own p.1 p.2) tS
 | _,[],_,_,_=>En own
 | i,.none::tS,l,h,k=>by
  simp only[gV] at h
  exact .none (gr h k)
 | i,.own _ _::tS,l,h,k=>by
  simp only[gV] at h
  exact .own (gr h k)
 | i,.cells c::tS,l,h,k=>by
  simp only[gV] at h
  simp only[qC,List.cons_append]
  split at h
  ·rename_i p hp
   split at h
   ·rename_i x y h1 h2
    cases h
    obtain⟨k1,k2⟩:=je k
    exact .cells (sU h1 k1) (gr h2 k2)
   ·cases h
  ·exact .cells (tV.refl c) (gr h k)
 | i,.map kt c::tS,l,h,k=>by
  simp only[gV] at h
  simp only[qC,List.cons_append]
  split at h
  ·rename_i a R9 c' hp
   split at h
   ·rename_i he
    subst he
    split at h
    ·rename_i y h2
     cases h
     obtain⟨k1,k2⟩:=k
     cases (show c=c' from k1)
     exact .map (gr h2 k2)
    ·cases h
   ·cases h
  ·exact .map (gr h k)
 | i,.rows kt e c z::tS,l,h,k=>by
  simp only[gV] at h
  simp only[qC,List.cons_append]
  split at h
  ·rename_i a R9 c' hp
   split at h
   ·rename_i he
    subst he
    split at h
    ·rename_i y h2
     cases h
     obtain⟨k1,k2⟩:=k
     cases (show c=c' from k1)
     exact .rows (gr h2 k2)
    ·cases h
   ·cases h
  ·exact .rows (gr h k)
variable {P:Program} {ty:eS} {tt:TypeId→Option TT} {T:gN} {ι ι' w:jR} {S S':ak} {te kY:List TV} {env:List DV} {tS iu:List TB} {aD:bq} {call:bg} {yf:dF} {o:Oper} {ay nT:Nat} {B:List Nat} {r:TR} {ops:Array Oper} {L:Nat} {fn:FuncId} {gJ:Bool}
theorem GY {v:TV} {c:Prop} (h:xU te o=some (v,c)) (hc:c):bh P ty tt te tS o=some (v,True):=by
 unfold xU at h
 split at h
 ·rename_i t x y _ ho
  split at h
  ·rename_i a b h1 h2
   cases h
   have:gy P (do eqGuard .add t x y (.int .i64 a) (.int .i64 b); binOp .add t (.int .i64 a) (.int .i64 b))=some (.val (.int .i64 (IntKind.i64.wrap (a+b)))):=rfl
   simp only[bh,ho,h1,h2,Option.bind_some,fG,this,sx,Option.map_some,xI hc.1 hc.2]
  ·cases h
 ·rename_i t x y _ ho
  split at h
  ·rename_i a b h1 h2
   cases h
   have:gy P (do eqGuard .sub t x y (.int .i64 a) (.int .i64 b); binOp .sub t (.int .i64 a) (.int .i64 b))=some (.val (.int .i64 (IntKind.i64.wrap (a-b)))):=rfl
   simp only[bh,ho,h1,h2,Option.bind_some,fG,this,sx,Option.map_some,xI hc.1 hc.2]
  ·cases h
 ·rename_i t x y _ ho
  split at h
  ·rename_i a b h1 h2
   cases h
   have:gy P (do eqGuard .mul t x y (.int .i64 a) (.int .i64 b); binOp .mul t (.int .i64 a) (.int .i64 b))=some (.val (.int .i64 (IntKind.i64.wrap (a*b)))):=rfl
   simp only[bh,ho,h1,h2,Option.bind_some,fG,this,sx,Option.map_some,xI hc.1 hc.2]
  ·cases h
 ·rename_i t x ho
  split at h
  ·rename_i a h1
   cases h
   have:gy P (Op.unary .neg (.int .i64 a))=some (.val (.int .i64 (IntKind.i64.wrap (-a)))):=by rw[← Int.zero_sub]; rfl
   simp only[bh,ho,h1,Option.bind_some,fG,this,sx,Option.map_some,xI hc.1 hc.2]
  ·cases h
 ·cases h
theorem RO {t:TypeId} {xs ys:Array Value} {b:Bool} (ht:P.underlying t=some (.struct (P.fieldsOf t))) (hp:P.stoodInHeld t=false) (hm:P.eqGuardType P.depth t=false) (hf:bp P (Op.eqFields 9999 xs ys (P.fieldsOf t).toList)=some b) (x y:Operand) :
  gy P (do eqGuard .eql t x y (.agg xs) (.agg ys); binOp .eql t (.agg xs) (.agg ys))=some (.val (.bool b)):=by
 have h1:bp P (eqGuard .eql t x y (.agg xs) (.agg ys))=some ():=by
  simp only[eqGuard]
  simp only[Bool.not_true,Bool.false_eq_true,if_false,bJ,jq,Option.bind_some,hm,Bool.not_false,if_true]
  rfl
 have h2:bp P (binOp .eql t (.agg xs) (.agg ys))=some (.bool b):=by
  simp only[binOp,bJ,Op.equal,Op.maxDepth,nH 9999 t xs ys ht hp,hf,Option.bind_some]
  rfl
 rw[gy,bJ,h1,Option.bind_some,h2]
 rfl
theorem II {xs ys:Array Value} {fs:List Field} {b:Bool} (h:Va P xs ys fs=some b):bp P (Op.eqFields 9999 xs ys fs)=some b:=yz (fun _ _ _ _ h=>Ga (by omega) h) h
theorem OR {b:Bool} (h:LG P te o=some b):bh P ty tt te tS o=some (.val (.bool b),True):=by
 unfold LG at h
 split at h
 ·rename_i t x y _ ho
  split at h
  ·rename_i xs ys h1 h2
   split at h
   ·rename_i fs h3 h4 h5
    simp only[Option.map_eq_some_iff] at h
    obtain⟨r,h6,rfl⟩:=h
    have e:=RN (P:=P) (nF h3) h4 h5 (b:=r) (by simp only[Program.fieldsOf,h3]; exact II h6) x y
    simp only[bh,ho,h1,h2,e,sx,Option.map_some]
   ·cases h
  ·cases h
 ·rename_i t x y _ ho
  split at h
  ·rename_i xs ys h1 h2
   split at h
   ·rename_i fs h3 h4 h5
    have e:=RO (P:=P) (nF h3) h4 h5 (b:=b) (by simp only[Program.fieldsOf,h3]; exact II h) x y
    simp only[bh,ho,h1,h2,e,sx,Option.map_some]
   ·cases h
  ·cases h
 ·cases h
end Go.Tv
end
