import Derived.Test.YtedcgbkilmlbhaaPk05
section
namespace Go.Tv
open Go Go.Di Go.Proofs
def vcIf (b:Bool) (A B:Prop):Prop :=
 match b with
 | true=>A
 | false=>B
def conj:List Prop→Prop→Prop
 | [],R=>R
 | p::l,R=>p∧conj l R
def conjE:List Prop→Prop
 | []=>True
 | p::l=>p∧conjE l
def impl:List Prop→Prop→Prop
 | [],R=>R
 | p::l,R=>p→impl l R
inductive SpT:Type 1
 | ex (α:Type) (k:α→SpT)
 | res (v:TV) (cs:List TV) (facts:List Prop)
def SpT.all:SpT→(TV→List TV→List Prop→Prop)→Prop
 | .ex _ k,K=>∀ x,(k x).all K
 | .res v cs fs,K=>K v cs fs
def SpT.some:SpT→(TV→List TV→List Prop→Prop)→Prop
 | .ex _ k,K=>∃ x,(k x).some K
 | .res v cs fs,K=>K v cs fs
def SpT.holds (s:SpT) (v:TV) (cs:List TV):Prop:=s.some fun v' cs' fs=>v=v'∧cs=cs'∧conjE fs
def SpT.holdsV (s:SpT) (v:TV):Prop:=s.some fun v' _ fs=>v=v'∧conjE fs
def SpT.holdsN (s:SpT) (cs:List TV):Prop:=s.some fun _ cs' fs=>cs=cs'∧conjE fs
abbrev Sp:=Option (List Prop×SpT)
structure Bd where
 sl:List (Nat×TV)
 pl:List (Nat×List TV):=[]
 own:List (Nat×Nat):=[]
 good:List Prop:=[]
 mp:List (Nat×(Σ kt:TT,List kt.den)):=[]
 m:Nat:=0
inductive LA:Type 1
 | ex (α:Type) (k:α→LA)
 | st (b:Bd)
 | un (n:Nat)
 | dep (f:List TV→List TB→LA)
def LA.at (la:LA) (te:List TV) (tS:List TB):LA :=
 match la with
 | .dep f=>f te tS
 | la=>la
def withSl (te:List TV) (i:Nat) (k:List Int→LA):LA :=
 match te.getD i .unk with
 | .sl (.int .i64) l _=>k l
 | _ => .un 0
def LA.all:LA→(Bd→Prop)→Prop
 | .ex _ k,K=>∀ x,(k x).all K
 | .st b,K=>K b
 | _,_=>True
def LA.some:LA→(Bd→Prop)→Prop
 | .ex _ k,K=>∃ x,(k x).some K
 | .st b,K=>K b
 | _,_=>False
structure Tbl where
 I:FuncId→List TV→Sp
 C:FuncId→List TV→List TV→Sp
 N:FuncId→List TV→Sp
 X:FuncId→Option (Func×List (Nat×LA)):=fun _=>none
structure TblOK (T:Tbl) (iso:IsoF) (call:CallF):Prop where
 I:∀ g a p s,T.I g a=some (p,s)→conjE p→ISpec iso g a fun v=>s.holdsV v
 C:∀ g a c p s,T.C g a c=some (p,s)→conjE p→CSpec call g a c fun v cs=>s.holds v cs
 N:∀ g a p s,T.N g a=some (p,s)→conjE p→NSpec iso call g a fun cs=>s.holdsN cs
mutual
def forceV (v:TV) (K:TV→Prop):Prop :=
 match v with
 | .unk=>K .unk
 | .val (.int k n)=>K (.val (.int k n))
 | .val (.bool b)=>K (.val (.bool b))
 | .val v=>K (.val v)
 | .nils=>K .nils
 | .agg l=>forceL l fun l=>K (.agg l)
 | .tup l=>forceL l fun l=>K (.tup l)
 | .sl t l ap=>K (.sl t l ap)
 | .ptr id off=>K (.ptr id off)
 | .eptr t l i off=>K (.eptr t l i off)
 | .mp id=>K (.mp id)
 | .fn f a b=>forceL a fun a=>forceL b fun b=>K (.fn f a b)
def forceL (l:List TV) (K:List TV→Prop):Prop :=
 match l with
 | []=>K []
 | a::l=>forceV a fun a=>forceL l fun l=>K (a::l)
end
def forceB (l:List TB) (K:List TB→Prop):Prop :=
 match l with
 | []=>K []
 | .cells c::l=>forceL c fun c=>forceB l fun l=>K (.cells c::l)
 | .none::l=>forceB l fun l=>K (.none::l)
 | .own e s::l=>forceB l fun l=>K (.own e s::l)
 | .map kt c::l=>forceB l fun l=>K (.map kt c::l)
def setK:List TV→Nat→TV→(List TV→Prop)→Prop
 | [],_,_,K=>K []
 | _::l,0,v,K=>K (v::l)
 | a::l,n+1,v,K=>setK l n v fun l=>K (a::l)
def putK (te:List TV) (dst:Option Tmp) (v:TV) (K:List TV→Prop):Prop :=
 match dst with
 | some d=>setK te d v K
 | none=>K te
mutual
def eqT:TV→TV→Option (List Prop)
 | .unk,.unk=>some []
 | .val (.int k a),.val (.int k' b)=>if k=k' then some [a=b] else none
 | .val (.bool a),.val (.bool b)=>some [a=b]
 | .val a,.val b=>some [a=b]
 | .nils,.nils=>some []
 | .agg l,.agg m=>eqL l m
 | .tup l,.tup m=>eqL l m
 | .sl t l .no,.sl t' l' .no=>if h:t=t' then some [h▸l=l'] else none
 | .sl t l .full,.sl t' l' .full=>if h:t=t' then some [h▸l=l'] else none
 | .sl t l (.lab g),.sl t' l' (.lab g')=>if h:t=t' then if g=g' then some [h▸l=l'] else none else none
 | .ptr i o,.ptr i' o'=>if i=i'∧o=o' then some [] else none
 | .mp i,.mp i'=>if i=i' then some [] else none
 | .eptr t l i o,.eptr t' l' i' o'=>if h:t=t' then some [h▸l=l',i=i',o=o'] else none
 | .fn f a b,.fn f' a' b'=>if f=f' then match eqL a a',eqL b b' with
  | some x,some y=>some (x++y)
  | _,_=>none else none
 | _,_=>none
def eqL:List TV→List TV→Option (List Prop)
 | [],[]=>some []
 | a::l,b::m=>match eqT a b,eqL l m with
  | some x,some y=>some (x++y)
  | _,_=>none
 | _,_=>none
end
mutual
def leT:TV→TV→Option (List Prop)
 | _,.unk=>some []
 | .sl t l _,.sl t' l' .no=>if h:t=t' then some [h▸l=l'] else none
 | .sl t l .full,.sl t' l' (.lab _)=>match l with
  | []=>if t=t' then some [[]=l'] else none
  | _::_=>none
 | .nils,.sl _ l _=>some [[]=l]
 | .agg l,.agg m=>leTl l m
 | v,u=>eqT v u
def leTl:List TV→List TV→Option (List Prop)
 | [],[]=>some []
 | a::l,b::m=>match leT a b,leTl l m with
  | some x,some y=>some (x++y)
  | _,_=>none
 | _,_=>none
end
def leBl:List TB→List TB→Option (List Prop)
 | _,[]=>some []
 | _::l,.none::m=>leBl l m
 | .cells a::l,.cells b::m=>match leTl a b,leBl l m with
  | some x,some y=>some (x++y)
  | _,_=>none
 | .own e s::l,.own e' s'::m=>if e=e'∧s=s' then leBl l m else none
 | .map kt a::l,.map kt' b::m=>if h:kt=kt' then match leBl l m with
  | some y=>some ((h▸a=b)::y)
  | none=>none else none
 | [],.own _ _::m=>leBl [] m
 | _,_=>none
def ask (o:Option (List Prop)) (K:Prop):Prop :=
 match o with
 | some l=>conj l K
 | none=>False
section
variable (P:Program) (ty:Tys) (tt:TypeId→Option TT) (T:Tbl)
def rng (n:Int):Prop := -9223372036854775808≤n∧n≤9223372036854775807
def arithT (te:List TV) (o:Oper):Option (TV×Prop) :=
 match o.op with
 | .binOp .add _ x y _=>match evT te x,evT te y with
  | some (.val (.int .i64 a)),some (.val (.int .i64 b))=>some (.val (.int .i64 (a+b)),rng (a+b))
  | _,_=>none
 | .binOp .sub _ x y _=>match evT te x,evT te y with
  | some (.val (.int .i64 a)),some (.val (.int .i64 b))=>some (.val (.int .i64 (a-b)),rng (a-b))
  | _,_=>none
 | .binOp .mul _ x y _=>match evT te x,evT te y with
  | some (.val (.int .i64 a)),some (.val (.int .i64 b))=>some (.val (.int .i64 (a*b)),rng (a*b))
  | _,_=>none
 | .unOp .neg _ x=>match evT te x with
  | some (.val (.int .i64 a))=>some (.val (.int .i64 (-a)),rng (-a))
  | _=>none
 | _=>none
abbrev eqFs (xs ys:Array Value):List Field→Option Bool:=eqFsE P (eqV P 1) xs ys
def cmpT (te:List TV) (o:Oper):Option Bool :=
 match o.op with
 | .binOp .neq t x y _=>match (evT te x).bind toValT,(evT te y).bind toValT with
  | some (.agg xs),some (.agg ys)=>match P.underlying t,P.stoodInHeld t,P.eqGuardType P.depth t with
   | some (.struct fs),false,false=>(eqFs P xs ys fs.toList).map fun r => !r
   | _,_,_=>none
  | _,_=>none
 | .binOp .eql t x y _=>match (evT te x).bind toValT,(evT te y).bind toValT with
  | some (.agg xs),some (.agg ys)=>match P.underlying t,P.stoodInHeld t,P.eqGuardType P.depth t with
   | some (.struct fs),false,false=>eqFs P xs ys fs.toList
   | _,_,_=>none
  | _,_=>none
 | _=>none
def condOp (o:Oper):Bool :=
 match o.op with
 | .slice .. | .indexAddr .. => true
 | .call { callee := .builtin .append,.. }=>true
 | _=>false
def arrT (te:List TV) (o:Oper):Option (Tmp×Int×Nat) :=
 match o.op with
 | .indexAddr t _ (.tmp i)=>match ty t,te[i]? with
  | some ⟨.array k _ _,_,_⟩,some (.val (.int .i64 n))=>some (i,n,k)
  | _,_=>none
 | .index t _ (.tmp i)=>match ty t,te[i]? with
  | some ⟨.array k _ _,_,_⟩,some (.val (.int .i64 n))=>some (i,n,k)
  | _,_=>none
 | _=>none
def splitK (n:Int) (K:Nat→Prop):Nat→Nat→Prop
 | 0,_=>False
 | c+1,j=>vcIf (decide (n=(j:Int))) (K j) (splitK n K c (j+1))
def nilT (te:List TV) (o:Oper):Option (Bool×Prop) :=
 match o.op with
 | .binOp .eql t x y _=>match ty t,evT te x,evT te y with
  | some ⟨.slice _ _ _ _,_,_⟩,some (.sl _ l _),some .nils=>some (false,l≠[])
  | some ⟨.slice _ _ _ _,_,_⟩,some .nils,some .nils=>some (true,True)
  | _,_,_=>none
 | _=>none
def isCells (tS:List TB) (k:Nat):Bool :=
 match tS[k]? with
 | some (.cells _)=>true
 | _=>false
mutual
def dropV (tS:List TB):TV→TV
 | .sl t l (.lab _) => .sl t l .no
 | .ptr id off=>match isCells tS id with
  | true => .ptr id off
  | false => .unk
 | .mp id => .unk
 | .agg l => .agg (dropL tS l)
 | .tup l => .tup (dropL tS l)
 | .fn f a b => .fn f (dropL tS a) (dropL tS b)
 | v=>v
def dropL (tS:List TB):List TV→List TV
 | []=>[]
 | a::l=>dropV tS a::dropL tS l
end
def cellsIx:Nat→List TB→List Nat
 | _,[]=>[]
 | i,.cells _::l=>i::cellsIx (i+1) l
 | i,_::l=>cellsIx (i+1) l
def isCmp (o:Oper):Bool :=
 match o.op with
 | .binOp .neq .. | .binOp .eql .. => true
 | _=>false
def callV (te:List TV) (o:Oper):Option (FuncId×List TV) :=
 match o.op with
 | .call { callee := .value f,args,argTypes }=>match evT te f,evsT te args.toList with
  | some (.fn g fs cs),some xs=>if (fs++xs++cs).all pureB then some (g,normL (argTys tt fs argTypes) (fs++xs++cs)) else none
  | _,_=>none
 | _=>none
def pcallV (te:List TV) (tS:List TB) (o:Oper):Option (FuncId×Nat×List TV×List TV) :=
 match o.op with
 | .call { callee := .value f,args,argTypes }=>match evT te f,evsT te args.toList with
  | some (.fn g fs cs),some xs=>match refOf (fs++xs++cs) with
   | some kp=>match argsP kp (argTys tt fs argTypes) (fs++xs++cs),tS[kp]? with
    | some targs,some (.cells ts)=>if (fs++xs++cs).any isRef&&(refsL ts).isEmpty then some (g,kp,targs,ts) else none
    | _,_=>none
   | none=>none
  | _,_=>none
 | _=>none
def pcallD (te:List TV) (tS:List TB) (o:Oper):Option (FuncId×Nat×List TV×List TV) :=
 match o.op with
 | .call { callee := .value f,args,argTypes }=>match evT te f,evsT te args.toList with
  | some (.fn g fs cs),some xs=>match fs++xs++cs with
   | .ptr kp off::rest=>match tS[kp]? with
    | some (.cells ts)=>if rest.all pureB&&ts.all flat1 then some (g,kp,.ptr 0 off::normL (argTys tt fs argTypes).tail rest,ts) else none
    | _=>none
   | _=>none
  | _,_=>none
 | _=>none
def pcallM (md:Nat) (te:List TV) (tS:List TB) (o:Oper):Option (FuncId×Nat×List TV×List TV) :=
 match md with
 | 0=>pcallV tt te tS o
 | 2=>pcallD tt te tS o
 | _=>none
def footM (md kp:Nat):Foot :=
 match md with
 | 2=>⟨some [kp],true⟩
 | _=>⟨none,true⟩
def flatM (md:Nat) (v:TV) (cs:List TV) (K:Prop):Prop :=
 match md with
 | 2=>match flatR v&&cs.all flat1 with
  | true=>K
  | false=>False
 | _=>K
def inlV (te:List TV) (o:Oper):Option (FuncId×List TV) :=
 match o.op with
 | .call { callee := .value f,args,argTypes:=_ }=>match evT te f,evsT te args.toList with
  | some (.fn g fs cs),some xs=>if (fs++xs++cs).any isRef then some (g,fs++xs++cs) else none
  | _,_=>none
 | _=>none
def inlX (md:Nat) (te:List TV) (o:Oper):Option (List TV×Func×List (Nat×LA)) :=
 match md with
 | 0=>match inlV te o with
  | some (g,A)=>match T.X g with
   | some (fn,j)=>some (A,fn,j)
   | none=>none
  | none=>none
 | _=>none
abbrev Inl:=Func→List (Nat×LA)→List TV→List TB→(TV→List TB→Prop)→Prop
inductive Gd
 | no (b:Bool)
 | ask (d:Tmp) (b want:Bool)
 | unk
def gdT (ops:Array Oper) (te:List TV) (o:Oper):Gd :=
 match o.guard with
 | none => .no true
 | some (j,want)=>match (ops[j]?).bind (·.dst) with
  | some d=>match te[d]? with
   | some (.val (.bool b)) => .ask d b want
   | some .unk => .unk
   | some (.val _) => .no false
   | _ => .unk
  | none => .no false
abbrev KO:=List TV→List TB→List Foot→Prop
def quietF:Foot:=⟨some [],false⟩
def nidT (md n0 k:Nat) (tS:List TB):Nat :=
 match md with
 | 2=>n0+k
 | _=>tS.length
variable (inl:Inl)
def callK (md:Nat) (o:Oper) (te:List TV) (tS:List TB) (fs:List Foot) (K:KO):Prop :=
 match inlX T md te o with
 | some (A,fn,j)=>inl fn j A tS fun v tS'=>forceV v fun v=>forceL (dropL tS te) fun te=>putK te o.dst v fun te=>K te tS' fs
 | none=>match callV tt te o with
 | some (g,targs)=>match md==0,T.N g targs with
  | true,some (p,s)=>conj p (s.all fun _ cs facts=>impl facts (putK te o.dst (.ptr tS.length 0) fun te=>K te (tS++[.cells cs]) fs))
  | _,_=>match T.I g targs with
   | some (p,s)=>conj p (s.all fun v _ facts=>impl facts (forceV v fun v=>putK te o.dst v fun te=>K te tS (fs++[quietF])))
   | none=>False
 | none=>match pcallM tt md te tS o with
  | some (g,kp,targs,ts)=>match T.C g targs ts with
   | some (p,s)=>conj p (s.all fun v cs facts=>impl facts (flatM md v cs (forceV v fun v=>putK te o.dst v fun te=>forceL cs fun cs=>forceB (tS.set kp (.cells cs)) fun tS=>K te tS (fs++[footM md kp]))))
   | none=>False
  | none=>False
def mapM (md:Nat) (te:List TV) (tS:List TB) (o:Oper):Option (TV×List TB×Prop) :=
 match md with
 | 0=>mapT P tt te tS o tS.length
 | _=>none
def opK1 (md n0 k:Nat) (o:Oper) (te:List TV) (tS:List TB) (fs:List Foot) (K:KO):Prop :=
 match newB tS (nidT md n0 k tS) with
 | false=>False
 | true=>match isCall o with
  | true=>callK tt T inl md o te tS fs K
  | false=>match mapM P tt md te tS o with
   | some (v,tS',c)=>c∧forceV v fun v=>putK te o.dst v fun te=>forceB tS' fun tS=>K te tS (fs++[⟨none,true⟩])
   | none=>match arithT te o with
   | some (v,c)=>c∧putK te o.dst v fun te=>K te tS (fs++[quietF])
   | none=>match isCmp o,cmpT P te o,nilT ty te o with
    | true,some b,_=>putK te o.dst (.val (.bool b)) fun te=>K te tS (fs++[quietF])
    | true,none,some (b,c)=>c∧putK te o.dst (.val (.bool b)) fun te=>K te tS (fs++[quietF])
    | _,_,_=>match md with
     | 1=>match pureT P ty tt te tS o with
      | some q=>match condOp o with
       | true=>q.2∧forceV q.1 fun v=>putK te o.dst v fun te=>K te tS (fs++[quietF])
       | false=>forceV q.1 fun v=>putK te o.dst v fun te=>K te tS (fs++[quietF])
      | none=>False
     | _=>match stepT P ty tt te tS o (nidT md n0 k tS) with
      | some q=>match condOp o with
       | true=>q.c∧forceV q.v fun v=>forceL q.te fun te=>putK te o.dst v fun te=>forceB q.tS fun tS=>K te tS (fs++[⟨some q.foot,wrOf o⟩])
       | false=>forceV q.v fun v=>putK q.te o.dst v fun te=>forceB q.tS fun tS=>K te tS (fs++[⟨some q.foot,wrOf o⟩])
      | none=>False
def opK (md n0 k:Nat) (o:Oper) (te:List TV) (tS:List TB) (fs:List Foot) (K:KO):Prop :=
 match arrT ty te o with
 | some (t,n,c)=>splitK n (fun j=>setK te t (.val (.int .i64 (j:Int))) fun te=>opK1 P ty tt T inl md n0 k o te tS fs K) c 0
 | none=>opK1 P ty tt T inl md n0 k o te tS fs K
def skipK (o:Oper) (te:List TV) (tS:List TB) (fs:List Foot) (K:KO):Prop:=putK te o.dst undT fun te=>K te tS (fs++[quietF])
def vcOps (md n0:Nat) (ops:Array Oper):List Oper→Nat→List TV→List TB→List Foot→KO→Prop
 | [],_,te,tS,fs,K=>K te tS fs
 | o::r,k,te,tS,fs,K=>match gdT ops te o with
  | .no true=>opK P ty tt T inl md n0 k o te tS fs fun te tS fs=>vcOps md n0 ops r (k+1) te tS fs K
  | .no false=>skipK o te tS fs fun te tS fs=>vcOps md n0 ops r (k+1) te tS fs K
  | .ask d b want=>match want with
   | true=>vcIf b (setK te d (.val (.bool true)) fun te=>opK P ty tt T inl md n0 k o te tS fs fun te tS fs=>vcOps md n0 ops r (k+1) te tS fs K) (setK te d (.val (.bool false)) fun te=>skipK o te tS fs fun te tS fs=>vcOps md n0 ops r (k+1) te tS fs K)
   | false=>vcIf b (setK te d (.val (.bool true)) fun te=>skipK o te tS fs fun te tS fs=>vcOps md n0 ops r (k+1) te tS fs K) (setK te d (.val (.bool false)) fun te=>opK P ty tt T inl md n0 k o te tS fs fun te tS fs=>vcOps md n0 ops r (k+1) te tS fs K)
  | .unk=>False
def bitO (d:Option Tmp):Nat :=
 match d with
 | some d=>2 ^ d
 | none=>0
def opUses (o:Oper):Nat:=o.op.operands.foldl (fun a x=>match x with | .tmp t=>a ||| 2 ^ t | _=>a) 0
def defs:Code→Nat
 | .region _ ops _=>ops.foldl (fun a o=>a ||| bitO o.dst) 0
 | .seq a b | .cond _ a b=>defs a ||| defs b
 | .block _ c | .loop c | .scope c=>defs c
 | _=>0
def uses:Code→Nat
 | .region _ ops _=>ops.foldl (fun a o=>a ||| opUses o) 0
 | .seq a b=>uses a ||| uses b
 | .cond x a b=>(match x with | .tmp t=>2 ^ t | _=>0) ||| uses a ||| uses b
 | .block _ c | .loop c | .scope c=>uses c
 | _=>0
def cnt:Code→Nat
 | .seq a b=>1+cnt a+cnt b
 | .cond _ a b=>cnt a+cnt b
 | .block _ c | .scope c=>cnt c
 | .loop c=>1+cnt c
 | _=>0
def headE (sl:List (Nat×TV)) (keep:Nat):Nat→List TV→List TV
 | _,[]=>[]
 | i,v::l=>(match sl.find? fun p=>p.1==i with
  | some p=>p.2
  | none=>match keep.testBit i with
   | true=>v
   | false => .unk)::headE sl keep (i+1) l
def headP (sl:List (Nat×TV)):Nat→List TV→Option (List Prop)
 | _,[]=>some []
 | i,v::l=>match sl.find? fun p=>p.1==i with
  | some p=>match leT v p.2,headP sl (i+1) l with
   | some x,some y=>some (x++y)
   | _,_=>none
  | none=>headP sl (i+1) l
abbrev MpL:=List (Nat×(Σ kt:TT,List kt.den))
def headB (pl:List (Nat×List TV)) (mp:MpL):Nat→List TB→List TB
 | _,[]=>[]
 | i,.cells c::l=>(match pl.find? fun p=>p.1==i with
  | some p => .cells p.2
  | none => .cells c)::headB pl mp (i+1) l
 | i,.map kt c::l=>(match mp.find? fun p=>p.1==i with
  | some (_,⟨kt',c'⟩) => .map kt' c'
  | none => .map kt c)::headB pl mp (i+1) l
 | i,.own e s::l => .own e s::headB pl mp (i+1) l
 | i,.none::l => .none::headB pl mp (i+1) l
def headBP (pl:List (Nat×List TV)) (mp:MpL):Nat→List TB→Option (List Prop)
 | _,[]=>some []
 | i,.cells c::l=>match pl.find? fun p=>p.1==i with
  | some p=>match leTl c p.2,headBP pl mp (i+1) l with
   | some x,some y=>some (x++y)
   | _,_=>none
  | none=>headBP pl mp (i+1) l
 | i,.map kt c::l=>match mp.find? fun p=>p.1==i with
  | some (_,⟨kt',c'⟩)=>if h:kt=kt' then match headBP pl mp (i+1) l with
   | some y=>some ((h▸c=c')::y)
   | none=>none else none
  | none=>headBP pl mp (i+1) l
 | i,.own _ _::l=>headBP pl mp (i+1) l
 | i,.none::l=>headBP pl mp (i+1) l
def headS (b:Bd) (tS:List TB):List TB:=headB b.pl b.mp 0 tS++b.own.map fun p => .own p.1 p.2
abbrev KC:=DX→List TV→List TB→Prop
def findA (J:List (Nat×LA)) (i:Nat) (te:List TV) (tS:List TB):Option LA :=
 match J.find? fun p=>p.1==i with
 | some p=>some (p.2.at te tS)
 | none=>none
def entryK (B:List Nat) (b:Bd) (keep:Nat) (te:List TV) (tS:List TB) (K:Prop):Prop :=
 vcIf (okB (headE b.sl keep 0 te) (headS b tS)&&B.all (liveB (headS b tS))) (ask (headP b.sl 0 te) (ask (headBP b.pl b.mp 0 tS) (conj b.good K))) False
def backK (B:List Nat) (te1:List TV) (tS1:List TB) (b:Bd) (te:List TV) (tS:List TB) (K:Prop):Prop :=
 vcIf (okB te1 tS1&&B.all (liveB tS1)) (ask (leTl te te1) (ask (leBl tS tS1) (conj b.good K))) False
def unK (f:List TV→List TB→(List TV→List TB→Prop)→Prop):Nat→List TV→List TB→Prop
 | 0,_,_=>False
 | n+1,te,tS=>f te tS (unK f n)
def quietR (P:Program):Code→Option (Array Oper)
 | .region _ ops true=>if loudR P ops then none else some ops
 | _=>none
def keepOk (keep:Nat) (ops:Array Oper):Bool:=ops.toList.all fun o=>match o.dst with
 | some d => !keep.testBit d
 | none=>true
def setOp (x:Operand) (te:List TV) (v:Bool) (K:List TV→Prop):Prop :=
 match x with
 | .tmp t=>setK te t (.val (.bool v)) K
 | _=>K te
variable (B:List Nat) (J:List (Nat×LA))
def vcC:Code→Nat→Nat→List TV→List TB→KC→Prop
 | .skip,_,_,te,tS,K | .label _,_,_,te,tS,K=>K .normal te tS
 | .exit id,_,_,te,tS,K=>K (.exit id) te tS
 | .ret,_,_,te,tS,K=>K .ret te tS
 | .scope c,i,lv,te,tS,K=>vcC c i lv te tS K
 | .block id c,i,lv,te,tS,K=>vcC c i lv te tS fun e te tS=>match e with
  | .exit id'=>if id'=id then K .normal te tS else K (.exit id') te tS
  | .normal=>K .normal te tS
  | .ret=>K .ret te tS
 | .cond x a b,i,lv,te,tS,K=>match evT te x with
  | some (.val (.bool t))=>vcIf t (setOp x te true fun te=>vcC a i lv te tS K) (setOp x te false fun te=>vcC b (i+cnt a) lv te tS K)
  | _=>False
 | .seq a b,i,lv,te,tS,K=>match findA J i te tS with
  | some la=>match quietR P a with
   | some ops=>vcIf (drawOk ops (Region.before ops)&&keepOk ((lv ||| uses b) &&& (2 ^ 400-1-(defs a))) ops) (vcOps P ty tt T inl 1 0 ops ops.toList 0 te tS [] fun te' _ _=>la.some fun bd=>ask (headP bd.sl 0 te') (conj bd.good True)) False ∧
    la.all fun bd=>impl bd.good (forceL (headE bd.sl ((lv ||| uses b) &&& (2 ^ 400-1-(defs a))) 0 te) fun te1=>vcC b (i+1+cnt a) lv te1 tS K)
   | none=>vcC a (i+1) (lv ||| uses b) te tS (fun e te' tS'=>match e with
    | .normal=>la.some fun bd=>backK B (headE bd.sl ((lv ||| uses b) &&& (2 ^ 400-1-(defs a))) 0 te) (headS bd tS) bd te' tS' True
    | .exit id=>K (.exit id) te' tS'
    | .ret=>K .ret te' tS')∧la.all fun bd=>impl bd.good (forceL (headE bd.sl ((lv ||| uses b) &&& (2 ^ 400-1-(defs a))) 0 te) fun te1=>forceB (headS bd tS) fun tS1=>vcC b (i+1+cnt a) lv te1 tS1 K)
  | none=>vcC a (i+1) (lv ||| uses b) te tS fun e te tS=>match e with
   | .normal=>vcC b (i+1+cnt a) lv te tS K
   | .exit id=>K (.exit id) te tS
   | .ret=>K .ret te tS
 | .loop c,i,lv,te,tS,K=>match findA J i te tS with
  | some (.un n)=>unK (fun te tS K'=>vcC c (i+1) (lv ||| uses c) te tS fun e te tS=>match e with
    | .normal=>K' te tS
    | .exit id=>K (.exit id) te tS
    | .ret=>K .ret te tS) (min n 1000) te tS
  | some la=>(la.some fun bd=>entryK B bd ((lv ||| uses c) &&& (2 ^ 400-1-(defs c))) te tS (bd.m<1000000)) ∧
   la.all fun bd=>impl bd.good (forceL (headE bd.sl ((lv ||| uses c) &&& (2 ^ 400-1-(defs c))) 0 te) fun te1=>forceB (headS bd tS) fun tS1=>vcC c (i+1) (lv ||| uses c) te1 tS1 fun e te' tS'=>match e with
    | .normal=>la.some fun bd'=>backK B (headE bd'.sl ((lv ||| uses c) &&& (2 ^ 400-1-(defs c))) 0 te) (headS bd' tS) bd' te' tS' (bd'.m<bd.m)
    | .exit id=>K (.exit id) te' tS'
    | .ret=>K .ret te' tS')
  | none=>False
 | .region _ ops draw,_,_,te,tS,K=>match draw with
  | true=>match loudR P ops with
   | true=>vcIf (drawOk ops (Region.before ops)) (forceB (tS++List.replicate ops.size .none) fun tS0=>vcOps P ty tt T inl 2 tS.length ops ops.toList 0 te tS0 [] fun te tS fs=>vcIf (metOk (Region.before ops) fs) (forceB (trimT tS) fun tS=>K .normal te tS) False) False
   | false=>vcIf (drawOk ops (Region.before ops)) (vcOps P ty tt T inl 1 0 ops ops.toList 0 te tS [] fun te _ _=>K .normal te tS) False
  | false=>vcOps P ty tt T inl 0 0 ops ops.toList 0 te tS [] fun te tS _=>forceB (trimT tS) fun tS=>K .normal te tS
 | _,_,_,_,_,_=>False
def finI (ty:Tys) (rs:List ResultVar) (rts:List (Option TT)) (s:SpT) (te:List TV) (tS:List TB):Prop :=
 match resT ty te tS rs with
 | some vs=>vcIf (vs.all pureB&&(refs (oneV (normL rts vs))).isEmpty) (s.some fun v _ facts=>ask (eqT (oneV (normL rts vs)) v) (conjE facts)) False
 | none=>False
def finC (ty:Tys) (rs:List ResultVar) (rts cts:List (Option TT)) (s:SpT) (te:List TV) (tS:List TB):Prop :=
 match resT ty te tS rs,tS with
 | some vs,.cells ts::_=>vcIf (vs.all pureB&&(refs (oneV (normL rts vs))).isEmpty&&(ts.all pureB&&(refsL (normL cts ts)).isEmpty)) (s.some fun v cs facts=>ask (eqT (oneV (normL rts vs)) v) (ask (eqL (normL cts ts) cs) (conjE facts))) False
 | _,_=>False
def finN (ty:Tys) (rs:List ResultVar) (cts:List (Option TT)) (s:SpT) (te:List TV) (tS:List TB):Prop :=
 match resT ty te tS rs,tS with
 | some [.ptr 0 0],.cells ts::_=>vcIf (ts.all pureB&&(refsL (normL cts ts)).isEmpty) (s.some fun _ cs facts=>ask (eqL (normL cts ts) cs) (conjE facts)) False
 | _,_=>False
def endF (F:List TV→List TB→Prop) (e:DX) (te:List TV) (tS:List TB):Prop :=
 match e with
 | .exit _=>False
 | .normal=>F te tS
 | .ret=>F te tS
end
def resMask (rs:List ResultVar):Nat:=rs.foldl (fun a x=>match x with | .tmp t=>a ||| 2 ^ t | .cell t _=>a ||| 2 ^ t) 0
def padT (n:Nat) (l:List TV):List TV:=l++List.replicate (n-l.length) .unk
def bodyC (f:Func):Code:=f.body.getD .skip
def finX (ty:Tys) (rs:List ResultVar) (K:TV→List TB→Prop) (te:List TV) (tS:List TB):Prop :=
 match resT ty te tS rs with
 | some vs=>K (oneV vs) tS
 | none=>False
def inlD (P:Program) (ty:Tys) (tt:TypeId→Option TT) (T:Tbl):Nat→Inl
 | 0=>fun _ _ _ _ _=>False
 | d+1=>fun fn j A tS K=>forceL (padT fn.ntmps A) fun te=>vcC P ty tt T (inlD P ty tt T d) (cellsIx 0 tS) j (bodyC fn) 0 (resMask fn.results.toList) te tS (endF (finX ty fn.results.toList K))
end Go.Tv
end
section
namespace Go.Tv
open Go Go.Di Go.Proofs
theorem vcIf_elim {b:Bool} {A B:Prop} (h:vcIf b A B):(b=true→A)∧(b=false→B):=by cases b<;>exact⟨fun e=>by cases e<;>exact h,fun e=>by cases e<;>exact h⟩
theorem vcIf_no {b:Bool} {A:Prop} (h:vcIf b A False):b=true∧A:=by
 cases b
 ·exact h.elim
 ·exact⟨rfl,h⟩
theorem conjE_iff:∀ {l:List Prop},conjE l↔∀ p∈l,p
 | []=>by simp[conjE]
 | p::l=>by
  have:=conjE_iff (l:=l)
  simp only[conjE,this,List.mem_cons,forall_eq_or_imp]
theorem conj_elim:∀ {l:List Prop} {R:Prop},conj l R→conjE l∧R
 | [],_,h=>⟨trivial,h⟩
 | p::l,R,h=>by
  obtain⟨h1,h2⟩:=conj_elim h.2
  exact⟨conjE_iff.2 (by rintro q hq; rcases List.mem_cons.1 hq with rfl | hq; exact h.1; exact conjE_iff.1 h1 q hq),h2⟩
theorem conjE_app {l m:List Prop} (h:conjE (l++m)):conjE l∧conjE m:=by
 rw[conjE_iff] at h
 exact⟨conjE_iff.2 fun p hp=>h p (List.mem_append_left _ hp),conjE_iff.2 fun p hp=>h p (List.mem_append_right _ hp)⟩
theorem impl_elim:∀ {l:List Prop} {R:Prop},impl l R→conjE l→R
 | [],_,h,_=>h
 | p::l,R,h,k=>by
  rw[conjE_iff] at k
  exact impl_elim (h (k p (List.mem_cons_self ..))) (conjE_iff.2 fun q hq=>k q (List.mem_cons_of_mem _ hq))
theorem ask_elim {o:Option (List Prop)} {K:Prop} (h:ask o K):∃ l,o=some l∧conjE l∧K:=by
 cases o with
 | none=>exact h.elim
 | some l=>exact⟨l,rfl,conj_elim h⟩
theorem sp_all {R K:TV→List TV→List Prop→Prop}:∀ {s:SpT},s.all R→s.some K→∃ v cs fs,R v cs fs∧K v cs fs
 | .ex _ _,h,⟨x,k⟩=>sp_all (h x) k
 | .res v cs fs,h,k=>⟨v,cs,fs,h,k⟩
theorem all_holds {R:TV→List TV→Prop} {v:TV} {cs:List TV} {s:SpT} (h:s.all fun v cs fs=>impl fs (R v cs)) (k:s.holds v cs):R v cs:=by
 obtain⟨v',cs',fs,h,rfl,rfl,hf⟩:=sp_all h k
 exact impl_elim h hf
theorem all_holdsV {R:TV→Prop} {v:TV} {s:SpT} (h:s.all fun v _ fs=>impl fs (R v)) (k:s.holdsV v):R v:=by
 obtain⟨v',cs',fs,h,rfl,hf⟩:=sp_all h k
 exact impl_elim h hf
theorem all_holdsN {R:List TV→Prop} {cs:List TV} {s:SpT} (h:s.all fun _ cs fs=>impl fs (R cs)) (k:s.holdsN cs):R cs:=by
 obtain⟨v',cs',fs,h,rfl,hf⟩:=sp_all h k
 exact impl_elim h hf
mutual
theorem forceV_ok:∀ (v:TV) {K:TV→Prop},forceV v K→K v
 | .unk,_,h=>h
 | .val v,_,h=>by cases v<;>exact h
 | .nils,_,h=>h
 | .agg l,K,h=>by simp only[forceV] at h; exact forceL_ok l (K:=fun l=>K (.agg l)) h
 | .tup l,K,h=>by simp only[forceV] at h; exact forceL_ok l (K:=fun l=>K (.tup l)) h
 | .sl _ _ _,_,h=>h
 | .ptr _ _,_,h=>h
 | .eptr _ _ _ _,_,h=>h
 | .mp _,_,h=>h
 | .fn f a b,K,h=>by simp only[forceV] at h; exact forceL_ok b (K:=fun b=>K (.fn f a b)) (forceL_ok a (K:=fun a=>forceL b fun b=>K (.fn f a b)) h)
theorem forceL_ok:∀ (l:List TV) {K:List TV→Prop},forceL l K→K l
 | [],_,h=>h
 | a::l,K,h=>forceL_ok l (K:=fun l=>K (a::l)) (forceV_ok a (K:=fun a=>forceL l fun l=>K (a::l)) h)
end
theorem forceB_ok:∀ (l:List TB) {K:List TB→Prop},forceB l K→K l
 | [],_,h=>h
 | .cells c::l,K,h=>forceB_ok l (K:=fun l=>K (.cells c::l)) (forceL_ok c (K:=fun c=>forceB l fun l=>K (.cells c::l)) h)
 | .none::l,K,h=>forceB_ok l (K:=fun l=>K (.none::l)) h
 | .own e s::l,K,h=>forceB_ok l (K:=fun l=>K (.own e s::l)) h
 | .map kt c::l,K,h=>forceB_ok l (K:=fun l=>K (.map kt c::l)) h
theorem setK_ok:∀ (l:List TV) (n:Nat) (v:TV) {K:List TV→Prop},setK l n v K→K (l.set n v)
 | [],_,_,_,h=>h
 | _::_,0,_,_,h=>h
 | a::l,n+1,v,K,h=>setK_ok l n v (K:=fun l=>K (a::l)) h
theorem putK_ok {te:List TV} {dst:Option Tmp} {v:TV} {K:List TV→Prop} (h:putK te dst v K):K (putTV te dst v):=by
 cases dst with
 | none=>exact h
 | some d=>exact setK_ok te d v h
theorem set_same:∀ {l:List TV} {n:Nat} {v:TV},l[n]? = some v→l.set n v=l
 | [],_,_,h=>by simp at h
 | _::_,0,_,h=>by simp only[List.getElem?_cons_zero,Option.some.injEq] at h; rw[h]; rfl
 | a::l,n+1,v,h=>by rw[List.set_cons_succ,set_same (l:=l) (by simpa using h)]
mutual
theorem eqT_ok:∀ {a b:TV} {l:List Prop},eqT a b=some l→conjE l→a=b
 | a,b,l,h,k=>by
  unfold eqT at h
  split at h
  ·rfl
  ·split at h
   ·rename_i hk
    subst hk
    cases h
    rw[show _=_ from k.1]
   ·cases h
  ·cases h; rw[show _=_ from k.1]
  ·cases h; rw[show _=_ from k.1]
  ·rfl
  ·rw[eqL_ok h k]
  ·rw[eqL_ok h k]
  ·split at h
   ·rename_i ht; subst ht; cases h; cases (show _=_ from k.1); rfl
   ·cases h
  ·split at h
   ·rename_i ht; subst ht; cases h; cases (show _=_ from k.1); rfl
   ·cases h
  ·split at h
   ·rename_i ht
    subst ht
    split at h
    ·rename_i hg; subst hg; cases h; cases (show _=_ from k.1); rfl
    ·cases h
   ·cases h
  ·split at h
   ·rename_i ht; obtain⟨rfl,rfl⟩:=ht; rfl
   ·cases h
  ·split at h
   ·rename_i ht; subst ht; rfl
   ·cases h
  ·split at h
   ·rename_i ht
    subst ht
    cases h
    obtain⟨k1,k2,k3⟩:=k
    cases (show _=_ from k1); cases (show _=_ from k2); cases (show _=_ from k3.1); rfl
   ·cases h
  ·split at h
   ·rename_i hf
    subst hf
    split at h
    ·rename_i x y h1 h2
     cases h
     obtain⟨k1,k2⟩:=conjE_app k
     rw[eqL_ok h1 k1,eqL_ok h2 k2]
    ·cases h
   ·cases h
  ·cases h
theorem eqL_ok:∀ {a b:List TV} {l:List Prop},eqL a b=some l→conjE l→a=b
 | [],[],_,_,_=>rfl
 | a::l,b::m,_,h,k=>by
  simp only[eqL] at h
  split at h
  ·rename_i x y h1 h2
   cases h
   obtain⟨k1,k2⟩:=conjE_app k
   rw[eqT_ok h1 k1,eqL_ok h2 k2]
  ·cases h
 | [],_::_,_,h,_=>by simp[eqL] at h
 | _::_,[],_,h,_=>by simp[eqL] at h
end
def LeV (u v:TV):Prop:=∀ l m,LeL l m→LeL (u::l) (v::m)
mutual
theorem leT_ok:∀ {v u:TV} {l:List Prop},leT v u=some l→conjE l→LeV u v
 | v,u,l,h,k=>by
  unfold leT at h
  split at h
  ·exact fun _ _ => .unk
  ·split at h
   ·rename_i ht
    subst ht
    cases h
    cases (show _=_ from k.1)
    exact fun _ _ => .no
   ·cases h
  ·split at h
   ·split at h
    ·rename_i ht
     subst ht
     cases h
     cases (show _=_ from k.1)
     exact fun _ _ => .lab
    ·cases h
   ·cases h
  ·cases h
   cases (show _=_ from k.1)
   exact fun _ _ => .nils
  ·rename_i a b
   have:=leTl_ok h k
   exact fun _ _ => .agg this
  ·rw[eqT_ok h k]
   exact fun _ _ => .same
theorem leTl_ok:∀ {v u:List TV} {l:List Prop},leTl v u=some l→conjE l→LeL u v
 | [],[],_,_,_ => .nil
 | a::l,b::m,_,h,k=>by
  simp only[leTl] at h
  split at h
  ·rename_i x y h1 h2
   cases h
   obtain⟨k1,k2⟩:=conjE_app k
   exact leT_ok h1 k1 _ _ (leTl_ok h2 k2)
  ·cases h
 | [],_::_,_,h,_=>by simp[leTl] at h
 | _::_,[],_,h,_=>by simp[leTl] at h
end
theorem leBl_ok:∀ {v u:List TB} {l:List Prop},leBl v u=some l→conjE l→LeB u v
 | v,u,l,h,k=>by
  induction u generalizing v l with
  | nil=>exact .nil
  | cons b m ih =>
   cases v with
   | nil =>
    cases b with
    | own e s=>exact .new (ih _ _ h k)
    | _=>simp[leBl] at h
   | cons a v =>
    cases b with
    | none=>exact .none (ih _ _ (by simpa [leBl] using h) k)
    | cells c =>
     cases a with
     | cells d =>
      simp only[leBl] at h
      split at h
      ·rename_i x y h1 h2
       cases h
       obtain⟨k1,k2⟩:=conjE_app k
       exact .cells (leTl_ok h1 k1) (ih _ _ h2 k2)
      ·cases h
     | _=>simp[leBl] at h
    | own e s =>
     cases a with
     | own e' s' =>
      simp only[leBl] at h
      split at h
      ·rename_i he
       obtain⟨rfl,rfl⟩:=he
       exact .own (ih _ _ h k)
      ·cases h
     | _=>simp[leBl] at h
    | map kt c =>
     cases a with
     | map kt' c' =>
      simp only[leBl] at h
      split at h
      ·rename_i he
       subst he
       split at h
       ·rename_i y h2
        cases h
        obtain⟨k1,k2⟩:=k
        cases (show _=_ from k1)
        exact .map (ih _ _ h2 k2)
       ·cases h
      ·cases h
     | _=>simp[leBl] at h
theorem headP_ok {sl:List (Nat×TV)} {keep:Nat}:∀ {i:Nat} {te:List TV} {l:List Prop},headP sl i te=some l→conjE l→LeL (headE sl keep i te) te
 | _,[],_,_,_ => .nil
 | i,v::te,l,h,k=>by
  simp only[headP] at h
  simp only[headE]
  split at h
  ·rename_i p hp
   split at h
   ·rename_i x y h1 h2
    cases h
    obtain⟨k1,k2⟩:=conjE_app k
    exact leT_ok h1 k1 _ _ (headP_ok h2 k2)
   ·cases h
  ·rename_i hp
   split
   ·exact .same (headP_ok h k)
   ·exact .unk (headP_ok h k)
theorem headBP_ok {pl:List (Nat×List TV)} {mp:MpL} {own:List (Nat×Nat)}:∀ {i:Nat} {tS:List TB} {l:List Prop},headBP pl mp i tS=some l→conjE l→LeB (headB pl mp i tS++own.map fun p=>TB.own p.1 p.2) tS
 | _,[],_,_,_=>leB_owns own
 | i,.none::tS,l,h,k=>by
  simp only[headBP] at h
  exact .none (headBP_ok h k)
 | i,.own _ _::tS,l,h,k=>by
  simp only[headBP] at h
  exact .own (headBP_ok h k)
 | i,.cells c::tS,l,h,k=>by
  simp only[headBP] at h
  simp only[headB,List.cons_append]
  split at h
  ·rename_i p hp
   split at h
   ·rename_i x y h1 h2
    cases h
    obtain⟨k1,k2⟩:=conjE_app k
    exact .cells (leTl_ok h1 k1) (headBP_ok h2 k2)
   ·cases h
  ·exact .cells (LeL.refl c) (headBP_ok h k)
 | i,.map kt c::tS,l,h,k=>by
  simp only[headBP] at h
  simp only[headB,List.cons_append]
  split at h
  ·rename_i a kt' c' hp
   split at h
   ·rename_i he
    subst he
    split at h
    ·rename_i y h2
     cases h
     obtain⟨k1,k2⟩:=k
     cases (show c=c' from k1)
     exact .map (headBP_ok h2 k2)
    ·cases h
   ·cases h
  ·exact .map (headBP_ok h k)
variable {P:Program} {ty:Tys} {tt:TypeId→Option TT} {T:Tbl} {ι ι' w:Ids} {S S':Store} {te te1:List TV} {env:List DV} {tS tS1:List TB} {iso:IsoF} {call:CallF} {yf:YldF} {o:Oper} {nid nT:Nat} {B:List Nat} {r:TR} {ops:Array Oper} {L:Nat} {fn:FuncId} {rnd:Bool}
theorem arith_pure {v:TV} {c:Prop} (h:arithT te o=some (v,c)) (hc:c):pureT P ty tt te tS o=some (v,True):=by
 unfold arithT at h
 split at h
 ·rename_i t x y _ ho
  split at h
  ·rename_i a b h1 h2
   cases h
   have:pureD P (do eqGuard .add t x y (.int .i64 a) (.int .i64 b); binOp .add t (.int .i64 a) (.int .i64 b))=some (.val (.int .i64 (IntKind.i64.wrap (a+b)))):=rfl
   simp only[pureT,ho,h1,h2,Option.bind_some,toValT,this,valT,Option.map_some,wr_i64 hc.1 hc.2]
  ·cases h
 ·rename_i t x y _ ho
  split at h
  ·rename_i a b h1 h2
   cases h
   have:pureD P (do eqGuard .sub t x y (.int .i64 a) (.int .i64 b); binOp .sub t (.int .i64 a) (.int .i64 b))=some (.val (.int .i64 (IntKind.i64.wrap (a-b)))):=rfl
   simp only[pureT,ho,h1,h2,Option.bind_some,toValT,this,valT,Option.map_some,wr_i64 hc.1 hc.2]
  ·cases h
 ·rename_i t x y _ ho
  split at h
  ·rename_i a b h1 h2
   cases h
   have:pureD P (do eqGuard .mul t x y (.int .i64 a) (.int .i64 b); binOp .mul t (.int .i64 a) (.int .i64 b))=some (.val (.int .i64 (IntKind.i64.wrap (a*b)))):=rfl
   simp only[pureT,ho,h1,h2,Option.bind_some,toValT,this,valT,Option.map_some,wr_i64 hc.1 hc.2]
  ·cases h
 ·rename_i t x ho
  split at h
  ·rename_i a h1
   cases h
   have:pureD P (Op.unary .neg (.int .i64 a))=some (.val (.int .i64 (IntKind.i64.wrap (-a)))):=by rw[← Int.zero_sub]; rfl
   simp only[pureT,ho,h1,Option.bind_some,toValT,this,valT,Option.map_some,wr_i64 hc.1 hc.2]
  ·cases h
 ·cases h
theorem cmp_eql {t:TypeId} {xs ys:Array Value} {b:Bool} (ht:P.underlying t=some (.struct (P.fieldsOf t))) (hp:P.stoodInHeld t=false) (hm:P.eqGuardType P.depth t=false) (hf:pureS P (Op.eqFields 9999 xs ys (P.fieldsOf t).toList)=some b) (x y:Operand) :
  pureD P (do eqGuard .eql t x y (.agg xs) (.agg ys); binOp .eql t (.agg xs) (.agg ys))=some (.val (.bool b)):=by
 have h1:pureS P (eqGuard .eql t x y (.agg xs) (.agg ys))=some ():=by
  simp only[eqGuard]
  simp only[Bool.not_true,Bool.false_eq_true,if_false,pureS_bindE,pureS_program,Option.bind_some,hm,Bool.not_false,if_true]
  rfl
 have h2:pureS P (binOp .eql t (.agg xs) (.agg ys))=some (.bool b):=by
  simp only[binOp,pureS_bindE,Op.equal,Op.maxDepth,pureS_struct 9999 t xs ys ht hp,hf,Option.bind_some]
  rfl
 rw[pureD,pureS_bindE,h1,Option.bind_some,h2]
 rfl
theorem eqFs_ok {xs ys:Array Value} {fs:List Field} {b:Bool} (h:eqFs P xs ys fs=some b):pureS P (Op.eqFields 9999 xs ys fs)=some b:=eqFsE_ok (fun _ _ _ _ h=>eqV_ok (by omega) h) h
theorem cmp_pure {b:Bool} (h:cmpT P te o=some b):pureT P ty tt te tS o=some (.val (.bool b),True):=by
 unfold cmpT at h
 split at h
 ·rename_i t x y _ ho
  split at h
  ·rename_i xs ys h1 h2
   split at h
   ·rename_i fs h3 h4 h5
    simp only[Option.map_eq_some_iff] at h
    obtain⟨r,h6,rfl⟩:=h
    have e:=cmp_neq (P:=P) (under_fields h3) h4 h5 (b:=r) (by simp only[Program.fieldsOf,h3]; exact eqFs_ok h6) x y
    simp only[pureT,ho,h1,h2,e,valT,Option.map_some]
   ·cases h
  ·cases h
 ·rename_i t x y _ ho
  split at h
  ·rename_i xs ys h1 h2
   split at h
   ·rename_i fs h3 h4 h5
    have e:=cmp_eql (P:=P) (under_fields h3) h4 h5 (b:=b) (by simp only[Program.fieldsOf,h3]; exact eqFs_ok h) x y
    simp only[pureT,ho,h1,h2,e,valT,Option.map_some]
   ·cases h
  ·cases h
 ·cases h
end Go.Tv
end
