import Derived.Test.YtedcgbkilmlbhaaGreatPk06
section
namespace Go.Tv
open Go Go.Di Go.Proofs
def aI (b:Bool) (A B:Prop):Prop :=
 match b with
 | true=>A
 | false=>B
def yh:List Prop→Prop→Prop
 | [],R=>R
 | p::l,R=>p∧yh l R
def cA:List Prop→Prop
 | []=>True
 | p::l=>p∧cA l
def impl:List Prop→Prop→Prop
 | [],R=>R
 | p::l,R=>p→impl l R
inductive qX:Type 1
 | ex (α:Type) (k:α→qX)
 | res (v:TV) (cs:List TV) (facts:List Prop)
def qX.all:qX→(TV→List TV→List Prop→Prop)→Prop
 | .ex _ k,K=>∀ x,(k x).all K
 | .res v cs fs,K=>K v cs fs
def qX.some:qX→(TV→List TV→List Prop→Prop)→Prop
 | .ex _ k,K=>∃ x,(k x).some K
 | .res v cs fs,K=>K v cs fs
def qX.holds (s:qX) (v:TV) (cs:List TV):Prop:=s.some fun v' gL fs=>v=v'∧cs=gL∧cA fs
def qX.rX (s:qX) (v:TV):Prop:=s.some fun v' _ fs=>v=v'∧cA fs
def qX.vn (s:qX) (cs:List TV):Prop:=s.some fun _ gL fs=>cs=gL∧cA fs
abbrev Sp:=Option (List Prop×qX)
structure Bd where
 sl:List (Nat×TV)
 pl:List (Nat×List TV):=[]
 own:List (Nat×Nat):=[]
 dn:List Prop:=[]
 mp:List (Nat×(Σ kt:TT,List kt.den)):=[]
 m:Nat:=0
inductive LA:Type 1
 | ex (α:Type) (k:α→LA)
 | st (b:Bd)
 | un (n:Nat)
 | dep (f:List TV→List TB→LA)
 | pe (n:Nat) (a:LA)
def LA.Ul:LA→Nat
 | .pe n _=>n
 | _=>0
def LA.inner:LA→LA
 | .pe _ a=>a
 | a=>a
def LA.at (la:LA) (te:List TV) (tS:List TB):LA :=
 match la with
 | .dep f=>f te tS
 | la=>la
def acM (te:List TV) (i:Nat) (k:List Int→LA):LA :=
 match te.getD i .unk with
 | .sl (.int .i64) l _=>k l
 | _ => .un 0
def LA.all:LA→(Bd→Prop)→Prop
 | .ex _ k,K=>∀ x,(k x).all K
 | .st b,K=>K b
 | _,_=>True
def LA.some:LA→(Bd→Prop)→Prop
 | .ex _ k,K=>∃ x,(k x).some K
 | .st b,K=>K b
 | _,_=>False
structure gh where
 I:FuncId→List TV→Sp
 C:FuncId→List TV→List TV→Sp
 N:FuncId→List TV→Sp
 X:FuncId→Option (Func×List (Nat×LA)):=fun _=>none
structure oO (T:gh) (aC:bk) (call:aW):Prop where
 I:∀ g a p s,T.I g a=some (p,s)→cA p→oS aC g a fun v=>s.rX v
 C:∀ g a c p s,T.C g a c=some (p,s)→cA p→wG call g a c fun v cs=>s.holds v cs
 N:∀ g a p s,T.N g a=some (p,s)→cA p→yx aC call g a fun cs=>s.vn cs
mutual
def gu (v:TV) (K:TV→Prop):Prop :=
 match v with
 | .unk=>K .unk
 | .val (.int k n)=>K (.val (.int k n))
 | .val (.bool b)=>K (.val (.bool b))
 | .val v=>K (.val v)
 | .eu=>K .eu
 | .agg l=>cT l fun l=>K (.agg l)
 | .ep l=>cT l fun l=>K (.ep l)
 | .sl t l ap=>K (.sl t l ap)
 | .ptr id off=>K (.ptr id off)
 | .cV t l i off=>K (.cV t l i off)
 | .mp id=>K (.mp id)
 | .so g t=>K (.so g t)
 | .sp g t i off=>K (.sp g t i off)
 | .fn f a b=>cT a fun a=>cT b fun b=>K (.fn f a b)
def cT (l:List TV) (K:List TV→Prop):Prop :=
 match l with
 | []=>K []
 | a::l=>gu a fun a=>cT l fun l=>K (a::l)
end
def cH (l:List TB) (K:List TB→Prop):Prop :=
 match l with
 | []=>K []
 | .cells c::l=>cT c fun c=>cH l fun l=>K (.cells c::l)
 | .none::l=>cH l fun l=>K (.none::l)
 | .own e s::l=>cH l fun l=>K (.own e s::l)
 | .map kt c::l=>cH l fun l=>K (.map kt c::l)
 | .rows t e c z::l=>cH l fun l=>K (.rows t e c z::l)
def Ax:List TV→Nat→TV→(List TV→Prop)→Prop
 | [],_,_,K=>K []
 | _::l,0,v,K=>K (v::l)
 | a::l,n+1,v,K=>Ax l n v fun l=>K (a::l)
def iy (te:List TV) (dst:Option Tmp) (v:TV) (K:List TV→Prop):Prop :=
 match dst with
 | some d=>Ax te d v K
 | none=>K te
mutual
def Vm:TV→TV→Option (List Prop)
 | .unk,.unk=>some []
 | .val (.int k a),.val (.int k' b)=>if k=k' then some [a=b] else none
 | .val (.bool a),.val (.bool b)=>some [a=b]
 | .val a,.val b=>some [a=b]
 | .eu,.eu=>some []
 | .agg l,.agg m=>Ml l m
 | .ep l,.ep m=>Ml l m
 | .sl t l .no,.sl t' l' .no=>if h:t=t' then some [h▸l=l'] else none
 | .sl t l .full,.sl t' l' .full=>if h:t=t' then some [h▸l=l'] else none
 | .sl t l (.oC g),.sl t' l' (.oC g')=>if h:t=t' then if g=g' then some [h▸l=l'] else none else none
 | .ptr i o,.ptr i' o'=>if i=i'∧o=o' then some [] else none
 | .mp i,.mp i'=>if i=i' then some [] else none
 | .so i t,.so i' t'=>if i=i'∧t=t' then some [] else none
 | .cV t l i o,.cV t' l' i' o'=>if h:t=t' then some [h▸l=l',i=i',o=o'] else none
 | .fn f a b,.fn f' a' b'=>if f=f' then match Ml a a',Ml b b' with
  | some x,some y=>some (x++y)
  | _,_=>none else none
 | _,_=>none
def Ml:List TV→List TV→Option (List Prop)
 | [],[]=>some []
 | a::l,b::m=>match Vm a b,Ml l m with
  | some x,some y=>some (x++y)
  | _,_=>none
 | _,_=>none
end
mutual
def leT:TV→TV→Option (List Prop)
 | _,.unk=>some []
 | .sl t l _,.sl t' l' .no=>if h:t=t' then some [h▸l=l'] else none
 | .sl t l .full,.sl t' l' (.oC _)=>match l with
  | []=>if t=t' then some [[]=l'] else none
  | _::_=>none
 | .eu,.sl _ l _=>some [[]=l]
 | .agg l,.agg m=>Ce l m
 | v,u=>Vm v u
def Ce:List TV→List TV→Option (List Prop)
 | [],[]=>some []
 | a::l,b::m=>match leT a b,Ce l m with
  | some x,some y=>some (x++y)
  | _,_=>none
 | _,_=>none
end
def oy:List TB→List TB→Option (List Prop)
 | _,[]=>some []
 | _::l,.none::m=>oy l m
 | .cells a::l,.cells b::m=>match Ce a b,oy l m with
  | some x,some y=>some (x++y)
  | _,_=>none
 | .own e s::l,.own e' s'::m=>if e=e'∧s=s' then oy l m else none
 | .map kt a::l,.map Tj b::m=>if h:kt=Tj then match oy l m with
  | some y=>some ((h▸a=b)::y)
  | none=>none else none
 | .rows t e a z::l,.rows t' e' b z'::m=>if h:t=t' then if e=e'∧z=z' then match oy l m with
  | some y=>some ((h▸a=b)::y)
  | none=>none else none else none
 | [],.own _ _::m=>oy [] m
 | _,_=>none
def ask (o:Option (List Prop)) (K:Prop):Prop :=
 match o with
 | some l=>yh l K
 | none=>False
section
variable (P:Program) (ty:eY) (tt:TypeId→Option TT) (T:gh)
def dK (n:Int):Prop := -9223372036854775808≤n∧n≤9223372036854775807
def yJ (te:List TV) (o:Oper):Option (TV×Prop) :=
 match o.op with
 | .binOp .add _ x y _=>match fG te x,fG te y with
  | some (.val (.int .i64 a)),some (.val (.int .i64 b))=>some (.val (.int .i64 (a+b)),dK (a+b))
  | _,_=>none
 | .binOp .sub _ x y _=>match fG te x,fG te y with
  | some (.val (.int .i64 a)),some (.val (.int .i64 b))=>some (.val (.int .i64 (a-b)),dK (a-b))
  | _,_=>none
 | .binOp .mul _ x y _=>match fG te x,fG te y with
  | some (.val (.int .i64 a)),some (.val (.int .i64 b))=>some (.val (.int .i64 (a*b)),dK (a*b))
  | _,_=>none
 | .unOp .neg _ x=>match fG te x with
  | some (.val (.int .i64 a))=>some (.val (.int .i64 (-a)),dK (-a))
  | _=>none
 | _=>none
abbrev V9 (xs ys:Array Value):List Field→Option Bool:=El P (eqV P 1) xs ys
def MH (te:List TV) (o:Oper):Option Bool :=
 match o.op with
 | .binOp .neq t x y _=>match (fG te x).bind fR,(fG te y).bind fR with
  | some (.agg xs),some (.agg ys)=>match P.underlying t,P.stoodInHeld t,P.eqGuardType P.depth t with
   | some (.struct fs),false,false=>(V9 P xs ys fs.toList).map fun r => !r
   | _,_,_=>none
  | _,_=>none
 | .binOp .eql t x y _=>match (fG te x).bind fR,(fG te y).bind fR with
  | some (.agg xs),some (.agg ys)=>match P.underlying t,P.stoodInHeld t,P.eqGuardType P.depth t with
   | some (.struct fs),false,false=>V9 P xs ys fs.toList
   | _,_,_=>none
  | _,_=>none
 | _=>none
def vq (o:Oper):Bool :=
 match o.op with
 | .slice .. | .indexAddr .. => true
 | .call { callee := .builtin .append,.. }=>true
 | _=>false
def We (te:List TV) (o:Oper):Option (Tmp×Int×Nat) :=
 match o.op with
 | .indexAddr t _ (.tmp i)=>match ty t,te[i]? with
  | some ⟨.array k _ _,_,_⟩,some (.val (.int .i64 n))=>some (i,n,k)
  | _,_=>none
 | .index t _ (.tmp i)=>match ty t,te[i]? with
  | some ⟨.array k _ _,_,_⟩,some (.val (.int .i64 n))=>some (i,n,k)
  | _,_=>none
 | _=>none
def Gx (n:Int) (K:Nat→Prop):Nat→Nat→Prop
 | 0,_=>False
 | c+1,j=>aI (decide (n=(j:Int))) (K j) (Gx n K c (j+1))
def VD (te:List TV) (o:Oper):Option (Bool×Prop) :=
 match o.op with
 | .binOp .eql t x y _=>match ty t,fG te x,fG te y with
  | some ⟨.slice _ _ _ _,_,_⟩,some (.sl _ l _),some .eu=>some (false,l≠[])
  | some ⟨.slice _ _ _ _,_,_⟩,some .eu,some .eu=>some (true,True)
  | _,_,_=>none
 | _=>none
def xT (tS:List TB) (k:Nat):Bool :=
 match tS[k]? with
 | some (.cells _)=>true
 | _=>false
mutual
def ku (tS:List TB):TV→TV
 | .sl t l (.oC _) => .sl t l .no
 | .ptr id off=>match xT tS id with
  | true => .ptr id off
  | false => .unk
 | .mp id => .unk
 | .so _ _ => .unk
 | .sp _ _ _ _ => .unk
 | .agg l => .agg (mO tS l)
 | .ep l => .ep (mO tS l)
 | .fn f a b => .fn f (mO tS a) (mO tS b)
 | v=>v
def mO (tS:List TB):List TV→List TV
 | []=>[]
 | a::l=>ku tS a::mO tS l
end
def ey:Nat→List TB→List Nat
 | _,[]=>[]
 | i,.cells _::l=>i::ey (i+1) l
 | i,_::l=>ey (i+1) l
def aaJ (o:Oper):Bool :=
 match o.op with
 | .binOp .neq .. | .binOp .eql .. => true
 | _=>false
def Nj (te:List TV) (o:Oper):Option (FuncId×List TV) :=
 match o.op with
 | .call { callee := .value f,args,argTypes }=>match fG te f,lP te args.toList with
  | some (.fn g fs cs),some xs=>if (fs++xs++cs).all eL then some (g,aX (gy tt fs argTypes) (fs++xs++cs)) else none
  | _,_=>none
 | _=>none
def GH (te:List TV) (tS:List TB) (o:Oper):Option (FuncId×Nat×List TV×List TV) :=
 match o.op with
 | .call { callee := .value f,args,argTypes }=>match fG te f,lP te args.toList with
  | some (.fn g fs cs),some xs=>match MQ (fs++xs++cs) with
   | some kp=>match tI kp (gy tt fs argTypes) (fs++xs++cs),tS[kp]? with
    | some targs,some (.cells ts)=>if (fs++xs++cs).any isRef&&(gn ts).isEmpty then some (g,kp,targs,ts) else none
    | _,_=>none
   | none=>none
  | _,_=>none
 | _=>none
def GI (te:List TV) (tS:List TB) (o:Oper):Option (FuncId×Nat×List TV×List TV) :=
 match o.op with
 | .call { callee := .value f,args,argTypes }=>match fG te f,lP te args.toList with
  | some (.fn g fs cs),some xs=>match fs++xs++cs with
   | .ptr kp off::rest=>match tS[kp]? with
    | some (.cells ts)=>if rest.all eL&&ts.all tF then some (g,kp,.ptr 0 off::aX (gy tt fs argTypes).tail rest,ts) else none
    | _=>none
   | _=>none
  | _,_=>none
 | _=>none
def Xm (md:Nat) (te:List TV) (tS:List TB) (o:Oper):Option (FuncId×Nat×List TV×List TV) :=
 match md with
 | 0=>GH tt te tS o
 | 2=>GI tt te tS o
 | _=>none
def yw (md kp:Nat):cu :=
 match md with
 | 2=>⟨some [kp],true⟩
 | _=>⟨none,true⟩
def Ei (md:Nat) (v:TV) (cs:List TV) (K:Prop):Prop :=
 match md with
 | 2=>match Iz v&&cs.all tF with
  | true=>K
  | false=>False
 | _=>K
def Zy (te:List TV) (o:Oper):Option (FuncId×List TV) :=
 match o.op with
 | .call { callee := .value f,args,argTypes:=_ }=>match fG te f,lP te args.toList with
  | some (.fn g fs cs),some xs=>if (fs++xs++cs).any isRef||ty.h o==1 then some (g,fs++xs++cs) else none
  | _,_=>none
 | _=>none
def VH (md:Nat) (te:List TV) (o:Oper):Option (List TV×Func×List (Nat×LA)) :=
 match md with
 | 0=>match Zy ty te o with
  | some (g,A)=>match T.X g with
   | some (fn,j)=>some (A,fn,j)
   | none=>none
  | none=>none
 | _=>none
abbrev Zp:=Func→List (Nat×LA)→List TV→List TB→(TV→List TB→Prop)→Prop
inductive Gd
 | no (b:Bool)
 | ask (d:Tmp) (b want:Bool)
 | unk
def Zh (ops:Array Oper) (te:List TV) (o:Oper):Gd :=
 match o.guard with
 | none => .no true
 | some (j,want)=>match (ops[j]?).bind (·.dst) with
  | some d=>match te[d]? with
   | some (.val (.bool b)) => .ask d b want
   | some .unk => .unk
   | some (.val _) => .no false
   | _ => .unk
  | none => .no false
abbrev KO:=List TV→List TB→List cu→Prop
def eT:cu:=⟨some [],false⟩
def J2 (md n0 k:Nat) (tS:List TB):Nat :=
 match md with
 | 2=>n0+k
 | _=>tS.length
variable (inl:Zp)
def Nk (md:Nat) (o:Oper) (te:List TV) (tS:List TB) (fs:List cu) (K:KO):Prop :=
 match VH ty T md te o with
 | some (A,fn,j)=>inl fn j A tS fun v bV=>gu v fun v=>cT (mO tS te) fun te=>iy te o.dst v fun te=>K te bV fs
 | none=>match ty.h o==1 with
 | true=>False
 | false=>match Nj tt te o with
 | some (g,targs)=>match md==0,T.N g targs with
  | true,some (p,s)=>yh p (s.all fun _ cs facts=>impl facts (iy te o.dst (.ptr tS.length 0) fun te=>K te (tS++[.cells cs]) fs))
  | _,_=>match T.I g targs with
   | some (p,s)=>yh p (s.all fun v _ facts=>impl facts (gu v fun v=>iy te o.dst v fun te=>K te tS (fs++[eT])))
   | none=>False
 | none=>match Xm tt md te tS o with
  | some (g,kp,targs,ts)=>match T.C g targs ts with
   | some (p,s)=>yh p (s.all fun v cs facts=>impl facts (Ei md v cs (gu v fun v=>iy te o.dst v fun te=>cT cs fun cs=>cH (tS.set kp (.cells cs)) fun tS=>K te tS (fs++[yw md kp]))))
   | none=>False
  | none=>False
def mapM (md:Nat) (te:List TV) (tS:List TB) (o:Oper):Option (TV×List TB×Prop) :=
 match md with
 | 0=>VE P tt te tS o tS.length
 | _=>none
def Um (md:Nat) (te:List TV) (tS:List TB) (o:Oper) (nT:Nat):Option (TV×List TV×List TB×cu×Prop) :=
 match D5 ty tt te tS o with
 | some (v,g,c)=>some (v,te,tS,⟨some [g],false⟩,c)
 | none=>if md=1 then none else match MT ty tt te tS o with
  | some (g,bV)=>some (.unk,te,bV,⟨some [g],true⟩,True)
  | none=>if md=0 then (MS ty tt te tS o nT).map fun r=>(r.1,r.2.1,r.2.2.1,⟨none,true⟩,r.2.2.2) else none
def QM (md n0 k:Nat) (o:Oper) (te:List TV) (tS:List TB) (fs:List cu) (K:KO):Prop :=
 match Cc tS (J2 md n0 k tS) with
 | false=>False
 | true=>match XB o with
  | true=>Nk ty tt T inl md o te tS fs K
  | false=>match Um ty tt md te tS o (J2 md n0 k tS) with
   | some (v,bS,bV,f,c)=>c∧gu v fun v=>cT bS fun te=>iy te o.dst v fun te=>cH bV fun tS=>K te tS (fs++[f])
   | none=>match mapM P tt md te tS o with
   | some (v,bV,c)=>c∧gu v fun v=>iy te o.dst v fun te=>cH bV fun tS=>K te tS (fs++[⟨none,true⟩])
   | none=>match yJ te o with
   | some (v,c)=>c∧iy te o.dst v fun te=>K te tS (fs++[eT])
   | none=>match aaJ o,MH P te o,VD ty te o with
    | true,some b,_=>iy te o.dst (.val (.bool b)) fun te=>K te tS (fs++[eT])
    | true,none,some (b,c)=>c∧iy te o.dst (.val (.bool b)) fun te=>K te tS (fs++[eT])
    | _,_,_=>match md with
     | 1=>match aZ P ty tt te tS o with
      | some q=>match vq o with
       | true=>q.2∧gu q.1 fun v=>iy te o.dst v fun te=>K te tS (fs++[eT])
       | false=>gu q.1 fun v=>iy te o.dst v fun te=>K te tS (fs++[eT])
      | none=>False
     | _=>match stepT P ty tt te tS o (J2 md n0 k tS) with
      | some q=>match vq o with
       | true=>q.c∧gu q.v fun v=>cT q.te fun te=>iy te o.dst v fun te=>cH q.tS fun tS=>K te tS (fs++[⟨some q.Cj,kQ o⟩])
       | false=>gu q.v fun v=>iy q.te o.dst v fun te=>cH q.tS fun tS=>K te tS (fs++[⟨some q.Cj,kQ o⟩])
      | none=>False
def J1 (md n0 k:Nat) (o:Oper) (te:List TV) (tS:List TB) (fs:List cu) (K:KO):Prop :=
 match We ty te o with
 | some (t,n,c)=>Gx n (fun j=>Ax te t (.val (.int .i64 (j:Int))) fun te=>QM P ty tt T inl md n0 k o te tS fs K) c 0
 | none=>QM P ty tt T inl md n0 k o te tS fs K
def YF (md n0 k:Nat) (o:Oper) (te:List TV) (tS:List TB) (fs:List cu) (K:KO):Prop :=
 match md,ty.h o with
 | 0,2=>match Gg ty te tS o with
  | some (te,tS)=>cT te fun te=>cH tS fun tS=>J1 P ty tt T inl md n0 k o te tS fs K
  | none=>False
 | _,_=>J1 P ty tt T inl md n0 k o te tS fs K
def Im (o:Oper) (te:List TV) (tS:List TB) (fs:List cu) (K:KO):Prop:=iy te o.dst JX fun te=>K te tS (fs++[eT])
def lS (md n0:Nat) (ops:Array Oper):List Oper→Nat→List TV→List TB→List cu→KO→Prop
 | [],_,te,tS,fs,K=>K te tS fs
 | o::r,k,te,tS,fs,K=>match Zh ops te o with
  | .no true=>YF P ty tt T inl md n0 k o te tS fs fun te tS fs=>lS md n0 ops r (k+1) te tS fs K
  | .no false=>Im o te tS fs fun te tS fs=>lS md n0 ops r (k+1) te tS fs K
  | .ask d b want=>match want with
   | true=>aI b (Ax te d (.val (.bool true)) fun te=>YF P ty tt T inl md n0 k o te tS fs fun te tS fs=>lS md n0 ops r (k+1) te tS fs K) (Ax te d (.val (.bool false)) fun te=>Im o te tS fs fun te tS fs=>lS md n0 ops r (k+1) te tS fs K)
   | false=>aI b (Ax te d (.val (.bool true)) fun te=>Im o te tS fs fun te tS fs=>lS md n0 ops r (k+1) te tS fs K) (Ax te d (.val (.bool false)) fun te=>YF P ty tt T inl md n0 k o te tS fs fun te tS fs=>lS md n0 ops r (k+1) te tS fs K)
  | .unk=>False
def acH (d:Option Tmp):Nat :=
 match d with
 | some d=>2 ^ d
 | none=>0
def Xp (o:Oper):Nat:=o.op.operands.foldl (fun a x=>match x with | .tmp t=>a ||| 2 ^ t | _=>a) 0
def defs:Code→Nat
 | .region _ ops _=>ops.foldl (fun a o=>a ||| acH o.dst) 0
 | .seq a b | .cond _ a b=>defs a ||| defs b
 | .block _ c | .loop c | .scope c=>defs c
 | _=>0
def kR:Code→Nat
 | .region _ ops _=>ops.foldl (fun a o=>a ||| Xp o) 0
 | .seq a b=>kR a ||| kR b
 | .cond x a b=>(match x with | .tmp t=>2 ^ t | _=>0) ||| kR a ||| kR b
 | .block _ c | .loop c | .scope c=>kR c
 | _=>0
def cnt:Code→Nat
 | .seq a b=>1+cnt a+cnt b
 | .cond _ a b=>cnt a+cnt b
 | .block _ c | .scope c=>cnt c
 | .loop c=>1+cnt c
 | _=>0
def ko (sl:List (Nat×TV)) (keep:Nat):Nat→List TV→List TV
 | _,[]=>[]
 | i,v::l=>(match sl.find? fun p=>p.1==i with
  | some p=>p.2
  | none=>match keep.testBit i with
   | true=>v
   | false => .unk)::ko sl keep (i+1) l
def q7 (sl:List (Nat×TV)):Nat→List TV→Option (List Prop)
 | _,[]=>some []
 | i,v::l=>match sl.find? fun p=>p.1==i with
  | some p=>match leT v p.2,q7 sl (i+1) l with
   | some x,some y=>some (x++y)
   | _,_=>none
  | none=>q7 sl (i+1) l
abbrev MpL:=List (Nat×(Σ kt:TT,List kt.den))
def q8 (pl:List (Nat×List TV)) (mp:MpL):Nat→List TB→List TB
 | _,[]=>[]
 | i,.cells c::l=>(match pl.find? fun p=>p.1==i with
  | some p => .cells p.2
  | none => .cells c)::q8 pl mp (i+1) l
 | i,.map kt c::l=>(match mp.find? fun p=>p.1==i with
  | some (_,⟨Tj,c'⟩) => .map Tj c'
  | none => .map kt c)::q8 pl mp (i+1) l
 | i,.rows t e c z::l=>(match mp.find? fun p=>p.1==i with
  | some (_,⟨t',c'⟩) => .rows t' e c' z
  | none => .rows t e c z)::q8 pl mp (i+1) l
 | i,.own e s::l => .own e s::q8 pl mp (i+1) l
 | i,.none::l => .none::q8 pl mp (i+1) l
def iD (pl:List (Nat×List TV)) (mp:MpL):Nat→List TB→Option (List Prop)
 | _,[]=>some []
 | i,.cells c::l=>match pl.find? fun p=>p.1==i with
  | some p=>match Ce c p.2,iD pl mp (i+1) l with
   | some x,some y=>some (x++y)
   | _,_=>none
  | none=>iD pl mp (i+1) l
 | i,.map kt c::l=>match mp.find? fun p=>p.1==i with
  | some (_,⟨Tj,c'⟩)=>if h:kt=Tj then match iD pl mp (i+1) l with
   | some y=>some ((h▸c=c')::y)
   | none=>none else none
  | none=>iD pl mp (i+1) l
 | i,.rows t _ c _::l=>match mp.find? fun p=>p.1==i with
  | some (_,⟨t',c'⟩)=>if h:t=t' then match iD pl mp (i+1) l with
   | some y=>some ((h▸c=c')::y)
   | none=>none else none
  | none=>iD pl mp (i+1) l
 | i,.own _ _::l=>iD pl mp (i+1) l
 | i,.none::l=>iD pl mp (i+1) l
def tE (b:Bd) (tS:List TB):List TB:=q8 b.pl b.mp 0 tS++b.own.map fun p => .own p.1 p.2
abbrev KC:=DX→List TV→List TB→Prop
def UJ (J:List (Nat×LA)) (i:Nat) (te:List TV) (tS:List TB):Option LA :=
 match J.find? fun p=>p.1==i with
 | some p=>some (p.2.at te tS)
 | none=>none
def N0 (B:List Nat) (b:Bd) (keep:Nat) (te:List TV) (tS:List TB) (K:Prop):Prop :=
 aI (okB (ko b.sl keep 0 te) (tE b tS)&&B.all (kX (tE b tS))) (ask (q7 b.sl 0 te) (ask (iD b.pl b.mp 0 tS) (yh b.dn K))) False
def IF (B:List Nat) (j6:List TV) (gT:List TB) (b:Bd) (te:List TV) (tS:List TB) (K:Prop):Prop :=
 aI (okB j6 gT&&B.all (kX gT)) (ask (Ce te j6) (ask (oy tS gT) (yh b.dn K))) False
def unK (f:List TV→List TB→(List TV→List TB→Prop)→Prop) (K:List TV→List TB→Prop):Nat→List TV→List TB→Prop
 | 0,te,tS=>K te tS
 | n+1,te,tS=>f te tS (unK f K n)
def GG (P:Program):Code→Option (Array Oper)
 | .region _ ops true=>if qY P ops then none else some ops
 | _=>none
def NM (keep:Nat) (ops:Array Oper):Bool:=ops.toList.all fun o=>match o.dst with
 | some d => !keep.testBit d
 | none=>true
def MN (x:Operand) (te:List TV) (v:Bool) (K:List TV→Prop):Prop :=
 match x with
 | .tmp t=>Ax te t (.val (.bool v)) K
 | _=>K te
variable (B:List Nat) (J:List (Nat×LA))
def sZ:Code→Nat→Nat→List TV→List TB→KC→Prop
 | .skip,_,_,te,tS,K | .label _,_,_,te,tS,K=>K .normal te tS
 | .exit id,_,_,te,tS,K=>K (.exit id) te tS
 | .ret,_,_,te,tS,K=>K .ret te tS
 | .scope c,i,lv,te,tS,K=>sZ c i lv te tS K
 | .block id c,i,lv,te,tS,K=>sZ c i lv te tS fun e te tS=>match e with
  | .exit gJ=>if gJ=id then K .normal te tS else K (.exit gJ) te tS
  | .normal=>K .normal te tS
  | .ret=>K .ret te tS
 | .cond x a b,i,lv,te,tS,K=>match fG te x with
  | some (.val (.bool t))=>aI t (MN x te true fun te=>sZ a i lv te tS K) (MN x te false fun te=>sZ b (i+cnt a) lv te tS K)
  | _=>False
 | .seq a b,i,lv,te,tS,K=>match UJ J i te tS with
  | some la=>match GG P a with
   | some ops=>aI (iX ops (Region.before ops)&&NM ((lv ||| kR b) &&& (2 ^ 400-1-(defs a))) ops) (lS P ty tt T inl 1 0 ops ops.toList 0 te tS [] fun bS _ _=>la.some fun bd=>ask (q7 bd.sl 0 bS) (yh bd.dn True)) False ∧
    la.all fun bd=>impl bd.dn (cT (ko bd.sl ((lv ||| kR b) &&& (2 ^ 400-1-(defs a))) 0 te) fun j6=>sZ b (i+1+cnt a) lv j6 tS K)
   | none=>sZ a (i+1) (lv ||| kR b) te tS (fun e bS bV=>match e with
    | .normal=>la.some fun bd=>IF B (ko bd.sl ((lv ||| kR b) &&& (2 ^ 400-1-(defs a))) 0 te) (tE bd tS) bd bS bV True
    | .exit id=>K (.exit id) bS bV
    | .ret=>K .ret bS bV)∧la.all fun bd=>impl bd.dn (cT (ko bd.sl ((lv ||| kR b) &&& (2 ^ 400-1-(defs a))) 0 te) fun j6=>cH (tE bd tS) fun gT=>sZ b (i+1+cnt a) lv j6 gT K)
  | none=>sZ a (i+1) (lv ||| kR b) te tS fun e te tS=>match e with
   | .normal=>sZ b (i+1+cnt a) lv te tS K
   | .exit id=>K (.exit id) te tS
   | .ret=>K .ret te tS
 | .loop c,i,lv,te,tS,K=>match UJ J i te tS with
  | some la=>unK (fun te tS K'=>sZ c (i+1) (lv ||| kR c) te tS fun e te tS=>match e with
    | .normal=>K' te tS
    | .exit id=>K (.exit id) te tS
    | .ret=>K .ret te tS) (fun te tS=>match la.inner.at te tS with
     | .un n=>unK (fun te tS K'=>sZ c (i+1) (lv ||| kR c) te tS fun e te tS=>match e with
      | .normal=>K' te tS
      | .exit id=>K (.exit id) te tS
      | .ret=>K .ret te tS) (fun _ _=>False) (min n 1000) te tS
     | la=>(la.some fun bd=>N0 B bd ((lv ||| kR c) &&& (2 ^ 400-1-(defs c))) te tS (bd.m<1000000)) ∧
   la.all fun bd=>impl bd.dn (cT (ko bd.sl ((lv ||| kR c) &&& (2 ^ 400-1-(defs c))) 0 te) fun j6=>cH (tE bd tS) fun gT=>sZ c (i+1) (lv ||| kR c) j6 gT fun e bS bV=>match e with
    | .normal=>la.some fun bd'=>IF B (ko bd'.sl ((lv ||| kR c) &&& (2 ^ 400-1-(defs c))) 0 te) (tE bd' tS) bd' bS bV (bd'.m<bd.m)
    | .exit id=>K (.exit id) bS bV
    | .ret=>K .ret bS bV)) (min la.Ul 1000) te tS
  | none=>False
 | .region _ ops draw,_,_,te,tS,K=>match draw with
  | true=>match qY P ops with
   | true=>aI (iX ops (Region.before ops)) (cH (tS++List.replicate ops.size .none) fun ow=>lS P ty tt T inl 2 tS.length ops ops.toList 0 te ow [] fun te tS fs=>aI (oM (Region.before ops) fs) (cH (j8 tS) fun tS=>K .normal te tS) False) False
   | false=>aI (iX ops (Region.before ops)) (lS P ty tt T inl 1 0 ops ops.toList 0 te tS [] fun te _ _=>K .normal te tS) False
  | false=>lS P ty tt T inl 0 0 ops ops.toList 0 te tS [] fun te tS _=>cH (j8 tS) fun tS=>K .normal te tS
 | _,_,_,_,_,_=>False
def Q3 (ty:eY) (rs:List ResultVar) (j7:List (Option TT)) (s:qX) (te:List TV) (tS:List TB):Prop :=
 match x8 ty te tS rs with
 | some vs=>cT (th tS vs) fun vs=>aI (vs.all eL&&(refs (iO (aX j7 vs))).isEmpty) (s.some fun v _ facts=>ask (Vm (iO (aX j7 vs)) v) (cA facts)) False
 | none=>False
def V8 (ty:eY) (rs:List ResultVar) (j7 mF:List (Option TT)) (s:qX) (te:List TV) (tS:List TB):Prop :=
 match x8 ty te tS rs,tS with
 | some vs,.cells ts::_=>aI (vs.all eL&&(refs (iO (aX j7 vs))).isEmpty&&(ts.all eL&&(gn (aX mF ts)).isEmpty)) (s.some fun v cs facts=>ask (Vm (iO (aX j7 vs)) v) (ask (Ml (aX mF ts) cs) (cA facts))) False
 | _,_=>False
def V7 (ty:eY) (rs:List ResultVar) (mF:List (Option TT)) (s:qX) (te:List TV) (tS:List TB):Prop :=
 match x8 ty te tS rs,tS with
 | some [.ptr 0 0],.cells ts::_=>aI (ts.all eL&&(gn (aX mF ts)).isEmpty) (s.some fun _ cs facts=>ask (Ml (aX mF ts) cs) (cA facts)) False
 | _,_=>False
def J8 (F:List TV→List TB→Prop) (e:DX) (te:List TV) (tS:List TB):Prop :=
 match e with
 | .exit _=>False
 | .normal=>F te tS
 | .ret=>F te tS
end
def xM (rs:List ResultVar):Nat:=rs.foldl (fun a x=>match x with | .tmp t=>a ||| 2 ^ t | .cell t _=>a ||| 2 ^ t) 0
def JZ (n:Nat) (l:List TV):List TV:=l++List.replicate (n-l.length) .unk
def wE (f:Func):Code:=f.body.getD .skip
def V6 (ty:eY) (rs:List ResultVar) (K:TV→List TB→Prop) (te:List TV) (tS:List TB):Prop :=
 match x8 ty te tS rs with
 | some vs=>K (iO vs) tS
 | none=>False
def DT (P:Program) (ty:eY) (tt:TypeId→Option TT) (T:gh):Nat→Zp
 | 0=>fun _ _ _ _ _=>False
 | d+1=>fun fn j A tS K=>cT (JZ fn.ntmps A) fun te=>sZ P ty tt T (DT P ty tt T d) (ey 0 tS) j (wE fn) 0 (xM fn.results.toList) te tS (J8 (V6 ty fn.results.toList K))
end Go.Tv
end
section
namespace Go.Tv
open Go Go.Di Go.Proofs
theorem qn {b:Bool} {A B:Prop} (h:aI b A B):(b=true→A)∧(b=false→B):=by cases b<;>exact⟨fun e=>by cases e<;>exact h,fun e=>by cases e<;>exact h⟩
theorem kA {b:Bool} {A:Prop} (h:aI b A False):b=true∧A:=by
 cases b
 ·exact h.elim
 ·exact⟨rfl,h⟩
theorem iK:∀ {l:List Prop},cA l↔∀ p∈l,p
 | []=>by simp[cA]
 | p::l=>by
  have:=iK (l:=l)
  simp only[cA,this,List.mem_cons,forall_eq_or_imp]
theorem iJ:∀ {l:List Prop} {R:Prop},yh l R→cA l∧R
 | [],_,h=>⟨trivial,h⟩
 | p::l,R,h=>by
  obtain⟨h1,h2⟩:=iJ h.2
  exact⟨iK.2 (by rintro q hq; rcases List.mem_cons.1 hq with rfl | hq; exact h.1; exact iK.1 h1 q hq),h2⟩
theorem jy {l m:List Prop} (h:cA (l++m)):cA l∧cA m:=by
 rw[iK] at h
 exact⟨iK.2 fun p hp=>h p (List.mem_append_left _ hp),iK.2 fun p hp=>h p (List.mem_append_right _ hp)⟩
theorem jw:∀ {l:List Prop} {R:Prop},impl l R→cA l→R
 | [],_,h,_=>h
 | p::l,R,h,k=>by
  rw[iK] at k
  exact jw (h (k p (List.mem_cons_self ..))) (iK.2 fun q hq=>k q (List.mem_cons_of_mem _ hq))
theorem jg {o:Option (List Prop)} {K:Prop} (h:ask o K):∃ l,o=some l∧cA l∧K:=by
 cases o with
 | none=>exact h.elim
 | some l=>exact⟨l,rfl,iJ h⟩
theorem Cm {R K:TV→List TV→List Prop→Prop}:∀ {s:qX},s.all R→s.some K→∃ v cs fs,R v cs fs∧K v cs fs
 | .ex _ _,h,⟨x,k⟩=>Cm (h x) k
 | .res v cs fs,h,k=>⟨v,cs,fs,h,k⟩
theorem LB {R:TV→List TV→Prop} {v:TV} {cs:List TV} {s:qX} (h:s.all fun v cs fs=>impl fs (R v cs)) (k:s.holds v cs):R v cs:=by
 obtain⟨v',gL,fs,h,rfl,rfl,hf⟩:=Cm h k
 exact jw h hf
theorem HT {R:TV→Prop} {v:TV} {s:qX} (h:s.all fun v _ fs=>impl fs (R v)) (k:s.rX v):R v:=by
 obtain⟨v',gL,fs,h,rfl,hf⟩:=Cm h k
 exact jw h hf
theorem HU {R:List TV→Prop} {cs:List TV} {s:qX} (h:s.all fun _ cs fs=>impl fs (R cs)) (k:s.vn cs):R cs:=by
 obtain⟨v',gL,fs,h,rfl,hf⟩:=Cm h k
 exact jw h hf
mutual
theorem fO:∀ (v:TV) {K:TV→Prop},gu v K→K v
 | .unk,_,h=>h
 | .val v,_,h=>by cases v<;>exact h
 | .eu,_,h=>h
 | .agg l,K,h=>by simp only[gu] at h; exact cg l (K:=fun l=>K (.agg l)) h
 | .ep l,K,h=>by simp only[gu] at h; exact cg l (K:=fun l=>K (.ep l)) h
 | .sl _ _ _,_,h=>h
 | .ptr _ _,_,h=>h
 | .cV _ _ _ _,_,h=>h
 | .mp _,_,h=>h
 | .so _ _,_,h=>h
 | .sp _ _ _ _,_,h=>h
 | .fn f a b,K,h=>by simp only[gu] at h; exact cg b (K:=fun b=>K (.fn f a b)) (cg a (K:=fun a=>cT b fun b=>K (.fn f a b)) h)
theorem cg:∀ (l:List TV) {K:List TV→Prop},cT l K→K l
 | [],_,h=>h
 | a::l,K,h=>cg l (K:=fun l=>K (a::l)) (fO a (K:=fun a=>cT l fun l=>K (a::l)) h)
end
theorem cL:∀ (l:List TB) {K:List TB→Prop},cH l K→K l
 | [],_,h=>h
 | .cells c::l,K,h=>cL l (K:=fun l=>K (.cells c::l)) (cg c (K:=fun c=>cH l fun l=>K (.cells c::l)) h)
 | .none::l,K,h=>cL l (K:=fun l=>K (.none::l)) h
 | .own e s::l,K,h=>cL l (K:=fun l=>K (.own e s::l)) h
 | .map kt c::l,K,h=>cL l (K:=fun l=>K (.map kt c::l)) h
 | .rows t e c z::l,K,h=>cL l (K:=fun l=>K (.rows t e c z::l)) h
theorem lW:∀ (l:List TV) (n:Nat) (v:TV) {K:List TV→Prop},Ax l n v K→K (l.set n v)
 | [],_,_,_,h=>h
 | _::_,0,_,_,h=>h
 | a::l,n+1,v,K,h=>lW l n v (K:=fun l=>K (a::l)) h
theorem gN {te:List TV} {dst:Option Tmp} {v:TV} {K:List TV→Prop} (h:iy te dst v K):K (j9 te dst v):=by
 cases dst with
 | none=>exact h
 | some d=>exact lW te d v h
theorem lB:∀ {l:List TV} {n:Nat} {v:TV},l[n]? = some v→l.set n v=l
 | [],_,_,h=>by simp at h
 | _::_,0,_,h=>by simp only[List.getElem?_cons_zero,Option.some.injEq] at h; rw[h]; rfl
 | a::l,n+1,v,h=>by rw[List.set_cons_succ,lB (l:=l) (by simpa using h)]
mutual
theorem Cz:∀ {a b:TV} {l:List Prop},Vm a b=some l→cA l→a=b
 | a,b,l,h,k=>by
  unfold Vm at h
  split at h
  ·rfl
  ·split at h
   ·rename_i hk
    subst hk
    cases h
    rw[show _=_ from k.1]
   ·cases h
  ·cases h; rw[show _=_ from k.1]
  ·cases h; rw[show _=_ from k.1]
  ·rfl
  ·rw[sj h k]
  ·rw[sj h k]
  ·split at h
   ·rename_i ht; subst ht; cases h; cases (show _=_ from k.1); rfl
   ·cases h
  ·split at h
   ·rename_i ht; subst ht; cases h; cases (show _=_ from k.1); rfl
   ·cases h
  ·split at h
   ·rename_i ht
    subst ht
    split at h
    ·rename_i hg; subst hg; cases h; cases (show _=_ from k.1); rfl
    ·cases h
   ·cases h
  ·split at h
   ·rename_i ht; obtain⟨rfl,rfl⟩:=ht; rfl
   ·cases h
  ·split at h
   ·rename_i ht; subst ht; rfl
   ·cases h
  ·split at h
   ·rename_i ht; obtain⟨rfl,rfl⟩:=ht; rfl
   ·cases h
  ·split at h
   ·rename_i ht
    subst ht
    cases h
    obtain⟨k1,k2,k3⟩:=k
    cases (show _=_ from k1); cases (show _=_ from k2); cases (show _=_ from k3.1); rfl
   ·cases h
  ·split at h
   ·rename_i hf
    subst hf
    split at h
    ·rename_i x y h1 h2
     cases h
     obtain⟨k1,k2⟩:=jy k
     rw[sj h1 k1,sj h2 k2]
    ·cases h
   ·cases h
  ·cases h
theorem sj:∀ {a b:List TV} {l:List Prop},Ml a b=some l→cA l→a=b
 | [],[],_,_,_=>rfl
 | a::l,b::m,_,h,k=>by
  simp only[Ml] at h
  split at h
  ·rename_i x y h1 h2
   cases h
   obtain⟨k1,k2⟩:=jy k
   rw[Cz h1 k1,sj h2 k2]
  ·cases h
 | [],_::_,_,h,_=>by simp[Ml] at h
 | _::_,[],_,h,_=>by simp[Ml] at h
end
def LeV (u v:TV):Prop:=∀ l m,s8 l m→s8 (u::l) (v::m)
mutual
theorem GJ:∀ {v u:TV} {l:List Prop},leT v u=some l→cA l→LeV u v
 | v,u,l,h,k=>by
  unfold leT at h
  split at h
  ·exact fun _ _ => .unk
  ·split at h
   ·rename_i ht
    subst ht
    cases h
    cases (show _=_ from k.1)
    exact fun _ _ => .no
   ·cases h
  ·split at h
   ·split at h
    ·rename_i ht
     subst ht
     cases h
     cases (show _=_ from k.1)
     exact fun _ _ => .oC
    ·cases h
   ·cases h
  ·cases h
   cases (show _=_ from k.1)
   exact fun _ _ => .eu
  ·rename_i a b
   have:=tT h k
   exact fun _ _ => .agg this
  ·rw[Cz h k]
   exact fun _ _ => .same
theorem tT:∀ {v u:List TV} {l:List Prop},Ce v u=some l→cA l→s8 u v
 | [],[],_,_,_ => .nil
 | a::l,b::m,_,h,k=>by
  simp only[Ce] at h
  split at h
  ·rename_i x y h1 h2
   cases h
   obtain⟨k1,k2⟩:=jy k
   exact GJ h1 k1 _ _ (tT h2 k2)
  ·cases h
 | [],_::_,_,h,_=>by simp[Ce] at h
 | _::_,[],_,h,_=>by simp[Ce] at h
end
theorem Su:∀ {v u:List TB} {l:List Prop},oy v u=some l→cA l→Al u v
 | v,u,l,h,k=>by
  induction u generalizing v l with
  | nil=>exact .nil
  | cons b m ih =>
   cases v with
   | nil =>
    cases b with
    | own e s=>exact .new (ih _ _ h k)
    | _=>simp[oy] at h
   | cons a v =>
    cases b with
    | none=>exact .none (ih _ _ (by simpa [oy] using h) k)
    | cells c =>
     cases a with
     | cells d =>
      simp only[oy] at h
      split at h
      ·rename_i x y h1 h2
       cases h
       obtain⟨k1,k2⟩:=jy k
       exact .cells (tT h1 k1) (ih _ _ h2 k2)
      ·cases h
     | _=>simp[oy] at h
    | own e s =>
     cases a with
     | own e' s' =>
      simp only[oy] at h
      split at h
      ·rename_i he
       obtain⟨rfl,rfl⟩:=he
       exact .own (ih _ _ h k)
      ·cases h
     | _=>simp[oy] at h
    | map kt c =>
     cases a with
     | map Tj c' =>
      simp only[oy] at h
      split at h
      ·rename_i he
       subst he
       split at h
       ·rename_i y h2
        cases h
        obtain⟨k1,k2⟩:=k
        cases (show _=_ from k1)
        exact .map (ih _ _ h2 k2)
       ·cases h
      ·cases h
     | _=>simp[oy] at h
    | rows t e c z =>
     cases a with
     | rows t' e' c' z' =>
      simp only[oy] at h
      split at h
      ·rename_i he
       subst he
       split at h
       ·rename_i hez
        obtain⟨rfl,rfl⟩:=hez
        split at h
        ·rename_i y h2
         cases h
         obtain⟨k1,k2⟩:=k
         cases (show _=_ from k1)
         exact .rows (ih _ _ h2 k2)
        ·cases h
       ·cases h
      ·cases h
     | _=>simp[oy] at h
theorem uo {sl:List (Nat×TV)} {keep:Nat}:∀ {i:Nat} {te:List TV} {l:List Prop},q7 sl i te=some l→cA l→s8 (ko sl keep i te) te
 | _,[],_,_,_ => .nil
 | i,v::te,l,h,k=>by
  simp only[q7] at h
  simp only[ko]
  split at h
  ·rename_i p hp
   split at h
   ·rename_i x y h1 h2
    cases h
    obtain⟨k1,k2⟩:=jy k
    exact GJ h1 k1 _ _ (uo h2 k2)
   ·cases h
  ·rename_i hp
   split
   ·exact .same (uo h k)
   ·exact .unk (uo h k)
theorem gP {pl:List (Nat×List TV)} {mp:MpL} {own:List (Nat×Nat)}:∀ {i:Nat} {tS:List TB} {l:List Prop},iD pl mp i tS=some l→cA l→Al (q8 pl mp i tS++own.map fun p=>TB.own p.1 p.2) tS
 | _,[],_,_,_=>E6 own
 | i,.none::tS,l,h,k=>by
  simp only[iD] at h
  exact .none (gP h k)
 | i,.own _ _::tS,l,h,k=>by
  simp only[iD] at h
  exact .own (gP h k)
 | i,.cells c::tS,l,h,k=>by
  simp only[iD] at h
  simp only[q8,List.cons_append]
  split at h
  ·rename_i p hp
   split at h
   ·rename_i x y h1 h2
    cases h
    obtain⟨k1,k2⟩:=jy k
    exact .cells (tT h1 k1) (gP h2 k2)
   ·cases h
  ·exact .cells (s8.refl c) (gP h k)
 | i,.map kt c::tS,l,h,k=>by
  simp only[iD] at h
  simp only[q8,List.cons_append]
  split at h
  ·rename_i a Tj c' hp
   split at h
   ·rename_i he
    subst he
    split at h
    ·rename_i y h2
     cases h
     obtain⟨k1,k2⟩:=k
     cases (show c=c' from k1)
     exact .map (gP h2 k2)
    ·cases h
   ·cases h
  ·exact .map (gP h k)
 | i,.rows kt e c z::tS,l,h,k=>by
  simp only[iD] at h
  simp only[q8,List.cons_append]
  split at h
  ·rename_i a Tj c' hp
   split at h
   ·rename_i he
    subst he
    split at h
    ·rename_i y h2
     cases h
     obtain⟨k1,k2⟩:=k
     cases (show c=c' from k1)
     exact .rows (gP h2 k2)
    ·cases h
   ·cases h
  ·exact .rows (gP h k)
variable {P:Program} {ty:eY} {tt:TypeId→Option TT} {T:gh} {ι ι' w:jE} {S S':ak} {te j6:List TV} {env:List DV} {tS gT:List TB} {aC:bk} {call:aW} {yf:dR} {o:Oper} {ay nT:Nat} {B:List Nat} {r:TR} {ops:Array Oper} {L:Nat} {fn:FuncId} {fF:Bool}
theorem HS {v:TV} {c:Prop} (h:yJ te o=some (v,c)) (hc:c):aZ P ty tt te tS o=some (v,True):=by
 unfold yJ at h
 split at h
 ·rename_i t x y _ ho
  split at h
  ·rename_i a b h1 h2
   cases h
   have:gU P (do eqGuard .add t x y (.int .i64 a) (.int .i64 b); binOp .add t (.int .i64 a) (.int .i64 b))=some (.val (.int .i64 (IntKind.i64.wrap (a+b)))):=rfl
   simp only[aZ,ho,h1,h2,Option.bind_some,fR,this,s9,Option.map_some,yz hc.1 hc.2]
  ·cases h
 ·rename_i t x y _ ho
  split at h
  ·rename_i a b h1 h2
   cases h
   have:gU P (do eqGuard .sub t x y (.int .i64 a) (.int .i64 b); binOp .sub t (.int .i64 a) (.int .i64 b))=some (.val (.int .i64 (IntKind.i64.wrap (a-b)))):=rfl
   simp only[aZ,ho,h1,h2,Option.bind_some,fR,this,s9,Option.map_some,yz hc.1 hc.2]
  ·cases h
 ·rename_i t x y _ ho
  split at h
  ·rename_i a b h1 h2
   cases h
   have:gU P (do eqGuard .mul t x y (.int .i64 a) (.int .i64 b); binOp .mul t (.int .i64 a) (.int .i64 b))=some (.val (.int .i64 (IntKind.i64.wrap (a*b)))):=rfl
   simp only[aZ,ho,h1,h2,Option.bind_some,fR,this,s9,Option.map_some,yz hc.1 hc.2]
  ·cases h
 ·rename_i t x ho
  split at h
  ·rename_i a h1
   cases h
   have:gU P (Op.unary .neg (.int .i64 a))=some (.val (.int .i64 (IntKind.i64.wrap (-a)))):=by rw[← Int.zero_sub]; rfl
   simp only[aZ,ho,h1,Option.bind_some,fR,this,s9,Option.map_some,yz hc.1 hc.2]
  ·cases h
 ·cases h
theorem SV {t:TypeId} {xs ys:Array Value} {b:Bool} (ht:P.underlying t=some (.struct (P.fieldsOf t))) (hp:P.stoodInHeld t=false) (hm:P.eqGuardType P.depth t=false) (hf:bK P (Op.eqFields 9999 xs ys (P.fieldsOf t).toList)=some b) (x y:Operand) :
  gU P (do eqGuard .eql t x y (.agg xs) (.agg ys); binOp .eql t (.agg xs) (.agg ys))=some (.val (.bool b)):=by
 have h1:bK P (eqGuard .eql t x y (.agg xs) (.agg ys))=some ():=by
  simp only[eqGuard]
  simp only[Bool.not_true,Bool.false_eq_true,if_false,cQ,jK,Option.bind_some,hm,Bool.not_false,if_true]
  rfl
 have h2:bK P (binOp .eql t (.agg xs) (.agg ys))=some (.bool b):=by
  simp only[binOp,cQ,Op.equal,Op.maxDepth,nX 9999 t xs ys ht hp,hf,Option.bind_some]
  rfl
 rw[gU,cQ,h1,Option.bind_some,h2]
 rfl
theorem Jv {xs ys:Array Value} {fs:List Field} {b:Bool} (h:V9 P xs ys fs=some b):bK P (Op.eqFields 9999 xs ys fs)=some b:=zg (fun _ _ _ _ h=>NZ (by omega) h) h
theorem PC {b:Bool} (h:MH P te o=some b):aZ P ty tt te tS o=some (.val (.bool b),True):=by
 unfold MH at h
 split at h
 ·rename_i t x y _ ho
  split at h
  ·rename_i xs ys h1 h2
   split at h
   ·rename_i fs h3 h4 h5
    simp only[Option.map_eq_some_iff] at h
    obtain⟨r,h6,rfl⟩:=h
    have e:=SU (P:=P) (nV h3) h4 h5 (b:=r) (by simp only[Program.fieldsOf,h3]; exact Jv h6) x y
    simp only[aZ,ho,h1,h2,e,s9,Option.map_some]
   ·cases h
  ·cases h
 ·rename_i t x y _ ho
  split at h
  ·rename_i xs ys h1 h2
   split at h
   ·rename_i fs h3 h4 h5
    have e:=SV (P:=P) (nV h3) h4 h5 (b:=b) (by simp only[Program.fieldsOf,h3]; exact Jv h) x y
    simp only[aZ,ho,h1,h2,e,s9,Option.map_some]
   ·cases h
  ·cases h
 ·cases h
end Go.Tv
end
