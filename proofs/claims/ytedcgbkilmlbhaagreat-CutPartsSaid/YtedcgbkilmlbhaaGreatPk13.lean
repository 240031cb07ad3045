import Derived.Test.YtedcgbkilmlbhaaGreatPk01
import Derived.Laws.AppendOwn
import Derived.Conc.Machine
section
namespace Go.Di
open Go
structure Cx where
 w:World
 μ:Nat→Nat
 κ:Nat→Nat
 Fz:Nat→Nat→Prop
 S:ak
def Live (S:ak) (i:Nat):Prop:=∃ b,S[i]? = some b∧b ≠ .none
def View (x:Cx) (rows:List DV) (A:Option Addr) (s:Nat) (vs:Nat→Value):Prop :=
 (∀ r∈rows,r.cells.length=s)∧∀ j c,(flat rows)[j]? = some c→c.bF=true∧∃ b o,A=some ⟨b,o,none⟩∧x.Fz b (o+j)∧x.w.cell? ⟨b,o+j,none⟩=some (vs j)
def VS (x:Cx) (tok:Option Nat) (rows:List DV) (A:Option Addr) (cap:Nat):Prop :=
 ∀ t,tok=some t→∃ e s n,x.S[t]? = some (.tail e s n)∧rows.length*s≤n∧(∀ r∈rows,r.cells.length=s)∧(rows.length*s=n→A=some ⟨x.μ t,0,none⟩∧cap=x.κ t)
def OB (f:SF) (A:Option Addr):Prop:=∀ b,f.isNil=some b→A.isNone=b
inductive RV (x:Cx):DV→Value→Prop
 | val {v:Value}:wE v=true→RV x (.val v) v
 | agg {l:List DV} {vs:Array Value}:vs.size=l.length→(∀ j c,l[j]? = some c→RV x c (vs.getD j undef))→RV x (.agg l) (.agg vs)
 | tup {l:List DV} {vs:Array Value}:vs.size=l.length→(∀ j c,l[j]? = some c→RV x c (vs.getD j undef))→RV x (.tup l) (.tuple vs)
 | sl {rows:List DV} {tok:Option Nat} {full:SF} {A:Option Addr} {cap s:Nat} {vs:Nat→Value}:View x rows A s vs→(∀ j c,(flat rows)[j]? = some c→RV x c (vs j))→rows.length≤cap→((full.full=true→cap=rows.length)∧OB full A)→(A=none→cap=0)→(∀ ad,A=some ad→0<cap→ad.spot=none)→VS x tok rows A cap →
   RV x (.sl rows tok full) (.slice A rows.length cap)
 | ptr {id off:Nat} {l:List DV}:x.S[id]? = some (.cells l)→RV x (.ptr id off) (.pointer (some ⟨x.μ id,off,none⟩))
 | ey {rows:List DV} {i off b o s:Nat} {vs:Nat→Value}:View x rows (some ⟨b,o,none⟩) s vs→(∀ j c,(flat rows)[j]? = some c→RV x c (vs j))→RV x (.ey rows i off) (.pointer (some ⟨b,o+(i*s+off),none⟩))
 | fn {f:FuncId} {first captured:List DV} {fs cs:Array Value}:fs.size=first.length→cs.size=captured.length→(∀ j c,first[j]? = some c→RV x c (fs.getD j undef))→(∀ j c,captured[j]? = some c→RV x c (cs.getD j undef))→RV x (.fn f first captured) (.func (.func f) fs cs)
 | map {id:Nat} {es:List (Value×Value)}:x.S[id]? = some (.map es)→RV x (.map id) (.map (some (x.μ id)))
 | zx {id:Nat} {r:JK}:x.S[id]? = some (.loop r)→RV x (.zx id) (.func (.yield (x.μ id)) #[] #[])
 | gV {id n:Nat} {agg:Bool} {e:TypeId} {s:Nat} {l:List DV} {z:Bool} {A:Option Addr} {cap:Nat}:x.S[id]? = some (.op e s l z)→n*s≤l.length→(n*s=l.length→A=some ⟨x.μ id,0,none⟩∧cap=x.κ id)→RV x (.gV id n agg) (.slice A n cap)
 | eT {id n off:Nat} {e:TypeId} {s:Nat} {l:List DV} {z:Bool} {A:Option Addr}:x.S[id]? = some (.op e s l z)→n*s≤l.length→(n*s=l.length→A=some ⟨x.μ id,off,none⟩)→RV x (.eT id n off) (.pointer A)
def fR (x:Cx) (l:List DV) (arr:Array Value):Prop:=arr.size=l.length∧∀ j c,l[j]? = some c→RV x c (arr.getD j undef)
def DB.isObj:DB→Bool
 | .map _ | .defer | .loop _=>true
 | _=>false
def qM (x:Cx):DB→Obj→Prop
 | .map es,.map zI _=>zI.toList.map (fun e=>(e.key,e.val))=es
 | .defer,.deferred _=>True
 | .loop r,.loop l=>l.state=r.st∧l.pending=r.jk∧l.fn=r.fn∧fR x r.env l.tmps∧l.params=r.params.toArray∧l.assign=r.assign∧l.body=r.body∧l.defers=x.μ r.dfr∧x.S[r.dfr]? = some .defer
 | _,_=>False
def DB.like:DB→DB→Prop
 | .map _,.map _=>True
 | .defer,.defer=>True
 | .loop r,.loop r'=>r'={ r with st:=r'.st,jk:=r'.jk }
 | _,_=>False
theorem eu:∀ {b:DB},b.isObj=true→b.like b
 | .map _,_=>trivial
 | .defer,_=>trivial
 | .loop _,_=>rfl
 | .none,h=>by cases h
 | .cells _,h=>by cases h
 | .tail ..,h=>by cases h
 | .op ..,h=>by cases h
theorem qZ:∀ {b c:DB},b.like c→b.isObj=true∧c.isObj=true
 | .map _,.map _,_=>⟨rfl,rfl⟩
 | .defer,.defer,_=>⟨rfl,rfl⟩
 | .loop _,.loop _,_=>⟨rfl,rfl⟩
theorem IQ:∀ {a b c:DB},a.like b→b.like c→a.like c
 | .map _,.map _,.map _,_,_=>trivial
 | .defer,.defer,.defer,_,_=>trivial
 | .loop r,.loop r',.loop r'',h,k=>by
  simp only[DB.like] at h k ⊢
  rw[k,h]
theorem fq {b:DB} (h:b.isObj=true):b ≠ .none:=by rintro rfl; cases h
structure Rel (x:Cx):Prop where
 cells:∀ id l,x.S[id]? = some (.cells l)→∃ arr e,x.w.heap[x.μ id]? = some (.cells arr e (0,0))∧arr.size=l.length∧∀ j c,l[j]? = some c→RV x c (arr.getD j undef)
 dz:∀ id e s n,x.S[id]? = some (.tail e s n)→∃ arr,x.w.heap[x.μ id]? = some (.cells arr e (0,0))∧arr.size=x.κ id*s∧n≤arr.size∧x.κ id≤maxLen
 dD:∀ id b,x.S[id]? = some b→b.isObj=true→∃ o,x.w.heap[x.μ id]? = some o∧qM x b o
 inj:∀ i j,Live x.S i→Live x.S j→x.μ i=x.μ j→i=j
 xH:∀ b o,x.Fz b o→∃ v,x.w.cell? ⟨b,o,none⟩=some v
 sep:∀ id,(∃ l,x.S[id]? = some (.cells l))→∀ o,¬ x.Fz (x.μ id) o
 ng:∀ id e s n,x.S[id]? = some (.tail e s n)→∀ o,x.Fz (x.μ id) o→o<n
 ops:∀ id e s l z,x.S[id]? = some (.op e s l z)→∃ arr,x.w.heap[x.μ id]? = some (.cells arr e (0,0))∧arr.size=x.κ id*s∧l.length≤arr.size∧x.κ id≤maxLen∧(∀ j c,l[j]? = some c→c.bF=true∧RV x c (arr.getD j undef))∧(z=true→∀ j,j<l.length→x.Fz (x.μ id) j)∧(z=false→∀ o,¬ x.Fz (x.μ id) o)
structure bE (x y:Cx):Prop where
 size:x.w.heap.size≤y.w.heap.size
 env:y.w.os=x.w.os∧y.w.output=x.w.output
 fz:∀ b o,x.Fz b o→y.Fz b o∧y.w.cell? ⟨b,o,none⟩=x.w.cell? ⟨b,o,none⟩
 Ho:∀ b o,y.Fz b o→x.Fz b o∨x.w.heap.size≤b∨∃ i,Live x.S i∧x.μ i=b
 old:∀ b,b<x.w.heap.size→(∀ i,Live x.S i→x.μ i≠b)→y.w.heap[b]? = x.w.heap[b]?
 len:x.S.length≤y.S.length
 cells:∀ id l,x.S[id]? = some (.cells l)→y.μ id=x.μ id∧∃ l',y.S[id]? = some (.cells l')
 dD:∀ id b,x.S[id]? = some b→b.isObj=true→y.μ id=x.μ id∧(∃ b',y.S[id]? = some b'∧b.like b')∧(b = .defer→y.w.heap[x.μ id]? = x.w.heap[x.μ id]?)
 dz:∀ t e s n,x.S[t]? = some (.tail e s n)→∃ n',y.S[t]? = some (.tail e s n')∧n≤n'∧(n'=n→y.μ t=x.μ t∧y.κ t=x.κ t)
 live:∀ i,Live y.S i→(Live x.S i∧y.μ i=x.μ i)∨x.w.heap.size≤y.μ i
 ops:∀ t e s l z,x.S[t]? = some (.op e s l z)→∃ l' z',y.S[t]? = some (.op e s l' z')∧l.length≤l'.length∧(z=true→l'=l∧z'=true)∧(l'.length=l.length→y.μ t=x.μ t∧y.κ t=x.κ t)
theorem bE.refl (x:Cx):bE x x :=
 ⟨ai _,⟨rfl,rfl⟩,fun _ _ h=>⟨h,rfl⟩,fun _ _ h => .inl h,fun _ _ _=>rfl,ai _,fun _ l h=>⟨rfl,l,h⟩,fun _ b h hb=>⟨rfl,⟨b,h,eu hb⟩,fun _=>rfl⟩,fun _ _ _ n h=>⟨n,h,ai _,fun _=>⟨rfl,rfl⟩⟩,fun _ h => .inl ⟨h,rfl⟩,fun _ _ _ l z h=>⟨l,z,h,ai _,fun e=>⟨rfl,e⟩,fun _=>⟨rfl,rfl⟩⟩⟩
theorem bE.trans {x y z:Cx} (h:bE x y) (k:bE y z):bE x z where
 size:=bk h.size k.size
 env:=⟨k.env.1.trans h.env.1,k.env.2.trans h.env.2⟩
 fz:=fun b o hb=>⟨(k.fz b o (h.fz b o hb).1).1,(k.fz b o (h.fz b o hb).1).2.trans (h.fz b o hb).2⟩
 Ho:=fun b o hb=>by
  rcases k.Ho b o hb with h1 | h1 | ⟨i,h1,h2⟩
  ·exact h.Ho b o h1
  ·exact .inr (.inl (bk h.size h1))
  ·rcases h.live i h1 with ⟨h3,h4⟩ | h3
   ·exact .inr (.inr ⟨i,h3,by rw[← h4]; exact h2⟩)
   ·exact .inr (.inl (h2▸h3))
 old:=fun b hb hn=>by
  refine(k.old b (cz hb h.size) fun i hi he => ?_).trans (h.old b hb hn)
  rcases h.live i hi with ⟨h3,h4⟩ | h3
  ·exact hn i h3 (h4▸he)
  ·omega
 len:=bk h.len k.len
 cells:=fun id l hl=>by
  obtain⟨h1,l',h2⟩:=h.cells id l hl
  obtain⟨h3,l'',h4⟩:=k.cells id l' h2
  exact⟨h3.trans h1,l'',h4⟩
 dD:=fun id b hl hb=>by
  obtain⟨h1,⟨b',h2,h5⟩,h6⟩:=h.dD id b hl hb
  obtain⟨h3,⟨b'',h4,h7⟩,h8⟩:=k.dD id b' h2 (qZ h5).2
  refine⟨h3.trans h1,⟨b'',h4,IQ h5 h7⟩,fun hd => ?_⟩
  subst hd
  have:b' = .defer:=by cases b'<;>first | rfl | exact h5.elim
  rw[← h6 rfl,← h1]; exact h8 this
 dz:=fun t e s n ht=>by
  obtain⟨n',h1,h2,h3⟩:=h.dz t e s n ht
  obtain⟨n'',h4,h5,h6⟩:=k.dz t e s n' h1
  refine⟨n'',h4,bk h2 h5,fun he => ?_⟩
  have e1:n'=n:=by omega
  have e2:n''=n':=by omega
  exact⟨(h6 e2).1.trans (h3 e1).1,(h6 e2).2.trans (h3 e1).2⟩
 live:=fun i hi=>by
  rcases k.live i hi with ⟨h1,h2⟩ | h1
  ·rcases h.live i h1 with ⟨h3,h4⟩ | h3
   ·exact .inl ⟨h3,h2.trans h4⟩
   ·exact .inr (h2▸h3)
  ·exact .inr (bk h.size h1)
 ops:=fun t e s l z ht=>by
  obtain⟨l1,z1,h1,h2,h3,h4⟩:=h.ops t e s l z ht
  obtain⟨l2,z2,k1,k2,k3,k4⟩:=k.ops t e s l1 z1 h1
  refine⟨l2,z2,k1,bk h2 k2,fun hz => ?_,fun he => ?_⟩
  ·obtain⟨rfl,rfl⟩:=h3 hz
   exact k3 rfl
  ·have e1:l1.length=l.length:=by omega
   have e2:l2.length=l1.length:=by omega
   exact⟨(k4 e2).1.trans (h4 e1).1,(k4 e2).2.trans (h4 e1).2⟩
theorem View.mono {x y:Cx} {rows:List DV} {A:Option Addr} {s:Nat} {vs:Nat→Value} (hF:∀ b o,x.Fz b o→y.Fz b o∧y.w.cell? ⟨b,o,none⟩=x.w.cell? ⟨b,o,none⟩) (h:View x rows A s vs):View y rows A s vs :=
 ⟨h.1,fun j c hc=>by
  obtain⟨h1,b,o,h2,h3,h4⟩:=h.2 j c hc
  exact⟨h1,b,o,h2,(hF _ _ h3).1,(hF _ _ h3).2.trans h4⟩⟩
theorem RV.mono {x y:Cx} (M:bE x y) {d:DV} {v:Value} (h:RV x d v):RV y d v:=by
 induction h with
 | val h=>exact .val h
 | agg h _ ih=>exact .agg h ih
 | tup h _ ih=>exact .tup h ih
 | sl hv _ h1 h2 h3 hsp h4 ih =>
  refine .sl (hv.mono M.fz) ih h1 h2 h3 hsp fun t ht => ?_
  obtain⟨e,s,n,k1,k2,k3,k4⟩:=h4 t ht
  obtain⟨n',m1,m2,m3⟩:=M.dz t e s n k1
  refine⟨e,s,n',m1,bk k2 m2,k3,fun he => ?_⟩
  have e1:n'=n:=by omega
  rw[(m3 e1).1,(m3 e1).2]
  exact k4 (he.trans e1)
 | ptr h =>
  obtain⟨h1,l',h2⟩:=M.cells _ _ h
  rw[← h1]
  exact .ptr h2
 | ey hv _ ih=>exact .ey (hv.mono M.fz) ih
 | fn h1 h2 _ _ K0 MJ=>exact .fn h1 h2 K0 MJ
 | map h =>
  obtain⟨h1,⟨b',h2,h3⟩,-⟩:=M.dD _ _ h rfl
  rw[← h1]
  cases b' with
  | map es=>exact .map h2
  | _=>exact h3.elim
 | zx h =>
  obtain⟨h1,⟨b',h2,h3⟩,-⟩:=M.dD _ _ h rfl
  rw[← h1]
  cases b' with
  | loop r=>exact .zx h2
  | _=>exact h3.elim
 | gV h hn hl =>
  obtain⟨l',z',h1,h2,-,h4⟩:=M.ops _ _ _ _ _ h
  refine .gV h1 (by omega) fun he => ?_
  have e1:=h4 (by omega)
  rw[e1.1,e1.2]
  exact hl (by omega)
 | eT h hn hl =>
  obtain⟨l',z',h1,h2,-,h4⟩:=M.ops _ _ _ _ _ h
  refine .eT h1 (by omega) fun he => ?_
  rw[(h4 (by omega)).1]
  exact hl (by omega)
theorem fR.mono {x y:Cx} (M:bE x y) {l:List DV} {arr:Array Value} (h:fR x l arr):fR y l arr:=⟨h.1,fun j c hc=>(h.2 j c hc).mono M⟩
theorem qM.mono {x y:Cx} (M:bE x y):∀ {b:DB} {o:Obj},qM x b o→qM y b o
 | .map _,.map _ _,h=>h
 | .defer,.deferred _,_=>trivial
 | .loop r,.loop l,⟨h1,h2,h3,h4,h5,h6,h7,h8,h9⟩=>by
  obtain⟨k1,⟨b',k2,k3⟩,-⟩:=M.dD _ _ h9 rfl
  have:b' = .defer:=by cases b'<;>first | rfl | exact k3.elim
  subst this
  exact⟨h1,h2,h3,h4.mono M,h5,h6,h7,by rw[h8,k1],k2⟩
theorem RV.uc {x y:Cx} (hF:∀ b o,x.Fz b o→y.Fz b o∧y.w.cell? ⟨b,o,none⟩=x.w.cell? ⟨b,o,none⟩) {d:DV} {v:Value} (h:RV x d v) (hp:d.bF=true):RV y d v:=by
 induction h with
 | val h=>exact .val h
 | agg h _ ih=>simp[DV.bF] at hp
 | tup h _ ih=>simp[DV.bF] at hp
 | @sl rows tok full A cap s vs hv _ h1 h2 h3 hsp h4 ih =>
  refine .sl (hv.mono hF) (fun j c hc=>ih j c hc (hv.2 j c hc).1) h1 h2 h3 hsp fun t ht => ?_
  subst ht
  simp[DV.bF] at hp
 | ptr h=>simp[DV.bF] at hp
 | ey hv _ ih=>simp[DV.bF] at hp
 | fn h1 h2 _ _ K0 MJ=>simp[DV.bF] at hp
 | map h=>simp[DV.bF] at hp
 | zx h=>simp[DV.bF] at hp
 | gV=>simp[DV.bF] at hp
 | eT=>simp[DV.bF] at hp
theorem Ew {l:List DV} (h:l.all DV.bF=true) {j:Nat} {c:DV} (hc:l[j]? = some c):c.bF=true:=aW.1 h c (cW hc)
theorem RV.A6 {x y:Cx} (hF:∀ b o,x.Fz b o→y.Fz b o∧y.w.cell? ⟨b,o,none⟩=x.w.cell? ⟨b,o,none⟩) {d:DV} {v:Value} (h:RV x d v) (hp:d.iK=true):RV y d v:=by
 cases h with
 | val h=>exact .val h
 | agg h hl=>exact .agg h fun j c hc=>(hl j c hc).uc hF (Ew hp hc)
 | tup h hl=>simp[DV.iK] at hp
 | @sl rows tok full A cap s vs hv hr h1 h2 h3 hsp h4 =>
  cases tok with
  | none=>exact(RV.sl hv hr h1 h2 h3 hsp h4).uc hF rfl
  | some t=>simp[DV.iK] at hp
 | ptr h=>simp[DV.iK] at hp
 | ey hv _=>simp[DV.iK] at hp
 | fn h1 h2 _ _=>simp[DV.iK] at hp
 | map h=>simp[DV.iK] at hp
 | zx h=>simp[DV.iK] at hp
 | gV=>simp[DV.iK] at hp
 | eT=>simp[DV.iK] at hp
theorem Tt {d:DV} (hp:d.pure=true):(∃ l,d = .tup l∧l.all DV.iK=true)∨d.iK=true:=by
 cases d with
 | tup l=>exact .inl ⟨l,rfl,hp⟩
 | _=>exact .inr hp
theorem RV.pure_mono {x y:Cx} (hF:∀ b o,x.Fz b o→y.Fz b o∧y.w.cell? ⟨b,o,none⟩=x.w.cell? ⟨b,o,none⟩) {d:DV} {v:Value} (h:RV x d v) (hp:d.pure=true):RV y d v:=by
 rcases Tt hp with ⟨l,rfl,hl⟩ | hp
 ·cases h with
  | tup h hr=>exact .tup h fun j c hc=>(hr j c hc).A6 hF (aW.1 hl c (cW hc))
 ·exact h.A6 hF hp
theorem RV.aL {x:Cx} {d:DV} {v:Value} (h:RV x d v):RV x d.aL v:=by
 cases h with
 | sl hv hr h1 h2 h3 hsp h4=>exact .sl hv hr h1 ⟨by simp,h2.2⟩ h3 hsp fun t ht=>(by cases ht)
 | val h=>exact .val h
 | agg h hl=>exact .agg h hl
 | tup h hl=>exact .tup h hl
 | ptr h=>exact .ptr h
 | ey hv hr=>exact .ey hv hr
 | fn h1 h2 h3 h4=>exact .fn h1 h2 h3 h4
 | map h=>exact .map h
 | zx h=>exact .zx h
 | gV h h1 h2=>exact .gV h h1 h2
 | eT h h1 h2=>exact .eT h h1 h2
theorem RV.cN {x:Cx} {d:DV} {v:Value} (h:RV x d v):RV x d.cN v:=by
 cases h with
 | sl hv hr h1 h2 h3 hsp h4=>exact .sl hv hr h1 ⟨by simp,h2.2⟩ h3 hsp fun t ht=>(by cases ht)
 | val h=>exact .val h
 | @agg l vs h hl =>
  refine .agg (by simpa using h) fun j c hc => ?_
  simp only[en,ah] at hc
  obtain⟨c',h1,rfl⟩:=hc
  exact(hl j c' h1).aL
 | tup h hl=>exact .tup h hl
 | ptr h=>exact .ptr h
 | ey hv hr=>exact .ey hv hr
 | fn h1 h2 h3 h4=>exact .fn h1 h2 h3 h4
 | map h=>exact .map h
 | zx h=>exact .zx h
 | gV h h1 h2=>exact .gV h h1 h2
 | eT h h1 h2=>exact .eT h h1 h2
theorem RV.strip {x:Cx} {d:DV} {v:Value} (h:RV x d v):RV x d.strip v:=by
 cases d with
 | tup l =>
  cases h with
  | tup h hl =>
   refine .tup (by simpa using h) fun j c hc => ?_
   simp only[en,ah] at hc
   obtain⟨c',h1,rfl⟩:=hc
   exact(hl j c' h1).cN
 | _=>exact h.cN
def Cx.bare (x:Cx):Cx:={ x with S:=[] }
def Cx.behind (x y:Cx):Cx:={ x with w:=y.w,Fz:=y.Fz }
theorem fB (i:Nat):¬ Live [] i:=by rintro⟨b,h,-⟩; simp at h
theorem Rel.bare {x:Cx} (h:Rel x):Rel x.bare where
 cells:=fun id l hl=>by simp[Cx.bare] at hl
 dz:=fun id e s n hl=>by simp[Cx.bare] at hl
 dD:=fun id b hl=>by simp[Cx.bare] at hl
 inj:=fun i j hi=>(fB i hi).elim
 xH:=h.xH
 sep:=fun id ⟨l,hl⟩=>by simp[Cx.bare] at hl
 ng:=fun id e s n hl=>by simp[Cx.bare] at hl
 ops:=fun id e s l z hl=>by simp[Cx.bare] at hl
theorem yh {x y:Cx} (hR:Rel x) (M:bE x.bare y):bE x (x.behind y) where
 size:=M.size
 env:=M.env
 fz:=M.fz
 Ho:=fun b o hb=>by
  rcases M.Ho b o hb with h | h | ⟨i,h,-⟩
  ·exact .inl h
  ·exact .inr (.inl h)
  ·exact(fB i h).elim
 old:=fun b hb _=>M.old b hb fun i hi=>(fB i hi).elim
 len:=ai _
 cells:=fun id l hl=>⟨rfl,l,hl⟩
 dD:=fun id b hl hb=>⟨rfl,⟨b,hl,eu hb⟩,fun _=>M.old _ (by
  obtain⟨o,h1,-⟩:=hR.dD id b hl hb
  exact(aG.1 h1).1) fun i hi=>(fB i hi).elim⟩
 dz:=fun t e s n ht=>⟨n,ht,ai _,fun _=>⟨rfl,rfl⟩⟩
 live:=fun i hi => .inl ⟨hi,rfl⟩
 ops:=fun _ _ _ l z h=>⟨l,z,h,ai _,fun e=>⟨rfl,e⟩,fun _=>⟨rfl,rfl⟩⟩
theorem bT {w:World} {b:Nat} {o:Obj} (h:w.heap[b]? = some o):b<w.heap.size:=(aG.1 h).1
theorem Rel.behind {x y:Cx} (h:Rel x) (M:bE x.bare y) (k:Rel y):Rel (x.behind y):=by
 have hM:=yh h M
 have hold:∀ b,b<x.w.heap.size→y.w.heap[b]? = x.w.heap[b]? := fun b hb=>M.old b hb fun i hi=>(fB i hi).elim
 have Hu:∀ b o,b<x.w.heap.size→y.Fz b o→x.Fz b o:=fun b o hb hy=>by
  rcases M.Ho b o hy with h | h | ⟨i,h,-⟩
  ·exact h
  ·exact absurd h (by have:(x.bare).w=x.w:=rfl; rw[this]; omega)
  ·exact(fB i h).elim
 exact {
  cells:=fun id l hl=>by
   obtain⟨arr,e,h1,h2,h3⟩:=h.cells id l hl
   exact⟨arr,e,(hold _ (bT h1)).trans h1,h2,fun j c hc=>(h3 j c hc).mono hM⟩
  dz:=fun id e s n hl=>by
   obtain⟨arr,h1,h2⟩:=h.dz id e s n hl
   exact⟨arr,(hold _ (bT h1)).trans h1,h2⟩
  dD:=fun id b hl hb=>by
   obtain⟨o,h1,h2⟩:=h.dD id b hl hb
   exact⟨o,(hold _ (bT h1)).trans h1,h2.mono hM⟩
  inj:=h.inj
  xH:=k.xH
  sep:=fun id hl o ho=>by
   obtain⟨l,hl⟩:=hl
   obtain⟨arr,e,h1,-⟩:=h.cells id l hl
   exact h.sep id ⟨l,hl⟩ o (Hu _ _ (bT h1) ho)
  ng:=fun id e s n hl o ho=>by
   obtain⟨arr,h1,-⟩:=h.dz id e s n hl
   exact h.ng id e s n hl o (Hu _ _ (bT h1) ho)
  ops:=fun id e s l z hl=>by
   obtain⟨arr,h1,h2,h3,h4,h5,h6,h7⟩:=h.ops id e s l z hl
   exact⟨arr,(hold _ (bT h1)).trans h1,h2,h3,h4,fun j c hc=>⟨(h5 j c hc).1,(h5 j c hc).2.mono hM⟩,fun hz j hj=>(M.fz _ _ (h6 hz j hj)).1,fun hz o ho=>h7 hz o (Hu _ _ (bT h1) ho)⟩ }
def Cx.dr (x:Cx) (d:Nat):Cx:={ x with w:=x.w.at d }
theorem ej (x:Cx) (d:Nat):bE x (x.dr d) :=
 ⟨ai _,⟨rfl,rfl⟩,fun _ _ h=>⟨h,rfl⟩,fun _ _ h => .inl h,fun _ _ _=>rfl,ai _,fun _ l h=>⟨rfl,l,h⟩,fun _ b h hb=>⟨rfl,⟨b,h,eu hb⟩,fun _=>rfl⟩,fun _ _ _ n h=>⟨n,h,ai _,fun _=>⟨rfl,rfl⟩⟩,fun _ h => .inl ⟨h,rfl⟩,fun _ _ _ l z h=>⟨l,z,h,ai _,fun e=>⟨rfl,e⟩,fun _=>⟨rfl,rfl⟩⟩⟩
theorem Rel.dr {x:Cx} (h:Rel x) (d:Nat):Rel (x.dr d) where
 cells:=fun id l hl=>by
  obtain⟨arr,e,h1,h2,h3⟩:=h.cells id l hl
  exact⟨arr,e,h1,h2,fun j c hc=>(h3 j c hc).mono (ej x d)⟩
 dz:=h.dz
 dD:=fun id b hl hb=>by
  obtain⟨o,h1,h2⟩:=h.dD id b hl hb
  exact⟨o,h1,h2.mono (ej x d)⟩
 inj:=h.inj
 xH:=h.xH
 sep:=h.sep
 ng:=h.ng
 ops:=fun id e s l z hl=>by
  obtain⟨arr,h1,h2,h3,h4,h5,h6⟩:=h.ops id e s l z hl
  exact⟨arr,h1,h2,h3,h4,fun j c hc=>⟨(h5 j c hc).1,(h5 j c hc).2.mono (ej x d)⟩,h6⟩
end Go.Di
end
section
namespace Go.Di
open Go
variable {P:Program} {ty:fI} {x:Cx} {w':World}
theorem mw {α:Type} {s:Sem α} {a:α} (h:b7 P s=some a) (w:World):s.run P w = .ok a w:=by
 induction s generalizing a with
 | pure b=>simp only[b7,az] at h; subst h; rfl
 | program k ih=>simp only[b7] at h; simpa [Sem.run] using ih P h
 | _=>simp[b7] at h
theorem XW (tok:Option Nat) (h:tok=none):RV x (.sl [] tok ⟨true,some true⟩) (.slice none 0 0):=by
 subst h
 exact RV.sl (rows:=[]) (A:=none) (cap:=0) (s:=0) (vs:=fun _=>undef) ⟨by simp,by simp[flat]⟩ (by simp[flat]) (ai _) ⟨fun _=>rfl,fun b h=>by cases h; rfl⟩ (fun _=>rfl) (fun _ h _=>by cases h) (fun t ht=>by cases ht)
theorem Cy {v:Value} {d:DV} (h:DG v=some d):RV x d v:=by
 unfold DG at h
 split at h
 ·cases h; exact XW _ rfl
 ·split at h
  ·cases h; exact .val ‹_›
  ·cases h
theorem gB:∀ {vs:List Value} {l:List DV},pF vs=some l→vs.length=l.length∧∀ j c,l[j]? = some c→RV x c (vs.getD j undef)
 | [],l,h=>by simp only[pF,az] at h; subst h; simp
 | v::vs,l,h=>by
  unfold pF at h
  split at h
  ·rename_i d r h1 h2
   cases h
   obtain⟨h3,h4⟩:=gB h2
   refine⟨by simp[h3],fun j c hc => ?_⟩
   cases j with
   | zero=>simp at hc; subst hc; exact Cy h1
   | succ j=>simpa using h4 j c (by simpa using hc)
  ·cases h
theorem vz {v:Value} {d:DV} (h:xQ v=some d):RV x d v:=by
 unfold xQ at h
 split at h
 ·simp only[ah] at h
  obtain⟨l,h1,rfl⟩:=h
  obtain⟨h3,h4⟩:=gB (x:=x) h1
  exact .agg (by simpa using h3) fun j c hc=>by simpa [aT,aO] using h4 j c hc
 ·split at h
  ·rename_i f fs cs hz
   simp only[aB,bJ] at hz
   cases h
   exact .fn hz.1 hz.2 (by simp) (by simp)
  ·cases h
 ·exact Cy h
theorem vK:∀ {l:List DV} {r:List Value},pz l=some r→l=r.map .val
 | [],r,h=>by simp only[pz,az] at h; subst h; rfl
 | d::l,r,h=>by
  cases d<;>simp only[pz,ah] at h
  all_goals first | (obtain⟨r',h1,rfl⟩:=h; simp[vK h1]; done) | cases h
theorem tI {v u:Value} (h:RV x (.val u) v):v=u:=by cases h; rfl
theorem FQ {d:DV} {v u:Value} (h:RV x d v) (hu:xK d=some u):v=u:=by
 cases d<;>simp only[xK,ah,reduceCtorEq] at hu
 ·simp only[az] at hu; subst hu; exact tI h
 ·obtain⟨r,h1,rfl⟩:=hu
  have:=vK h1
  subst this
  cases h with
  | @agg _ vs hs hl =>
   congr 1
   refine Array.ext (by simpa using hs) fun j h1 h2 => ?_
   have:=hl j (.val r[j]) (by simp[bV (show j<r.length by simpa using h2)])
   have:=tI this
   simpa [aT,h1] using this
theorem wT:∀ {l:List DV} {vs r:List Value},qQ l=some r→vs.length=l.length→(∀ j c,l[j]? = some c→RV x c (vs.getD j undef))→vs=r
 | [],vs,r,h,hl,_=>by
  simp only[qQ,az] at h
  subst h
  exact dm (by simpa using hl)
 | d::l,vs,r,h,hl,hr=>by
  cases vs with
  | nil=>simp at hl
  | cons v vs =>
   unfold qQ at h
   split at h
   ·rename_i v' r' h1 h2
    cases h
    have:=FQ (by simpa using hr 0 d rfl) h1
    subst this
    congr 1
    exact wT h2 (by simpa using hl) fun j c hc=>by simpa using hr (j+1) c (by simpa using hc)
   ·cases h
def Bw (S:ak) (ay:Nat):Prop:=ay=S.length∨S[ay]? = some .none
theorem Bw.le {S:ak} {ay:Nat} (h:Bw S ay):ay≤S.length:=by
 rcases h with h | h
 ·omega
 ·have:=(aJ.1 h).1; omega
theorem Bw.ne {S:ak} {ay id:Nat} {b:DB} (h:Bw S ay) (hb:S[id]? = some b) (hne:b ≠ .none):id≠ay:=by
 rintro rfl
 rcases h with h | h
 ·rw[h,eS (ai _)] at hb; cases hb
 ·rw[h] at hb; cases hb; exact hne rfl
theorem aZ {S:ak} {i:Nat} (h:i≤S.length) (b:DB) (j:Nat):(dP S i b)[j]? = if j=i then some b else S[j]? := by
 unfold dP
 split
 ·rw[aK]
  split<;>rename_i h1
  ·subst h1; simp[*]
  ·rw[if_neg (Ne.symm h1)]
 ·have:i=S.length:=by omega
  subst this
  rw[pM]
  split
  ·rw[if_neg (by omega)]
  ·rename_i h1
   by_cases h2:j=S.length
   ·subst h2; simp
   ·rw[if_neg h2,eS (by simp; omega),eS (by omega)]
theorem PN {S:ak} {i:Nat} (b:DB):S.length≤(dP S i b).length:=by unfold dP; split<;>simp
theorem aS {S:ak} {i:Nat} {b:DB} (h:S[i]? = some b) (hb:b ≠ .none):Live S i:=⟨b,h,hb⟩
theorem Rel.gr (h:Rel x) {i:Nat} (hi:Live x.S i):x.μ i<x.w.heap.size:=by
 obtain⟨b,hb,hne⟩:=hi
 cases b with
 | none=>exact absurd rfl hne
 | cells l=>obtain⟨arr,e,h1,-⟩:=h.cells i l hb; exact bT h1
 | tail e s n=>obtain⟨arr,h1,-⟩:=h.dz i e s n hb; exact bT h1
 | map es=>obtain⟨o,h1,-⟩:=h.dD i _ hb rfl; exact bT h1
 | defer=>obtain⟨o,h1,-⟩:=h.dD i _ hb rfl; exact bT h1
 | loop r=>obtain⟨o,h1,-⟩:=h.dD i _ hb rfl; exact bT h1
 | op e s l z=>obtain⟨arr,h1,-⟩:=h.ops i e s l z hb; exact bT h1
theorem Rel.s4 (h:Rel x) {b o:Nat} (hf:x.Fz b o):b<x.w.heap.size:=by
 obtain⟨v,hv⟩:=h.xH b o hf
 exact World.block_lt_of_cell? x.w ⟨b,o,none⟩ hv
structure mH (w w':World) (ob:Obj):Prop where
 heap:w'.heap=w.heap.push ob
 env:w'.os=w.os∧w'.output=w.output
theorem fE (w:World) (ob:Obj):mH w (w.alloc ob) ob:=⟨rfl,rfl,rfl⟩
theorem mH.lt {w w':World} {ob:Obj} (h:mH w w' ob) {b:Nat} (hb:b<w.heap.size):w'.heap[b]? = w.heap[b]? := by rw[h.heap,Array.getElem?_push_lt hb,bL hb]
theorem mH.new {w w':World} {ob:Obj} (h:mH w w' ob):w'.heap[w.heap.size]? = some ob:=by rw[h.heap,Array.getElem?_push_size]
theorem cell_of_block {w w':World} {b:Nat} (h:w'.heap[b]? = w.heap[b]?) (o:Nat):w'.cell? ⟨b,o,none⟩=w.cell? ⟨b,o,none⟩:=by simp[World.cell?,h]
def Cx.fresh (x:Cx) (w':World) (ay k:Nat) (F:Nat→Prop) (b:DB):Cx :=
 ⟨w',fun i=>if i=ay then x.w.heap.size else x.μ i,fun i=>if i=ay then k else x.κ i,fun c o=>x.Fz c o∨(c=x.w.heap.size∧F o),dP x.S ay b⟩
theorem iy {ay k:Nat} {F:Nat→Prop} {ob:Obj} {b:DB} (hR:Rel x) (hn:Bw x.S ay) (hp:mH x.w w' ob):bE x (x.fresh w' ay k F b) where
 size:=by show _≤w'.heap.size; rw[hp.heap]; simp
 env:=hp.env
 fz:=fun c o h=>⟨.inl h,cell_of_block (hp.lt (hR.s4 h)) o⟩
 Ho:=fun c o h=>by
  rcases h with h | h
  ·exact .inl h
  ·exact .inr (.inl (by omega))
 old:=fun c hc _=>hp.lt hc
 len:=PN b
 cells:=fun id l hl=>by
  have hne:=hn.ne hl (by simp)
  exact⟨if_neg hne,l,by show (dP _ _ _)[_]? = _; rw[aZ hn.le,if_neg hne]; exact hl⟩
 dD:=fun id c hl hc=>by
  have hne:=hn.ne hl (fq hc)
  exact⟨if_neg hne,⟨c,by show (dP _ _ _)[_]? = _; rw[aZ hn.le,if_neg hne]; exact hl,eu hc⟩,fun _=>by
   obtain⟨o,h1,-⟩:=hR.dD id c hl hc
   exact hp.lt (bT h1)⟩
 dz:=fun t e s n ht=>by
  have hne:=hn.ne ht (by simp)
  exact⟨n,by show (dP _ _ _)[_]? = _; rw[aZ hn.le,if_neg hne]; exact ht,ai _,fun _=>⟨if_neg hne,if_neg hne⟩⟩
 live:=fun i hi=>by
  by_cases h:i=ay
  ·subst h; right; show _≤(if _ then _ else _); rw[if_pos rfl]; exact ai _
  ·left
   obtain⟨c,hc,hne⟩:=hi
   have hc:(dP x.S ay b)[i]? = some c:=hc
   rw[aZ hn.le,if_neg h] at hc
   exact⟨⟨c,hc,hne⟩,if_neg h⟩
 ops:=fun t e s l z ht=>by
  have hne:=hn.ne ht (by simp)
  exact⟨l,z,by show (dP _ _ _)[_]? = _; rw[aZ hn.le,if_neg hne]; exact ht,ai _,fun e=>⟨rfl,e⟩,fun _=>⟨if_neg hne,if_neg hne⟩⟩
theorem kg {ay k:Nat} {F:Nat→Prop} {ob:Obj} {b:DB} (hR:Rel x) (hn:Bw x.S ay) (hp:mH x.w w' ob)
  (hF:∀ o,F o→∃ v,w'.cell? ⟨x.w.heap.size,o,none⟩=some v)
  (hb:(∃ l arr e,b = .cells l∧ob = .cells arr e (0,0)∧arr.size=l.length∧(∀ o,¬ F o)∧∀ j c,l[j]? = some c→RV x c (arr.getD j undef)) ∨
   (∃ e s n arr,b = .tail e s n∧ob = .cells arr e (0,0)∧arr.size=k*s∧n≤arr.size∧k≤maxLen∧∀ o,F o→o<n)∨(b.isObj=true∧(∀ o,¬ F o)∧qM (x.fresh w' ay k F b) b ob) ∨
   (∃ e s l arr,b = .op e s l false∧ob = .cells arr e (0,0)∧arr.size=k*s∧l.length≤arr.size∧k≤maxLen∧(∀ o,¬ F o)∧∀ j c,l[j]? = some c→c.bF=true∧RV x c (arr.getD j undef))) :
  Rel (x.fresh w' ay k F b):=by
 have M:=iy (k:=k) (F:=F) (b:=b) hR hn hp
 have bh:∀ i,(x.fresh w' ay k F b).S[i]? = if i=ay then some b else x.S[i]? := fun i=>aZ hn.le b i
 have hμ:∀ i,i≠ay→(x.fresh w' ay k F b).μ i=x.μ i:=fun i h=>if_neg h
 have hκ:∀ i,i≠ay→(x.fresh w' ay k F b).κ i=x.κ i:=fun i h=>if_neg h
 have hμn:(x.fresh w' ay k F b).μ ay=x.w.heap.size:=if_pos rfl
 have hκn:(x.fresh w' ay k F b).κ ay=k:=if_pos rfl
 have mF:∀ i,i≠ay→Live (x.fresh w' ay k F b).S i→Live x.S i:=by
  rintro i h ⟨c,hc,hne⟩
  rw[bh,if_neg h] at hc
  exact⟨c,hc,hne⟩
 constructor
 ·intro id l hl
  rw[bh] at hl
  by_cases h:id=ay
  ·subst h
   rw[if_pos rfl] at hl
   cases hl
   rcases hb with ⟨l',arr,e,h1,rfl,h3,h4,h5⟩ | ⟨e,s,n,arr,h1,-⟩ | ⟨h1,-⟩ | ⟨e,s,n,arr,h1,-⟩
   ·cases h1
    rw[hμn]
    exact⟨arr,e,hp.new,h3,fun j c hc=>(h5 j c hc).mono M⟩
   all_goals cases h1
  ·rw[if_neg h] at hl
   obtain⟨arr,e,h1,h2,h3⟩:=hR.cells id l hl
   rw[hμ id h]
   exact⟨arr,e,(hp.lt (bT h1)).trans h1,h2,fun j c hc=>(h3 j c hc).mono M⟩
 ·intro id e s n hl
  rw[bh] at hl
  by_cases h:id=ay
  ·subst h
   rw[if_pos rfl] at hl
   cases hl
   rcases hb with ⟨l',arr,e',h1,-⟩ | ⟨e',s',n',arr,h1,rfl,h3,h4,h5,-⟩ | ⟨h1,-⟩ | ⟨e',s',n',arr,h1,-⟩
   ·cases h1
   ·cases h1
    rw[hμn,hκn]
    exact⟨arr,hp.new,h3,h4,h5⟩
   all_goals cases h1
  ·rw[if_neg h] at hl
   obtain⟨arr,h1,h2⟩:=hR.dz id e s n hl
   rw[hμ id h,hκ id h]
   exact⟨arr,(hp.lt (bT h1)).trans h1,h2⟩
 ·intro id c hl hc
  rw[bh] at hl
  by_cases h:id=ay
  ·subst h
   rw[if_pos rfl] at hl
   cases hl
   rcases hb with ⟨l',arr,e,h1,-⟩ | ⟨e',s',n',arr,h1,-⟩ | ⟨-,-,h1⟩ | ⟨e',s',n',arr,h1,-⟩
   ·subst h1; cases hc
   ·subst h1; cases hc
   ·rw[hμn]
    exact⟨ob,hp.new,h1⟩
   ·subst h1; cases hc
  ·rw[if_neg h] at hl
   obtain⟨o,h1,h2⟩:=hR.dD id c hl hc
   rw[hμ id h]
   exact⟨o,(hp.lt (bT h1)).trans h1,h2.mono M⟩
 ·intro i j hi hj he
  by_cases h1:i=ay
  ·by_cases h2:j=ay
   ·rw[h1,h2]
   ·rw[h1,hμn,hμ j h2] at he
    have:=hR.gr (mF j h2 hj)
    omega
  ·by_cases h2:j=ay
   ·rw[h2,hμn,hμ i h1] at he
    have:=hR.gr (mF i h1 hi)
    omega
   ·rw[hμ i h1,hμ j h2] at he
    exact hR.inj i j (mF i h1 hi) (mF j h2 hj) he
 ·intro c o h
  rcases h with h | ⟨rfl,h⟩
  ·obtain⟨v,hv⟩:=hR.xH c o h
   exact⟨v,(M.fz c o h).2.trans hv⟩
  ·exact hF o h
 ·rintro id ⟨l,hl⟩ o ho
  rw[bh] at hl
  by_cases h:id=ay
  ·subst h
   rw[if_pos rfl] at hl
   cases hl
   rcases hb with ⟨l',arr,e,h1,-,-,h4,-⟩ | ⟨e',s',n',arr,h1,-⟩ | ⟨h1,-⟩ | ⟨e',s',n',arr,h1,-⟩
   ·rw[hμn] at ho
    rcases ho with ho | ⟨-,ho⟩
    ·have:=hR.s4 ho; omega
    ·exact h4 o ho
   all_goals cases h1
  ·rw[if_neg h] at hl
   rw[hμ id h] at ho
   rcases ho with ho | ⟨ho,-⟩
   ·exact hR.sep id ⟨l,hl⟩ o ho
   ·have:=hR.gr (aS hl (by simp)); omega
 ·intro id e s n hl o ho
  rw[bh] at hl
  by_cases h:id=ay
  ·subst h
   rw[if_pos rfl] at hl
   cases hl
   rcases hb with ⟨l',arr,e',h1,-⟩ | ⟨e',s',n',arr,h1,-,-,-,-,h6⟩ | ⟨h1,-⟩ | ⟨e',s',n',arr,h1,-⟩
   ·cases h1
   ·cases h1
    rw[hμn] at ho
    rcases ho with ho | ⟨-,ho⟩
    ·have:=hR.s4 ho; omega
    ·exact h6 o ho
   all_goals cases h1
  ·rw[if_neg h] at hl
   rw[hμ id h] at ho
   rcases ho with ho | ⟨ho,-⟩
   ·exact hR.ng id e s n hl o ho
   ·have:=hR.gr (aS hl (by simp)); omega
 ·intro id e s l z hl
  rw[bh] at hl
  by_cases h:id=ay
  ·subst h
   rw[if_pos rfl] at hl
   cases hl
   rcases hb with ⟨l',arr,e',h1,-⟩ | ⟨e',s',n',arr,h1,-⟩ | ⟨h1,-⟩ | ⟨e',s',n',arr,h1,rfl,h3,h4,h5,h6,h7⟩
   ·cases h1
   ·cases h1
   ·cases h1
   ·cases h1
    rw[hμn,hκn]
    refine⟨arr,hp.new,h3,h4,h5,fun j c hc=>⟨(h7 j c hc).1,(h7 j c hc).2.mono M⟩,by simp,fun _ o ho => ?_⟩
    rcases ho with ho | ⟨-,ho⟩
    ·have:=hR.s4 ho; omega
    ·exact h6 o ho
  ·rw[if_neg h] at hl
   obtain⟨arr,h1,h2,h3,h4,h5,h6,h7⟩:=hR.ops id e s l z hl
   rw[hμ id h,hκ id h]
   refine⟨arr,(hp.lt (bT h1)).trans h1,h2,h3,h4,fun j c hc=>⟨(h5 j c hc).1,(h5 j c hc).2.mono M⟩,fun hz j hj => .inl (h6 hz j hj),fun hz o ho => ?_⟩
   rcases ho with ho | ⟨ho,-⟩
   ·exact h7 hz o ho
   ·have:=hR.gr (aS hl (by simp)); omega
end Go.Di
end
