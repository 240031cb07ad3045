import Derived.Test.YtedcgbkilmlbhaaGreatPk01
import Derived.Laws.AppendOwn
import Derived.Conc.Machine
section
namespace Go.Di
open Go
structure Cx where
 w:World
 μ:Nat→Nat
 κ:Nat→Nat
 Fz:Nat→Nat→Prop
 S:ak
def Live (S:ak) (i:Nat):Prop:=∃ b,S[i]? = some b∧b ≠ .none
def View (x:Cx) (rows:List DV) (A:Option Addr) (s:Nat) (vs:Nat→Value):Prop :=
 (∀ r∈rows,r.cells.length=s)∧∀ j c,(flat rows)[j]? = some c→c.bt=true∧∃ b o,A=some ⟨b,o,none⟩∧x.Fz b (o+j)∧x.w.cell? ⟨b,o+j,none⟩=some (vs j)
def Uu (x:Cx) (tok:Option Nat) (rows:List DV) (A:Option Addr) (cap:Nat):Prop :=
 ∀ t,tok=some t→∃ e s n,x.S[t]? = some (.tail e s n)∧rows.length*s≤n∧(∀ r∈rows,r.cells.length=s)∧(rows.length*s=n→A=some ⟨x.μ t,0,none⟩∧cap=x.κ t)
def MN (f:SF) (A:Option Addr):Prop:=∀ b,f.isNil=some b→A.isNone=b
inductive RV (x:Cx):DV→Value→Prop
 | val {v:Value}:uQ v=true→RV x (.val v) v
 | agg {l:List DV} {vs:Array Value}:vs.size=l.length→(∀ j c,l[j]? = some c→RV x c (vs.getD j undef))→RV x (.agg l) (.agg vs)
 | ee {l:List DV} {vs:Array Value}:vs.size=l.length→(∀ j c,l[j]? = some c→RV x c (vs.getD j undef))→RV x (.ee l) (.tuple vs)
 | sl {rows:List DV} {tok:Option Nat} {full:SF} {A:Option Addr} {cap s:Nat} {vs:Nat→Value}:View x rows A s vs→(∀ j c,(flat rows)[j]? = some c→RV x c (vs j))→rows.length≤cap→((full.full=true→cap=rows.length)∧MN full A)→(A=none→cap=0)→(∀ ad,A=some ad→ad.spot=none)→Uu x tok rows A cap →
   RV x (.sl rows tok full) (.slice A rows.length cap)
 | ptr {id off:Nat} {l:List DV}:x.S[id]? = some (.cells l)→RV x (.ptr id off) (.pointer (some ⟨x.μ id,off,none⟩))
 | cU {rows:List DV} {i off b o s:Nat} {vs:Nat→Value}:View x rows (some ⟨b,o,none⟩) s vs→(∀ j c,(flat rows)[j]? = some c→RV x c (vs j))→RV x (.cU rows i off) (.pointer (some ⟨b,o+(i*s+off),none⟩))
 | fn {f:FuncId} {first captured:List DV} {fs cs:Array Value}:fs.size=first.length→cs.size=captured.length→(∀ j c,first[j]? = some c→RV x c (fs.getD j undef))→(∀ j c,captured[j]? = some c→RV x c (cs.getD j undef))→RV x (.fn f first captured) (.func (.func f) fs cs)
 | map {id:Nat} {es:List (Value×Value)}:x.S[id]? = some (.map es)→RV x (.map id) (.map (some (x.μ id)))
 | uC {id:Nat} {r:Ik}:x.S[id]? = some (.loop r)→RV x (.uC id) (.func (.yield (x.μ id)) #[] #[])
 | gD {id n:Nat} {agg:Bool} {e:TypeId} {s:Nat} {l:List DV} {z:Bool} {A:Option Addr} {cap:Nat}:x.S[id]? = some (.op e s l z)→n*s≤l.length→(n*s=l.length→A=some ⟨x.μ id,0,none⟩∧cap=x.κ id)→RV x (.gD id n agg) (.slice A n cap)
 | dB {id n off:Nat} {e:TypeId} {s:Nat} {l:List DV} {z:Bool} {A:Option Addr}:x.S[id]? = some (.op e s l z)→n*s≤l.length→(n*s=l.length→A=some ⟨x.μ id,off,none⟩)→RV x (.dB id n off) (.pointer A)
def dR (x:Cx) (l:List DV) (arr:Array Value):Prop:=arr.size=l.length∧∀ j c,l[j]? = some c→RV x c (arr.getD j undef)
def DB.isObj:DB→Bool
 | .map _ | .defer | .loop _=>true
 | _=>false
def oL (x:Cx):DB→Obj→Prop
 | .map es,.map xS _=>xS.toList.map (fun e=>(e.key,e.val))=es
 | .defer,.deferred _=>True
 | .loop r,.loop l=>l.state=r.st∧l.pending=r.iu∧l.fn=r.fn∧dR x r.env l.tmps∧l.params=r.params.toArray∧l.assign=r.assign∧l.body=r.body∧l.defers=x.μ r.dfr∧x.S[r.dfr]? = some .defer
 | _,_=>False
def DB.like:DB→DB→Prop
 | .map _,.map _=>True
 | .defer,.defer=>True
 | .loop r,.loop r'=>r'={ r with st:=r'.st,iu:=r'.iu }
 | _,_=>False
theorem dw:∀ {b:DB},b.isObj=true→b.like b
 | .map _,_=>trivial
 | .defer,_=>trivial
 | .loop _,_=>rfl
 | .none,h=>by cases h
 | .cells _,h=>by cases h
 | .tail ..,h=>by cases h
 | .op ..,h=>by cases h
theorem o9:∀ {b c:DB},b.like c→b.isObj=true∧c.isObj=true
 | .map _,.map _,_=>⟨rfl,rfl⟩
 | .defer,.defer,_=>⟨rfl,rfl⟩
 | .loop _,.loop _,_=>⟨rfl,rfl⟩
theorem G4:∀ {a b c:DB},a.like b→b.like c→a.like c
 | .map _,.map _,.map _,_,_=>trivial
 | .defer,.defer,.defer,_,_=>trivial
 | .loop r,.loop r',.loop r'',h,k=>by
  simp only[DB.like] at h k ⊢
  rw[k,h]
theorem ep {b:DB} (h:b.isObj=true):b ≠ .none:=by rintro rfl; cases h
structure Rel (x:Cx):Prop where
 cells:∀ id l,x.S[id]? = some (.cells l)→∃ arr e,x.w.heap[x.μ id]? = some (.cells arr e (0,0))∧arr.size=l.length∧∀ j c,l[j]? = some c→RV x c (arr.getD j undef)
 cN:∀ id e s n,x.S[id]? = some (.tail e s n)→∃ arr,x.w.heap[x.μ id]? = some (.cells arr e (0,0))∧arr.size=x.κ id*s∧n≤arr.size∧x.κ id≤maxLen
 c9:∀ id b,x.S[id]? = some b→b.isObj=true→∃ o,x.w.heap[x.μ id]? = some o∧oL x b o
 inj:∀ i j,Live x.S i→Live x.S j→x.μ i=x.μ j→i=j
 uI:∀ b o,x.Fz b o→∃ v,x.w.cell? ⟨b,o,none⟩=some v
 sep:∀ id,(∃ l,x.S[id]? = some (.cells l))→∀ o,¬ x.Fz (x.μ id) o
 lF:∀ id e s n,x.S[id]? = some (.tail e s n)→∀ o,x.Fz (x.μ id) o→o<n
 ops:∀ id e s l z,x.S[id]? = some (.op e s l z)→∃ arr,x.w.heap[x.μ id]? = some (.cells arr e (0,0))∧arr.size=x.κ id*s∧l.length≤arr.size∧x.κ id≤maxLen∧(∀ j c,l[j]? = some c→c.bt=true∧RV x c (arr.getD j undef))∧(z=true→∀ j,j<l.length→x.Fz (x.μ id) j)∧(z=false→∀ o,¬ x.Fz (x.μ id) o)
structure bk (x y:Cx):Prop where
 size:x.w.heap.size≤y.w.heap.size
 env:y.w.os=x.w.os∧y.w.output=x.w.output
 fz:∀ b o,x.Fz b o→y.Fz b o∧y.w.cell? ⟨b,o,none⟩=x.w.cell? ⟨b,o,none⟩
 Hx:∀ b o,y.Fz b o→x.Fz b o∨x.w.heap.size≤b∨∃ i,Live x.S i∧x.μ i=b
 old:∀ b,b<x.w.heap.size→(∀ i,Live x.S i→x.μ i≠b)→y.w.heap[b]? = x.w.heap[b]?
 len:x.S.length≤y.S.length
 cells:∀ id l,x.S[id]? = some (.cells l)→y.μ id=x.μ id∧∃ l',y.S[id]? = some (.cells l')
 c9:∀ id b,x.S[id]? = some b→b.isObj=true→y.μ id=x.μ id∧(∃ b',y.S[id]? = some b'∧b.like b')∧(b = .defer→y.w.heap[x.μ id]? = x.w.heap[x.μ id]?)
 cN:∀ t e s n,x.S[t]? = some (.tail e s n)→∃ n',y.S[t]? = some (.tail e s n')∧n≤n'∧(n'=n→y.μ t=x.μ t∧y.κ t=x.κ t)
 live:∀ i,Live y.S i→(Live x.S i∧y.μ i=x.μ i)∨x.w.heap.size≤y.μ i
 ops:∀ t e s l z,x.S[t]? = some (.op e s l z)→∃ l' z',y.S[t]? = some (.op e s l' z')∧l.length≤l'.length∧(z=true→l'=l∧z'=true)∧(l'.length=l.length→y.μ t=x.μ t∧y.κ t=x.κ t)
theorem bk.refl (x:Cx):bk x x :=
 ⟨Nat.le_refl _,⟨rfl,rfl⟩,fun _ _ h=>⟨h,rfl⟩,fun _ _ h => .inl h,fun _ _ _=>rfl,Nat.le_refl _,fun _ l h=>⟨rfl,l,h⟩,fun _ b h hb=>⟨rfl,⟨b,h,dw hb⟩,fun _=>rfl⟩,fun _ _ _ n h=>⟨n,h,Nat.le_refl _,fun _=>⟨rfl,rfl⟩⟩,fun _ h => .inl ⟨h,rfl⟩,fun _ _ _ l z h=>⟨l,z,h,Nat.le_refl _,fun e=>⟨rfl,e⟩,fun _=>⟨rfl,rfl⟩⟩⟩
theorem bk.trans {x y z:Cx} (h:bk x y) (k:bk y z):bk x z where
 size:=Nat.le_trans h.size k.size
 env:=⟨k.env.1.trans h.env.1,k.env.2.trans h.env.2⟩
 fz:=fun b o hb=>⟨(k.fz b o (h.fz b o hb).1).1,(k.fz b o (h.fz b o hb).1).2.trans (h.fz b o hb).2⟩
 Hx:=fun b o hb=>by
  rcases k.Hx b o hb with h1 | h1 | ⟨i,h1,h2⟩
  ·exact h.Hx b o h1
  ·exact .inr (.inl (Nat.le_trans h.size h1))
  ·rcases h.live i h1 with ⟨h3,h4⟩ | h3
   ·exact .inr (.inr ⟨i,h3,by rw[← h4]; exact h2⟩)
   ·exact .inr (.inl (h2▸h3))
 old:=fun b hb hn=>by
  refine(k.old b (Nat.lt_of_lt_of_le hb h.size) fun i hi he => ?_).trans (h.old b hb hn)
  rcases h.live i hi with ⟨h3,h4⟩ | h3
  ·exact hn i h3 (h4▸he)
  ·omega
 len:=Nat.le_trans h.len k.len
 cells:=fun id l hl=>by
  obtain⟨h1,l',h2⟩:=h.cells id l hl
  obtain⟨h3,l'',h4⟩:=k.cells id l' h2
  exact⟨h3.trans h1,l'',h4⟩
 c9:=fun id b hl hb=>by
  obtain⟨h1,⟨b',h2,h5⟩,h6⟩:=h.c9 id b hl hb
  obtain⟨h3,⟨b'',h4,h7⟩,h8⟩:=k.c9 id b' h2 (o9 h5).2
  refine⟨h3.trans h1,⟨b'',h4,G4 h5 h7⟩,fun hd => ?_⟩
  subst hd
  have:b' = .defer:=by cases b'<;>first | rfl | exact h5.elim
  rw[← h6 rfl,← h1]; exact h8 this
 cN:=fun t e s n ht=>by
  obtain⟨n',h1,h2,h3⟩:=h.cN t e s n ht
  obtain⟨n'',h4,h5,h6⟩:=k.cN t e s n' h1
  refine⟨n'',h4,Nat.le_trans h2 h5,fun he => ?_⟩
  have e1:n'=n:=by omega
  have e2:n''=n':=by omega
  exact⟨(h6 e2).1.trans (h3 e1).1,(h6 e2).2.trans (h3 e1).2⟩
 live:=fun i hi=>by
  rcases k.live i hi with ⟨h1,h2⟩ | h1
  ·rcases h.live i h1 with ⟨h3,h4⟩ | h3
   ·exact .inl ⟨h3,h2.trans h4⟩
   ·exact .inr (h2▸h3)
  ·exact .inr (Nat.le_trans h.size h1)
 ops:=fun t e s l z ht=>by
  obtain⟨l1,z1,h1,h2,h3,h4⟩:=h.ops t e s l z ht
  obtain⟨l2,z2,k1,k2,k3,k4⟩:=k.ops t e s l1 z1 h1
  refine⟨l2,z2,k1,Nat.le_trans h2 k2,fun hz => ?_,fun he => ?_⟩
  ·obtain⟨rfl,rfl⟩:=h3 hz
   exact k3 rfl
  ·have e1:l1.length=l.length:=by omega
   have e2:l2.length=l1.length:=by omega
   exact⟨(k4 e2).1.trans (h4 e1).1,(k4 e2).2.trans (h4 e1).2⟩
theorem View.mono {x y:Cx} {rows:List DV} {A:Option Addr} {s:Nat} {vs:Nat→Value} (hF:∀ b o,x.Fz b o→y.Fz b o∧y.w.cell? ⟨b,o,none⟩=x.w.cell? ⟨b,o,none⟩) (h:View x rows A s vs):View y rows A s vs :=
 ⟨h.1,fun j c hc=>by
  obtain⟨h1,b,o,h2,h3,h4⟩:=h.2 j c hc
  exact⟨h1,b,o,h2,(hF _ _ h3).1,(hF _ _ h3).2.trans h4⟩⟩
theorem RV.mono {x y:Cx} (M:bk x y) {d:DV} {v:Value} (h:RV x d v):RV y d v:=by
 induction h with
 | val h=>exact .val h
 | agg h _ ih=>exact .agg h ih
 | ee h _ ih=>exact .ee h ih
 | sl hv _ h1 h2 h3 hsp h4 ih =>
  refine .sl (hv.mono M.fz) ih h1 h2 h3 hsp fun t ht => ?_
  obtain⟨e,s,n,k1,k2,k3,k4⟩:=h4 t ht
  obtain⟨n',m1,m2,m3⟩:=M.cN t e s n k1
  refine⟨e,s,n',m1,Nat.le_trans k2 m2,k3,fun he => ?_⟩
  have e1:n'=n:=by omega
  rw[(m3 e1).1,(m3 e1).2]
  exact k4 (he.trans e1)
 | ptr h =>
  obtain⟨h1,l',h2⟩:=M.cells _ _ h
  rw[← h1]
  exact .ptr h2
 | cU hv _ ih=>exact .cU (hv.mono M.fz) ih
 | fn h1 h2 _ _ Jd KX=>exact .fn h1 h2 Jd KX
 | map h =>
  obtain⟨h1,⟨b',h2,h3⟩,-⟩:=M.c9 _ _ h rfl
  rw[← h1]
  cases b' with
  | map es=>exact .map h2
  | _=>exact h3.elim
 | uC h =>
  obtain⟨h1,⟨b',h2,h3⟩,-⟩:=M.c9 _ _ h rfl
  rw[← h1]
  cases b' with
  | loop r=>exact .uC h2
  | _=>exact h3.elim
 | gD h hn hl =>
  obtain⟨l',z',h1,h2,-,h4⟩:=M.ops _ _ _ _ _ h
  refine .gD h1 (by omega) fun he => ?_
  have e1:=h4 (by omega)
  rw[e1.1,e1.2]
  exact hl (by omega)
 | dB h hn hl =>
  obtain⟨l',z',h1,h2,-,h4⟩:=M.ops _ _ _ _ _ h
  refine .dB h1 (by omega) fun he => ?_
  rw[(h4 (by omega)).1]
  exact hl (by omega)
theorem dR.mono {x y:Cx} (M:bk x y) {l:List DV} {arr:Array Value} (h:dR x l arr):dR y l arr:=⟨h.1,fun j c hc=>(h.2 j c hc).mono M⟩
theorem oL.mono {x y:Cx} (M:bk x y):∀ {b:DB} {o:Obj},oL x b o→oL y b o
 | .map _,.map _ _,h=>h
 | .defer,.deferred _,_=>trivial
 | .loop r,.loop l,⟨h1,h2,h3,h4,h5,h6,h7,h8,h9⟩=>by
  obtain⟨k1,⟨b',k2,k3⟩,-⟩:=M.c9 _ _ h9 rfl
  have:b' = .defer:=by cases b'<;>first | rfl | exact k3.elim
  subst this
  exact⟨h1,h2,h3,h4.mono M,h5,h6,h7,by rw[h8,k1],k2⟩
theorem RV.sr {x y:Cx} (hF:∀ b o,x.Fz b o→y.Fz b o∧y.w.cell? ⟨b,o,none⟩=x.w.cell? ⟨b,o,none⟩) {d:DV} {v:Value} (h:RV x d v) (hp:d.bt=true):RV y d v:=by
 induction h with
 | val h=>exact .val h
 | agg h _ ih=>simp[DV.bt] at hp
 | ee h _ ih=>simp[DV.bt] at hp
 | @sl rows tok full A cap s vs hv _ h1 h2 h3 hsp h4 ih =>
  refine .sl (hv.mono hF) (fun j c hc=>ih j c hc (hv.2 j c hc).1) h1 h2 h3 hsp fun t ht => ?_
  subst ht
  simp[DV.bt] at hp
 | ptr h=>simp[DV.bt] at hp
 | cU hv _ ih=>simp[DV.bt] at hp
 | fn h1 h2 _ _ Jd KX=>simp[DV.bt] at hp
 | map h=>simp[DV.bt] at hp
 | uC h=>simp[DV.bt] at hp
 | gD=>simp[DV.bt] at hp
 | dB=>simp[DV.bt] at hp
theorem C2 {l:List DV} (h:l.all DV.bt=true) {j:Nat} {c:DV} (hc:l[j]? = some c):c.bt=true:=List.all_eq_true.1 h c (List.mem_of_getElem? hc)
theorem RV.zo {x y:Cx} (hF:∀ b o,x.Fz b o→y.Fz b o∧y.w.cell? ⟨b,o,none⟩=x.w.cell? ⟨b,o,none⟩) {d:DV} {v:Value} (h:RV x d v) (hp:d.gP=true):RV y d v:=by
 cases h with
 | val h=>exact .val h
 | agg h hl=>exact .agg h fun j c hc=>(hl j c hc).sr hF (C2 hp hc)
 | ee h hl=>simp[DV.gP] at hp
 | @sl rows tok full A cap s vs hv hr h1 h2 h3 hsp h4 =>
  cases tok with
  | none=>exact(RV.sl hv hr h1 h2 h3 hsp h4).sr hF rfl
  | some t=>simp[DV.gP] at hp
 | ptr h=>simp[DV.gP] at hp
 | cU hv _=>simp[DV.gP] at hp
 | fn h1 h2 _ _=>simp[DV.gP] at hp
 | map h=>simp[DV.gP] at hp
 | uC h=>simp[DV.gP] at hp
 | gD=>simp[DV.gP] at hp
 | dB=>simp[DV.gP] at hp
theorem RB {d:DV} (hp:d.pure=true):(∃ l,d = .ee l∧l.all DV.gP=true)∨d.gP=true:=by
 cases d with
 | ee l=>exact .inl ⟨l,rfl,hp⟩
 | _=>exact .inr hp
theorem RV.pure_mono {x y:Cx} (hF:∀ b o,x.Fz b o→y.Fz b o∧y.w.cell? ⟨b,o,none⟩=x.w.cell? ⟨b,o,none⟩) {d:DV} {v:Value} (h:RV x d v) (hp:d.pure=true):RV y d v:=by
 rcases RB hp with ⟨l,rfl,hl⟩ | hp
 ·cases h with
  | ee h hr=>exact .ee h fun j c hc=>(hr j c hc).zo hF (List.all_eq_true.1 hl c (List.mem_of_getElem? hc))
 ·exact h.zo hF hp
theorem RV.aI {x:Cx} {d:DV} {v:Value} (h:RV x d v):RV x d.aI v:=by
 cases h with
 | sl hv hr h1 h2 h3 hsp h4=>exact .sl hv hr h1 ⟨by simp,h2.2⟩ h3 hsp fun t ht=>(by cases ht)
 | val h=>exact .val h
 | agg h hl=>exact .agg h hl
 | ee h hl=>exact .ee h hl
 | ptr h=>exact .ptr h
 | cU hv hr=>exact .cU hv hr
 | fn h1 h2 h3 h4=>exact .fn h1 h2 h3 h4
 | map h=>exact .map h
 | uC h=>exact .uC h
 | gD h h1 h2=>exact .gD h h1 h2
 | dB h h1 h2=>exact .dB h h1 h2
theorem RV.cv {x:Cx} {d:DV} {v:Value} (h:RV x d v):RV x d.cv v:=by
 cases h with
 | sl hv hr h1 h2 h3 hsp h4=>exact .sl hv hr h1 ⟨by simp,h2.2⟩ h3 hsp fun t ht=>(by cases ht)
 | val h=>exact .val h
 | @agg l vs h hl =>
  refine .agg (by simpa using h) fun j c hc => ?_
  simp only[List.getElem?_map,Option.map_eq_some_iff] at hc
  obtain⟨c',h1,rfl⟩:=hc
  exact(hl j c' h1).aI
 | ee h hl=>exact .ee h hl
 | ptr h=>exact .ptr h
 | cU hv hr=>exact .cU hv hr
 | fn h1 h2 h3 h4=>exact .fn h1 h2 h3 h4
 | map h=>exact .map h
 | uC h=>exact .uC h
 | gD h h1 h2=>exact .gD h h1 h2
 | dB h h1 h2=>exact .dB h h1 h2
theorem RV.strip {x:Cx} {d:DV} {v:Value} (h:RV x d v):RV x d.strip v:=by
 cases d with
 | ee l =>
  cases h with
  | ee h hl =>
   refine .ee (by simpa using h) fun j c hc => ?_
   simp only[List.getElem?_map,Option.map_eq_some_iff] at hc
   obtain⟨c',h1,rfl⟩:=hc
   exact(hl j c' h1).cv
 | _=>exact h.cv
def Cx.bare (x:Cx):Cx:={ x with S:=[] }
def Cx.behind (x y:Cx):Cx:={ x with w:=y.w,Fz:=y.Fz }
theorem ew (i:Nat):¬ Live [] i:=by rintro⟨b,h,-⟩; simp at h
theorem Rel.bare {x:Cx} (h:Rel x):Rel x.bare where
 cells:=fun id l hl=>by simp[Cx.bare] at hl
 cN:=fun id e s n hl=>by simp[Cx.bare] at hl
 c9:=fun id b hl=>by simp[Cx.bare] at hl
 inj:=fun i j hi=>(ew i hi).elim
 uI:=h.uI
 sep:=fun id ⟨l,hl⟩=>by simp[Cx.bare] at hl
 lF:=fun id e s n hl=>by simp[Cx.bare] at hl
 ops:=fun id e s l z hl=>by simp[Cx.bare] at hl
theorem pG {x y:Cx} (hR:Rel x) (M:bk x.bare y):bk x (x.behind y) where
 size:=M.size
 env:=M.env
 fz:=M.fz
 Hx:=fun b o hb=>by
  rcases M.Hx b o hb with h | h | ⟨i,h,-⟩
  ·exact .inl h
  ·exact .inr (.inl h)
  ·exact(ew i h).elim
 old:=fun b hb _=>M.old b hb fun i hi=>(ew i hi).elim
 len:=Nat.le_refl _
 cells:=fun id l hl=>⟨rfl,l,hl⟩
 c9:=fun id b hl hb=>⟨rfl,⟨b,hl,dw hb⟩,fun _=>M.old _ (by
  obtain⟨o,h1,-⟩:=hR.c9 id b hl hb
  exact(Array.getElem?_eq_some_iff.1 h1).1) fun i hi=>(ew i hi).elim⟩
 cN:=fun t e s n ht=>⟨n,ht,Nat.le_refl _,fun _=>⟨rfl,rfl⟩⟩
 live:=fun i hi => .inl ⟨hi,rfl⟩
 ops:=fun _ _ _ l z h=>⟨l,z,h,Nat.le_refl _,fun e=>⟨rfl,e⟩,fun _=>⟨rfl,rfl⟩⟩
theorem bF {w:World} {b:Nat} {o:Obj} (h:w.heap[b]? = some o):b<w.heap.size:=(Array.getElem?_eq_some_iff.1 h).1
theorem Rel.behind {x y:Cx} (h:Rel x) (M:bk x.bare y) (k:Rel y):Rel (x.behind y):=by
 have hM:=pG h M
 have hold:∀ b,b<x.w.heap.size→y.w.heap[b]? = x.w.heap[b]? := fun b hb=>M.old b hb fun i hi=>(ew i hi).elim
 have FR:∀ b o,b<x.w.heap.size→y.Fz b o→x.Fz b o:=fun b o hb hy=>by
  rcases M.Hx b o hy with h | h | ⟨i,h,-⟩
  ·exact h
  ·exact absurd h (by have:(x.bare).w=x.w:=rfl; rw[this]; omega)
  ·exact(ew i h).elim
 exact {
  cells:=fun id l hl=>by
   obtain⟨arr,e,h1,h2,h3⟩:=h.cells id l hl
   exact⟨arr,e,(hold _ (bF h1)).trans h1,h2,fun j c hc=>(h3 j c hc).mono hM⟩
  cN:=fun id e s n hl=>by
   obtain⟨arr,h1,h2⟩:=h.cN id e s n hl
   exact⟨arr,(hold _ (bF h1)).trans h1,h2⟩
  c9:=fun id b hl hb=>by
   obtain⟨o,h1,h2⟩:=h.c9 id b hl hb
   exact⟨o,(hold _ (bF h1)).trans h1,h2.mono hM⟩
  inj:=h.inj
  uI:=k.uI
  sep:=fun id hl o ho=>by
   obtain⟨l,hl⟩:=hl
   obtain⟨arr,e,h1,-⟩:=h.cells id l hl
   exact h.sep id ⟨l,hl⟩ o (FR _ _ (bF h1) ho)
  lF:=fun id e s n hl o ho=>by
   obtain⟨arr,h1,-⟩:=h.cN id e s n hl
   exact h.lF id e s n hl o (FR _ _ (bF h1) ho)
  ops:=fun id e s l z hl=>by
   obtain⟨arr,h1,h2,h3,h4,h5,h6,h7⟩:=h.ops id e s l z hl
   exact⟨arr,(hold _ (bF h1)).trans h1,h2,h3,h4,fun j c hc=>⟨(h5 j c hc).1,(h5 j c hc).2.mono hM⟩,fun hz j hj=>(M.fz _ _ (h6 hz j hj)).1,fun hz o ho=>h7 hz o (FR _ _ (bF h1) ho)⟩ }
def Cx.dr (x:Cx) (d:Nat):Cx:={ x with w:=x.w.at d }
theorem dn (x:Cx) (d:Nat):bk x (x.dr d) :=
 ⟨Nat.le_refl _,⟨rfl,rfl⟩,fun _ _ h=>⟨h,rfl⟩,fun _ _ h => .inl h,fun _ _ _=>rfl,Nat.le_refl _,fun _ l h=>⟨rfl,l,h⟩,fun _ b h hb=>⟨rfl,⟨b,h,dw hb⟩,fun _=>rfl⟩,fun _ _ _ n h=>⟨n,h,Nat.le_refl _,fun _=>⟨rfl,rfl⟩⟩,fun _ h => .inl ⟨h,rfl⟩,fun _ _ _ l z h=>⟨l,z,h,Nat.le_refl _,fun e=>⟨rfl,e⟩,fun _=>⟨rfl,rfl⟩⟩⟩
theorem Rel.dr {x:Cx} (h:Rel x) (d:Nat):Rel (x.dr d) where
 cells:=fun id l hl=>by
  obtain⟨arr,e,h1,h2,h3⟩:=h.cells id l hl
  exact⟨arr,e,h1,h2,fun j c hc=>(h3 j c hc).mono (dn x d)⟩
 cN:=h.cN
 c9:=fun id b hl hb=>by
  obtain⟨o,h1,h2⟩:=h.c9 id b hl hb
  exact⟨o,h1,h2.mono (dn x d)⟩
 inj:=h.inj
 uI:=h.uI
 sep:=h.sep
 lF:=h.lF
 ops:=fun id e s l z hl=>by
  obtain⟨arr,h1,h2,h3,h4,h5,h6⟩:=h.ops id e s l z hl
  exact⟨arr,h1,h2,h3,h4,fun j c hc=>⟨(h5 j c hc).1,(h5 j c hc).2.mono (dn x d)⟩,h6⟩
end Go.Di
end
section
namespace Go.Di
open Go
variable {P:Program} {ty:eV} {x:Cx} {w':World}
theorem kI {α:Type} {s:Sem α} {a:α} (h:bI P s=some a) (w:World):s.run P w = .ok a w:=by
 induction s generalizing a with
 | pure b=>simp only[bI,Option.some.injEq] at h; subst h; rfl
 | program k ih=>simp only[bI] at h; simpa [Sem.run] using ih P h
 | _=>simp[bI] at h
theorem WN (tok:Option Nat) (h:tok=none):RV x (.sl [] tok ⟨true,some true⟩) (.slice none 0 0):=by
 subst h
 exact RV.sl (rows:=[]) (A:=none) (cap:=0) (s:=0) (vs:=fun _=>undef) ⟨by simp,by simp[flat]⟩ (by simp[flat]) (Nat.le_refl _) ⟨fun _=>rfl,fun b h=>by cases h; rfl⟩ (fun _=>rfl) (fun _ h=>by cases h) (fun t ht=>by cases ht)
theorem A8 {v:Value} {d:DV} (h:Cc v=some d):RV x d v:=by
 unfold Cc at h
 split at h
 ·cases h; exact WN _ rfl
 ·split at h
  ·cases h; exact .val ‹_›
  ·cases h
theorem fu:∀ {vs:List Value} {l:List DV},nH vs=some l→vs.length=l.length∧∀ j c,l[j]? = some c→RV x c (vs.getD j undef)
 | [],l,h=>by simp only[nH,Option.some.injEq] at h; subst h; simp
 | v::vs,l,h=>by
  unfold nH at h
  split at h
  ·rename_i d r h1 h2
   cases h
   obtain⟨h3,h4⟩:=fu h2
   refine⟨by simp[h3],fun j c hc => ?_⟩
   cases j with
   | zero=>simp at hc; subst hc; exact A8 h1
   | succ j=>simpa using h4 j c (by simpa using hc)
  ·cases h
theorem tT {v:Value} {d:DV} (h:vQ v=some d):RV x d v:=by
 unfold vQ at h
 split at h
 ·simp only[Option.map_eq_some_iff] at h
  obtain⟨l,h1,rfl⟩:=h
  obtain⟨h3,h4⟩:=fu (x:=x) h1
  exact .agg (by simpa using h3) fun j c hc=>by simpa [Array.getD_eq_getD_getElem?,List.getD_eq_getElem?_getD] using h4 j c hc
 ·split at h
  ·rename_i f fs cs hz
   simp only[Bool.and_eq_true,decide_eq_true_eq] at hz
   cases h
   exact .fn hz.1 hz.2 (by simp) (by simp)
  ·cases h
 ·exact A8 h
theorem uf:∀ {l:List DV} {r:List Value},nF l=some r→l=r.map .val
 | [],r,h=>by simp only[nF,Option.some.injEq] at h; subst h; rfl
 | d::l,r,h=>by
  cases d<;>simp only[nF,Option.map_eq_some_iff] at h
  all_goals first | (obtain⟨r',h1,rfl⟩:=h; simp[uf h1]; done) | cases h
theorem jS {v u:Value} (h:RV x (.val u) v):v=u:=by cases h; rfl
theorem Eu {d:DV} {v u:Value} (h:RV x d v) (hu:vK d=some u):v=u:=by
 cases d<;>simp only[vK,Option.map_eq_some_iff,reduceCtorEq] at hu
 ·simp only[Option.some.injEq] at hu; subst hu; exact jS h
 ·obtain⟨r,h1,rfl⟩:=hu
  have:=uf h1
  subst this
  cases h with
  | @agg _ vs hs hl =>
   congr 1
   refine Array.ext (by simpa using hs) fun j h1 h2 => ?_
   have:=hl j (.val r[j]) (by simp[List.getElem?_eq_getElem (show j<r.length by simpa using h2)])
   have:=jS this
   simpa [Array.getD_eq_getD_getElem?,h1] using this
theorem vc:∀ {l:List DV} {vs r:List Value},oO l=some r→vs.length=l.length→(∀ j c,l[j]? = some c→RV x c (vs.getD j undef))→vs=r
 | [],vs,r,h,hl,_=>by
  simp only[oO,Option.some.injEq] at h
  subst h
  exact List.eq_nil_of_length_eq_zero (by simpa using hl)
 | d::l,vs,r,h,hl,hr=>by
  cases vs with
  | nil=>simp at hl
  | cons v vs =>
   unfold oO at h
   split at h
   ·rename_i v' r' h1 h2
    cases h
    have:=Eu (by simpa using hr 0 d rfl) h1
    subst this
    congr 1
    exact vc h2 (by simpa using hl) fun j c hc=>by simpa using hr (j+1) c (by simpa using hc)
   ·cases h
def AJ (S:ak) (aA:Nat):Prop:=aA=S.length∨S[aA]? = some .none
theorem AJ.le {S:ak} {aA:Nat} (h:AJ S aA):aA≤S.length:=by
 rcases h with h | h
 ·omega
 ·have:=(List.getElem?_eq_some_iff.1 h).1; omega
theorem AJ.ne {S:ak} {aA id:Nat} {b:DB} (h:AJ S aA) (hb:S[id]? = some b) (hne:b ≠ .none):id≠aA:=by
 rintro rfl
 rcases h with h | h
 ·rw[h,List.getElem?_eq_none (Nat.le_refl _)] at hb; cases hb
 ·rw[h] at hb; cases hb; exact hne rfl
theorem aS {S:ak} {i:Nat} (h:i≤S.length) (b:DB) (j:Nat):(de S i b)[j]? = if j=i then some b else S[j]? := by
 unfold de
 split
 ·rw[List.getElem?_set]
  split<;>rename_i h1
  ·subst h1; simp[*]
  ·rw[if_neg (Ne.symm h1)]
 ·have:i=S.length:=by omega
  subst this
  rw[List.getElem?_append]
  split
  ·rw[if_neg (by omega)]
  ·rename_i h1
   by_cases h2:j=S.length
   ·subst h2; simp
   ·rw[if_neg h2,List.getElem?_eq_none (by simp; omega),List.getElem?_eq_none (by omega)]
theorem N6 {S:ak} {i:Nat} (b:DB):S.length≤(de S i b).length:=by unfold de; split<;>simp
theorem aO {S:ak} {i:Nat} {b:DB} (h:S[i]? = some b) (hb:b ≠ .none):Live S i:=⟨b,h,hb⟩
theorem Rel.fo (h:Rel x) {i:Nat} (hi:Live x.S i):x.μ i<x.w.heap.size:=by
 obtain⟨b,hb,hne⟩:=hi
 cases b with
 | none=>exact absurd rfl hne
 | cells l=>obtain⟨arr,e,h1,-⟩:=h.cells i l hb; exact bF h1
 | tail e s n=>obtain⟨arr,h1,-⟩:=h.cN i e s n hb; exact bF h1
 | map es=>obtain⟨o,h1,-⟩:=h.c9 i _ hb rfl; exact bF h1
 | defer=>obtain⟨o,h1,-⟩:=h.c9 i _ hb rfl; exact bF h1
 | loop r=>obtain⟨o,h1,-⟩:=h.c9 i _ hb rfl; exact bF h1
 | op e s l z=>obtain⟨arr,h1,-⟩:=h.ops i e s l z hb; exact bF h1
theorem Rel.od (h:Rel x) {b o:Nat} (hf:x.Fz b o):b<x.w.heap.size:=by
 obtain⟨v,hv⟩:=h.uI b o hf
 exact World.block_lt_of_cell? x.w ⟨b,o,none⟩ hv
structure kP (w w':World) (ob:Obj):Prop where
 heap:w'.heap=w.heap.push ob
 env:w'.os=w.os∧w'.output=w.output
theorem ez (w:World) (ob:Obj):kP w (w.alloc ob) ob:=⟨rfl,rfl,rfl⟩
theorem kP.lt {w w':World} {ob:Obj} (h:kP w w' ob) {b:Nat} (hb:b<w.heap.size):w'.heap[b]? = w.heap[b]? := by rw[h.heap,Array.getElem?_push_lt hb,Array.getElem?_eq_getElem hb]
theorem kP.new {w w':World} {ob:Obj} (h:kP w w' ob):w'.heap[w.heap.size]? = some ob:=by rw[h.heap,Array.getElem?_push_size]
theorem cell_of_block {w w':World} {b:Nat} (h:w'.heap[b]? = w.heap[b]?) (o:Nat):w'.cell? ⟨b,o,none⟩=w.cell? ⟨b,o,none⟩:=by simp[World.cell?,h]
def Cx.fresh (x:Cx) (w':World) (aA k:Nat) (F:Nat→Prop) (b:DB):Cx :=
 ⟨w',fun i=>if i=aA then x.w.heap.size else x.μ i,fun i=>if i=aA then k else x.κ i,fun c o=>x.Fz c o∨(c=x.w.heap.size∧F o),de x.S aA b⟩
theorem gB {aA k:Nat} {F:Nat→Prop} {ob:Obj} {b:DB} (hR:Rel x) (hn:AJ x.S aA) (hp:kP x.w w' ob):bk x (x.fresh w' aA k F b) where
 size:=by show _≤w'.heap.size; rw[hp.heap]; simp
 env:=hp.env
 fz:=fun c o h=>⟨.inl h,cell_of_block (hp.lt (hR.od h)) o⟩
 Hx:=fun c o h=>by
  rcases h with h | h
  ·exact .inl h
  ·exact .inr (.inl (by omega))
 old:=fun c hc _=>hp.lt hc
 len:=N6 b
 cells:=fun id l hl=>by
  have hne:=hn.ne hl (by simp)
  exact⟨if_neg hne,l,by show (de _ _ _)[_]? = _; rw[aS hn.le,if_neg hne]; exact hl⟩
 c9:=fun id c hl hc=>by
  have hne:=hn.ne hl (ep hc)
  exact⟨if_neg hne,⟨c,by show (de _ _ _)[_]? = _; rw[aS hn.le,if_neg hne]; exact hl,dw hc⟩,fun _=>by
   obtain⟨o,h1,-⟩:=hR.c9 id c hl hc
   exact hp.lt (bF h1)⟩
 cN:=fun t e s n ht=>by
  have hne:=hn.ne ht (by simp)
  exact⟨n,by show (de _ _ _)[_]? = _; rw[aS hn.le,if_neg hne]; exact ht,Nat.le_refl _,fun _=>⟨if_neg hne,if_neg hne⟩⟩
 live:=fun i hi=>by
  by_cases h:i=aA
  ·subst h; right; show _≤(if _ then _ else _); rw[if_pos rfl]; exact Nat.le_refl _
  ·left
   obtain⟨c,hc,hne⟩:=hi
   have hc:(de x.S aA b)[i]? = some c:=hc
   rw[aS hn.le,if_neg h] at hc
   exact⟨⟨c,hc,hne⟩,if_neg h⟩
 ops:=fun t e s l z ht=>by
  have hne:=hn.ne ht (by simp)
  exact⟨l,z,by show (de _ _ _)[_]? = _; rw[aS hn.le,if_neg hne]; exact ht,Nat.le_refl _,fun e=>⟨rfl,e⟩,fun _=>⟨if_neg hne,if_neg hne⟩⟩
theorem jj {aA k:Nat} {F:Nat→Prop} {ob:Obj} {b:DB} (hR:Rel x) (hn:AJ x.S aA) (hp:kP x.w w' ob)
  (hF:∀ o,F o→∃ v,w'.cell? ⟨x.w.heap.size,o,none⟩=some v)
  (hb:(∃ l arr e,b = .cells l∧ob = .cells arr e (0,0)∧arr.size=l.length∧(∀ o,¬ F o)∧∀ j c,l[j]? = some c→RV x c (arr.getD j undef)) ∨
   (∃ e s n arr,b = .tail e s n∧ob = .cells arr e (0,0)∧arr.size=k*s∧n≤arr.size∧k≤maxLen∧∀ o,F o→o<n)∨(b.isObj=true∧(∀ o,¬ F o)∧oL (x.fresh w' aA k F b) b ob) ∨
   (∃ e s l arr,b = .op e s l false∧ob = .cells arr e (0,0)∧arr.size=k*s∧l.length≤arr.size∧k≤maxLen∧(∀ o,¬ F o)∧∀ j c,l[j]? = some c→c.bt=true∧RV x c (arr.getD j undef))) :
  Rel (x.fresh w' aA k F b):=by
 have M:=gB (k:=k) (F:=F) (b:=b) hR hn hp
 have aQ:∀ i,(x.fresh w' aA k F b).S[i]? = if i=aA then some b else x.S[i]? := fun i=>aS hn.le b i
 have hμ:∀ i,i≠aA→(x.fresh w' aA k F b).μ i=x.μ i:=fun i h=>if_neg h
 have hκ:∀ i,i≠aA→(x.fresh w' aA k F b).κ i=x.κ i:=fun i h=>if_neg h
 have hμn:(x.fresh w' aA k F b).μ aA=x.w.heap.size:=if_pos rfl
 have hκn:(x.fresh w' aA k F b).κ aA=k:=if_pos rfl
 have kO:∀ i,i≠aA→Live (x.fresh w' aA k F b).S i→Live x.S i:=by
  rintro i h ⟨c,hc,hne⟩
  rw[aQ,if_neg h] at hc
  exact⟨c,hc,hne⟩
 constructor
 ·intro id l hl
  rw[aQ] at hl
  by_cases h:id=aA
  ·subst h
   rw[if_pos rfl] at hl
   cases hl
   rcases hb with ⟨l',arr,e,h1,rfl,h3,h4,h5⟩ | ⟨e,s,n,arr,h1,-⟩ | ⟨h1,-⟩ | ⟨e,s,n,arr,h1,-⟩
   ·cases h1
    rw[hμn]
    exact⟨arr,e,hp.new,h3,fun j c hc=>(h5 j c hc).mono M⟩
   all_goals cases h1
  ·rw[if_neg h] at hl
   obtain⟨arr,e,h1,h2,h3⟩:=hR.cells id l hl
   rw[hμ id h]
   exact⟨arr,e,(hp.lt (bF h1)).trans h1,h2,fun j c hc=>(h3 j c hc).mono M⟩
 ·intro id e s n hl
  rw[aQ] at hl
  by_cases h:id=aA
  ·subst h
   rw[if_pos rfl] at hl
   cases hl
   rcases hb with ⟨l',arr,e',h1,-⟩ | ⟨e',s',n',arr,h1,rfl,h3,h4,h5,-⟩ | ⟨h1,-⟩ | ⟨e',s',n',arr,h1,-⟩
   ·cases h1
   ·cases h1
    rw[hμn,hκn]
    exact⟨arr,hp.new,h3,h4,h5⟩
   all_goals cases h1
  ·rw[if_neg h] at hl
   obtain⟨arr,h1,h2⟩:=hR.cN id e s n hl
   rw[hμ id h,hκ id h]
   exact⟨arr,(hp.lt (bF h1)).trans h1,h2⟩
 ·intro id c hl hc
  rw[aQ] at hl
  by_cases h:id=aA
  ·subst h
   rw[if_pos rfl] at hl
   cases hl
   rcases hb with ⟨l',arr,e,h1,-⟩ | ⟨e',s',n',arr,h1,-⟩ | ⟨-,-,h1⟩ | ⟨e',s',n',arr,h1,-⟩
   ·subst h1; cases hc
   ·subst h1; cases hc
   ·rw[hμn]
    exact⟨ob,hp.new,h1⟩
   ·subst h1; cases hc
  ·rw[if_neg h] at hl
   obtain⟨o,h1,h2⟩:=hR.c9 id c hl hc
   rw[hμ id h]
   exact⟨o,(hp.lt (bF h1)).trans h1,h2.mono M⟩
 ·intro i j hi hj he
  by_cases h1:i=aA
  ·by_cases h2:j=aA
   ·rw[h1,h2]
   ·rw[h1,hμn,hμ j h2] at he
    have:=hR.fo (kO j h2 hj)
    omega
  ·by_cases h2:j=aA
   ·rw[h2,hμn,hμ i h1] at he
    have:=hR.fo (kO i h1 hi)
    omega
   ·rw[hμ i h1,hμ j h2] at he
    exact hR.inj i j (kO i h1 hi) (kO j h2 hj) he
 ·intro c o h
  rcases h with h | ⟨rfl,h⟩
  ·obtain⟨v,hv⟩:=hR.uI c o h
   exact⟨v,(M.fz c o h).2.trans hv⟩
  ·exact hF o h
 ·rintro id ⟨l,hl⟩ o ho
  rw[aQ] at hl
  by_cases h:id=aA
  ·subst h
   rw[if_pos rfl] at hl
   cases hl
   rcases hb with ⟨l',arr,e,h1,-,-,h4,-⟩ | ⟨e',s',n',arr,h1,-⟩ | ⟨h1,-⟩ | ⟨e',s',n',arr,h1,-⟩
   ·rw[hμn] at ho
    rcases ho with ho | ⟨-,ho⟩
    ·have:=hR.od ho; omega
    ·exact h4 o ho
   all_goals cases h1
  ·rw[if_neg h] at hl
   rw[hμ id h] at ho
   rcases ho with ho | ⟨ho,-⟩
   ·exact hR.sep id ⟨l,hl⟩ o ho
   ·have:=hR.fo (aO hl (by simp)); omega
 ·intro id e s n hl o ho
  rw[aQ] at hl
  by_cases h:id=aA
  ·subst h
   rw[if_pos rfl] at hl
   cases hl
   rcases hb with ⟨l',arr,e',h1,-⟩ | ⟨e',s',n',arr,h1,-,-,-,-,h6⟩ | ⟨h1,-⟩ | ⟨e',s',n',arr,h1,-⟩
   ·cases h1
   ·cases h1
    rw[hμn] at ho
    rcases ho with ho | ⟨-,ho⟩
    ·have:=hR.od ho; omega
    ·exact h6 o ho
   all_goals cases h1
  ·rw[if_neg h] at hl
   rw[hμ id h] at ho
   rcases ho with ho | ⟨ho,-⟩
   ·exact hR.lF id e s n hl o ho
   ·have:=hR.fo (aO hl (by simp)); omega
 ·intro id e s l z hl
  rw[aQ] at hl
  by_cases h:id=aA
  ·subst h
   rw[if_pos rfl] at hl
   cases hl
   rcases hb with ⟨l',arr,e',h1,-⟩ | ⟨e',s',n',arr,h1,-⟩ | ⟨h1,-⟩ | ⟨e',s',n',arr,h1,rfl,h3,h4,h5,h6,h7⟩
   ·cases h1
   ·cases h1
   ·cases h1
   ·cases h1
    rw[hμn,hκn]
    refine⟨arr,hp.new,h3,h4,h5,fun j c hc=>⟨(h7 j c hc).1,(h7 j c hc).2.mono M⟩,by simp,fun _ o ho => ?_⟩
    rcases ho with ho | ⟨-,ho⟩
    ·have:=hR.od ho; omega
    ·exact h6 o ho
  ·rw[if_neg h] at hl
   obtain⟨arr,h1,h2,h3,h4,h5,h6,h7⟩:=hR.ops id e s l z hl
   rw[hμ id h,hκ id h]
   refine⟨arr,(hp.lt (bF h1)).trans h1,h2,h3,h4,fun j c hc=>⟨(h5 j c hc).1,(h5 j c hc).2.mono M⟩,fun hz j hj => .inl (h6 hz j hj),fun hz o ho => ?_⟩
   rcases ho with ho | ⟨ho,-⟩
   ·exact h7 hz o ho
   ·have:=hR.fo (aO hl (by simp)); omega
end Go.Di
end
