import Derived.Test.YtedcgbkilmlbhaaGreatPk01
import Derived.Laws.AppendOwn
import Derived.Conc.Machine
section
namespace Go.Di
open Go
structure Cx where
 w:World
 μ:Nat→Nat
 κ:Nat→Nat
 Fz:Nat→Nat→Prop
 S:av
def Live (S:av) (i:Nat):Prop:=∃ b,S[i]? = some b∧b ≠ .none
def View (x:Cx) (rows:List DV) (A:Option Addr) (s:Nat) (vs:Nat→Value):Prop :=
 (∀ r∈rows,r.cells.length=s)∧∀ j c,(flat rows)[j]? = some c→c.bS=true∧∃ b o,A=some ⟨b,o,none⟩∧x.Fz b (o+j)∧x.w.cell? ⟨b,o+j,none⟩=some (vs j)
def Wm (x:Cx) (tok:Option Nat) (rows:List DV) (A:Option Addr) (cap:Nat):Prop :=
 ∀ t,tok=some t→∃ e s n,x.S[t]? = some (.tail e s n)∧rows.length*s≤n∧(∀ r∈rows,r.cells.length=s)∧(rows.length*s=n→A=some ⟨x.μ t,0,none⟩∧cap=x.κ t)
def OU (f:SF) (A:Option Addr):Prop:=∀ b,f.isNil=some b→A.isNone=b
inductive RV (x:Cx):DV→Value→Prop
 | val {v:Value}:wL v=true→RV x (.val v) v
 | agg {l:List DV} {vs:Array Value}:vs.size=l.length→(∀ j c,l[j]? = some c→RV x c (vs.getD j undef))→RV x (.agg l) (.agg vs)
 | gI {l:List DV} {vs:Array Value}:vs.size=l.length→(∀ j c,l[j]? = some c→RV x c (vs.getD j undef))→RV x (.gI l) (.tuple vs)
 | sl {rows:List DV} {tok:Option Nat} {full:SF} {A:Option Addr} {cap s:Nat} {vs:Nat→Value}:View x rows A s vs→(∀ j c,(flat rows)[j]? = some c→RV x c (vs j))→rows.length≤cap→((full.full=true→cap=rows.length)∧OU full A)→(A=none→cap=0)→(∀ ad,A=some ad→0<cap→ad.spot=none)→Wm x tok rows A cap →
   RV x (.sl rows tok full) (.slice A rows.length cap)
 | ptr {id off:Nat} {l:List DV}:x.S[id]? = some (.cells l)→RV x (.ptr id off) (.pointer (some ⟨x.μ id,off,none⟩))
 | eS {rows:List DV} {i off b o s:Nat} {vs:Nat→Value}:View x rows (some ⟨b,o,none⟩) s vs→(∀ j c,(flat rows)[j]? = some c→RV x c (vs j))→RV x (.eS rows i off) (.pointer (some ⟨b,o+(i*s+off),none⟩))
 | fn {f:FuncId} {first captured:List DV} {fs cs:Array Value}:fs.size=first.length→cs.size=captured.length→(∀ j c,first[j]? = some c→RV x c (fs.getD j undef))→(∀ j c,captured[j]? = some c→RV x c (cs.getD j undef))→RV x (.fn f first captured) (.func (.func f) fs cs)
 | map {id:Nat} {es:List (Value×Value)}:x.S[id]? = some (.map es)→RV x (.map id) (.map (some (x.μ id)))
 | BA {id:Nat} {r:J1}:x.S[id]? = some (.loop r)→RV x (.BA id) (.func (.yield (x.μ id)) #[] #[])
 | jG {id n:Nat} {agg:Bool} {e:TypeId} {s:Nat} {l:List DV} {z:Bool} {A:Option Addr} {cap:Nat}:x.S[id]? = some (.op e s l z)→n*s≤l.length→(n*s=l.length→A=some ⟨x.μ id,0,none⟩∧cap=x.κ id)→RV x (.jG id n agg) (.slice A n cap)
 | fW {id n off:Nat} {e:TypeId} {s:Nat} {l:List DV} {z:Bool} {A:Option Addr}:x.S[id]? = some (.op e s l z)→n*s≤l.length→(n*s=l.length→A=some ⟨x.μ id,off,none⟩)→RV x (.fW id n off) (.pointer A)
def gD (x:Cx) (l:List DV) (arr:Array Value):Prop:=arr.size=l.length∧∀ j c,l[j]? = some c→RV x c (arr.getD j undef)
def DB.isObj:DB→Bool
 | .map _ | .defer | .loop _=>true
 | _=>false
def qQ (x:Cx):DB→Obj→Prop
 | .map es,.map zK _=>zK.toList.map (fun e=>(e.key,e.val))=es
 | .defer,.deferred _=>True
 | .loop r,.loop l=>l.state=r.st∧l.pending=r.jI∧l.fn=r.fn∧gD x r.env l.tmps∧l.params=r.params.toArray∧l.assign=r.assign∧l.body=r.body∧l.defers=x.μ r.dfr∧x.S[r.dfr]? = some .defer
 | _,_=>False
def DB.like:DB→DB→Prop
 | .map _,.map _=>True
 | .defer,.defer=>True
 | .loop r,.loop r'=>r'={ r with st:=r'.st,jI:=r'.jI }
 | _,_=>False
theorem eX:∀ {b:DB},b.isObj=true→b.like b
 | .map _,_=>trivial
 | .defer,_=>trivial
 | .loop _,_=>rfl
 | .none,h=>by cases h
 | .cells _,h=>by cases h
 | .tail ..,h=>by cases h
 | .op ..,h=>by cases h
theorem rD:∀ {b c:DB},b.like c→b.isObj=true∧c.isObj=true
 | .map _,.map _,_=>⟨rfl,rfl⟩
 | .defer,.defer,_=>⟨rfl,rfl⟩
 | .loop _,.loop _,_=>⟨rfl,rfl⟩
theorem I5:∀ {a b c:DB},a.like b→b.like c→a.like c
 | .map _,.map _,.map _,_,_=>trivial
 | .defer,.defer,.defer,_,_=>trivial
 | .loop r,.loop r',.loop r'',h,k=>by
  simp only[DB.like] at h k ⊢
  rw[k,h]
theorem fR {b:DB} (h:b.isObj=true):b ≠ .none:=by rintro rfl; cases h
structure Rel (x:Cx):Prop where
 cells:∀ id l,x.S[id]? = some (.cells l)→∃ arr e,x.w.heap[x.μ id]? = some (.cells arr e (0,0))∧arr.size=l.length∧∀ j c,l[j]? = some c→RV x c (arr.getD j undef)
 en:∀ id e s n,x.S[id]? = some (.tail e s n)→∃ arr,x.w.heap[x.μ id]? = some (.cells arr e (0,0))∧arr.size=x.κ id*s∧n≤arr.size∧x.κ id≤maxLen
 eB:∀ id b,x.S[id]? = some b→b.isObj=true→∃ o,x.w.heap[x.μ id]? = some o∧qQ x b o
 inj:∀ i j,Live x.S i→Live x.S j→x.μ i=x.μ j→i=j
 yP:∀ b o,x.Fz b o→∃ v,x.w.cell? ⟨b,o,none⟩=some v
 sep:∀ id,(∃ l,x.S[id]? = some (.cells l))→∀ o,¬ x.Fz (x.μ id) o
 ox:∀ id e s n,x.S[id]? = some (.tail e s n)→∀ o,x.Fz (x.μ id) o→o<n
 ops:∀ id e s l z,x.S[id]? = some (.op e s l z)→∃ arr,x.w.heap[x.μ id]? = some (.cells arr e (0,0))∧arr.size=x.κ id*s∧l.length≤arr.size∧x.κ id≤maxLen∧(∀ j c,l[j]? = some c→c.bS=true∧RV x c (arr.getD j undef))∧(z=true→∀ j,j<l.length→x.Fz (x.μ id) j)∧(z=false→∀ o,¬ x.Fz (x.μ id) o)
structure cr (x y:Cx):Prop where
 size:x.w.heap.size≤y.w.heap.size
 env:y.w.os=x.w.os∧y.w.output=x.w.output
 fz:∀ b o,x.Fz b o→y.Fz b o∧y.w.cell? ⟨b,o,none⟩=x.w.cell? ⟨b,o,none⟩
 Ld:∀ b o,y.Fz b o→x.Fz b o∨x.w.heap.size≤b∨∃ i,Live x.S i∧x.μ i=b
 old:∀ b,b<x.w.heap.size→(∀ i,Live x.S i→x.μ i≠b)→y.w.heap[b]? = x.w.heap[b]?
 len:x.S.length≤y.S.length
 cells:∀ id l,x.S[id]? = some (.cells l)→y.μ id=x.μ id∧∃ l',y.S[id]? = some (.cells l')
 eB:∀ id b,x.S[id]? = some b→b.isObj=true→y.μ id=x.μ id∧(∃ b',y.S[id]? = some b'∧b.like b')∧(b = .defer→y.w.heap[x.μ id]? = x.w.heap[x.μ id]?)
 en:∀ t e s n,x.S[t]? = some (.tail e s n)→∃ n',y.S[t]? = some (.tail e s n')∧n≤n'∧(n'=n→y.μ t=x.μ t∧y.κ t=x.κ t)
 live:∀ i,Live y.S i→(Live x.S i∧y.μ i=x.μ i)∨x.w.heap.size≤y.μ i
 ops:∀ t e s l z,x.S[t]? = some (.op e s l z)→∃ l' z',y.S[t]? = some (.op e s l' z')∧l.length≤l'.length∧(z=true→l'=l∧z'=true)∧(l'.length=l.length→y.μ t=x.μ t∧y.κ t=x.κ t)
theorem cr.refl (x:Cx):cr x x :=
 ⟨ai _,⟨rfl,rfl⟩,fun _ _ h=>⟨h,rfl⟩,fun _ _ h => .inl h,fun _ _ _=>rfl,ai _,fun _ l h=>⟨rfl,l,h⟩,fun _ b h hb=>⟨rfl,⟨b,h,eX hb⟩,fun _=>rfl⟩,fun _ _ _ n h=>⟨n,h,ai _,fun _=>⟨rfl,rfl⟩⟩,fun _ h => .inl ⟨h,rfl⟩,fun _ _ _ l z h=>⟨l,z,h,ai _,fun e=>⟨rfl,e⟩,fun _=>⟨rfl,rfl⟩⟩⟩
theorem cr.trans {x y z:Cx} (h:cr x y) (k:cr y z):cr x z where
 size:=aM h.size k.size
 env:=⟨k.env.1.trans h.env.1,k.env.2.trans h.env.2⟩
 fz:=fun b o hb=>⟨(k.fz b o (h.fz b o hb).1).1,(k.fz b o (h.fz b o hb).1).2.trans (h.fz b o hb).2⟩
 Ld:=fun b o hb=>by
  rcases k.Ld b o hb with h1 | h1 | ⟨i,h1,h2⟩
  ·exact h.Ld b o h1
  ·exact .inr (.inl (aM h.size h1))
  ·rcases h.live i h1 with ⟨h3,h4⟩ | h3
   ·exact .inr (.inr ⟨i,h3,by rw[← h4]; exact h2⟩)
   ·exact .inr (.inl (h2▸h3))
 old:=fun b hb hn=>by
  refine(k.old b (cI hb h.size) fun i hi he => ?_).trans (h.old b hb hn)
  rcases h.live i hi with ⟨h3,h4⟩ | h3
  ·exact hn i h3 (h4▸he)
  ·omega
 len:=aM h.len k.len
 cells:=fun id l hl=>by
  obtain⟨h1,l',h2⟩:=h.cells id l hl
  obtain⟨h3,l'',h4⟩:=k.cells id l' h2
  exact⟨h3.trans h1,l'',h4⟩
 eB:=fun id b hl hb=>by
  obtain⟨h1,⟨b',h2,h5⟩,h6⟩:=h.eB id b hl hb
  obtain⟨h3,⟨b'',h4,h7⟩,h8⟩:=k.eB id b' h2 (rD h5).2
  refine⟨h3.trans h1,⟨b'',h4,I5 h5 h7⟩,fun hd => ?_⟩
  subst hd
  have:b' = .defer:=by cases b'<;>first | rfl | exact h5.elim
  rw[← h6 rfl,← h1]; exact h8 this
 en:=fun t e s n ht=>by
  obtain⟨n',h1,h2,h3⟩:=h.en t e s n ht
  obtain⟨n'',h4,h5,h6⟩:=k.en t e s n' h1
  refine⟨n'',h4,aM h2 h5,fun he => ?_⟩
  have e1:n'=n:=by omega
  have e2:n''=n':=by omega
  exact⟨(h6 e2).1.trans (h3 e1).1,(h6 e2).2.trans (h3 e1).2⟩
 live:=fun i hi=>by
  rcases k.live i hi with ⟨h1,h2⟩ | h1
  ·rcases h.live i h1 with ⟨h3,h4⟩ | h3
   ·exact .inl ⟨h3,h2.trans h4⟩
   ·exact .inr (h2▸h3)
  ·exact .inr (aM h.size h1)
 ops:=fun t e s l z ht=>by
  obtain⟨l1,z1,h1,h2,h3,h4⟩:=h.ops t e s l z ht
  obtain⟨l2,z2,k1,k2,k3,k4⟩:=k.ops t e s l1 z1 h1
  refine⟨l2,z2,k1,aM h2 k2,fun hz => ?_,fun he => ?_⟩
  ·obtain⟨rfl,rfl⟩:=h3 hz
   exact k3 rfl
  ·have e1:l1.length=l.length:=by omega
   have e2:l2.length=l1.length:=by omega
   exact⟨(k4 e2).1.trans (h4 e1).1,(k4 e2).2.trans (h4 e1).2⟩
theorem View.mono {x y:Cx} {rows:List DV} {A:Option Addr} {s:Nat} {vs:Nat→Value} (hF:∀ b o,x.Fz b o→y.Fz b o∧y.w.cell? ⟨b,o,none⟩=x.w.cell? ⟨b,o,none⟩) (h:View x rows A s vs):View y rows A s vs :=
 ⟨h.1,fun j c hc=>by
  obtain⟨h1,b,o,h2,h3,h4⟩:=h.2 j c hc
  exact⟨h1,b,o,h2,(hF _ _ h3).1,(hF _ _ h3).2.trans h4⟩⟩
theorem RV.mono {x y:Cx} (M:cr x y) {d:DV} {v:Value} (h:RV x d v):RV y d v:=by
 induction h with
 | val h=>exact .val h
 | agg h _ ih=>exact .agg h ih
 | gI h _ ih=>exact .gI h ih
 | sl hv _ h1 h2 h3 hsp h4 ih =>
  refine .sl (hv.mono M.fz) ih h1 h2 h3 hsp fun t ht => ?_
  obtain⟨e,s,n,k1,k2,k3,k4⟩:=h4 t ht
  obtain⟨n',m1,m2,m3⟩:=M.en t e s n k1
  refine⟨e,s,n',m1,aM k2 m2,k3,fun he => ?_⟩
  have e1:n'=n:=by omega
  rw[(m3 e1).1,(m3 e1).2]
  exact k4 (he.trans e1)
 | ptr h =>
  obtain⟨h1,l',h2⟩:=M.cells _ _ h
  rw[← h1]
  exact .ptr h2
 | eS hv _ ih=>exact .eS (hv.mono M.fz) ih
 | fn h1 h2 _ _ Lf M7=>exact .fn h1 h2 Lf M7
 | map h =>
  obtain⟨h1,⟨b',h2,h3⟩,-⟩:=M.eB _ _ h rfl
  rw[← h1]
  cases b' with
  | map es=>exact .map h2
  | _=>exact h3.elim
 | BA h =>
  obtain⟨h1,⟨b',h2,h3⟩,-⟩:=M.eB _ _ h rfl
  rw[← h1]
  cases b' with
  | loop r=>exact .BA h2
  | _=>exact h3.elim
 | jG h hn hl =>
  obtain⟨l',z',h1,h2,-,h4⟩:=M.ops _ _ _ _ _ h
  refine .jG h1 (by omega) fun he => ?_
  have e1:=h4 (by omega)
  rw[e1.1,e1.2]
  exact hl (by omega)
 | fW h hn hl =>
  obtain⟨l',z',h1,h2,-,h4⟩:=M.ops _ _ _ _ _ h
  refine .fW h1 (by omega) fun he => ?_
  rw[(h4 (by omega)).1]
  exact hl (by omega)
theorem gD.mono {x y:Cx} (M:cr x y) {l:List DV} {arr:Array Value} (h:gD x l arr):gD y l arr:=⟨h.1,fun j c hc=>(h.2 j c hc).mono M⟩
theorem qQ.mono {x y:Cx} (M:cr x y):∀ {b:DB} {o:Obj},qQ x b o→qQ y b o
 | .map _,.map _ _,h=>h
 | .defer,.deferred _,_=>trivial
 | .loop r,.loop l,⟨h1,h2,h3,h4,h5,h6,h7,h8,h9⟩=>by
  obtain⟨k1,⟨b',k2,k3⟩,-⟩:=M.eB _ _ h9 rfl
  have:b' = .defer:=by cases b'<;>first | rfl | exact k3.elim
  subst this
  exact⟨h1,h2,h3,h4.mono M,h5,h6,h7,by rw[h8,k1],k2⟩
theorem RV.uo {x y:Cx} (hF:∀ b o,x.Fz b o→y.Fz b o∧y.w.cell? ⟨b,o,none⟩=x.w.cell? ⟨b,o,none⟩) {d:DV} {v:Value} (h:RV x d v) (hp:d.bS=true):RV y d v:=by
 induction h with
 | val h=>exact .val h
 | agg h _ ih=>simp[DV.bS] at hp
 | gI h _ ih=>simp[DV.bS] at hp
 | @sl rows tok full A cap s vs hv _ h1 h2 h3 hsp h4 ih =>
  refine .sl (hv.mono hF) (fun j c hc=>ih j c hc (hv.2 j c hc).1) h1 h2 h3 hsp fun t ht => ?_
  subst ht
  simp[DV.bS] at hp
 | ptr h=>simp[DV.bS] at hp
 | eS hv _ ih=>simp[DV.bS] at hp
 | fn h1 h2 _ _ Lf M7=>simp[DV.bS] at hp
 | map h=>simp[DV.bS] at hp
 | BA h=>simp[DV.bS] at hp
 | jG=>simp[DV.bS] at hp
 | fW=>simp[DV.bS] at hp
theorem EH {l:List DV} (h:l.all DV.bS=true) {j:Nat} {c:DV} (hc:l[j]? = some c):c.bS=true:=bh.1 h c (dL hc)
theorem RV.A8 {x y:Cx} (hF:∀ b o,x.Fz b o→y.Fz b o∧y.w.cell? ⟨b,o,none⟩=x.w.cell? ⟨b,o,none⟩) {d:DV} {v:Value} (h:RV x d v) (hp:d.jf=true):RV y d v:=by
 cases h with
 | val h=>exact .val h
 | agg h hl=>exact .agg h fun j c hc=>(hl j c hc).uo hF (EH hp hc)
 | gI h hl=>simp[DV.jf] at hp
 | @sl rows tok full A cap s vs hv hr h1 h2 h3 hsp h4 =>
  cases tok with
  | none=>exact(RV.sl hv hr h1 h2 h3 hsp h4).uo hF rfl
  | some t=>simp[DV.jf] at hp
 | ptr h=>simp[DV.jf] at hp
 | eS hv _=>simp[DV.jf] at hp
 | fn h1 h2 _ _=>simp[DV.jf] at hp
 | map h=>simp[DV.jf] at hp
 | BA h=>simp[DV.jf] at hp
 | jG=>simp[DV.jf] at hp
 | fW=>simp[DV.jf] at hp
theorem Uj {d:DV} (hp:d.pure=true):(∃ l,d = .gI l∧l.all DV.jf=true)∨d.jf=true:=by
 cases d with
 | gI l=>exact .inl ⟨l,rfl,hp⟩
 | _=>exact .inr hp
theorem RV.pure_mono {x y:Cx} (hF:∀ b o,x.Fz b o→y.Fz b o∧y.w.cell? ⟨b,o,none⟩=x.w.cell? ⟨b,o,none⟩) {d:DV} {v:Value} (h:RV x d v) (hp:d.pure=true):RV y d v:=by
 rcases Uj hp with ⟨l,rfl,hl⟩ | hp
 ·cases h with
  | gI h hr=>exact .gI h fun j c hc=>(hr j c hc).A8 hF (bh.1 hl c (dL hc))
 ·exact h.A8 hF hp
theorem RV.aQ {x:Cx} {d:DV} {v:Value} (h:RV x d v):RV x d.aQ v:=by
 cases h with
 | sl hv hr h1 h2 h3 hsp h4=>exact .sl hv hr h1 ⟨by simp,h2.2⟩ h3 hsp fun t ht=>(by cases ht)
 | val h=>exact .val h
 | agg h hl=>exact .agg h hl
 | gI h hl=>exact .gI h hl
 | ptr h=>exact .ptr h
 | eS hv hr=>exact .eS hv hr
 | fn h1 h2 h3 h4=>exact .fn h1 h2 h3 h4
 | map h=>exact .map h
 | BA h=>exact .BA h
 | jG h h1 h2=>exact .jG h h1 h2
 | fW h h1 h2=>exact .fW h h1 h2
theorem RV.di {x:Cx} {d:DV} {v:Value} (h:RV x d v):RV x d.di v:=by
 cases h with
 | sl hv hr h1 h2 h3 hsp h4=>exact .sl hv hr h1 ⟨by simp,h2.2⟩ h3 hsp fun t ht=>(by cases ht)
 | val h=>exact .val h
 | @agg l vs h hl =>
  refine .agg (by simpa using h) fun j c hc => ?_
  simp only[fQ,ah] at hc
  obtain⟨c',h1,rfl⟩:=hc
  exact(hl j c' h1).aQ
 | gI h hl=>exact .gI h hl
 | ptr h=>exact .ptr h
 | eS hv hr=>exact .eS hv hr
 | fn h1 h2 h3 h4=>exact .fn h1 h2 h3 h4
 | map h=>exact .map h
 | BA h=>exact .BA h
 | jG h h1 h2=>exact .jG h h1 h2
 | fW h h1 h2=>exact .fW h h1 h2
theorem RV.strip {x:Cx} {d:DV} {v:Value} (h:RV x d v):RV x d.strip v:=by
 cases d with
 | gI l =>
  cases h with
  | gI h hl =>
   refine .gI (by simpa using h) fun j c hc => ?_
   simp only[fQ,ah] at hc
   obtain⟨c',h1,rfl⟩:=hc
   exact(hl j c' h1).di
 | _=>exact h.di
def Cx.bare (x:Cx):Cx:={ x with S:=[] }
def Cx.behind (x y:Cx):Cx:={ x with w:=y.w,Fz:=y.Fz }
theorem fU (i:Nat):¬ Live [] i:=by rintro⟨b,h,-⟩; simp at h
theorem Rel.bare {x:Cx} (h:Rel x):Rel x.bare where
 cells:=fun id l hl=>by simp[Cx.bare] at hl
 en:=fun id e s n hl=>by simp[Cx.bare] at hl
 eB:=fun id b hl=>by simp[Cx.bare] at hl
 inj:=fun i j hi=>(fU i hi).elim
 yP:=h.yP
 sep:=fun id ⟨l,hl⟩=>by simp[Cx.bare] at hl
 ox:=fun id e s n hl=>by simp[Cx.bare] at hl
 ops:=fun id e s l z hl=>by simp[Cx.bare] at hl
theorem yh {x y:Cx} (hR:Rel x) (M:cr x.bare y):cr x (x.behind y) where
 size:=M.size
 env:=M.env
 fz:=M.fz
 Ld:=fun b o hb=>by
  rcases M.Ld b o hb with h | h | ⟨i,h,-⟩
  ·exact .inl h
  ·exact .inr (.inl h)
  ·exact(fU i h).elim
 old:=fun b hb _=>M.old b hb fun i hi=>(fU i hi).elim
 len:=ai _
 cells:=fun id l hl=>⟨rfl,l,hl⟩
 eB:=fun id b hl hb=>⟨rfl,⟨b,hl,eX hb⟩,fun _=>M.old _ (by
  obtain⟨o,h1,-⟩:=hR.eB id b hl hb
  exact(aN.1 h1).1) fun i hi=>(fU i hi).elim⟩
 en:=fun t e s n ht=>⟨n,ht,ai _,fun _=>⟨rfl,rfl⟩⟩
 live:=fun i hi => .inl ⟨hi,rfl⟩
 ops:=fun _ _ _ l z h=>⟨l,z,h,ai _,fun e=>⟨rfl,e⟩,fun _=>⟨rfl,rfl⟩⟩
theorem b9 {w:World} {b:Nat} {o:Obj} (h:w.heap[b]? = some o):b<w.heap.size:=(aN.1 h).1
theorem Rel.behind {x y:Cx} (h:Rel x) (M:cr x.bare y) (k:Rel y):Rel (x.behind y):=by
 have hM:=yh h M
 have hold:∀ b,b<x.w.heap.size→y.w.heap[b]? = x.w.heap[b]? := fun b hb=>M.old b hb fun i hi=>(fU i hi).elim
 have HH:∀ b o,b<x.w.heap.size→y.Fz b o→x.Fz b o:=fun b o hb hy=>by
  rcases M.Ld b o hy with h | h | ⟨i,h,-⟩
  ·exact h
  ·exact absurd h (by have:(x.bare).w=x.w:=rfl; rw[this]; omega)
  ·exact(fU i h).elim
 exact {
  cells:=fun id l hl=>by
   obtain⟨arr,e,h1,h2,h3⟩:=h.cells id l hl
   exact⟨arr,e,(hold _ (b9 h1)).trans h1,h2,fun j c hc=>(h3 j c hc).mono hM⟩
  en:=fun id e s n hl=>by
   obtain⟨arr,h1,h2⟩:=h.en id e s n hl
   exact⟨arr,(hold _ (b9 h1)).trans h1,h2⟩
  eB:=fun id b hl hb=>by
   obtain⟨o,h1,h2⟩:=h.eB id b hl hb
   exact⟨o,(hold _ (b9 h1)).trans h1,h2.mono hM⟩
  inj:=h.inj
  yP:=k.yP
  sep:=fun id hl o ho=>by
   obtain⟨l,hl⟩:=hl
   obtain⟨arr,e,h1,-⟩:=h.cells id l hl
   exact h.sep id ⟨l,hl⟩ o (HH _ _ (b9 h1) ho)
  ox:=fun id e s n hl o ho=>by
   obtain⟨arr,h1,-⟩:=h.en id e s n hl
   exact h.ox id e s n hl o (HH _ _ (b9 h1) ho)
  ops:=fun id e s l z hl=>by
   obtain⟨arr,h1,h2,h3,h4,h5,h6,h7⟩:=h.ops id e s l z hl
   exact⟨arr,(hold _ (b9 h1)).trans h1,h2,h3,h4,fun j c hc=>⟨(h5 j c hc).1,(h5 j c hc).2.mono hM⟩,fun hz j hj=>(M.fz _ _ (h6 hz j hj)).1,fun hz o ho=>h7 hz o (HH _ _ (b9 h1) ho)⟩ }
def Cx.dr (x:Cx) (d:Nat):Cx:={ x with w:=x.w.at d }
theorem eE (x:Cx) (d:Nat):cr x (x.dr d) :=
 ⟨ai _,⟨rfl,rfl⟩,fun _ _ h=>⟨h,rfl⟩,fun _ _ h => .inl h,fun _ _ _=>rfl,ai _,fun _ l h=>⟨rfl,l,h⟩,fun _ b h hb=>⟨rfl,⟨b,h,eX hb⟩,fun _=>rfl⟩,fun _ _ _ n h=>⟨n,h,ai _,fun _=>⟨rfl,rfl⟩⟩,fun _ h => .inl ⟨h,rfl⟩,fun _ _ _ l z h=>⟨l,z,h,ai _,fun e=>⟨rfl,e⟩,fun _=>⟨rfl,rfl⟩⟩⟩
theorem Rel.dr {x:Cx} (h:Rel x) (d:Nat):Rel (x.dr d) where
 cells:=fun id l hl=>by
  obtain⟨arr,e,h1,h2,h3⟩:=h.cells id l hl
  exact⟨arr,e,h1,h2,fun j c hc=>(h3 j c hc).mono (eE x d)⟩
 en:=h.en
 eB:=fun id b hl hb=>by
  obtain⟨o,h1,h2⟩:=h.eB id b hl hb
  exact⟨o,h1,h2.mono (eE x d)⟩
 inj:=h.inj
 yP:=h.yP
 sep:=h.sep
 ox:=h.ox
 ops:=fun id e s l z hl=>by
  obtain⟨arr,h1,h2,h3,h4,h5,h6⟩:=h.ops id e s l z hl
  exact⟨arr,h1,h2,h3,h4,fun j c hc=>⟨(h5 j c hc).1,(h5 j c hc).2.mono (eE x d)⟩,h6⟩
end Go.Di
end
section
namespace Go.Di
open Go
variable {P:Program} {ty:gF} {x:Cx} {w':World}
theorem mW {α:Type} {s:Sem α} {a:α} (h:cu P s=some a) (w:World):s.run P w = .ok a w:=by
 induction s generalizing a with
 | pure b=>simp only[cu,az] at h; subst h; rfl
 | program k ih=>simp only[cu] at h; simpa [Sem.run] using ih P h
 | _=>simp[cu] at h
theorem Yx (tok:Option Nat) (h:tok=none):RV x (.sl [] tok ⟨true,some true⟩) (.slice none 0 0):=by
 subst h
 exact RV.sl (rows:=[]) (A:=none) (cap:=0) (s:=0) (vs:=fun _=>undef) ⟨by simp,by simp[flat]⟩ (by simp[flat]) (ai _) ⟨fun _=>rfl,fun b h=>by cases h; rfl⟩ (fun _=>rfl) (fun _ h _=>by cases h) (fun t ht=>by cases ht)
theorem CD {v:Value} {d:DV} (h:DM v=some d):RV x d v:=by
 unfold DM at h
 split at h
 ·cases h; exact Yx _ rfl
 ·split at h
  ·cases h; exact .val ‹_›
  ·cases h
theorem gP:∀ {vs:List Value} {l:List DV},pR vs=some l→vs.length=l.length∧∀ j c,l[j]? = some c→RV x c (vs.getD j undef)
 | [],l,h=>by simp only[pR,az] at h; subst h; simp
 | v::vs,l,h=>by
  unfold pR at h
  split at h
  ·rename_i d r h1 h2
   cases h
   obtain⟨h3,h4⟩:=gP h2
   refine⟨by simp[h3],fun j c hc => ?_⟩
   cases j with
   | zero=>simp at hc; subst hc; exact CD h1
   | succ j=>simpa using h4 j c (by simpa using hc)
  ·cases h
theorem vD {v:Value} {d:DV} (h:xP v=some d):RV x d v:=by
 unfold xP at h
 split at h
 ·simp only[ah] at h
  obtain⟨l,h1,rfl⟩:=h
  obtain⟨h3,h4⟩:=gP (x:=x) h1
  exact .agg (by simpa using h3) fun j c hc=>by simpa [aV,aL] using h4 j c hc
 ·split at h
  ·rename_i f fs cs hz
   simp only[aG,bI] at hz
   cases h
   exact .fn hz.1 hz.2 (by simp) (by simp)
  ·cases h
 ·exact CD h
theorem vP:∀ {l:List DV} {r:List Value},pQ l=some r→l=r.map .val
 | [],r,h=>by simp only[pQ,az] at h; subst h; rfl
 | d::l,r,h=>by
  cases d<;>simp only[pQ,ah] at h
  all_goals first | (obtain⟨r',h1,rfl⟩:=h; simp[vP h1]; done) | cases h
theorem tT {v u:Value} (h:RV x (.val u) v):v=u:=by cases h; rfl
theorem F2 {d:DV} {v u:Value} (h:RV x d v) (hu:xI d=some u):v=u:=by
 cases d<;>simp only[xI,ah,reduceCtorEq] at hu
 ·simp only[az] at hu; subst hu; exact tT h
 ·obtain⟨r,h1,rfl⟩:=hu
  have:=vP h1
  subst this
  cases h with
  | @agg _ vs hs hl =>
   congr 1
   refine Array.ext (by simpa using hs) fun j h1 h2 => ?_
   have:=hl j (.val r[j]) (by simp[bK (show j<r.length by simpa using h2)])
   have:=tT this
   simpa [aV,h1] using this
theorem wZ:∀ {l:List DV} {vs r:List Value},qU l=some r→vs.length=l.length→(∀ j c,l[j]? = some c→RV x c (vs.getD j undef))→vs=r
 | [],vs,r,h,hl,_=>by
  simp only[qU,az] at h
  subst h
  exact dY (by simpa using hl)
 | d::l,vs,r,h,hl,hr=>by
  cases vs with
  | nil=>simp at hl
  | cons v vs =>
   unfold qU at h
   split at h
   ·rename_i v' r' h1 h2
    cases h
    have:=F2 (by simpa using hr 0 d rfl) h1
    subst this
    congr 1
    exact wZ h2 (by simpa using hl) fun j c hc=>by simpa using hr (j+1) c (by simpa using hc)
   ·cases h
def B8 (S:av) (aB:Nat):Prop:=aB=S.length∨S[aB]? = some .none
theorem B8.le {S:av} {aB:Nat} (h:B8 S aB):aB≤S.length:=by
 rcases h with h | h
 ·omega
 ·have:=(aJ.1 h).1; omega
theorem B8.ne {S:av} {aB id:Nat} {b:DB} (h:B8 S aB) (hb:S[id]? = some b) (hne:b ≠ .none):id≠aB:=by
 rintro rfl
 rcases h with h | h
 ·rw[h,fE (ai _)] at hb; cases hb
 ·rw[h] at hb; cases hb; exact hne rfl
theorem bn {S:av} {i:Nat} (h:i≤S.length) (b:DB) (j:Nat):(ez S i b)[j]? = if j=i then some b else S[j]? := by
 unfold ez
 split
 ·rw[aP]
  split<;>rename_i h1
  ·subst h1; simp[*]
  ·rw[if_neg (Ne.symm h1)]
 ·have:i=S.length:=by omega
  subst this
  rw[pX]
  split
  ·rw[if_neg (by omega)]
  ·rename_i h1
   by_cases h2:j=S.length
   ·subst h2; simp
   ·rw[if_neg h2,fE (by simp; omega),fE (by omega)]
theorem Qo {S:av} {i:Nat} (b:DB):S.length≤(ez S i b).length:=by unfold ez; split<;>simp
theorem aU {S:av} {i:Nat} {b:DB} (h:S[i]? = some b) (hb:b ≠ .none):Live S i:=⟨b,h,hb⟩
theorem Rel.gK (h:Rel x) {i:Nat} (hi:Live x.S i):x.μ i<x.w.heap.size:=by
 obtain⟨b,hb,hne⟩:=hi
 cases b with
 | none=>exact absurd rfl hne
 | cells l=>obtain⟨arr,e,h1,-⟩:=h.cells i l hb; exact b9 h1
 | tail e s n=>obtain⟨arr,h1,-⟩:=h.en i e s n hb; exact b9 h1
 | map es=>obtain⟨o,h1,-⟩:=h.eB i _ hb rfl; exact b9 h1
 | defer=>obtain⟨o,h1,-⟩:=h.eB i _ hb rfl; exact b9 h1
 | loop r=>obtain⟨o,h1,-⟩:=h.eB i _ hb rfl; exact b9 h1
 | op e s l z=>obtain⟨arr,h1,-⟩:=h.ops i e s l z hb; exact b9 h1
theorem Rel.tn (h:Rel x) {b o:Nat} (hf:x.Fz b o):b<x.w.heap.size:=by
 obtain⟨v,hv⟩:=h.yP b o hf
 exact World.block_lt_of_cell? x.w ⟨b,o,none⟩ hv
structure nk (w w':World) (ob:Obj):Prop where
 heap:w'.heap=w.heap.push ob
 env:w'.os=w.os∧w'.output=w.output
theorem fZ (w:World) (ob:Obj):nk w (w.alloc ob) ob:=⟨rfl,rfl,rfl⟩
theorem nk.lt {w w':World} {ob:Obj} (h:nk w w' ob) {b:Nat} (hb:b<w.heap.size):w'.heap[b]? = w.heap[b]? := by rw[h.heap,Array.getElem?_push_lt hb,bQ hb]
theorem nk.new {w w':World} {ob:Obj} (h:nk w w' ob):w'.heap[w.heap.size]? = some ob:=by rw[h.heap,Array.getElem?_push_size]
theorem cell_of_block {w w':World} {b:Nat} (h:w'.heap[b]? = w.heap[b]?) (o:Nat):w'.cell? ⟨b,o,none⟩=w.cell? ⟨b,o,none⟩:=by simp[World.cell?,h]
def Cx.fresh (x:Cx) (w':World) (aB k:Nat) (F:Nat→Prop) (b:DB):Cx :=
 ⟨w',fun i=>if i=aB then x.w.heap.size else x.μ i,fun i=>if i=aB then k else x.κ i,fun c o=>x.Fz c o∨(c=x.w.heap.size∧F o),ez x.S aB b⟩
theorem iR {aB k:Nat} {F:Nat→Prop} {ob:Obj} {b:DB} (hR:Rel x) (hn:B8 x.S aB) (hp:nk x.w w' ob):cr x (x.fresh w' aB k F b) where
 size:=by show _≤w'.heap.size; rw[hp.heap]; simp
 env:=hp.env
 fz:=fun c o h=>⟨.inl h,cell_of_block (hp.lt (hR.tn h)) o⟩
 Ld:=fun c o h=>by
  rcases h with h | h
  ·exact .inl h
  ·exact .inr (.inl (by omega))
 old:=fun c hc _=>hp.lt hc
 len:=Qo b
 cells:=fun id l hl=>by
  have hne:=hn.ne hl (by simp)
  exact⟨if_neg hne,l,by show (ez _ _ _)[_]? = _; rw[bn hn.le,if_neg hne]; exact hl⟩
 eB:=fun id c hl hc=>by
  have hne:=hn.ne hl (fR hc)
  exact⟨if_neg hne,⟨c,by show (ez _ _ _)[_]? = _; rw[bn hn.le,if_neg hne]; exact hl,eX hc⟩,fun _=>by
   obtain⟨o,h1,-⟩:=hR.eB id c hl hc
   exact hp.lt (b9 h1)⟩
 en:=fun t e s n ht=>by
  have hne:=hn.ne ht (by simp)
  exact⟨n,by show (ez _ _ _)[_]? = _; rw[bn hn.le,if_neg hne]; exact ht,ai _,fun _=>⟨if_neg hne,if_neg hne⟩⟩
 live:=fun i hi=>by
  by_cases h:i=aB
  ·subst h; right; show _≤(if _ then _ else _); rw[if_pos rfl]; exact ai _
  ·left
   obtain⟨c,hc,hne⟩:=hi
   have hc:(ez x.S aB b)[i]? = some c:=hc
   rw[bn hn.le,if_neg h] at hc
   exact⟨⟨c,hc,hne⟩,if_neg h⟩
 ops:=fun t e s l z ht=>by
  have hne:=hn.ne ht (by simp)
  exact⟨l,z,by show (ez _ _ _)[_]? = _; rw[bn hn.le,if_neg hne]; exact ht,ai _,fun e=>⟨rfl,e⟩,fun _=>⟨if_neg hne,if_neg hne⟩⟩
theorem kO {aB k:Nat} {F:Nat→Prop} {ob:Obj} {b:DB} (hR:Rel x) (hn:B8 x.S aB) (hp:nk x.w w' ob)
  (hF:∀ o,F o→∃ v,w'.cell? ⟨x.w.heap.size,o,none⟩=some v)
  (hb:(∃ l arr e,b = .cells l∧ob = .cells arr e (0,0)∧arr.size=l.length∧(∀ o,¬ F o)∧∀ j c,l[j]? = some c→RV x c (arr.getD j undef)) ∨
   (∃ e s n arr,b = .tail e s n∧ob = .cells arr e (0,0)∧arr.size=k*s∧n≤arr.size∧k≤maxLen∧∀ o,F o→o<n)∨(b.isObj=true∧(∀ o,¬ F o)∧qQ (x.fresh w' aB k F b) b ob) ∨
   (∃ e s l arr,b = .op e s l false∧ob = .cells arr e (0,0)∧arr.size=k*s∧l.length≤arr.size∧k≤maxLen∧(∀ o,¬ F o)∧∀ j c,l[j]? = some c→c.bS=true∧RV x c (arr.getD j undef))) :
  Rel (x.fresh w' aB k F b):=by
 have M:=iR (k:=k) (F:=F) (b:=b) hR hn hp
 have bC:∀ i,(x.fresh w' aB k F b).S[i]? = if i=aB then some b else x.S[i]? := fun i=>bn hn.le b i
 have hμ:∀ i,i≠aB→(x.fresh w' aB k F b).μ i=x.μ i:=fun i h=>if_neg h
 have hκ:∀ i,i≠aB→(x.fresh w' aB k F b).κ i=x.κ i:=fun i h=>if_neg h
 have hμn:(x.fresh w' aB k F b).μ aB=x.w.heap.size:=if_pos rfl
 have hκn:(x.fresh w' aB k F b).κ aB=k:=if_pos rfl
 have nj:∀ i,i≠aB→Live (x.fresh w' aB k F b).S i→Live x.S i:=by
  rintro i h ⟨c,hc,hne⟩
  rw[bC,if_neg h] at hc
  exact⟨c,hc,hne⟩
 constructor
 ·intro id l hl
  rw[bC] at hl
  by_cases h:id=aB
  ·subst h
   rw[if_pos rfl] at hl
   cases hl
   rcases hb with ⟨l',arr,e,h1,rfl,h3,h4,h5⟩ | ⟨e,s,n,arr,h1,-⟩ | ⟨h1,-⟩ | ⟨e,s,n,arr,h1,-⟩
   ·cases h1
    rw[hμn]
    exact⟨arr,e,hp.new,h3,fun j c hc=>(h5 j c hc).mono M⟩
   all_goals cases h1
  ·rw[if_neg h] at hl
   obtain⟨arr,e,h1,h2,h3⟩:=hR.cells id l hl
   rw[hμ id h]
   exact⟨arr,e,(hp.lt (b9 h1)).trans h1,h2,fun j c hc=>(h3 j c hc).mono M⟩
 ·intro id e s n hl
  rw[bC] at hl
  by_cases h:id=aB
  ·subst h
   rw[if_pos rfl] at hl
   cases hl
   rcases hb with ⟨l',arr,e',h1,-⟩ | ⟨e',s',n',arr,h1,rfl,h3,h4,h5,-⟩ | ⟨h1,-⟩ | ⟨e',s',n',arr,h1,-⟩
   ·cases h1
   ·cases h1
    rw[hμn,hκn]
    exact⟨arr,hp.new,h3,h4,h5⟩
   all_goals cases h1
  ·rw[if_neg h] at hl
   obtain⟨arr,h1,h2⟩:=hR.en id e s n hl
   rw[hμ id h,hκ id h]
   exact⟨arr,(hp.lt (b9 h1)).trans h1,h2⟩
 ·intro id c hl hc
  rw[bC] at hl
  by_cases h:id=aB
  ·subst h
   rw[if_pos rfl] at hl
   cases hl
   rcases hb with ⟨l',arr,e,h1,-⟩ | ⟨e',s',n',arr,h1,-⟩ | ⟨-,-,h1⟩ | ⟨e',s',n',arr,h1,-⟩
   ·subst h1; cases hc
   ·subst h1; cases hc
   ·rw[hμn]
    exact⟨ob,hp.new,h1⟩
   ·subst h1; cases hc
  ·rw[if_neg h] at hl
   obtain⟨o,h1,h2⟩:=hR.eB id c hl hc
   rw[hμ id h]
   exact⟨o,(hp.lt (b9 h1)).trans h1,h2.mono M⟩
 ·intro i j hi hj he
  by_cases h1:i=aB
  ·by_cases h2:j=aB
   ·rw[h1,h2]
   ·rw[h1,hμn,hμ j h2] at he
    have:=hR.gK (nj j h2 hj)
    omega
  ·by_cases h2:j=aB
   ·rw[h2,hμn,hμ i h1] at he
    have:=hR.gK (nj i h1 hi)
    omega
   ·rw[hμ i h1,hμ j h2] at he
    exact hR.inj i j (nj i h1 hi) (nj j h2 hj) he
 ·intro c o h
  rcases h with h | ⟨rfl,h⟩
  ·obtain⟨v,hv⟩:=hR.yP c o h
   exact⟨v,(M.fz c o h).2.trans hv⟩
  ·exact hF o h
 ·rintro id ⟨l,hl⟩ o ho
  rw[bC] at hl
  by_cases h:id=aB
  ·subst h
   rw[if_pos rfl] at hl
   cases hl
   rcases hb with ⟨l',arr,e,h1,-,-,h4,-⟩ | ⟨e',s',n',arr,h1,-⟩ | ⟨h1,-⟩ | ⟨e',s',n',arr,h1,-⟩
   ·rw[hμn] at ho
    rcases ho with ho | ⟨-,ho⟩
    ·have:=hR.tn ho; omega
    ·exact h4 o ho
   all_goals cases h1
  ·rw[if_neg h] at hl
   rw[hμ id h] at ho
   rcases ho with ho | ⟨ho,-⟩
   ·exact hR.sep id ⟨l,hl⟩ o ho
   ·have:=hR.gK (aU hl (by simp)); omega
 ·intro id e s n hl o ho
  rw[bC] at hl
  by_cases h:id=aB
  ·subst h
   rw[if_pos rfl] at hl
   cases hl
   rcases hb with ⟨l',arr,e',h1,-⟩ | ⟨e',s',n',arr,h1,-,-,-,-,h6⟩ | ⟨h1,-⟩ | ⟨e',s',n',arr,h1,-⟩
   ·cases h1
   ·cases h1
    rw[hμn] at ho
    rcases ho with ho | ⟨-,ho⟩
    ·have:=hR.tn ho; omega
    ·exact h6 o ho
   all_goals cases h1
  ·rw[if_neg h] at hl
   rw[hμ id h] at ho
   rcases ho with ho | ⟨ho,-⟩
   ·exact hR.ox id e s n hl o ho
   ·have:=hR.gK (aU hl (by simp)); omega
 ·intro id e s l z hl
  rw[bC] at hl
  by_cases h:id=aB
  ·subst h
   rw[if_pos rfl] at hl
   cases hl
   rcases hb with ⟨l',arr,e',h1,-⟩ | ⟨e',s',n',arr,h1,-⟩ | ⟨h1,-⟩ | ⟨e',s',n',arr,h1,rfl,h3,h4,h5,h6,h7⟩
   ·cases h1
   ·cases h1
   ·cases h1
   ·cases h1
    rw[hμn,hκn]
    refine⟨arr,hp.new,h3,h4,h5,fun j c hc=>⟨(h7 j c hc).1,(h7 j c hc).2.mono M⟩,by simp,fun _ o ho => ?_⟩
    rcases ho with ho | ⟨-,ho⟩
    ·have:=hR.tn ho; omega
    ·exact h6 o ho
  ·rw[if_neg h] at hl
   obtain⟨arr,h1,h2,h3,h4,h5,h6,h7⟩:=hR.ops id e s l z hl
   rw[hμ id h,hκ id h]
   refine⟨arr,(hp.lt (b9 h1)).trans h1,h2,h3,h4,fun j c hc=>⟨(h5 j c hc).1,(h5 j c hc).2.mono M⟩,fun hz j hj => .inl (h6 hz j hj),fun hz o ho => ?_⟩
   rcases ho with ho | ⟨ho,-⟩
   ·exact h7 hz o ho
   ·have:=hR.gK (aU hl (by simp)); omega
end Go.Di
end
