import Derived.Test.YtedcgbkilmlbhaaGreatPk01
import Derived.Laws.AppendOwn
import Derived.Conc.Machine
section
namespace Go.Di
open Go
structure Cx where
 w:World
 μ:Nat→Nat
 κ:Nat→Nat
 Fz:Nat→Nat→Prop
 S:ax
def Live (S:ax) (i:Nat):Prop:=∃ b,S[i]? = some b∧b ≠ .none
def View (x:Cx) (rows:List DV) (A:Option Addr) (s:Nat) (vs:Nat→Value):Prop :=
 (∀ r∈rows,r.cells.length=s)∧∀ j c,(flat rows)[j]? = some c→c.ck=true∧∃ b o,A=some ⟨b,o,none⟩∧x.Fz b (o+j)∧x.w.cell? ⟨b,o+j,none⟩=some (vs j)
def YQ (x:Cx) (tok:Option Nat) (rows:List DV) (A:Option Addr) (cap:Nat):Prop :=
 ∀ t,tok=some t→∃ e s n,x.S[t]? = some (.tail e s n)∧rows.length*s≤n∧(∀ r∈rows,r.cells.length=s)∧(rows.length*s=n→A=some ⟨x.μ t,0,none⟩∧cap=x.κ t)
def QU (f:SF) (A:Option Addr):Prop:=∀ b,f.isNil=some b→A.isNone=b
inductive RV (x:Cx):DV→Value→Prop
 | val {v:Value}:yj v=true→RV x (.val v) v
 | agg {l:List DV} {vs:Array Value}:vs.size=l.length→(∀ j c,l[j]? = some c→RV x c (vs.getD j undef))→RV x (.agg l) (.agg vs)
 | gd {l:List DV} {vs:Array Value}:vs.size=l.length→(∀ j c,l[j]? = some c→RV x c (vs.getD j undef))→RV x (.gd l) (.tuple vs)
 | sl {rows:List DV} {tok:Option Nat} {full:SF} {A:Option Addr} {cap s:Nat} {vs:Nat→Value}:View x rows A s vs→(∀ j c,(flat rows)[j]? = some c→RV x c (vs j))→rows.length≤cap→((full.full=true→cap=rows.length)∧QU full A)→(A=none→cap=0)→(∀ ad,A=some ad→0<cap→ad.spot=none)→YQ x tok rows A cap →
   RV x (.sl rows tok full) (.slice A rows.length cap)
 | ptr {id off:Nat} {l:List DV}:x.S[id]? = some (.cells l)→RV x (.ptr id off) (.pointer (some ⟨x.μ id,off,none⟩))
 | eL {rows:List DV} {i off b o s:Nat} {vs:Nat→Value}:View x rows (some ⟨b,o,none⟩) s vs→(∀ j c,(flat rows)[j]? = some c→RV x c (vs j))→RV x (.eL rows i off) (.pointer (some ⟨b,o+(i*s+off),none⟩))
 | fn {f:FuncId} {first captured:List DV} {fs cs:Array Value}:fs.size=first.length→cs.size=captured.length→(∀ j c,first[j]? = some c→RV x c (fs.getD j undef))→(∀ j c,captured[j]? = some c→RV x c (cs.getD j undef))→RV x (.fn f first captured) (.func (.func f) fs cs)
 | map {id:Nat} {es:List (Value×Value)}:x.S[id]? = some (.map es)→RV x (.map id) (.map (some (x.μ id)))
 | xV {id:Nat} {r:LX}:x.S[id]? = some (.loop r)→RV x (.xV id) (.func (.yield (x.μ id)) #[] #[])
 | jD {id n:Nat} {agg:Bool} {e:TypeId} {s:Nat} {l:List DV} {z:Bool} {A:Option Addr} {cap:Nat}:x.S[id]? = some (.op e s l z)→n*s≤l.length→(n*s=l.length→A=some ⟨x.μ id,0,none⟩∧cap=x.κ id)→RV x (.jD id n agg) (.slice A n cap)
 | fC {id n off:Nat} {e:TypeId} {s:Nat} {l:List DV} {z:Bool} {A:Option Addr}:x.S[id]? = some (.op e s l z)→n*s≤l.length→(n*s=l.length→A=some ⟨x.μ id,off,none⟩)→RV x (.fC id n off) (.pointer A)
def gn (x:Cx) (l:List DV) (arr:Array Value):Prop:=arr.size=l.length∧∀ j c,l[j]? = some c→RV x c (arr.getD j undef)
def DB.isObj:DB→Bool
 | .map _ | .defer | .loop _=>true
 | _=>false
def sD (x:Cx):DB→Obj→Prop
 | .map es,.map Bg _=>Bg.toList.map (fun e=>(e.key,e.val))=es
 | .defer,.deferred _=>True
 | .loop r,.loop l=>l.state=r.st∧l.pending=r.kB∧l.fn=r.fn∧gn x r.env l.tmps∧l.params=r.params.toArray∧l.assign=r.assign∧l.body=r.body∧l.defers=x.μ r.dfr∧x.S[r.dfr]? = some .defer
 | _,_=>False
def DB.like:DB→DB→Prop
 | .map _,.map _=>True
 | .defer,.defer=>True
 | .loop r,.loop r'=>r'={ r with st:=r'.st,kB:=r'.kB }
 | _,_=>False
theorem fu:∀ {b:DB},b.isObj=true→b.like b
 | .map _,_=>trivial
 | .defer,_=>trivial
 | .loop _,_=>rfl
 | .none,h=>by cases h
 | .cells _,h=>by cases h
 | .tail ..,h=>by cases h
 | .op ..,h=>by cases h
theorem sW:∀ {b c:DB},b.like c→b.isObj=true∧c.isObj=true
 | .map _,.map _,_=>⟨rfl,rfl⟩
 | .defer,.defer,_=>⟨rfl,rfl⟩
 | .loop _,.loop _,_=>⟨rfl,rfl⟩
theorem KT:∀ {a b c:DB},a.like b→b.like c→a.like c
 | .map _,.map _,.map _,_,_=>trivial
 | .defer,.defer,.defer,_,_=>trivial
 | .loop r,.loop r',.loop r'',h,k=>by
  simp only[DB.like] at h k ⊢
  rw[k,h]
theorem gG {b:DB} (h:b.isObj=true):b ≠ .none:=by rintro rfl; cases h
structure Rel (x:Cx):Prop where
 cells:∀ id l,x.S[id]? = some (.cells l)→∃ arr e,x.w.heap[x.μ id]? = some (.cells arr e (0,0))∧arr.size=l.length∧∀ j c,l[j]? = some c→RV x c (arr.getD j undef)
 eA:∀ id e s n,x.S[id]? = some (.tail e s n)→∃ arr,x.w.heap[x.μ id]? = some (.cells arr e (0,0))∧arr.size=x.κ id*s∧n≤arr.size∧x.κ id≤maxLen
 eR:∀ id b,x.S[id]? = some b→b.isObj=true→∃ o,x.w.heap[x.μ id]? = some o∧sD x b o
 inj:∀ i j,Live x.S i→Live x.S j→x.μ i=x.μ j→i=j
 x7:∀ b o,x.Fz b o→∃ v,x.w.cell? ⟨b,o,none⟩=some v
 sep:∀ id,(∃ l,x.S[id]? = some (.cells l))→∀ o,¬ x.Fz (x.μ id) o
 oF:∀ id e s n,x.S[id]? = some (.tail e s n)→∀ o,x.Fz (x.μ id) o→o<n
 ops:∀ id e s l z,x.S[id]? = some (.op e s l z)→∃ arr,x.w.heap[x.μ id]? = some (.cells arr e (0,0))∧arr.size=x.κ id*s∧l.length≤arr.size∧x.κ id≤maxLen∧(∀ j c,l[j]? = some c→c.ck=true∧RV x c (arr.getD j undef))∧(z=true→∀ j,j<l.length→x.Fz (x.μ id) j)∧(z=false→∀ o,¬ x.Fz (x.μ id) o)
structure bZ (x y:Cx):Prop where
 size:x.w.heap.size≤y.w.heap.size
 env:y.w.os=x.w.os∧y.w.output=x.w.output
 fz:∀ b o,x.Fz b o→y.Fz b o∧y.w.cell? ⟨b,o,none⟩=x.w.cell? ⟨b,o,none⟩
 Lc:∀ b o,y.Fz b o→x.Fz b o∨x.w.heap.size≤b∨∃ i,Live x.S i∧x.μ i=b
 old:∀ b,b<x.w.heap.size→(∀ i,Live x.S i→x.μ i≠b)→y.w.heap[b]? = x.w.heap[b]?
 len:x.S.length≤y.S.length
 cells:∀ id l,x.S[id]? = some (.cells l)→y.μ id=x.μ id∧∃ l',y.S[id]? = some (.cells l')
 eR:∀ id b,x.S[id]? = some b→b.isObj=true→y.μ id=x.μ id∧(∃ b',y.S[id]? = some b'∧b.like b')∧(b = .defer→y.w.heap[x.μ id]? = x.w.heap[x.μ id]?)
 eA:∀ t e s n,x.S[t]? = some (.tail e s n)→∃ n',y.S[t]? = some (.tail e s n')∧n≤n'∧(n'=n→y.μ t=x.μ t∧y.κ t=x.κ t)
 live:∀ i,Live y.S i→(Live x.S i∧y.μ i=x.μ i)∨x.w.heap.size≤y.μ i
 ops:∀ t e s l z,x.S[t]? = some (.op e s l z)→∃ l' z',y.S[t]? = some (.op e s l' z')∧l.length≤l'.length∧(z=true→l'=l∧z'=true)∧(l'.length=l.length→y.μ t=x.μ t∧y.κ t=x.κ t)
theorem bZ.refl (x:Cx):bZ x x :=
 ⟨ak _,⟨rfl,rfl⟩,fun _ _ h=>⟨h,rfl⟩,fun _ _ h => .inl h,fun _ _ _=>rfl,ak _,fun _ l h=>⟨rfl,l,h⟩,fun _ b h hb=>⟨rfl,⟨b,h,fu hb⟩,fun _=>rfl⟩,fun _ _ _ n h=>⟨n,h,ak _,fun _=>⟨rfl,rfl⟩⟩,fun _ h => .inl ⟨h,rfl⟩,fun _ _ _ l z h=>⟨l,z,h,ak _,fun e=>⟨rfl,e⟩,fun _=>⟨rfl,rfl⟩⟩⟩
theorem bZ.trans {x y z:Cx} (h:bZ x y) (k:bZ y z):bZ x z where
 size:=aS h.size k.size
 env:=⟨k.env.1.trans h.env.1,k.env.2.trans h.env.2⟩
 fz:=fun b o hb=>⟨(k.fz b o (h.fz b o hb).1).1,(k.fz b o (h.fz b o hb).1).2.trans (h.fz b o hb).2⟩
 Lc:=fun b o hb=>by
  rcases k.Lc b o hb with h1 | h1 | ⟨i,h1,h2⟩
  ·exact h.Lc b o h1
  ·exact .inr (.inl (aS h.size h1))
  ·rcases h.live i h1 with ⟨h3,h4⟩ | h3
   ·exact .inr (.inr ⟨i,h3,by rw[← h4]; exact h2⟩)
   ·exact .inr (.inl (h2▸h3))
 old:=fun b hb hn=>by
  refine(k.old b (cH hb h.size) fun i hi he => ?_).trans (h.old b hb hn)
  rcases h.live i hi with ⟨h3,h4⟩ | h3
  ·exact hn i h3 (h4▸he)
  ·omega
 len:=aS h.len k.len
 cells:=fun id l hl=>by
  obtain⟨h1,l',h2⟩:=h.cells id l hl
  obtain⟨h3,l'',h4⟩:=k.cells id l' h2
  exact⟨h3.trans h1,l'',h4⟩
 eR:=fun id b hl hb=>by
  obtain⟨h1,⟨b',h2,h5⟩,h6⟩:=h.eR id b hl hb
  obtain⟨h3,⟨b'',h4,h7⟩,h8⟩:=k.eR id b' h2 (sW h5).2
  refine⟨h3.trans h1,⟨b'',h4,KT h5 h7⟩,fun hd => ?_⟩
  subst hd
  have:b' = .defer:=by cases b'<;>first | rfl | exact h5.elim
  rw[← h6 rfl,← h1]; exact h8 this
 eA:=fun t e s n ht=>by
  obtain⟨n',h1,h2,h3⟩:=h.eA t e s n ht
  obtain⟨n'',h4,h5,h6⟩:=k.eA t e s n' h1
  refine⟨n'',h4,aS h2 h5,fun he => ?_⟩
  have e1:n'=n:=by omega
  have e2:n''=n':=by omega
  exact⟨(h6 e2).1.trans (h3 e1).1,(h6 e2).2.trans (h3 e1).2⟩
 live:=fun i hi=>by
  rcases k.live i hi with ⟨h1,h2⟩ | h1
  ·rcases h.live i h1 with ⟨h3,h4⟩ | h3
   ·exact .inl ⟨h3,h2.trans h4⟩
   ·exact .inr (h2▸h3)
  ·exact .inr (aS h.size h1)
 ops:=fun t e s l z ht=>by
  obtain⟨l1,z1,h1,h2,h3,h4⟩:=h.ops t e s l z ht
  obtain⟨l2,z2,k1,k2,k3,k4⟩:=k.ops t e s l1 z1 h1
  refine⟨l2,z2,k1,aS h2 k2,fun hz => ?_,fun he => ?_⟩
  ·obtain⟨rfl,rfl⟩:=h3 hz
   exact k3 rfl
  ·have e1:l1.length=l.length:=by omega
   have e2:l2.length=l1.length:=by omega
   exact⟨(k4 e2).1.trans (h4 e1).1,(k4 e2).2.trans (h4 e1).2⟩
theorem View.mono {x y:Cx} {rows:List DV} {A:Option Addr} {s:Nat} {vs:Nat→Value} (hF:∀ b o,x.Fz b o→y.Fz b o∧y.w.cell? ⟨b,o,none⟩=x.w.cell? ⟨b,o,none⟩) (h:View x rows A s vs):View y rows A s vs :=
 ⟨h.1,fun j c hc=>by
  obtain⟨h1,b,o,h2,h3,h4⟩:=h.2 j c hc
  exact⟨h1,b,o,h2,(hF _ _ h3).1,(hF _ _ h3).2.trans h4⟩⟩
theorem RV.mono {x y:Cx} (M:bZ x y) {d:DV} {v:Value} (h:RV x d v):RV y d v:=by
 induction h with
 | val h=>exact .val h
 | agg h _ ih=>exact .agg h ih
 | gd h _ ih=>exact .gd h ih
 | sl hv _ h1 h2 h3 hsp h4 ih =>
  refine .sl (hv.mono M.fz) ih h1 h2 h3 hsp fun t ht => ?_
  obtain⟨e,s,n,k1,k2,k3,k4⟩:=h4 t ht
  obtain⟨n',m1,m2,m3⟩:=M.eA t e s n k1
  refine⟨e,s,n',m1,aS k2 m2,k3,fun he => ?_⟩
  have e1:n'=n:=by omega
  rw[(m3 e1).1,(m3 e1).2]
  exact k4 (he.trans e1)
 | ptr h =>
  obtain⟨h1,l',h2⟩:=M.cells _ _ h
  rw[← h1]
  exact .ptr h2
 | eL hv _ ih=>exact .eL (hv.mono M.fz) ih
 | fn h1 h2 _ _ Na O7=>exact .fn h1 h2 Na O7
 | map h =>
  obtain⟨h1,⟨b',h2,h3⟩,-⟩:=M.eR _ _ h rfl
  rw[← h1]
  cases b' with
  | map es=>exact .map h2
  | _=>exact h3.elim
 | xV h =>
  obtain⟨h1,⟨b',h2,h3⟩,-⟩:=M.eR _ _ h rfl
  rw[← h1]
  cases b' with
  | loop r=>exact .xV h2
  | _=>exact h3.elim
 | jD h hn hl =>
  obtain⟨l',z',h1,h2,-,h4⟩:=M.ops _ _ _ _ _ h
  refine .jD h1 (by omega) fun he => ?_
  have e1:=h4 (by omega)
  rw[e1.1,e1.2]
  exact hl (by omega)
 | fC h hn hl =>
  obtain⟨l',z',h1,h2,-,h4⟩:=M.ops _ _ _ _ _ h
  refine .fC h1 (by omega) fun he => ?_
  rw[(h4 (by omega)).1]
  exact hl (by omega)
theorem gn.mono {x y:Cx} (M:bZ x y) {l:List DV} {arr:Array Value} (h:gn x l arr):gn y l arr:=⟨h.1,fun j c hc=>(h.2 j c hc).mono M⟩
theorem sD.mono {x y:Cx} (M:bZ x y):∀ {b:DB} {o:Obj},sD x b o→sD y b o
 | .map _,.map _ _,h=>h
 | .defer,.deferred _,_=>trivial
 | .loop r,.loop l,⟨h1,h2,h3,h4,h5,h6,h7,h8,h9⟩=>by
  obtain⟨k1,⟨b',k2,k3⟩,-⟩:=M.eR _ _ h9 rfl
  have:b' = .defer:=by cases b'<;>first | rfl | exact k3.elim
  subst this
  exact⟨h1,h2,h3,h4.mono M,h5,h6,h7,by rw[h8,k1],k2⟩
theorem RV.vP {x y:Cx} (hF:∀ b o,x.Fz b o→y.Fz b o∧y.w.cell? ⟨b,o,none⟩=x.w.cell? ⟨b,o,none⟩) {d:DV} {v:Value} (h:RV x d v) (hp:d.ck=true):RV y d v:=by
 induction h with
 | val h=>exact .val h
 | agg h _ ih=>simp[DV.ck] at hp
 | gd h _ ih=>simp[DV.ck] at hp
 | @sl rows tok full A cap s vs hv _ h1 h2 h3 hsp h4 ih =>
  refine .sl (hv.mono hF) (fun j c hc=>ih j c hc (hv.2 j c hc).1) h1 h2 h3 hsp fun t ht => ?_
  subst ht
  simp[DV.ck] at hp
 | ptr h=>simp[DV.ck] at hp
 | eL hv _ ih=>simp[DV.ck] at hp
 | fn h1 h2 _ _ Na O7=>simp[DV.ck] at hp
 | map h=>simp[DV.ck] at hp
 | xV h=>simp[DV.ck] at hp
 | jD=>simp[DV.ck] at hp
 | fC=>simp[DV.ck] at hp
theorem Gp {l:List DV} (h:l.all DV.ck=true) {j:Nat} {c:DV} (hc:l[j]? = some c):c.ck=true:=bt.1 h c (dA hc)
theorem RV.CE {x y:Cx} (hF:∀ b o,x.Fz b o→y.Fz b o∧y.w.cell? ⟨b,o,none⟩=x.w.cell? ⟨b,o,none⟩) {d:DV} {v:Value} (h:RV x d v) (hp:d.jV=true):RV y d v:=by
 cases h with
 | val h=>exact .val h
 | agg h hl=>exact .agg h fun j c hc=>(hl j c hc).vP hF (Gp hp hc)
 | gd h hl=>simp[DV.jV] at hp
 | @sl rows tok full A cap s vs hv hr h1 h2 h3 hsp h4 =>
  cases tok with
  | none=>exact(RV.sl hv hr h1 h2 h3 hsp h4).vP hF rfl
  | some t=>simp[DV.jV] at hp
 | ptr h=>simp[DV.jV] at hp
 | eL hv _=>simp[DV.jV] at hp
 | fn h1 h2 _ _=>simp[DV.jV] at hp
 | map h=>simp[DV.jV] at hp
 | xV h=>simp[DV.jV] at hp
 | jD=>simp[DV.jV] at hp
 | fC=>simp[DV.jV] at hp
theorem WA {d:DV} (hp:d.pure=true):(∃ l,d = .gd l∧l.all DV.jV=true)∨d.jV=true:=by
 cases d with
 | gd l=>exact .inl ⟨l,rfl,hp⟩
 | _=>exact .inr hp
theorem RV.pure_mono {x y:Cx} (hF:∀ b o,x.Fz b o→y.Fz b o∧y.w.cell? ⟨b,o,none⟩=x.w.cell? ⟨b,o,none⟩) {d:DV} {v:Value} (h:RV x d v) (hp:d.pure=true):RV y d v:=by
 rcases WA hp with ⟨l,rfl,hl⟩ | hp
 ·cases h with
  | gd h hr=>exact .gd h fun j c hc=>(hr j c hc).CE hF (bt.1 hl c (dA hc))
 ·exact h.CE hF hp
theorem RV.aV {x:Cx} {d:DV} {v:Value} (h:RV x d v):RV x d.aV v:=by
 cases h with
 | sl hv hr h1 h2 h3 hsp h4=>exact .sl hv hr h1 ⟨by simp,h2.2⟩ h3 hsp fun t ht=>(by cases ht)
 | val h=>exact .val h
 | agg h hl=>exact .agg h hl
 | gd h hl=>exact .gd h hl
 | ptr h=>exact .ptr h
 | eL hv hr=>exact .eL hv hr
 | fn h1 h2 h3 h4=>exact .fn h1 h2 h3 h4
 | map h=>exact .map h
 | xV h=>exact .xV h
 | jD h h1 h2=>exact .jD h h1 h2
 | fC h h1 h2=>exact .fC h h1 h2
theorem RV.dG {x:Cx} {d:DV} {v:Value} (h:RV x d v):RV x d.dG v:=by
 cases h with
 | sl hv hr h1 h2 h3 hsp h4=>exact .sl hv hr h1 ⟨by simp,h2.2⟩ h3 hsp fun t ht=>(by cases ht)
 | val h=>exact .val h
 | @agg l vs h hl =>
  refine .agg (by simpa using h) fun j c hc => ?_
  simp only[eE,ai] at hc
  obtain⟨c',h1,rfl⟩:=hc
  exact(hl j c' h1).aV
 | gd h hl=>exact .gd h hl
 | ptr h=>exact .ptr h
 | eL hv hr=>exact .eL hv hr
 | fn h1 h2 h3 h4=>exact .fn h1 h2 h3 h4
 | map h=>exact .map h
 | xV h=>exact .xV h
 | jD h h1 h2=>exact .jD h h1 h2
 | fC h h1 h2=>exact .fC h h1 h2
theorem RV.strip {x:Cx} {d:DV} {v:Value} (h:RV x d v):RV x d.strip v:=by
 cases d with
 | gd l =>
  cases h with
  | gd h hl =>
   refine .gd (by simpa using h) fun j c hc => ?_
   simp only[eE,ai] at hc
   obtain⟨c',h1,rfl⟩:=hc
   exact(hl j c' h1).dG
 | _=>exact h.dG
def Cx.bare (x:Cx):Cx:={ x with S:=[] }
def Cx.behind (x y:Cx):Cx:={ x with w:=y.w,Fz:=y.Fz }
theorem gK (i:Nat):¬ Live [] i:=by rintro⟨b,h,-⟩; simp at h
theorem Rel.bare {x:Cx} (h:Rel x):Rel x.bare where
 cells:=fun id l hl=>by simp[Cx.bare] at hl
 eA:=fun id e s n hl=>by simp[Cx.bare] at hl
 eR:=fun id b hl=>by simp[Cx.bare] at hl
 inj:=fun i j hi=>(gK i hi).elim
 x7:=h.x7
 sep:=fun id ⟨l,hl⟩=>by simp[Cx.bare] at hl
 oF:=fun id e s n hl=>by simp[Cx.bare] at hl
 ops:=fun id e s l z hl=>by simp[Cx.bare] at hl
theorem s8 {x y:Cx} (hR:Rel x) (M:bZ x.bare y):bZ x (x.behind y) where
 size:=M.size
 env:=M.env
 fz:=M.fz
 Lc:=fun b o hb=>by
  rcases M.Lc b o hb with h | h | ⟨i,h,-⟩
  ·exact .inl h
  ·exact .inr (.inl h)
  ·exact(gK i h).elim
 old:=fun b hb _=>M.old b hb fun i hi=>(gK i hi).elim
 len:=ak _
 cells:=fun id l hl=>⟨rfl,l,hl⟩
 eR:=fun id b hl hb=>⟨rfl,⟨b,hl,fu hb⟩,fun _=>M.old _ (by
  obtain⟨o,h1,-⟩:=hR.eR id b hl hb
  exact(aR.1 h1).1) fun i hi=>(gK i hi).elim⟩
 eA:=fun t e s n ht=>⟨n,ht,ak _,fun _=>⟨rfl,rfl⟩⟩
 live:=fun i hi => .inl ⟨hi,rfl⟩
 ops:=fun _ _ _ l z h=>⟨l,z,h,ak _,fun e=>⟨rfl,e⟩,fun _=>⟨rfl,rfl⟩⟩
theorem cz {w:World} {b:Nat} {o:Obj} (h:w.heap[b]? = some o):b<w.heap.size:=(aR.1 h).1
theorem Rel.behind {x y:Cx} (h:Rel x) (M:bZ x.bare y) (k:Rel y):Rel (x.behind y):=by
 have hM:=s8 h M
 have hold:∀ b,b<x.w.heap.size→y.w.heap[b]? = x.w.heap[b]? := fun b hb=>M.old b hb fun i hi=>(gK i hi).elim
 have Jw:∀ b o,b<x.w.heap.size→y.Fz b o→x.Fz b o:=fun b o hb hy=>by
  rcases M.Lc b o hy with h | h | ⟨i,h,-⟩
  ·exact h
  ·exact absurd h (by have:(x.bare).w=x.w:=rfl; rw[this]; omega)
  ·exact(gK i h).elim
 exact {
  cells:=fun id l hl=>by
   obtain⟨arr,e,h1,h2,h3⟩:=h.cells id l hl
   exact⟨arr,e,(hold _ (cz h1)).trans h1,h2,fun j c hc=>(h3 j c hc).mono hM⟩
  eA:=fun id e s n hl=>by
   obtain⟨arr,h1,h2⟩:=h.eA id e s n hl
   exact⟨arr,(hold _ (cz h1)).trans h1,h2⟩
  eR:=fun id b hl hb=>by
   obtain⟨o,h1,h2⟩:=h.eR id b hl hb
   exact⟨o,(hold _ (cz h1)).trans h1,h2.mono hM⟩
  inj:=h.inj
  x7:=k.x7
  sep:=fun id hl o ho=>by
   obtain⟨l,hl⟩:=hl
   obtain⟨arr,e,h1,-⟩:=h.cells id l hl
   exact h.sep id ⟨l,hl⟩ o (Jw _ _ (cz h1) ho)
  oF:=fun id e s n hl o ho=>by
   obtain⟨arr,h1,-⟩:=h.eA id e s n hl
   exact h.oF id e s n hl o (Jw _ _ (cz h1) ho)
  ops:=fun id e s l z hl=>by
   obtain⟨arr,h1,h2,h3,h4,h5,h6,h7⟩:=h.ops id e s l z hl
   exact⟨arr,(hold _ (cz h1)).trans h1,h2,h3,h4,fun j c hc=>⟨(h5 j c hc).1,(h5 j c hc).2.mono hM⟩,fun hz j hj=>(M.fz _ _ (h6 hz j hj)).1,fun hz o ho=>h7 hz o (Jw _ _ (cz h1) ho)⟩ }
def Cx.dr (x:Cx) (d:Nat):Cx:={ x with w:=x.w.at d }
theorem fe (x:Cx) (d:Nat):bZ x (x.dr d) :=
 ⟨ak _,⟨rfl,rfl⟩,fun _ _ h=>⟨h,rfl⟩,fun _ _ h => .inl h,fun _ _ _=>rfl,ak _,fun _ l h=>⟨rfl,l,h⟩,fun _ b h hb=>⟨rfl,⟨b,h,fu hb⟩,fun _=>rfl⟩,fun _ _ _ n h=>⟨n,h,ak _,fun _=>⟨rfl,rfl⟩⟩,fun _ h => .inl ⟨h,rfl⟩,fun _ _ _ l z h=>⟨l,z,h,ak _,fun e=>⟨rfl,e⟩,fun _=>⟨rfl,rfl⟩⟩⟩
theorem Rel.dr {x:Cx} (h:Rel x) (d:Nat):Rel (x.dr d) where
 cells:=fun id l hl=>by
  obtain⟨arr,e,h1,h2,h3⟩:=h.cells id l hl
  exact⟨arr,e,h1,h2,fun j c hc=>(h3 j c hc).mono (fe x d)⟩
 eA:=h.eA
 eR:=fun id b hl hb=>by
  obtain⟨o,h1,h2⟩:=h.eR id b hl hb
  exact⟨o,h1,h2.mono (fe x d)⟩
 inj:=h.inj
 x7:=h.x7
 sep:=h.sep
 oF:=h.oF
 ops:=fun id e s l z hl=>by
  obtain⟨arr,h1,h2,h3,h4,h5,h6⟩:=h.ops id e s l z hl
  exact⟨arr,h1,h2,h3,h4,fun j c hc=>⟨(h5 j c hc).1,(h5 j c hc).2.mono (fe x d)⟩,h6⟩
end Go.Di
end
section
namespace Go.Di
open Go
variable {P:Program} {ty:ir} {x:Cx} {w':World}
theorem nQ {α:Type} {s:Sem α} {a:α} (h:cg P s=some a) (w:World):s.run P w = .ok a w:=by
 induction s generalizing a with
 | pure b=>simp only[cg,aB] at h; subst h; rfl
 | program k ih=>simp only[cg] at h; simpa [Sem.run] using ih P h
 | _=>simp[cg] at h
theorem aaU (tok:Option Nat) (h:tok=none):RV x (.sl [] tok ⟨true,some true⟩) (.slice none 0 0):=by
 subst h
 exact RV.sl (rows:=[]) (A:=none) (cap:=0) (s:=0) (vs:=fun _=>undef) ⟨by simp,by simp[flat]⟩ (by simp[flat]) (ak _) ⟨fun _=>rfl,fun b h=>by cases h; rfl⟩ (fun _=>rfl) (fun _ h _=>by cases h) (fun t ht=>by cases ht)
theorem Ef {v:Value} {d:DV} (h:Fu v=some d):RV x d v:=by
 unfold Fu at h
 split at h
 ·cases h; exact aaU _ rfl
 ·split at h
  ·cases h; exact .val ‹_›
  ·cases h
theorem iG:∀ {vs:List Value} {l:List DV},qJ vs=some l→vs.length=l.length∧∀ j c,l[j]? = some c→RV x c (vs.getD j undef)
 | [],l,h=>by simp only[qJ,aB] at h; subst h; simp
 | v::vs,l,h=>by
  unfold qJ at h
  split at h
  ·rename_i d r h1 h2
   cases h
   obtain⟨h3,h4⟩:=iG h2
   refine⟨by simp[h3],fun j c hc => ?_⟩
   cases j with
   | zero=>simp at hc; subst hc; exact Ef h1
   | succ j=>simpa using h4 j c (by simpa using hc)
  ·cases h
theorem xx {v:Value} {d:DV} (h:zi v=some d):RV x d v:=by
 unfold zi at h
 split at h
 ·simp only[ai] at h
  obtain⟨l,h1,rfl⟩:=h
  obtain⟨h3,h4⟩:=iG (x:=x) h1
  exact .agg (by simpa using h3) fun j c hc=>by simpa [bg,aN] using h4 j c hc
 ·split at h
  ·rename_i f fs cs hz
   simp only[aI,bJ] at hz
   cases h
   exact .fn hz.1 hz.2 (by simp) (by simp)
  ·cases h
 ·exact Ef h
theorem xH:∀ {l:List DV} {r:List Value},qI l=some r→l=r.map .val
 | [],r,h=>by simp only[qI,aB] at h; subst h; rfl
 | d::l,r,h=>by
  cases d<;>simp only[qI,ai] at h
  all_goals first | (obtain⟨r',h1,rfl⟩:=h; simp[xH h1]; done) | cases h
theorem mS {v u:Value} (h:RV x (.val u) v):v=u:=by cases h; rfl
theorem HX {d:DV} {v u:Value} (h:RV x d v) (hu:y9 d=some u):v=u:=by
 cases d<;>simp only[y9,ai,reduceCtorEq] at hu
 ·simp only[aB] at hu; subst hu; exact mS h
 ·obtain⟨r,h1,rfl⟩:=hu
  have:=xH h1
  subst this
  cases h with
  | @agg _ vs hs hl =>
   congr 1
   refine Array.ext (by simpa using hs) fun j h1 h2 => ?_
   have:=hl j (.val r[j]) (by simp[bH (show j<r.length by simpa using h2)])
   have:=mS this
   simpa [bg,h1] using this
theorem yE:∀ {l:List DV} {vs r:List Value},sG l=some r→vs.length=l.length→(∀ j c,l[j]? = some c→RV x c (vs.getD j undef))→vs=r
 | [],vs,r,h,hl,_=>by
  simp only[sG,aB] at h
  subst h
  exact eF (by simpa using hl)
 | d::l,vs,r,h,hl,hr=>by
  cases vs with
  | nil=>simp at hl
  | cons v vs =>
   unfold sG at h
   split at h
   ·rename_i v' r' h1 h2
    cases h
    have:=HX (by simpa using hr 0 d rfl) h1
    subst this
    congr 1
    exact yE h2 (by simpa using hl) fun j c hc=>by simpa using hr (j+1) c (by simpa using hc)
   ·cases h
def DJ (S:ax) (aH:Nat):Prop:=aH=S.length∨S[aH]? = some .none
theorem DJ.le {S:ax} {aH:Nat} (h:DJ S aH):aH≤S.length:=by
 rcases h with h | h
 ·omega
 ·have:=(aJ.1 h).1; omega
theorem DJ.ne {S:ax} {aH id:Nat} {b:DB} (h:DJ S aH) (hb:S[id]? = some b) (hne:b ≠ .none):id≠aH:=by
 rintro rfl
 rcases h with h | h
 ·rw[h,fN (ak _)] at hb; cases hb
 ·rw[h] at hb; cases hb; exact hne rfl
theorem bz {S:ax} {i:Nat} (h:i≤S.length) (b:DB) (j:Nat):(eV S i b)[j]? = if j=i then some b else S[j]? := by
 unfold eV
 split
 ·rw[aQ]
  split<;>rename_i h1
  ·subst h1; simp[*]
  ·rw[if_neg (Ne.symm h1)]
 ·have:i=S.length:=by omega
  subst this
  rw[qP]
  split
  ·rw[if_neg (by omega)]
  ·rename_i h1
   by_cases h2:j=S.length
   ·subst h2; simp
   ·rw[if_neg h2,fN (by simp; omega),fN (by omega)]
theorem SB {S:ax} {i:Nat} (b:DB):S.length≤(eV S i b).length:=by unfold eV; split<;>simp
theorem aZ {S:ax} {i:Nat} {b:DB} (h:S[i]? = some b) (hb:b ≠ .none):Live S i:=⟨b,h,hb⟩
theorem Rel.iC (h:Rel x) {i:Nat} (hi:Live x.S i):x.μ i<x.w.heap.size:=by
 obtain⟨b,hb,hne⟩:=hi
 cases b with
 | none=>exact absurd rfl hne
 | cells l=>obtain⟨arr,e,h1,-⟩:=h.cells i l hb; exact cz h1
 | tail e s n=>obtain⟨arr,h1,-⟩:=h.eA i e s n hb; exact cz h1
 | map es=>obtain⟨o,h1,-⟩:=h.eR i _ hb rfl; exact cz h1
 | defer=>obtain⟨o,h1,-⟩:=h.eR i _ hb rfl; exact cz h1
 | loop r=>obtain⟨o,h1,-⟩:=h.eR i _ hb rfl; exact cz h1
 | op e s l z=>obtain⟨arr,h1,-⟩:=h.ops i e s l z hb; exact cz h1
theorem Rel.rH (h:Rel x) {b o:Nat} (hf:x.Fz b o):b<x.w.heap.size:=by
 obtain⟨v,hv⟩:=h.x7 b o hf
 exact World.block_lt_of_cell? x.w ⟨b,o,none⟩ hv
structure nY (w w':World) (ob:Obj):Prop where
 heap:w'.heap=w.heap.push ob
 env:w'.os=w.os∧w'.output=w.output
theorem gM (w:World) (ob:Obj):nY w (w.alloc ob) ob:=⟨rfl,rfl,rfl⟩
theorem nY.lt {w w':World} {ob:Obj} (h:nY w w' ob) {b:Nat} (hb:b<w.heap.size):w'.heap[b]? = w.heap[b]? := by rw[h.heap,Array.getElem?_push_lt hb,bW hb]
theorem nY.new {w w':World} {ob:Obj} (h:nY w w' ob):w'.heap[w.heap.size]? = some ob:=by rw[h.heap,Array.getElem?_push_size]
theorem cell_of_block {w w':World} {b:Nat} (h:w'.heap[b]? = w.heap[b]?) (o:Nat):w'.cell? ⟨b,o,none⟩=w.cell? ⟨b,o,none⟩:=by simp[World.cell?,h]
def Cx.fresh (x:Cx) (w':World) (aH k:Nat) (F:Nat→Prop) (b:DB):Cx :=
 ⟨w',fun i=>if i=aH then x.w.heap.size else x.μ i,fun i=>if i=aH then k else x.κ i,fun c o=>x.Fz c o∨(c=x.w.heap.size∧F o),eV x.S aH b⟩
theorem jB {aH k:Nat} {F:Nat→Prop} {ob:Obj} {b:DB} (hR:Rel x) (hn:DJ x.S aH) (hp:nY x.w w' ob):bZ x (x.fresh w' aH k F b) where
 size:=by show _≤w'.heap.size; rw[hp.heap]; simp
 env:=hp.env
 fz:=fun c o h=>⟨.inl h,cell_of_block (hp.lt (hR.rH h)) o⟩
 Lc:=fun c o h=>by
  rcases h with h | h
  ·exact .inl h
  ·exact .inr (.inl (by omega))
 old:=fun c hc _=>hp.lt hc
 len:=SB b
 cells:=fun id l hl=>by
  have hne:=hn.ne hl (by simp)
  exact⟨if_neg hne,l,by show (eV _ _ _)[_]? = _; rw[bz hn.le,if_neg hne]; exact hl⟩
 eR:=fun id c hl hc=>by
  have hne:=hn.ne hl (gG hc)
  exact⟨if_neg hne,⟨c,by show (eV _ _ _)[_]? = _; rw[bz hn.le,if_neg hne]; exact hl,fu hc⟩,fun _=>by
   obtain⟨o,h1,-⟩:=hR.eR id c hl hc
   exact hp.lt (cz h1)⟩
 eA:=fun t e s n ht=>by
  have hne:=hn.ne ht (by simp)
  exact⟨n,by show (eV _ _ _)[_]? = _; rw[bz hn.le,if_neg hne]; exact ht,ak _,fun _=>⟨if_neg hne,if_neg hne⟩⟩
 live:=fun i hi=>by
  by_cases h:i=aH
  ·subst h; right; show _≤(if _ then _ else _); rw[if_pos rfl]; exact ak _
  ·left
   obtain⟨c,hc,hne⟩:=hi
   have hc:(eV x.S aH b)[i]? = some c:=hc
   rw[bz hn.le,if_neg h] at hc
   exact⟨⟨c,hc,hne⟩,if_neg h⟩
 ops:=fun t e s l z ht=>by
  have hne:=hn.ne ht (by simp)
  exact⟨l,z,by show (eV _ _ _)[_]? = _; rw[bz hn.le,if_neg hne]; exact ht,ak _,fun e=>⟨rfl,e⟩,fun _=>⟨if_neg hne,if_neg hne⟩⟩
theorem lX {aH k:Nat} {F:Nat→Prop} {ob:Obj} {b:DB} (hR:Rel x) (hn:DJ x.S aH) (hp:nY x.w w' ob)
  (hF:∀ o,F o→∃ v,w'.cell? ⟨x.w.heap.size,o,none⟩=some v)
  (hb:(∃ l arr e,b = .cells l∧ob = .cells arr e (0,0)∧arr.size=l.length∧(∀ o,¬ F o)∧∀ j c,l[j]? = some c→RV x c (arr.getD j undef)) ∨
   (∃ e s n arr,b = .tail e s n∧ob = .cells arr e (0,0)∧arr.size=k*s∧n≤arr.size∧k≤maxLen∧∀ o,F o→o<n)∨(b.isObj=true∧(∀ o,¬ F o)∧sD (x.fresh w' aH k F b) b ob) ∨
   (∃ e s l arr,b = .op e s l false∧ob = .cells arr e (0,0)∧arr.size=k*s∧l.length≤arr.size∧k≤maxLen∧(∀ o,¬ F o)∧∀ j c,l[j]? = some c→c.ck=true∧RV x c (arr.getD j undef))) :
  Rel (x.fresh w' aH k F b):=by
 have M:=jB (k:=k) (F:=F) (b:=b) hR hn hp
 have bn:∀ i,(x.fresh w' aH k F b).S[i]? = if i=aH then some b else x.S[i]? := fun i=>bz hn.le b i
 have hμ:∀ i,i≠aH→(x.fresh w' aH k F b).μ i=x.μ i:=fun i h=>if_neg h
 have hκ:∀ i,i≠aH→(x.fresh w' aH k F b).κ i=x.κ i:=fun i h=>if_neg h
 have hμn:(x.fresh w' aH k F b).μ aH=x.w.heap.size:=if_pos rfl
 have hκn:(x.fresh w' aH k F b).κ aH=k:=if_pos rfl
 have nX:∀ i,i≠aH→Live (x.fresh w' aH k F b).S i→Live x.S i:=by
  rintro i h ⟨c,hc,hne⟩
  rw[bn,if_neg h] at hc
  exact⟨c,hc,hne⟩
 constructor
 ·intro id l hl
  rw[bn] at hl
  by_cases h:id=aH
  ·subst h
   rw[if_pos rfl] at hl
   cases hl
   rcases hb with ⟨l',arr,e,h1,rfl,h3,h4,h5⟩ | ⟨e,s,n,arr,h1,-⟩ | ⟨h1,-⟩ | ⟨e,s,n,arr,h1,-⟩
   ·cases h1
    rw[hμn]
    exact⟨arr,e,hp.new,h3,fun j c hc=>(h5 j c hc).mono M⟩
   all_goals cases h1
  ·rw[if_neg h] at hl
   obtain⟨arr,e,h1,h2,h3⟩:=hR.cells id l hl
   rw[hμ id h]
   exact⟨arr,e,(hp.lt (cz h1)).trans h1,h2,fun j c hc=>(h3 j c hc).mono M⟩
 ·intro id e s n hl
  rw[bn] at hl
  by_cases h:id=aH
  ·subst h
   rw[if_pos rfl] at hl
   cases hl
   rcases hb with ⟨l',arr,e',h1,-⟩ | ⟨e',s',n',arr,h1,rfl,h3,h4,h5,-⟩ | ⟨h1,-⟩ | ⟨e',s',n',arr,h1,-⟩
   ·cases h1
   ·cases h1
    rw[hμn,hκn]
    exact⟨arr,hp.new,h3,h4,h5⟩
   all_goals cases h1
  ·rw[if_neg h] at hl
   obtain⟨arr,h1,h2⟩:=hR.eA id e s n hl
   rw[hμ id h,hκ id h]
   exact⟨arr,(hp.lt (cz h1)).trans h1,h2⟩
 ·intro id c hl hc
  rw[bn] at hl
  by_cases h:id=aH
  ·subst h
   rw[if_pos rfl] at hl
   cases hl
   rcases hb with ⟨l',arr,e,h1,-⟩ | ⟨e',s',n',arr,h1,-⟩ | ⟨-,-,h1⟩ | ⟨e',s',n',arr,h1,-⟩
   ·subst h1; cases hc
   ·subst h1; cases hc
   ·rw[hμn]
    exact⟨ob,hp.new,h1⟩
   ·subst h1; cases hc
  ·rw[if_neg h] at hl
   obtain⟨o,h1,h2⟩:=hR.eR id c hl hc
   rw[hμ id h]
   exact⟨o,(hp.lt (cz h1)).trans h1,h2.mono M⟩
 ·intro i j hi hj he
  by_cases h1:i=aH
  ·by_cases h2:j=aH
   ·rw[h1,h2]
   ·rw[h1,hμn,hμ j h2] at he
    have:=hR.iC (nX j h2 hj)
    omega
  ·by_cases h2:j=aH
   ·rw[h2,hμn,hμ i h1] at he
    have:=hR.iC (nX i h1 hi)
    omega
   ·rw[hμ i h1,hμ j h2] at he
    exact hR.inj i j (nX i h1 hi) (nX j h2 hj) he
 ·intro c o h
  rcases h with h | ⟨rfl,h⟩
  ·obtain⟨v,hv⟩:=hR.x7 c o h
   exact⟨v,(M.fz c o h).2.trans hv⟩
  ·exact hF o h
 ·rintro id ⟨l,hl⟩ o ho
  rw[bn] at hl
  by_cases h:id=aH
  ·subst h
   rw[if_pos rfl] at hl
   cases hl
   rcases hb with ⟨l',arr,e,h1,-,-,h4,-⟩ | ⟨e',s',n',arr,h1,-⟩ | ⟨h1,-⟩ | ⟨e',s',n',arr,h1,-⟩
   ·rw[hμn] at ho
    rcases ho with ho | ⟨-,ho⟩
    ·have:=hR.rH ho; omega
    ·exact h4 o ho
   all_goals cases h1
  ·rw[if_neg h] at hl
   rw[hμ id h] at ho
   rcases ho with ho | ⟨ho,-⟩
   ·exact hR.sep id ⟨l,hl⟩ o ho
   ·have:=hR.iC (aZ hl (by simp)); omega
 ·intro id e s n hl o ho
  rw[bn] at hl
  by_cases h:id=aH
  ·subst h
   rw[if_pos rfl] at hl
   cases hl
   rcases hb with ⟨l',arr,e',h1,-⟩ | ⟨e',s',n',arr,h1,-,-,-,-,h6⟩ | ⟨h1,-⟩ | ⟨e',s',n',arr,h1,-⟩
   ·cases h1
   ·cases h1
    rw[hμn] at ho
    rcases ho with ho | ⟨-,ho⟩
    ·have:=hR.rH ho; omega
    ·exact h6 o ho
   all_goals cases h1
  ·rw[if_neg h] at hl
   rw[hμ id h] at ho
   rcases ho with ho | ⟨ho,-⟩
   ·exact hR.oF id e s n hl o ho
   ·have:=hR.iC (aZ hl (by simp)); omega
 ·intro id e s l z hl
  rw[bn] at hl
  by_cases h:id=aH
  ·subst h
   rw[if_pos rfl] at hl
   cases hl
   rcases hb with ⟨l',arr,e',h1,-⟩ | ⟨e',s',n',arr,h1,-⟩ | ⟨h1,-⟩ | ⟨e',s',n',arr,h1,rfl,h3,h4,h5,h6,h7⟩
   ·cases h1
   ·cases h1
   ·cases h1
   ·cases h1
    rw[hμn,hκn]
    refine⟨arr,hp.new,h3,h4,h5,fun j c hc=>⟨(h7 j c hc).1,(h7 j c hc).2.mono M⟩,by simp,fun _ o ho => ?_⟩
    rcases ho with ho | ⟨-,ho⟩
    ·have:=hR.rH ho; omega
    ·exact h6 o ho
  ·rw[if_neg h] at hl
   obtain⟨arr,h1,h2,h3,h4,h5,h6,h7⟩:=hR.ops id e s l z hl
   rw[hμ id h,hκ id h]
   refine⟨arr,(hp.lt (cz h1)).trans h1,h2,h3,h4,fun j c hc=>⟨(h5 j c hc).1,(h5 j c hc).2.mono M⟩,fun hz j hj => .inl (h6 hz j hj),fun hz o ho => ?_⟩
   rcases ho with ho | ⟨ho,-⟩
   ·exact h7 hz o ho
   ·have:=hR.iC (aZ hl (by simp)); omega
end Go.Di
end
