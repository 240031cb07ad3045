import Derived.Test.YtedcgbkilmlbhaaPk01
import Derived.Laws.AppendOwn
import Derived.Conc.Machine
section
namespace Go.Di
open Go
structure Cx where
 w:World
 μ:Nat→Nat
 κ:Nat→Nat
 Fz:Nat→Nat→Prop
 S:Store
def Live (S:Store) (i:Nat):Prop:=∃ b,S[i]? = some b∧b ≠ .none
def View (x:Cx) (rows:List DV) (A:Option Addr) (s:Nat) (vs:Nat→Value):Prop :=
 (∀ r∈rows,r.cells.length=s)∧∀ j c,(flat rows)[j]? = some c→c.pure1=true∧∃ b o,A=some ⟨b,o,none⟩∧x.Fz b (o+j)∧x.w.cell? ⟨b,o+j,none⟩=some (vs j)
def TokOf (x:Cx) (tok:Option Nat) (rows:List DV) (A:Option Addr) (cap:Nat):Prop :=
 ∀ t,tok=some t→∃ e s n,x.S[t]? = some (.tail e s n)∧rows.length*s≤n∧(∀ r∈rows,r.cells.length=s)∧(rows.length*s=n→A=some ⟨x.μ t,0,none⟩∧cap=x.κ t)
def NilOf (f:SF) (A:Option Addr):Prop:=∀ b,f.isNil=some b→A.isNone=b
inductive RV (x:Cx):DV→Value→Prop
 | val {v:Value}:plainV v=true→RV x (.val v) v
 | agg {l:List DV} {vs:Array Value}:vs.size=l.length→(∀ j c,l[j]? = some c→RV x c (vs.getD j undef))→RV x (.agg l) (.agg vs)
 | tup {l:List DV} {vs:Array Value}:vs.size=l.length→(∀ j c,l[j]? = some c→RV x c (vs.getD j undef))→RV x (.tup l) (.tuple vs)
 | sl {rows:List DV} {tok:Option Nat} {full:SF} {A:Option Addr} {cap s:Nat} {vs:Nat→Value}:View x rows A s vs→(∀ j c,(flat rows)[j]? = some c→RV x c (vs j))→rows.length≤cap→((full.full=true→cap=rows.length)∧NilOf full A)→(A=none→cap=0)→(∀ ad,A=some ad→ad.spot=none)→TokOf x tok rows A cap →
   RV x (.sl rows tok full) (.slice A rows.length cap)
 | ptr {id off:Nat} {l:List DV}:x.S[id]? = some (.cells l)→RV x (.ptr id off) (.pointer (some ⟨x.μ id,off,none⟩))
 | eptr {rows:List DV} {i off b o s:Nat} {vs:Nat→Value}:View x rows (some ⟨b,o,none⟩) s vs→(∀ j c,(flat rows)[j]? = some c→RV x c (vs j))→RV x (.eptr rows i off) (.pointer (some ⟨b,o+(i*s+off),none⟩))
 | fn {f:FuncId} {first captured:List DV} {fs cs:Array Value}:fs.size=first.length→cs.size=captured.length→(∀ j c,first[j]? = some c→RV x c (fs.getD j undef))→(∀ j c,captured[j]? = some c→RV x c (cs.getD j undef))→RV x (.fn f first captured) (.func (.func f) fs cs)
 | map {id:Nat} {es:List (Value×Value)}:x.S[id]? = some (.map es)→RV x (.map id) (.map (some (x.μ id)))
 | yld {id:Nat} {r:DLoop}:x.S[id]? = some (.loop r)→RV x (.yld id) (.func (.yield (x.μ id)) #[] #[])
def RVs (x:Cx) (l:List DV) (arr:Array Value):Prop:=arr.size=l.length∧∀ j c,l[j]? = some c→RV x c (arr.getD j undef)
def DB.isObj:DB→Bool
 | .map _ | .defer | .loop _=>true
 | _=>false
def ObjOK (x:Cx):DB→Obj→Prop
 | .map es,.map ents _=>ents.toList.map (fun e=>(e.key,e.val))=es
 | .defer,.deferred _=>True
 | .loop r,.loop l=>l.state=r.st∧l.pending=r.pend∧l.fn=r.fn∧RVs x r.env l.tmps∧l.params=r.params.toArray∧l.assign=r.assign∧l.body=r.body∧l.defers=x.μ r.dfr∧x.S[r.dfr]? = some .defer
 | _,_=>False
def DB.like:DB→DB→Prop
 | .map _,.map _=>True
 | .defer,.defer=>True
 | .loop r,.loop r'=>r'={ r with st:=r'.st,pend:=r'.pend }
 | _,_=>False
theorem like_refl:∀ {b:DB},b.isObj=true→b.like b
 | .map _,_=>trivial
 | .defer,_=>trivial
 | .loop _,_=>rfl
 | .none,h=>by cases h
 | .cells _,h=>by cases h
 | .tail ..,h=>by cases h
theorem like_obj:∀ {b c:DB},b.like c→b.isObj=true∧c.isObj=true
 | .map _,.map _,_=>⟨rfl,rfl⟩
 | .defer,.defer,_=>⟨rfl,rfl⟩
 | .loop _,.loop _,_=>⟨rfl,rfl⟩
theorem like_trans:∀ {a b c:DB},a.like b→b.like c→a.like c
 | .map _,.map _,.map _,_,_=>trivial
 | .defer,.defer,.defer,_,_=>trivial
 | .loop r,.loop r',.loop r'',h,k=>by
  simp only[DB.like] at h k ⊢
  rw[k,h]
theorem obj_live {b:DB} (h:b.isObj=true):b ≠ .none:=by rintro rfl; cases h
structure Rel (x:Cx):Prop where
 cells:∀ id l,x.S[id]? = some (.cells l)→∃ arr e,x.w.heap[x.μ id]? = some (.cells arr e (0,0))∧arr.size=l.length∧∀ j c,l[j]? = some c→RV x c (arr.getD j undef)
 tails:∀ id e s n,x.S[id]? = some (.tail e s n)→∃ arr,x.w.heap[x.μ id]? = some (.cells arr e (0,0))∧arr.size=x.κ id*s∧n≤arr.size∧x.κ id≤maxLen
 objs:∀ id b,x.S[id]? = some b→b.isObj=true→∃ o,x.w.heap[x.μ id]? = some o∧ObjOK x b o
 inj:∀ i j,Live x.S i→Live x.S j→x.μ i=x.μ j→i=j
 frz:∀ b o,x.Fz b o→∃ v,x.w.cell? ⟨b,o,none⟩=some v
 sep:∀ id,(∃ l,x.S[id]? = some (.cells l))→∀ o,¬ x.Fz (x.μ id) o
 sept:∀ id e s n,x.S[id]? = some (.tail e s n)→∀ o,x.Fz (x.μ id) o→o<n
structure Mono (x y:Cx):Prop where
 size:x.w.heap.size≤y.w.heap.size
 env:y.w.os=x.w.os∧y.w.output=x.w.output
 fz:∀ b o,x.Fz b o→y.Fz b o∧y.w.cell? ⟨b,o,none⟩=x.w.cell? ⟨b,o,none⟩
 nfz:∀ b o,y.Fz b o→x.Fz b o∨x.w.heap.size≤b∨∃ i,Live x.S i∧x.μ i=b
 old:∀ b,b<x.w.heap.size→(∀ i,Live x.S i→x.μ i≠b)→y.w.heap[b]? = x.w.heap[b]?
 len:x.S.length≤y.S.length
 cells:∀ id l,x.S[id]? = some (.cells l)→y.μ id=x.μ id∧∃ l',y.S[id]? = some (.cells l')
 objs:∀ id b,x.S[id]? = some b→b.isObj=true→y.μ id=x.μ id∧(∃ b',y.S[id]? = some b'∧b.like b')∧(b = .defer→y.w.heap[x.μ id]? = x.w.heap[x.μ id]?)
 tails:∀ t e s n,x.S[t]? = some (.tail e s n)→∃ n',y.S[t]? = some (.tail e s n')∧n≤n'∧(n'=n→y.μ t=x.μ t∧y.κ t=x.κ t)
 live:∀ i,Live y.S i→(Live x.S i∧y.μ i=x.μ i)∨x.w.heap.size≤y.μ i
theorem Mono.refl (x:Cx):Mono x x :=
 ⟨Nat.le_refl _,⟨rfl,rfl⟩,fun _ _ h=>⟨h,rfl⟩,fun _ _ h => .inl h,fun _ _ _=>rfl,Nat.le_refl _,fun _ l h=>⟨rfl,l,h⟩,fun _ b h hb=>⟨rfl,⟨b,h,like_refl hb⟩,fun _=>rfl⟩,fun _ _ _ n h=>⟨n,h,Nat.le_refl _,fun _=>⟨rfl,rfl⟩⟩,fun _ h => .inl ⟨h,rfl⟩⟩
theorem Mono.trans {x y z:Cx} (h:Mono x y) (k:Mono y z):Mono x z where
 size:=Nat.le_trans h.size k.size
 env:=⟨k.env.1.trans h.env.1,k.env.2.trans h.env.2⟩
 fz:=fun b o hb=>⟨(k.fz b o (h.fz b o hb).1).1,(k.fz b o (h.fz b o hb).1).2.trans (h.fz b o hb).2⟩
 nfz:=fun b o hb=>by
  rcases k.nfz b o hb with h1 | h1 | ⟨i,h1,h2⟩
  ·exact h.nfz b o h1
  ·exact .inr (.inl (Nat.le_trans h.size h1))
  ·rcases h.live i h1 with ⟨h3,h4⟩ | h3
   ·exact .inr (.inr ⟨i,h3,by rw[← h4]; exact h2⟩)
   ·exact .inr (.inl (h2▸h3))
 old:=fun b hb hn=>by
  refine(k.old b (Nat.lt_of_lt_of_le hb h.size) fun i hi he => ?_).trans (h.old b hb hn)
  rcases h.live i hi with ⟨h3,h4⟩ | h3
  ·exact hn i h3 (h4▸he)
  ·omega
 len:=Nat.le_trans h.len k.len
 cells:=fun id l hl=>by
  obtain⟨h1,l',h2⟩:=h.cells id l hl
  obtain⟨h3,l'',h4⟩:=k.cells id l' h2
  exact⟨h3.trans h1,l'',h4⟩
 objs:=fun id b hl hb=>by
  obtain⟨h1,⟨b',h2,h5⟩,h6⟩:=h.objs id b hl hb
  obtain⟨h3,⟨b'',h4,h7⟩,h8⟩:=k.objs id b' h2 (like_obj h5).2
  refine⟨h3.trans h1,⟨b'',h4,like_trans h5 h7⟩,fun hd => ?_⟩
  subst hd
  have:b' = .defer:=by cases b'<;>first | rfl | exact h5.elim
  rw[← h6 rfl,← h1]; exact h8 this
 tails:=fun t e s n ht=>by
  obtain⟨n',h1,h2,h3⟩:=h.tails t e s n ht
  obtain⟨n'',h4,h5,h6⟩:=k.tails t e s n' h1
  refine⟨n'',h4,Nat.le_trans h2 h5,fun he => ?_⟩
  have e1:n'=n:=by omega
  have e2:n''=n':=by omega
  exact⟨(h6 e2).1.trans (h3 e1).1,(h6 e2).2.trans (h3 e1).2⟩
 live:=fun i hi=>by
  rcases k.live i hi with ⟨h1,h2⟩ | h1
  ·rcases h.live i h1 with ⟨h3,h4⟩ | h3
   ·exact .inl ⟨h3,h2.trans h4⟩
   ·exact .inr (h2▸h3)
  ·exact .inr (Nat.le_trans h.size h1)
theorem View.mono {x y:Cx} {rows:List DV} {A:Option Addr} {s:Nat} {vs:Nat→Value} (hF:∀ b o,x.Fz b o→y.Fz b o∧y.w.cell? ⟨b,o,none⟩=x.w.cell? ⟨b,o,none⟩) (h:View x rows A s vs):View y rows A s vs :=
 ⟨h.1,fun j c hc=>by
  obtain⟨h1,b,o,h2,h3,h4⟩:=h.2 j c hc
  exact⟨h1,b,o,h2,(hF _ _ h3).1,(hF _ _ h3).2.trans h4⟩⟩
theorem RV.mono {x y:Cx} (M:Mono x y) {d:DV} {v:Value} (h:RV x d v):RV y d v:=by
 induction h with
 | val h=>exact .val h
 | agg h _ ih=>exact .agg h ih
 | tup h _ ih=>exact .tup h ih
 | sl hv _ h1 h2 h3 hsp h4 ih =>
  refine .sl (hv.mono M.fz) ih h1 h2 h3 hsp fun t ht => ?_
  obtain⟨e,s,n,k1,k2,k3,k4⟩:=h4 t ht
  obtain⟨n',m1,m2,m3⟩:=M.tails t e s n k1
  refine⟨e,s,n',m1,Nat.le_trans k2 m2,k3,fun he => ?_⟩
  have e1:n'=n:=by omega
  rw[(m3 e1).1,(m3 e1).2]
  exact k4 (he.trans e1)
 | ptr h =>
  obtain⟨h1,l',h2⟩:=M.cells _ _ h
  rw[← h1]
  exact .ptr h2
 | eptr hv _ ih=>exact .eptr (hv.mono M.fz) ih
 | fn h1 h2 _ _ ih1 ih2=>exact .fn h1 h2 ih1 ih2
 | map h =>
  obtain⟨h1,⟨b',h2,h3⟩,-⟩:=M.objs _ _ h rfl
  rw[← h1]
  cases b' with
  | map es=>exact .map h2
  | _=>exact h3.elim
 | yld h =>
  obtain⟨h1,⟨b',h2,h3⟩,-⟩:=M.objs _ _ h rfl
  rw[← h1]
  cases b' with
  | loop r=>exact .yld h2
  | _=>exact h3.elim
theorem RVs.mono {x y:Cx} (M:Mono x y) {l:List DV} {arr:Array Value} (h:RVs x l arr):RVs y l arr:=⟨h.1,fun j c hc=>(h.2 j c hc).mono M⟩
theorem ObjOK.mono {x y:Cx} (M:Mono x y):∀ {b:DB} {o:Obj},ObjOK x b o→ObjOK y b o
 | .map _,.map _ _,h=>h
 | .defer,.deferred _,_=>trivial
 | .loop r,.loop l,⟨h1,h2,h3,h4,h5,h6,h7,h8,h9⟩=>by
  obtain⟨k1,⟨b',k2,k3⟩,-⟩:=M.objs _ _ h9 rfl
  have:b' = .defer:=by cases b'<;>first | rfl | exact k3.elim
  subst this
  exact⟨h1,h2,h3,h4.mono M,h5,h6,h7,by rw[h8,k1],k2⟩
theorem RV.pure1_mono {x y:Cx} (hF:∀ b o,x.Fz b o→y.Fz b o∧y.w.cell? ⟨b,o,none⟩=x.w.cell? ⟨b,o,none⟩) {d:DV} {v:Value} (h:RV x d v) (hp:d.pure1=true):RV y d v:=by
 induction h with
 | val h=>exact .val h
 | agg h _ ih=>simp[DV.pure1] at hp
 | tup h _ ih=>simp[DV.pure1] at hp
 | @sl rows tok full A cap s vs hv _ h1 h2 h3 hsp h4 ih =>
  refine .sl (hv.mono hF) (fun j c hc=>ih j c hc (hv.2 j c hc).1) h1 h2 h3 hsp fun t ht => ?_
  subst ht
  simp[DV.pure1] at hp
 | ptr h=>simp[DV.pure1] at hp
 | eptr hv _ ih=>simp[DV.pure1] at hp
 | fn h1 h2 _ _ ih1 ih2=>simp[DV.pure1] at hp
 | map h=>simp[DV.pure1] at hp
 | yld h=>simp[DV.pure1] at hp
theorem pure1_of_mem {l:List DV} (h:l.all DV.pure1=true) {j:Nat} {c:DV} (hc:l[j]? = some c):c.pure1=true:=List.all_eq_true.1 h c (List.mem_of_getElem? hc)
theorem RV.pure2_mono {x y:Cx} (hF:∀ b o,x.Fz b o→y.Fz b o∧y.w.cell? ⟨b,o,none⟩=x.w.cell? ⟨b,o,none⟩) {d:DV} {v:Value} (h:RV x d v) (hp:d.pure2=true):RV y d v:=by
 cases h with
 | val h=>exact .val h
 | agg h hl=>exact .agg h fun j c hc=>(hl j c hc).pure1_mono hF (pure1_of_mem hp hc)
 | tup h hl=>simp[DV.pure2] at hp
 | @sl rows tok full A cap s vs hv hr h1 h2 h3 hsp h4 =>
  cases tok with
  | none=>exact(RV.sl hv hr h1 h2 h3 hsp h4).pure1_mono hF rfl
  | some t=>simp[DV.pure2] at hp
 | ptr h=>simp[DV.pure2] at hp
 | eptr hv _=>simp[DV.pure2] at hp
 | fn h1 h2 _ _=>simp[DV.pure2] at hp
 | map h=>simp[DV.pure2] at hp
 | yld h=>simp[DV.pure2] at hp
theorem pure_of {d:DV} (hp:d.pure=true):(∃ l,d = .tup l∧l.all DV.pure2=true)∨d.pure2=true:=by
 cases d with
 | tup l=>exact .inl ⟨l,rfl,hp⟩
 | _=>exact .inr hp
theorem RV.pure_mono {x y:Cx} (hF:∀ b o,x.Fz b o→y.Fz b o∧y.w.cell? ⟨b,o,none⟩=x.w.cell? ⟨b,o,none⟩) {d:DV} {v:Value} (h:RV x d v) (hp:d.pure=true):RV y d v:=by
 rcases pure_of hp with ⟨l,rfl,hl⟩ | hp
 ·cases h with
  | tup h hr=>exact .tup h fun j c hc=>(hr j c hc).pure2_mono hF (List.all_eq_true.1 hl c (List.mem_of_getElem? hc))
 ·exact h.pure2_mono hF hp
theorem RV.strip1 {x:Cx} {d:DV} {v:Value} (h:RV x d v):RV x d.strip1 v:=by
 cases h with
 | sl hv hr h1 h2 h3 hsp h4=>exact .sl hv hr h1 ⟨by simp,h2.2⟩ h3 hsp fun t ht=>(by cases ht)
 | val h=>exact .val h
 | agg h hl=>exact .agg h hl
 | tup h hl=>exact .tup h hl
 | ptr h=>exact .ptr h
 | eptr hv hr=>exact .eptr hv hr
 | fn h1 h2 h3 h4=>exact .fn h1 h2 h3 h4
 | map h=>exact .map h
 | yld h=>exact .yld h
theorem RV.strip2 {x:Cx} {d:DV} {v:Value} (h:RV x d v):RV x d.strip2 v:=by
 cases h with
 | sl hv hr h1 h2 h3 hsp h4=>exact .sl hv hr h1 ⟨by simp,h2.2⟩ h3 hsp fun t ht=>(by cases ht)
 | val h=>exact .val h
 | @agg l vs h hl =>
  refine .agg (by simpa using h) fun j c hc => ?_
  simp only[List.getElem?_map,Option.map_eq_some_iff] at hc
  obtain⟨c',h1,rfl⟩:=hc
  exact(hl j c' h1).strip1
 | tup h hl=>exact .tup h hl
 | ptr h=>exact .ptr h
 | eptr hv hr=>exact .eptr hv hr
 | fn h1 h2 h3 h4=>exact .fn h1 h2 h3 h4
 | map h=>exact .map h
 | yld h=>exact .yld h
theorem RV.strip {x:Cx} {d:DV} {v:Value} (h:RV x d v):RV x d.strip v:=by
 cases d with
 | tup l =>
  cases h with
  | tup h hl =>
   refine .tup (by simpa using h) fun j c hc => ?_
   simp only[List.getElem?_map,Option.map_eq_some_iff] at hc
   obtain⟨c',h1,rfl⟩:=hc
   exact(hl j c' h1).strip2
 | _=>exact h.strip2
def Cx.bare (x:Cx):Cx:={ x with S:=[] }
def Cx.behind (x y:Cx):Cx:={ x with w:=y.w,Fz:=y.Fz }
theorem not_live_nil (i:Nat):¬ Live [] i:=by rintro⟨b,h,-⟩; simp at h
theorem Rel.bare {x:Cx} (h:Rel x):Rel x.bare where
 cells:=fun id l hl=>by simp[Cx.bare] at hl
 tails:=fun id e s n hl=>by simp[Cx.bare] at hl
 objs:=fun id b hl=>by simp[Cx.bare] at hl
 inj:=fun i j hi=>(not_live_nil i hi).elim
 frz:=h.frz
 sep:=fun id ⟨l,hl⟩=>by simp[Cx.bare] at hl
 sept:=fun id e s n hl=>by simp[Cx.bare] at hl
theorem mono_behind {x y:Cx} (hR:Rel x) (M:Mono x.bare y):Mono x (x.behind y) where
 size:=M.size
 env:=M.env
 fz:=M.fz
 nfz:=fun b o hb=>by
  rcases M.nfz b o hb with h | h | ⟨i,h,-⟩
  ·exact .inl h
  ·exact .inr (.inl h)
  ·exact(not_live_nil i h).elim
 old:=fun b hb _=>M.old b hb fun i hi=>(not_live_nil i hi).elim
 len:=Nat.le_refl _
 cells:=fun id l hl=>⟨rfl,l,hl⟩
 objs:=fun id b hl hb=>⟨rfl,⟨b,hl,like_refl hb⟩,fun _=>M.old _ (by
  obtain⟨o,h1,-⟩:=hR.objs id b hl hb
  exact(Array.getElem?_eq_some_iff.1 h1).1) fun i hi=>(not_live_nil i hi).elim⟩
 tails:=fun t e s n ht=>⟨n,ht,Nat.le_refl _,fun _=>⟨rfl,rfl⟩⟩
 live:=fun i hi => .inl ⟨hi,rfl⟩
theorem heap_lt {w:World} {b:Nat} {o:Obj} (h:w.heap[b]? = some o):b<w.heap.size:=(Array.getElem?_eq_some_iff.1 h).1
theorem Rel.behind {x y:Cx} (h:Rel x) (M:Mono x.bare y) (k:Rel y):Rel (x.behind y):=by
 have hM:=mono_behind h M
 have hold:∀ b,b<x.w.heap.size→y.w.heap[b]? = x.w.heap[b]? := fun b hb=>M.old b hb fun i hi=>(not_live_nil i hi).elim
 have hfz:∀ b o,b<x.w.heap.size→y.Fz b o→x.Fz b o:=fun b o hb hy=>by
  rcases M.nfz b o hy with h | h | ⟨i,h,-⟩
  ·exact h
  ·exact absurd h (by have:(x.bare).w=x.w:=rfl; rw[this]; omega)
  ·exact(not_live_nil i h).elim
 exact {
  cells:=fun id l hl=>by
   obtain⟨arr,e,h1,h2,h3⟩:=h.cells id l hl
   exact⟨arr,e,(hold _ (heap_lt h1)).trans h1,h2,fun j c hc=>(h3 j c hc).mono hM⟩
  tails:=fun id e s n hl=>by
   obtain⟨arr,h1,h2⟩:=h.tails id e s n hl
   exact⟨arr,(hold _ (heap_lt h1)).trans h1,h2⟩
  objs:=fun id b hl hb=>by
   obtain⟨o,h1,h2⟩:=h.objs id b hl hb
   exact⟨o,(hold _ (heap_lt h1)).trans h1,h2.mono hM⟩
  inj:=h.inj
  frz:=k.frz
  sep:=fun id hl o ho=>by
   obtain⟨l,hl⟩:=hl
   obtain⟨arr,e,h1,-⟩:=h.cells id l hl
   exact h.sep id ⟨l,hl⟩ o (hfz _ _ (heap_lt h1) ho)
  sept:=fun id e s n hl o ho=>by
   obtain⟨arr,h1,-⟩:=h.tails id e s n hl
   exact h.sept id e s n hl o (hfz _ _ (heap_lt h1) ho) }
def Cx.dr (x:Cx) (d:Nat):Cx:={ x with w:=x.w.at d }
theorem mono_dr (x:Cx) (d:Nat):Mono x (x.dr d) :=
 ⟨Nat.le_refl _,⟨rfl,rfl⟩,fun _ _ h=>⟨h,rfl⟩,fun _ _ h => .inl h,fun _ _ _=>rfl,Nat.le_refl _,fun _ l h=>⟨rfl,l,h⟩,fun _ b h hb=>⟨rfl,⟨b,h,like_refl hb⟩,fun _=>rfl⟩,fun _ _ _ n h=>⟨n,h,Nat.le_refl _,fun _=>⟨rfl,rfl⟩⟩,fun _ h => .inl ⟨h,rfl⟩⟩
theorem Rel.dr {x:Cx} (h:Rel x) (d:Nat):Rel (x.dr d) where
 cells:=fun id l hl=>by
  obtain⟨arr,e,h1,h2,h3⟩:=h.cells id l hl
  exact⟨arr,e,h1,h2,fun j c hc=>(h3 j c hc).mono (mono_dr x d)⟩
 tails:=h.tails
 objs:=fun id b hl hb=>by
  obtain⟨o,h1,h2⟩:=h.objs id b hl hb
  exact⟨o,h1,h2.mono (mono_dr x d)⟩
 inj:=h.inj
 frz:=h.frz
 sep:=h.sep
 sept:=h.sept
end Go.Di
end
section
namespace Go.Di
open Go
variable {P:Program} {ty:Tys} {x:Cx} {w':World}
theorem pureS_run {α:Type} {s:Sem α} {a:α} (h:pureS P s=some a) (w:World):s.run P w = .ok a w:=by
 induction s generalizing a with
 | pure b=>simp only[pureS,Option.some.injEq] at h; subst h; rfl
 | program k ih=>simp only[pureS] at h; simpa [Sem.run] using ih P h
 | _=>simp[pureS] at h
theorem rv_nil (tok:Option Nat) (h:tok=none):RV x (.sl [] tok ⟨true,some true⟩) (.slice none 0 0):=by
 subst h
 exact RV.sl (rows:=[]) (A:=none) (cap:=0) (s:=0) (vs:=fun _=>undef) ⟨by simp,by simp[flat]⟩ (by simp[flat]) (Nat.le_refl _) ⟨fun _=>rfl,fun b h=>by cases h; rfl⟩ (fun _=>rfl) (fun _ h=>by cases h) (fun t ht=>by cases ht)
theorem rv_ofCell {v:Value} {d:DV} (h:ofCell v=some d):RV x d v:=by
 unfold ofCell at h
 split at h
 ·cases h; exact rv_nil _ rfl
 ·split at h
  ·cases h; exact .val ‹_›
  ·cases h
theorem rv_ofCells:∀ {vs:List Value} {l:List DV},ofCells vs=some l→vs.length=l.length∧∀ j c,l[j]? = some c→RV x c (vs.getD j undef)
 | [],l,h=>by simp only[ofCells,Option.some.injEq] at h; subst h; simp
 | v::vs,l,h=>by
  unfold ofCells at h
  split at h
  ·rename_i d r h1 h2
   cases h
   obtain⟨h3,h4⟩:=rv_ofCells h2
   refine⟨by simp[h3],fun j c hc => ?_⟩
   cases j with
   | zero=>simp at hc; subst hc; exact rv_ofCell h1
   | succ j=>simpa using h4 j c (by simpa using hc)
  ·cases h
theorem rv_ofVal {v:Value} {d:DV} (h:ofVal v=some d):RV x d v:=by
 unfold ofVal at h
 split at h
 ·simp only[Option.map_eq_some_iff] at h
  obtain⟨l,h1,rfl⟩:=h
  obtain⟨h3,h4⟩:=rv_ofCells (x:=x) h1
  exact .agg (by simpa using h3) fun j c hc=>by simpa [Array.getD_eq_getD_getElem?,List.getD_eq_getElem?_getD] using h4 j c hc
 ·split at h
  ·rename_i f fs cs hz
   simp only[Bool.and_eq_true,decide_eq_true_eq] at hz
   cases h
   exact .fn hz.1 hz.2 (by simp) (by simp)
  ·cases h
 ·exact rv_ofCell h
theorem toCells_spec:∀ {l:List DV} {r:List Value},toCells l=some r→l=r.map .val
 | [],r,h=>by simp only[toCells,Option.some.injEq] at h; subst h; rfl
 | d::l,r,h=>by
  cases d<;>simp only[toCells,Option.map_eq_some_iff] at h
  all_goals first | (obtain⟨r',h1,rfl⟩:=h; simp[toCells_spec h1]; done) | cases h
theorem rv_val {v u:Value} (h:RV x (.val u) v):v=u:=by cases h; rfl
theorem rv_toVal {d:DV} {v u:Value} (h:RV x d v) (hu:toVal d=some u):v=u:=by
 cases d<;>simp only[toVal,Option.map_eq_some_iff,reduceCtorEq] at hu
 ·simp only[Option.some.injEq] at hu; subst hu; exact rv_val h
 ·obtain⟨r,h1,rfl⟩:=hu
  have:=toCells_spec h1
  subst this
  cases h with
  | @agg _ vs hs hl =>
   congr 1
   refine Array.ext (by simpa using hs) fun j h1 h2 => ?_
   have:=hl j (.val r[j]) (by simp[List.getElem?_eq_getElem (show j<r.length by simpa using h2)])
   have:=rv_val this
   simpa [Array.getD_eq_getD_getElem?,h1] using this
theorem rv_toVals:∀ {l:List DV} {vs r:List Value},toVals l=some r→vs.length=l.length→(∀ j c,l[j]? = some c→RV x c (vs.getD j undef))→vs=r
 | [],vs,r,h,hl,_=>by
  simp only[toVals,Option.some.injEq] at h
  subst h
  exact List.eq_nil_of_length_eq_zero (by simpa using hl)
 | d::l,vs,r,h,hl,hr=>by
  cases vs with
  | nil=>simp at hl
  | cons v vs =>
   unfold toVals at h
   split at h
   ·rename_i v' r' h1 h2
    cases h
    have:=rv_toVal (by simpa using hr 0 d rfl) h1
    subst this
    congr 1
    exact rv_toVals h2 (by simpa using hl) fun j c hc=>by simpa using hr (j+1) c (by simpa using hc)
   ·cases h
def Nid (S:Store) (nid:Nat):Prop:=nid=S.length∨S[nid]? = some .none
theorem Nid.le {S:Store} {nid:Nat} (h:Nid S nid):nid≤S.length:=by
 rcases h with h | h
 ·omega
 ·have:=(List.getElem?_eq_some_iff.1 h).1; omega
theorem Nid.ne {S:Store} {nid id:Nat} {b:DB} (h:Nid S nid) (hb:S[id]? = some b) (hne:b ≠ .none):id≠nid:=by
 rintro rfl
 rcases h with h | h
 ·rw[h,List.getElem?_eq_none (Nat.le_refl _)] at hb; cases hb
 ·rw[h] at hb; cases hb; exact hne rfl
theorem setS_get {S:Store} {i:Nat} (h:i≤S.length) (b:DB) (j:Nat):(setS S i b)[j]? = if j=i then some b else S[j]? := by
 unfold setS
 split
 ·rw[List.getElem?_set]
  split<;>rename_i h1
  ·subst h1; simp[*]
  ·rw[if_neg (Ne.symm h1)]
 ·have:i=S.length:=by omega
  subst this
  rw[List.getElem?_append]
  split
  ·rw[if_neg (by omega)]
  ·rename_i h1
   by_cases h2:j=S.length
   ·subst h2; simp
   ·rw[if_neg h2,List.getElem?_eq_none (by simp; omega),List.getElem?_eq_none (by omega)]
theorem setS_len {S:Store} {i:Nat} (b:DB):S.length≤(setS S i b).length:=by unfold setS; split<;>simp
theorem live_of {S:Store} {i:Nat} {b:DB} (h:S[i]? = some b) (hb:b ≠ .none):Live S i:=⟨b,h,hb⟩
theorem Rel.live_lt (h:Rel x) {i:Nat} (hi:Live x.S i):x.μ i<x.w.heap.size:=by
 obtain⟨b,hb,hne⟩:=hi
 cases b with
 | none=>exact absurd rfl hne
 | cells l=>obtain⟨arr,e,h1,-⟩:=h.cells i l hb; exact heap_lt h1
 | tail e s n=>obtain⟨arr,h1,-⟩:=h.tails i e s n hb; exact heap_lt h1
 | map es=>obtain⟨o,h1,-⟩:=h.objs i _ hb rfl; exact heap_lt h1
 | defer=>obtain⟨o,h1,-⟩:=h.objs i _ hb rfl; exact heap_lt h1
 | loop r=>obtain⟨o,h1,-⟩:=h.objs i _ hb rfl; exact heap_lt h1
theorem Rel.fz_lt (h:Rel x) {b o:Nat} (hf:x.Fz b o):b<x.w.heap.size:=by
 obtain⟨v,hv⟩:=h.frz b o hf
 exact World.block_lt_of_cell? x.w ⟨b,o,none⟩ hv
structure Push (w w':World) (ob:Obj):Prop where
 heap:w'.heap=w.heap.push ob
 env:w'.os=w.os∧w'.output=w.output
theorem push_alloc (w:World) (ob:Obj):Push w (w.alloc ob) ob:=⟨rfl,rfl,rfl⟩
theorem Push.lt {w w':World} {ob:Obj} (h:Push w w' ob) {b:Nat} (hb:b<w.heap.size):w'.heap[b]? = w.heap[b]? := by rw[h.heap,Array.getElem?_push_lt hb,Array.getElem?_eq_getElem hb]
theorem Push.new {w w':World} {ob:Obj} (h:Push w w' ob):w'.heap[w.heap.size]? = some ob:=by rw[h.heap,Array.getElem?_push_size]
theorem cell_of_block {w w':World} {b:Nat} (h:w'.heap[b]? = w.heap[b]?) (o:Nat):w'.cell? ⟨b,o,none⟩=w.cell? ⟨b,o,none⟩:=by simp[World.cell?,h]
def Cx.fresh (x:Cx) (w':World) (nid k:Nat) (F:Nat→Prop) (b:DB):Cx :=
 ⟨w',fun i=>if i=nid then x.w.heap.size else x.μ i,fun i=>if i=nid then k else x.κ i,fun c o=>x.Fz c o∨(c=x.w.heap.size∧F o),setS x.S nid b⟩
theorem mono_fresh {nid k:Nat} {F:Nat→Prop} {ob:Obj} {b:DB} (hR:Rel x) (hn:Nid x.S nid) (hp:Push x.w w' ob):Mono x (x.fresh w' nid k F b) where
 size:=by show _≤w'.heap.size; rw[hp.heap]; simp
 env:=hp.env
 fz:=fun c o h=>⟨.inl h,cell_of_block (hp.lt (hR.fz_lt h)) o⟩
 nfz:=fun c o h=>by
  rcases h with h | h
  ·exact .inl h
  ·exact .inr (.inl (by omega))
 old:=fun c hc _=>hp.lt hc
 len:=setS_len b
 cells:=fun id l hl=>by
  have hne:=hn.ne hl (by simp)
  exact⟨if_neg hne,l,by show (setS _ _ _)[_]? = _; rw[setS_get hn.le,if_neg hne]; exact hl⟩
 objs:=fun id c hl hc=>by
  have hne:=hn.ne hl (obj_live hc)
  exact⟨if_neg hne,⟨c,by show (setS _ _ _)[_]? = _; rw[setS_get hn.le,if_neg hne]; exact hl,like_refl hc⟩,fun _=>by
   obtain⟨o,h1,-⟩:=hR.objs id c hl hc
   exact hp.lt (heap_lt h1)⟩
 tails:=fun t e s n ht=>by
  have hne:=hn.ne ht (by simp)
  exact⟨n,by show (setS _ _ _)[_]? = _; rw[setS_get hn.le,if_neg hne]; exact ht,Nat.le_refl _,fun _=>⟨if_neg hne,if_neg hne⟩⟩
 live:=fun i hi=>by
  by_cases h:i=nid
  ·subst h; right; show _≤(if _ then _ else _); rw[if_pos rfl]; exact Nat.le_refl _
  ·left
   obtain⟨c,hc,hne⟩:=hi
   have hc:(setS x.S nid b)[i]? = some c:=hc
   rw[setS_get hn.le,if_neg h] at hc
   exact⟨⟨c,hc,hne⟩,if_neg h⟩
theorem rel_fresh {nid k:Nat} {F:Nat→Prop} {ob:Obj} {b:DB} (hR:Rel x) (hn:Nid x.S nid) (hp:Push x.w w' ob)
  (hF:∀ o,F o→∃ v,w'.cell? ⟨x.w.heap.size,o,none⟩=some v)
  (hb:(∃ l arr e,b = .cells l∧ob = .cells arr e (0,0)∧arr.size=l.length∧(∀ o,¬ F o)∧∀ j c,l[j]? = some c→RV x c (arr.getD j undef)) ∨
   (∃ e s n arr,b = .tail e s n∧ob = .cells arr e (0,0)∧arr.size=k*s∧n≤arr.size∧k≤maxLen∧∀ o,F o→o<n)∨(b.isObj=true∧(∀ o,¬ F o)∧ObjOK (x.fresh w' nid k F b) b ob)) :
  Rel (x.fresh w' nid k F b):=by
 have M:=mono_fresh (k:=k) (F:=F) (b:=b) hR hn hp
 have hget:∀ i,(x.fresh w' nid k F b).S[i]? = if i=nid then some b else x.S[i]? := fun i=>setS_get hn.le b i
 have hμ:∀ i,i≠nid→(x.fresh w' nid k F b).μ i=x.μ i:=fun i h=>if_neg h
 have hκ:∀ i,i≠nid→(x.fresh w' nid k F b).κ i=x.κ i:=fun i h=>if_neg h
 have hμn:(x.fresh w' nid k F b).μ nid=x.w.heap.size:=if_pos rfl
 have hκn:(x.fresh w' nid k F b).κ nid=k:=if_pos rfl
 have hliv:∀ i,i≠nid→Live (x.fresh w' nid k F b).S i→Live x.S i:=by
  rintro i h ⟨c,hc,hne⟩
  rw[hget,if_neg h] at hc
  exact⟨c,hc,hne⟩
 constructor
 ·intro id l hl
  rw[hget] at hl
  by_cases h:id=nid
  ·subst h
   rw[if_pos rfl] at hl
   cases hl
   rcases hb with ⟨l',arr,e,h1,rfl,h3,h4,h5⟩ | ⟨e,s,n,arr,h1,-⟩ | ⟨h1,-⟩
   ·cases h1
    rw[hμn]
    exact⟨arr,e,hp.new,h3,fun j c hc=>(h5 j c hc).mono M⟩
   all_goals cases h1
  ·rw[if_neg h] at hl
   obtain⟨arr,e,h1,h2,h3⟩:=hR.cells id l hl
   rw[hμ id h]
   exact⟨arr,e,(hp.lt (heap_lt h1)).trans h1,h2,fun j c hc=>(h3 j c hc).mono M⟩
 ·intro id e s n hl
  rw[hget] at hl
  by_cases h:id=nid
  ·subst h
   rw[if_pos rfl] at hl
   cases hl
   rcases hb with ⟨l',arr,e',h1,-⟩ | ⟨e',s',n',arr,h1,rfl,h3,h4,h5,-⟩ | ⟨h1,-⟩
   ·cases h1
   ·cases h1
    rw[hμn,hκn]
    exact⟨arr,hp.new,h3,h4,h5⟩
   all_goals cases h1
  ·rw[if_neg h] at hl
   obtain⟨arr,h1,h2⟩:=hR.tails id e s n hl
   rw[hμ id h,hκ id h]
   exact⟨arr,(hp.lt (heap_lt h1)).trans h1,h2⟩
 ·intro id c hl hc
  rw[hget] at hl
  by_cases h:id=nid
  ·subst h
   rw[if_pos rfl] at hl
   cases hl
   rcases hb with ⟨l',arr,e,h1,-⟩ | ⟨e',s',n',arr,h1,-⟩ | ⟨-,-,h1⟩
   ·subst h1; cases hc
   ·subst h1; cases hc
   ·rw[hμn]
    exact⟨ob,hp.new,h1⟩
  ·rw[if_neg h] at hl
   obtain⟨o,h1,h2⟩:=hR.objs id c hl hc
   rw[hμ id h]
   exact⟨o,(hp.lt (heap_lt h1)).trans h1,h2.mono M⟩
 ·intro i j hi hj he
  by_cases h1:i=nid
  ·by_cases h2:j=nid
   ·rw[h1,h2]
   ·rw[h1,hμn,hμ j h2] at he
    have:=hR.live_lt (hliv j h2 hj)
    omega
  ·by_cases h2:j=nid
   ·rw[h2,hμn,hμ i h1] at he
    have:=hR.live_lt (hliv i h1 hi)
    omega
   ·rw[hμ i h1,hμ j h2] at he
    exact hR.inj i j (hliv i h1 hi) (hliv j h2 hj) he
 ·intro c o h
  rcases h with h | ⟨rfl,h⟩
  ·obtain⟨v,hv⟩:=hR.frz c o h
   exact⟨v,(M.fz c o h).2.trans hv⟩
  ·exact hF o h
 ·rintro id ⟨l,hl⟩ o ho
  rw[hget] at hl
  by_cases h:id=nid
  ·subst h
   rw[if_pos rfl] at hl
   cases hl
   rcases hb with ⟨l',arr,e,h1,-,-,h4,-⟩ | ⟨e',s',n',arr,h1,-⟩ | ⟨h1,-⟩
   ·rw[hμn] at ho
    rcases ho with ho | ⟨-,ho⟩
    ·have:=hR.fz_lt ho; omega
    ·exact h4 o ho
   all_goals cases h1
  ·rw[if_neg h] at hl
   rw[hμ id h] at ho
   rcases ho with ho | ⟨ho,-⟩
   ·exact hR.sep id ⟨l,hl⟩ o ho
   ·have:=hR.live_lt (live_of hl (by simp)); omega
 ·intro id e s n hl o ho
  rw[hget] at hl
  by_cases h:id=nid
  ·subst h
   rw[if_pos rfl] at hl
   cases hl
   rcases hb with ⟨l',arr,e',h1,-⟩ | ⟨e',s',n',arr,h1,-,-,-,-,h6⟩ | ⟨h1,-⟩
   ·cases h1
   ·cases h1
    rw[hμn] at ho
    rcases ho with ho | ⟨-,ho⟩
    ·have:=hR.fz_lt ho; omega
    ·exact h6 o ho
   all_goals cases h1
  ·rw[if_neg h] at hl
   rw[hμ id h] at ho
   rcases ho with ho | ⟨ho,-⟩
   ·exact hR.sept id e s n hl o ho
   ·have:=hR.live_lt (live_of hl (by simp)); omega
end Go.Di
end
section
namespace Go.Di
open Go
variable {P:Program} {ty:Tys} {x:Cx} {w':World}
def Cx.froze (x:Cx) (w':World) (F:Nat→Prop):Cx:=⟨w',x.μ,x.κ,fun c o=>x.Fz c o∨(c=x.w.heap.size∧F o),x.S⟩
theorem mono_froze {F:Nat→Prop} {ob:Obj} (hR:Rel x) (hp:Push x.w w' ob):Mono x (x.froze w' F) where
 size:=by show _≤w'.heap.size; rw[hp.heap]; simp
 env:=hp.env
 fz:=fun c o h=>⟨.inl h,cell_of_block (hp.lt (hR.fz_lt h)) o⟩
 nfz:=fun c o h=>by
  rcases h with h | h
  ·exact .inl h
  ·exact .inr (.inl (by omega))
 old:=fun c hc _=>hp.lt hc
 len:=Nat.le_refl _
 cells:=fun id l hl=>⟨rfl,l,hl⟩
 objs:=fun id c hl hc=>⟨rfl,⟨c,hl,like_refl hc⟩,fun _=>by
  obtain⟨o,h1,-⟩:=hR.objs id c hl hc
  exact hp.lt (heap_lt h1)⟩
 tails:=fun t e s n ht=>⟨n,ht,Nat.le_refl _,fun _=>⟨rfl,rfl⟩⟩
 live:=fun i hi => .inl ⟨hi,rfl⟩
theorem rel_froze {F:Nat→Prop} {ob:Obj} (hR:Rel x) (hp:Push x.w w' ob) (hF:∀ o,F o→∃ v,w'.cell? ⟨x.w.heap.size,o,none⟩=some v):Rel (x.froze w' F) where
 cells:=fun id l hl=>by
  obtain⟨arr,e,h1,h2,h3⟩:=hR.cells id l hl
  exact⟨arr,e,(hp.lt (heap_lt h1)).trans h1,h2,fun j c hc=>(h3 j c hc).mono (mono_froze hR hp)⟩
 tails:=fun id e s n hl=>by
  obtain⟨arr,h1,h2⟩:=hR.tails id e s n hl
  exact⟨arr,(hp.lt (heap_lt h1)).trans h1,h2⟩
 objs:=fun id c hl hc=>by
  obtain⟨o,h1,h2⟩:=hR.objs id c hl hc
  exact⟨o,(hp.lt (heap_lt h1)).trans h1,h2.mono (mono_froze hR hp)⟩
 inj:=hR.inj
 frz:=fun c o h=>by
  rcases h with h | ⟨rfl,h⟩
  ·obtain⟨v,hv⟩:=hR.frz c o h
   exact⟨v,(cell_of_block (hp.lt (hR.fz_lt h)) o).trans hv⟩
  ·exact hF o h
 sep:=fun id ⟨l,hl⟩ o ho=>by
  rcases ho with ho | ⟨ho,-⟩
  ·exact hR.sep id ⟨l,hl⟩ o ho
  ·have:x.μ id<x.w.heap.size:=hR.live_lt (live_of hl (by simp))
   have ho:x.μ id=x.w.heap.size:=ho
   omega
 sept:=fun id e s n hl o ho=>by
  rcases ho with ho | ⟨ho,-⟩
  ·exact hR.sept id e s n hl o ho
  ·have:x.μ id<x.w.heap.size:=hR.live_lt (live_of hl (by simp))
   have ho:x.μ id=x.w.heap.size:=ho
   omega
def Cx.upd (x:Cx) (id:Nat) (arr:Array Value) (F:Nat→Prop) (b:DB):Cx:=⟨x.w.setRow (x.μ id) arr,x.μ,x.κ,fun c o=>x.Fz c o∨(c=x.μ id∧F o),x.S.set id b⟩
theorem set_get {S:Store} {id:Nat} {b0:DB} (h:S[id]? = some b0) (b:DB) (j:Nat):(S.set id b)[j]? = if j=id then some b else S[j]? := by
 have hlt:=(List.getElem?_eq_some_iff.1 h).1
 rw[List.getElem?_set]
 by_cases h1:j=id
 ·subst h1; simp[hlt]
 ·rw[if_neg (Ne.symm h1),if_neg h1]
theorem mono_upd {id:Nat} {arr:Array Value} {F:Nat→Prop} {b0 b:DB} (hR:Rel x) (h0:x.S[id]? = some b0)
  (hb:(∃ l l',b0 = .cells l∧b = .cells l')∨(∃ e s n n',b0 = .tail e s n∧b = .tail e s n'∧n≤n'∧∀ o,o<n→(x.w.setRow (x.μ id) arr).cell? ⟨x.μ id,o,none⟩=x.w.cell? ⟨x.μ id,o,none⟩)):Mono x (x.upd id arr F b):=by
 have hne0:b0 ≠ .none:=by rcases hb with ⟨l,l',rfl,-⟩ | ⟨e,s,n,n',rfl,-⟩<;>simp
 have hne:b ≠ .none:=by rcases hb with ⟨l,l',-,rfl⟩ | ⟨e,s,n,n',-,rfl,-⟩<;>simp
 have hget:∀ j,(x.upd id arr F b).S[j]? = if j=id then some b else x.S[j]? := fun j=>set_get h0 b j
 refine⟨by show _≤(x.w.setRow _ _).heap.size; rw[setRow_size]; exact Nat.le_refl _,⟨rfl,rfl⟩,fun c o h=>⟨.inl h,?_⟩,fun c o h => ?_,fun c hc hn => ?_,by show _≤(x.S.set _ _).length; simp,fun i l hl=>⟨rfl,?_⟩,fun i c hl hc=>⟨rfl,?_,?_⟩,fun t e s n ht => ?_,fun i hi => .inl ⟨?_,rfl⟩⟩
 ·show (x.w.setRow _ _).cell? _=_
  by_cases hc:c=x.μ id
  ·subst hc
   rcases hb with ⟨l,l',rfl,-⟩ | ⟨e,s,n,n',rfl,-,-,hk⟩
   ·exact absurd h (hR.sep id ⟨l,h0⟩ o)
   ·exact hk o (hR.sept id e s n h0 o h)
  ·exact cell_setRow_other _ _ _ _ hc
 ·rcases h with h | ⟨rfl,-⟩
  ·exact .inl h
  ·exact .inr (.inr ⟨id,live_of h0 hne0,rfl⟩)
 ·exact setRow_other _ _ _ _ fun e=>hn id (live_of h0 hne0) e.symm
 ·rw[hget]
  split
  ·rename_i e
   subst e
   rw[h0] at hl
   cases hl
   rcases hb with ⟨l,l',-,rfl⟩ | ⟨e,s,n,n',h1,-⟩
   ·exact⟨l',rfl⟩
   ·cases h1
  ·exact⟨l,hl⟩
 ·rw[hget]
  split
  ·rename_i e
   subst e
   rw[h0] at hl
   cases hl
   rcases hb with ⟨l,l',h1,-⟩ | ⟨e,s,n,n',h1,-⟩<;>(subst h1; cases hc)
  ·exact⟨c,hl,like_refl hc⟩
 ·rintro rfl
  refine setRow_other _ _ _ _ fun e => ?_
  have:=hR.inj i id (live_of hl (by simp)) (live_of h0 hne0) e
  subst this
  rw[h0] at hl
  cases hl
  rcases hb with ⟨l,l',h1,-⟩ | ⟨e,s,n,n',h1,-⟩<;>cases h1
 ·by_cases e1:t=id
  ·subst e1
   rw[h0] at ht
   cases ht
   rcases hb with ⟨l,l',h1,-⟩ | ⟨e,s,n,n',h1,rfl,h3,-⟩
   ·cases h1
   ·cases h1
    exact⟨n',by rw[hget,if_pos rfl],h3,fun _=>⟨rfl,rfl⟩⟩
  ·exact⟨n,by rw[hget,if_neg e1]; exact ht,Nat.le_refl _,fun _=>⟨rfl,rfl⟩⟩
 ·obtain⟨c,hc,hcn⟩:=hi
  rw[hget] at hc
  split at hc
  ·rename_i e; subst e; exact live_of h0 hne0
  ·exact⟨c,hc,hcn⟩
theorem rel_upd {id:Nat} {arr:Array Value} {F:Nat→Prop} {b0 b:DB} (hR:Rel x) (h0:x.S[id]? = some b0)
  (hb:(∃ l l',b0 = .cells l∧b = .cells l'∧(∀ o,¬ F o)∧arr.size=l'.length∧∀ j c,l'[j]? = some c→RV x c (arr.getD j undef)) ∨
   (∃ e s n n',b0 = .tail e s n∧b = .tail e s n'∧n≤n'∧(∀ o,o<n→(x.w.setRow (x.μ id) arr).cell? ⟨x.μ id,o,none⟩=x.w.cell? ⟨x.μ id,o,none⟩)∧arr.size=x.κ id*s∧n'≤arr.size∧∀ o,F o→o<n')):Rel (x.upd id arr F b):=by
 have hb':(∃ l l',b0 = .cells l∧b = .cells l')∨(∃ e s n n',b0 = .tail e s n∧b = .tail e s n'∧n≤n'∧∀ o,o<n→(x.w.setRow (x.μ id) arr).cell? ⟨x.μ id,o,none⟩=x.w.cell? ⟨x.μ id,o,none⟩):=by
  rcases hb with ⟨l,l',h1,h2,-⟩ | ⟨e,s,n,n',h1,h2,h3,h4,-⟩
  ·exact .inl ⟨l,l',h1,h2⟩
  ·exact .inr ⟨e,s,n,n',h1,h2,h3,h4⟩
 have M:=mono_upd (F:=F) hR h0 hb'
 have hne0:b0 ≠ .none:=by rcases hb with ⟨l,l',rfl,-⟩ | ⟨e,s,n,n',rfl,-⟩<;>simp
 have hget:∀ j,(x.upd id arr F b).S[j]? = if j=id then some b else x.S[j]? := fun j=>set_get h0 b j
 have hold:∃ old e,x.w.heap[x.μ id]? = some (.cells old e (0,0))∧∀ e' s n,b0 = .tail e' s n→e=e'∧x.κ id≤maxLen:=by
  rcases hb with ⟨l,l',rfl,-⟩ | ⟨e,s,n,n',rfl,-⟩
  ·obtain⟨a,e,h1,-⟩:=hR.cells id l h0
   exact⟨a,e,h1,by simp⟩
  ·obtain⟨a,h1,-,-,h4⟩:=hR.tails id e s n h0
   exact⟨a,e,h1,fun e' s' n' h=>by cases h; exact⟨rfl,h4⟩⟩
 obtain⟨old,e0,hh,he0⟩:=hold
 have hnew:(x.w.setRow (x.μ id) arr).heap[x.μ id]? = some (.cells arr e0 (0,0)):=setRow_heap _ _ _ _ _ _ hh
 have hliv:∀ i,Live (x.upd id arr F b).S i→Live x.S i:=fun i hi=>by
  rcases M.live i hi with ⟨h,-⟩ | h
  ·exact h
  ·obtain⟨c,hc,hcn⟩:=hi
   rw[hget] at hc
   split at hc
   ·rename_i e; subst e; exact live_of h0 hne0
   ·exact⟨c,hc,hcn⟩
 have hoth:∀ i,i≠id→Live x.S i→(x.w.setRow (x.μ id) arr).heap[x.μ i]? = x.w.heap[x.μ i]? := fun i hi hl=>setRow_other _ _ _ _ fun e=>hi (hR.inj i id hl (live_of h0 hne0) e)
 constructor
 ·intro i l hl
  rw[hget] at hl
  by_cases h:i=id
  ·subst h
   rw[if_pos rfl] at hl
   cases hl
   rcases hb with ⟨l0,l',h1,h2,h3,h4,h5⟩ | ⟨e,s,n,n',h1,h2,-⟩
   ·cases h2
    exact⟨arr,e0,hnew,h4,fun j c hc=>(h5 j c hc).mono M⟩
   ·cases h2
  ·rw[if_neg h] at hl
   obtain⟨a,e,h1,h2,h3⟩:=hR.cells i l hl
   exact⟨a,e,(hoth i h (live_of hl (by simp))).trans h1,h2,fun j c hc=>(h3 j c hc).mono M⟩
 ·intro i e s n hl
  rw[hget] at hl
  by_cases h:i=id
  ·subst h
   rw[if_pos rfl] at hl
   cases hl
   rcases hb with ⟨l0,l',h1,h2,-⟩ | ⟨e',s',m,m',h1,h2,h3,h4,h5,h6,h7⟩
   ·cases h2
   ·cases h2
    obtain⟨k1,k2⟩:=he0 _ _ _ h1
    subst k1
    exact⟨arr,hnew,h5,h6,k2⟩
  ·rw[if_neg h] at hl
   obtain⟨a,h1,h2⟩:=hR.tails i e s n hl
   exact⟨a,(hoth i h (live_of hl (by simp))).trans h1,h2⟩
 ·intro i c hl hc
  rw[hget] at hl
  by_cases h:i=id
  ·subst h
   rw[if_pos rfl] at hl
   cases hl
   rcases hb with ⟨l0,l',h1,h2,-⟩ | ⟨e',s',m,m',h1,h2,-⟩<;>(subst h2; cases hc)
  ·rw[if_neg h] at hl
   obtain⟨o,h1,h2⟩:=hR.objs i c hl hc
   exact⟨o,(hoth i h (live_of hl (obj_live hc))).trans h1,h2.mono M⟩
 ·exact fun i j hi hj he=>hR.inj i j (hliv i hi) (hliv j hj) he
 ·intro c o h
  rcases h with h | ⟨rfl,h⟩
  ·obtain⟨v,hv⟩:=hR.frz c o h
   exact⟨v,(M.fz c o h).2.trans hv⟩
  ·rcases hb with ⟨l0,l',-,-,h3,-⟩ | ⟨e',s',m,m',-,-,-,-,h5,h6,h7⟩
   ·exact absurd h (h3 o)
   ·have:=h7 o h
    refine⟨arr[o]'(by omega),?_⟩
    show (x.w.setRow _ _).cell? _=_
    rw[cell_setRow_same _ _ _ _ _ _ _ hh]
    exact Array.getElem?_eq_getElem _
 ·rintro i ⟨l,hl⟩ o ho
  rw[hget] at hl
  by_cases h:i=id
  ·subst h
   rw[if_pos rfl] at hl
   cases hl
   rcases hb with ⟨l0,l',h1,h2,h3,-⟩ | ⟨e',s',m,m',h1,h2,-⟩
   ·subst h1
    rcases ho with ho | ⟨-,ho⟩
    ·exact hR.sep i ⟨l0,h0⟩ o ho
    ·exact h3 o ho
   ·cases h2
  ·rw[if_neg h] at hl
   rcases ho with ho | ⟨ho,-⟩
   ·exact hR.sep i ⟨l,hl⟩ o ho
   ·exact h (hR.inj i id (live_of hl (by simp)) (live_of h0 hne0) ho)
 ·intro i e s n hl o ho
  rw[hget] at hl
  by_cases h:i=id
  ·subst h
   rw[if_pos rfl] at hl
   cases hl
   rcases hb with ⟨l0,l',h1,h2,-⟩ | ⟨e',s',m,m',h1,h2,h3,-,-,-,h7⟩
   ·cases h2
   ·cases h2
    subst h1
    rcases ho with ho | ⟨-,ho⟩
    ·exact Nat.lt_of_lt_of_le (hR.sept i _ _ _ h0 o ho) h3
    ·exact h7 o ho
  ·rw[if_neg h] at hl
   rcases ho with ho | ⟨ho,-⟩
   ·exact hR.sept i e s n hl o ho
   ·exact(h (hR.inj i id (live_of hl (by simp)) (live_of h0 hne0) ho)).elim
def Cx.moved (x:Cx) (w':World) (t k:Nat) (F:Nat→Prop) (b:DB):Cx :=
 ⟨w',fun i=>if i=t then x.w.heap.size else x.μ i,fun i=>if i=t then k else x.κ i,fun c o=>x.Fz c o∨(c=x.w.heap.size∧F o),x.S.set t b⟩
theorem mono_moved {t k:Nat} {F:Nat→Prop} {ob:Obj} {e:TypeId} {s n n':Nat} (hR:Rel x) (h0:x.S[t]? = some (.tail e s n)) (hp:Push x.w w' ob) (hlt:n<n'):Mono x (x.moved w' t k F (.tail e s n')):=by
 have hget:∀ j,(x.moved w' t k F (.tail e s n')).S[j]? = if j=t then some (.tail e s n') else x.S[j]? := fun j=>set_get h0 _ j
 refine⟨by show _≤w'.heap.size; rw[hp.heap]; simp,hp.env,fun c o h=>⟨.inl h,cell_of_block (hp.lt (hR.fz_lt h)) o⟩,fun c o h => ?_,fun c hc _=>hp.lt hc,by show _≤(x.S.set _ _).length; simp,fun i l hl => ?_,fun i c hl hc => ?_,fun i e1 s1 n1 hl => ?_,fun i hi => ?_⟩
 ·rcases h with h | h
  ·exact .inl h
  ·exact .inr (.inl (by omega))
 ·have hne:i≠t:=by rintro rfl; rw[h0] at hl; cases hl
  exact⟨if_neg hne,l,by rw[hget,if_neg hne]; exact hl⟩
 ·have hne:i≠t:=by rintro rfl; rw[h0] at hl; cases hl; cases hc
  exact⟨if_neg hne,⟨c,by rw[hget,if_neg hne]; exact hl,like_refl hc⟩,fun _=>by
   obtain⟨o,h1,-⟩:=hR.objs i c hl hc
   exact hp.lt (heap_lt h1)⟩
 ·by_cases hne:i=t
  ·subst hne
   rw[h0] at hl
   cases hl
   exact⟨n',by rw[hget,if_pos rfl],by omega,fun h=>by omega⟩
  ·exact⟨n1,by rw[hget,if_neg hne]; exact hl,Nat.le_refl _,fun _=>⟨if_neg hne,if_neg hne⟩⟩
 ·by_cases hne:i=t
  ·right
   subst hne
   show _≤(if _ then _ else _)
   rw[if_pos rfl]
   exact Nat.le_refl _
  ·left
   obtain⟨c,hc,hcn⟩:=hi
   rw[hget,if_neg hne] at hc
   exact⟨⟨c,hc,hcn⟩,if_neg hne⟩
theorem rel_moved {t k:Nat} {F:Nat→Prop} {e:TypeId} {s n n':Nat} {arr:Array Value} (hR:Rel x) (h0:x.S[t]? = some (.tail e s n)) (hp:Push x.w w' (.cells arr e (0,0))) (hlt:n<n')
  (hs:arr.size=k*s) (hn:n'≤arr.size) (hk:k≤maxLen) (hF:∀ o,F o→o<n'):Rel (x.moved w' t k F (.tail e s n')):=by
 have M:=mono_moved (k:=k) (F:=F) hR h0 hp hlt
 have hget:∀ j,(x.moved w' t k F (.tail e s n')).S[j]? = if j=t then some (.tail e s n') else x.S[j]? := fun j=>set_get h0 _ j
 have hμ:∀ i,i≠t→(x.moved w' t k F (.tail e s n')).μ i=x.μ i:=fun i h=>if_neg h
 have hκ:∀ i,i≠t→(x.moved w' t k F (.tail e s n')).κ i=x.κ i:=fun i h=>if_neg h
 have hμn:(x.moved w' t k F (.tail e s n')).μ t=x.w.heap.size:=if_pos rfl
 have hκn:(x.moved w' t k F (.tail e s n')).κ t=k:=if_pos rfl
 have hliv:∀ i,Live (x.moved w' t k F (.tail e s n')).S i→Live x.S i:=by
  rintro i ⟨c,hc,hcn⟩
  rw[hget] at hc
  split at hc
  ·rename_i h; subst h; exact live_of h0 (by simp)
  ·exact⟨c,hc,hcn⟩
 constructor
 ·intro i l hl
  rw[hget] at hl
  by_cases h:i=t
  ·rw[if_pos h] at hl; cases hl
  ·rw[if_neg h] at hl
   obtain⟨a,e,h1,h2,h3⟩:=hR.cells i l hl
   rw[hμ i h]
   exact⟨a,e,(hp.lt (heap_lt h1)).trans h1,h2,fun j c hc=>(h3 j c hc).mono M⟩
 ·intro i e1 s1 n1 hl
  rw[hget] at hl
  by_cases h:i=t
  ·subst h
   rw[if_pos rfl] at hl
   cases hl
   rw[hμn,hκn]
   exact⟨arr,hp.new,hs,hn,hk⟩
  ·rw[if_neg h] at hl
   obtain⟨a,h1,h2⟩:=hR.tails i e1 s1 n1 hl
   rw[hμ i h,hκ i h]
   exact⟨a,(hp.lt (heap_lt h1)).trans h1,h2⟩
 ·intro i c hl hc
  rw[hget] at hl
  by_cases h:i=t
  ·rw[if_pos h] at hl; cases hl; cases hc
  ·rw[if_neg h] at hl
   obtain⟨o,h1,h2⟩:=hR.objs i c hl hc
   rw[hμ i h]
   exact⟨o,(hp.lt (heap_lt h1)).trans h1,h2.mono M⟩
 ·intro i j hi hj he
  by_cases h1:i=t
  ·by_cases h2:j=t
   ·rw[h1,h2]
   ·rw[h1,hμn,hμ j h2] at he
    have:=hR.live_lt (hliv j hj)
    omega
  ·by_cases h2:j=t
   ·rw[h2,hμn,hμ i h1] at he
    have:=hR.live_lt (hliv i hi)
    omega
   ·rw[hμ i h1,hμ j h2] at he
    exact hR.inj i j (hliv i hi) (hliv j hj) he
 ·intro c o h
  rcases h with h | ⟨rfl,h⟩
  ·obtain⟨v,hv⟩:=hR.frz c o h
   exact⟨v,(M.fz c o h).2.trans hv⟩
  ·have:=hF o h
   refine⟨arr[o]'(by omega),?_⟩
   show w'.cell? _=_
   simp only[World.cell?,hp.new]
   exact Array.getElem?_eq_getElem _
 ·rintro i ⟨l,hl⟩ o ho
  rw[hget] at hl
  by_cases h:i=t
  ·rw[if_pos h] at hl; cases hl
  ·rw[if_neg h] at hl
   rw[hμ i h] at ho
   rcases ho with ho | ⟨ho,-⟩
   ·exact hR.sep i ⟨l,hl⟩ o ho
   ·have:=hR.live_lt (live_of hl (by simp)); omega
 ·intro i e1 s1 n1 hl o ho
  rw[hget] at hl
  by_cases h:i=t
  ·subst h
   rw[if_pos rfl] at hl
   cases hl
   rw[hμn] at ho
   rcases ho with ho | ⟨-,ho⟩
   ·have:=hR.fz_lt ho; omega
   ·exact hF o ho
  ·rw[if_neg h] at hl
   rw[hμ i h] at ho
   rcases ho with ho | ⟨ho,-⟩
   ·exact hR.sept i e1 s1 n1 hl o ho
   ·have:=hR.live_lt (live_of hl (by simp)); omega
def setObjW (w:World) (r:Nat) (o:Obj):World:={ w with heap:=w.heap.setIfInBounds r o }
theorem setObjW_other (w:World) (r:Nat) (o:Obj) {b:Nat} (h:b≠r):(setObjW w r o).heap[b]? = w.heap[b]? := by
 simp[setObjW,Ne.symm h]
theorem setObjW_same (w:World) (r:Nat) (o o0:Obj) (h:w.heap[r]? = some o0):(setObjW w r o).heap[r]? = some o:=by
 have:=heap_lt h
 simp[setObjW,this]
theorem not_cells {b:DB} {o:Obj} (hb:b.isObj=true) (h:ObjOK x b o):∀ arr e fr,o ≠ .cells arr e fr:=by
 rintro arr e fr rfl
 cases b<;>simp_all [DB.isObj,ObjOK]
theorem Rel.fz_obj (hR:Rel x) {id:Nat} {b:DB} (h0:x.S[id]? = some b) (hb:b.isObj=true) (o:Nat):¬ x.Fz (x.μ id) o:=by
 intro hf
 obtain⟨ob,h1,h2⟩:=hR.objs id b h0 hb
 obtain⟨v,hv⟩:=hR.frz _ _ hf
 have:=not_cells hb h2
 unfold World.cell? at hv
 simp only[h1] at hv
 cases ob<;>first | (exact this _ _ _ rfl) | simp at hv
def Cx.updo (x:Cx) (id:Nat) (o:Obj) (b:DB):Cx:=⟨setObjW x.w (x.μ id) o,x.μ,x.κ,x.Fz,x.S.set id b⟩
theorem mono_updo {id:Nat} {o:Obj} {b0 b:DB} (hR:Rel x) (h0:x.S[id]? = some b0) (hl:b0.like b) (hd:b0 ≠ .defer):Mono x (x.updo id o b):=by
 have hb0:=(like_obj hl).1
 have hget:∀ j,(x.updo id o b).S[j]? = if j=id then some b else x.S[j]? := fun j=>set_get h0 b j
 refine⟨by show _≤(setObjW _ _ _).heap.size; simp[setObjW],⟨rfl,rfl⟩,fun c p h=>⟨h,cell_of_block (setObjW_other _ _ _ ?_) p⟩,fun c p h => .inl h,fun c hc hn=>setObjW_other _ _ _ fun e=>hn id (live_of h0 (obj_live hb0)) e.symm,by show _≤(x.S.set _ _).length; simp,fun i l hl'=>⟨rfl,l,?_⟩,fun i c hl' hc=>⟨rfl,?_,fun hd' => ?_⟩,fun t e s n ht=>⟨n,?_,Nat.le_refl _,fun _=>⟨rfl,rfl⟩⟩,fun i hi => .inl ⟨?_,rfl⟩⟩
 ·rintro rfl
  exact hR.fz_obj h0 hb0 p h
 ·rw[hget,if_neg (by rintro rfl; rw[h0] at hl'; cases hl'; cases hb0)]
  exact hl'
 ·rw[hget]
  split
  ·rename_i e
   subst e
   rw[h0] at hl'
   cases hl'
   exact⟨b,rfl,hl⟩
  ·exact⟨c,hl',like_refl hc⟩
 ·subst hd'
  refine setObjW_other _ _ _ fun e => ?_
  have:=hR.inj i id (live_of hl' (by simp)) (live_of h0 (obj_live hb0)) e
  subst this
  rw[h0] at hl'
  cases hl'
  exact hd rfl
 ·rw[hget,if_neg (by rintro rfl; rw[h0] at ht; cases ht; cases hb0)]
  exact ht
 ·obtain⟨c,hc,hcn⟩:=hi
  rw[hget] at hc
  split at hc
  ·rename_i e; subst e; exact live_of h0 (obj_live hb0)
  ·exact⟨c,hc,hcn⟩
theorem rel_updo {id:Nat} {o:Obj} {b0 b:DB} (hR:Rel x) (h0:x.S[id]? = some b0) (hl:b0.like b) (hd:b0 ≠ .defer) (ho:ObjOK (x.updo id o b) b o):Rel (x.updo id o b):=by
 have M:=mono_updo (o:=o) hR h0 hl hd
 have hb0:=(like_obj hl).1
 have hb:=(like_obj hl).2
 have hget:∀ j,(x.updo id o b).S[j]? = if j=id then some b else x.S[j]? := fun j=>set_get h0 b j
 obtain⟨ob,hob,-⟩:=hR.objs id b0 h0 hb0
 have hliv:∀ i,Live (x.updo id o b).S i→Live x.S i:=fun i ⟨c,hc,hcn⟩=>by
  rw[hget] at hc
  split at hc
  ·rename_i e; subst e; exact live_of h0 (obj_live hb0)
  ·exact⟨c,hc,hcn⟩
 have hoth:∀ i,i≠id→Live x.S i→(setObjW x.w (x.μ id) o).heap[x.μ i]? = x.w.heap[x.μ i]? := fun i hi hli=>setObjW_other _ _ _ fun e=>hi (hR.inj i id hli (live_of h0 (obj_live hb0)) e)
 constructor
 ·intro i l hl'
  rw[hget] at hl'
  by_cases h:i=id
  ·rw[if_pos h] at hl'; cases hl'; cases hb
  ·rw[if_neg h] at hl'
   obtain⟨a,e,h1,h2,h3⟩:=hR.cells i l hl'
   exact⟨a,e,(hoth i h (live_of hl' (by simp))).trans h1,h2,fun j c hc=>(h3 j c hc).mono M⟩
 ·intro i e s n hl'
  rw[hget] at hl'
  by_cases h:i=id
  ·rw[if_pos h] at hl'; cases hl'; cases hb
  ·rw[if_neg h] at hl'
   obtain⟨a,h1,h2⟩:=hR.tails i e s n hl'
   exact⟨a,(hoth i h (live_of hl' (by simp))).trans h1,h2⟩
 ·intro i c hl' hc
  rw[hget] at hl'
  by_cases h:i=id
  ·subst h
   rw[if_pos rfl] at hl'
   cases hl'
   exact⟨o,setObjW_same _ _ _ _ hob,ho⟩
  ·rw[if_neg h] at hl'
   obtain⟨o',h1,h2⟩:=hR.objs i c hl' hc
   exact⟨o',(hoth i h (live_of hl' (obj_live hc))).trans h1,h2.mono M⟩
 ·exact fun i j hi hj he=>hR.inj i j (hliv i hi) (hliv j hj) he
 ·intro c p h
  obtain⟨v,hv⟩:=hR.frz c p h
  exact⟨v,(M.fz c p h).2.trans hv⟩
 ·rintro i ⟨l,hl'⟩ p hp
  rw[hget] at hl'
  by_cases h:i=id
  ·rw[if_pos h] at hl'; cases hl'; cases hb
  ·rw[if_neg h] at hl'
   exact hR.sep i ⟨l,hl'⟩ p hp
 ·intro i e s n hl' p hp
  rw[hget] at hl'
  by_cases h:i=id
  ·rw[if_pos h] at hl'; cases hl'; cases hb
  ·rw[if_neg h] at hl'
   exact hR.sept i e s n hl' p hp
theorem run_setObj {r:Nat} {o o0:Obj} {w:World} (h:w.heap[r]? = some o0) (hn:∀ arr e fr,o0 ≠ .cells arr e fr):(setObj r o).run P w = .ok () (setObjW w r o):=by
 simp only[setObj,Sem.run,h]
 cases o0<;>first | rfl | exact absurd rfl (hn _ _ _)
theorem run_getObj {r:Nat} {o0:Obj} {w:World} (h:w.heap[r]? = some o0) (hn:∀ arr e fr,o0 ≠ .cells arr e fr):(getObj r).run P w = .ok o0 w:=by
 unfold getObj Sem.run
 rw[h]
 cases o0<;>first | rfl | exact absurd rfl (hn _ _ _)
end Go.Di
end
