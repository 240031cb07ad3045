import Derived.Test.YtadeehilamokkaaGreatDoorPk01
import Derived.Laws.AppendOwn
import Derived.Conc.Machine
namespace Go.Di
open Go
structure Cx where
 w:World
 μ:Nat->Nat
 κ:Nat->Nat
 Fz:Nat->Nat->Prop
 S:aj
def Live(S:aj)(i:Nat):Prop:=∃b,S[i]? =some b/\b≠.none
def View(x:Cx)(rows:cj)(A:Option Addr)(s:Nat)(vs:Nat->Value):Prop:=
 (∀r∈rows,r.cells.length=s)/\∀j c,(flat rows)[j]? =some c->c.bS=true/\∃b o,A=some ⟨b,o,none⟩/\x.Fz b (o+j)/\x.w.cell? ⟨b,o+j,none⟩=some (vs j)
def abP(x:Cx)(tok:Option Nat)(rows:cj)(A:Option Addr)(cap:Nat):Prop:=
 ∀t,tok=some t->∃e s n,x.S[t]? =some (.tail e s n)/\rows.length*s<=n/\(∀r∈rows,r.cells.length=s)/\(rows.length*s=n->A=some ⟨x.μ t,0,none⟩/\cap=x.κ t)
def UZ(f:SF)(A:Option Addr):Prop:=∀b,f.isNil=some b->A.isNone=b
inductive RV (x:Cx):DV->Value->Prop
 |val {v:Value}:zP v=true->RV x (.val v) v
 |agg {l:cj} {vs:Array Value}:vs.size=l.length->(∀j c,l[j]? =some c->RV x c (vs.getD j undef))->RV x (.agg l) (.agg vs)
 |tup {l:cj} {vs:Array Value}:vs.size=l.length->(∀j c,l[j]? =some c->RV x c (vs.getD j undef))->RV x (.tup l) (.tuple vs)
 |sl {rows:cj} {tok:Option Nat} {full:SF} {A:Option Addr} {cap s:Nat} {vs:Nat->Value}:View x rows A s vs->(∀j c,(flat rows)[j]? =some c->RV x c (vs j))->rows.length<=cap->((full.full=true->cap=rows.length)/\UZ full A)->(A=none->cap=0)->(∀ad,A=some ad->0<cap->ad.spot=none)->abP x tok rows A cap->
  RV x (.sl rows tok full) (.slice A rows.length cap)
 |ptr {id off:Nat} {l:cj}:x.S[id]? =some (.cells l)->RV x (.ptr id off) (.pointer (some ⟨x.μ id,off,none⟩))
 |eU {rows:cj} {i off b o s:Nat} {vs:Nat->Value}:View x rows (some ⟨b,o,none⟩) s vs->(∀j c,(flat rows)[j]? =some c->RV x c (vs j))->RV x (.eU rows i off) (.pointer (some ⟨b,o+(i*s+off),none⟩))
 |fn {f:FuncId} {first captured:cj} {fs cs:Array Value}:fs.size=first.length->cs.size=captured.length->(∀j c,first[j]? =some c->RV x c (fs.getD j undef))->(∀j c,captured[j]? =some c->RV x c (cs.getD j undef))->RV x (.fn f first captured) (.func (.func f) fs cs)
 |map {id:Nat} {es:List (Value×Value)}:x.S[id]? =some (.map es)->RV x (.map id) (.map (some (x.μ id)))
 |nj {id:Nat} {r:F2}:x.S[id]? =some (.loop r)->RV x (.nj id) (.func (.yield (x.μ id)) #[] #[])
 |jl {id n:Nat} {agg:Bool} {e:TypeId} {s:Nat} {l:cj} {z:Bool} {A:Option Addr} {cap:Nat}:x.S[id]? =some (.op e s l z)->n*s<=l.length->(n*s=l.length->A=some ⟨x.μ id,0,none⟩/\cap=x.κ id)->RV x (.jl id n agg) (.slice A n cap)
 |fS {id n off:Nat} {e:TypeId} {s:Nat} {l:cj} {z:Bool} {A:Option Addr}:x.S[id]? =some (.op e s l z)->n*s<=l.length->(n*s=l.length->A=some ⟨x.μ id,off,none⟩)->RV x (.fS id n off) (.pointer A)
def fZ(x:Cx)(l:cj)(arr:Array Value):Prop:=arr.size=l.length/\∀j c,l[j]? =some c->RV x c (arr.getD j undef)
def DB.isObj:DB->Bool
 |.map _|.defer|.loop _=>true
 |_=>false
def tD(x:Cx):DB->Obj->Prop
 |.map es,.map C0 _=>C0.toList.map (λe=>(e.key,e.val))=es
 |.defer,.deferred _=>True
 |.loop r,.loop l=>l.state=r.st/\l.pending=r.jO/\l.fn=r.fn/\fZ x r.env l.tmps/\l.params=r.params.toArray/\l.assign=r.assign/\l.body=r.body/\l.defers=x.μ r.AW/\x.S[r.AW]? =some .defer
 |_,_=>False
def DB.like:DB->DB->Prop
 |.map _,.map _=>True
 |.defer,.defer=>True
 |.loop r,.loop r'=>r'={r with st:=r'.st,jO:=r'.jO}
 |_,_=>False
theorem dG:∀{b:DB},b.isObj=true->b.like b
 |.map _,_=>trivial
 |.defer,_=>trivial
 |.loop _,_=>rfl
 |.none,h=>ao
 |.cells _,h=>ao
 |.tail ..,h=>ao
 |.op ..,h=>ao
theorem tX:∀{b c:DB},b.like c->b.isObj=true/\c.isObj=true
 |.map _,.map _,_=>⟨rfl,rfl⟩
 |.defer,.defer,_=>⟨rfl,rfl⟩
 |.loop _,.loop _,_=>⟨rfl,rfl⟩
theorem NR:∀{a b c:DB},a.like b->b.like c->a.like c
 |.map _,.map _,.map _,_,_=>trivial
 |.defer,.defer,.defer,_,_=>trivial
 |.loop r,.loop r',.loop r'',h,k=>by simp only[DB.like]at h k⊢;rw[k,h]
theorem eT{b:DB}(h:b.isObj=true):b≠.none:=by rintro rfl;cases h
def Ug:Value:=.iface 196 (.agg #[.pointer (some ⟨4,91,none⟩)])
def Zo(x:Cx):Prop:=(x.Fz 0 0/\x.w.cell? ⟨0,0,none⟩=some Ug)/\x.Fz 1 0/\∃m,x.w.cell? ⟨1,0,none⟩=some (.int .i64 m)
theorem Zo.keep {x y:Cx}(h:Zo x)(hF:∀b o,x.Fz b o->y.Fz b o/\y.w.cell? ⟨b,o,none⟩=x.w.cell? ⟨b,o,none⟩):Zo y:=
 ⟨⟨(hF _ _ h.1.1).1,(hF _ _ h.1.1).2.trans h.1.2⟩,(hF _ _ h.2.1).1,h.2.2.imp λ_ hm=>(hF _ _ h.2.1).2.trans hm⟩
structure Rel (x:Cx):Prop where
 cells:∀id l,x.S[id]? =some (.cells l)->∃arr e,x.w.heap[x.μ id]? =some (.cells arr e (0,0))/\arr.size=l.length/\∀j c,l[j]? =some c->RV x c (arr.getD j undef)
 cQ:∀id e s n,x.S[id]? =some (.tail e s n)->∃arr,x.w.heap[x.μ id]? =some (.cells arr e (0,0))/\arr.size=x.κ id*s/\n<=arr.size/\x.κ id<=maxLen
 dn:∀id b,x.S[id]? =some b->b.isObj=true->∃o,x.w.heap[x.μ id]? =some o/\tD x b o
 inj:∀i j,Live x.S i->Live x.S j->x.μ i=x.μ j->i=j
 wo:∀b o,x.Fz b o->∃v,x.w.cell? ⟨b,o,none⟩=some v
 sep:∀id,(∃l,x.S[id]? =some (.cells l))->∀o,¬x.Fz (x.μ id) o
 mQ:∀id e s n,x.S[id]? =some (.tail e s n)->∀o,x.Fz (x.μ id) o->o<n
 ops:∀id e s l z,x.S[id]? =some (.op e s l z)->∃arr,x.w.heap[x.μ id]? =some (.cells arr e (0,0))/\arr.size=x.κ id*s/\l.length<=arr.size/\x.κ id<=maxLen/\(∀j c,l[j]? =some c->c.bS=true/\RV x c (arr.getD j undef))/\(z=true->∀j,j<l.length->x.Fz (x.μ id) j)/\(z=false->∀o,¬x.Fz (x.μ id) o)
 glob:Zo x
structure bE (x y:Cx):Prop where
 size:x.w.heap.size<=y.w.heap.size
 env:y.w.os=x.w.os/\y.w.output=x.w.output
 fz:∀b o,x.Fz b o->y.Fz b o/\y.w.cell? ⟨b,o,none⟩=x.w.cell? ⟨b,o,none⟩
 G6:∀b o,y.Fz b o->x.Fz b o\/x.w.heap.size<=b\/∃i,Live x.S i/\x.μ i=b
 old:∀b,b<x.w.heap.size->(∀i,Live x.S i->x.μ i≠b)->y.w.heap[b]? =x.w.heap[b]?
 len:x.S.length<=y.S.length
 cells:∀id l,x.S[id]? =some (.cells l)->y.μ id=x.μ id/\∃l',y.S[id]? =some (.cells l')
 dn:∀id b,x.S[id]? =some b->b.isObj=true->y.μ id=x.μ id/\(∃b',y.S[id]? =some b'/\b.like b')/\(b=.defer->y.w.heap[x.μ id]? =x.w.heap[x.μ id]?)
 cQ:∀t e s n,x.S[t]? =some (.tail e s n)->∃n',y.S[t]? =some (.tail e s n')/\n<=n'/\(n'=n->y.μ t=x.μ t/\y.κ t=x.κ t)
 live:∀i,Live y.S i->(Live x.S i/\y.μ i=x.μ i)\/x.w.heap.size<=y.μ i
 ops:∀t e s l z,x.S[t]? =some (.op e s l z)->∃l' z',y.S[t]? =some (.op e s l' z')/\l.length<=l'.length/\(z=true->l'=l/\z'=true)/\(l'.length=l.length->y.μ t=x.μ t/\y.κ t=x.κ t)
theorem bE.refl (x:Cx):bE x x:=
 ⟨ai _,⟨rfl,rfl⟩,λ_ _ h=>⟨h,rfl⟩,λ_ _ h=>.inl h,λ_ _ _=>rfl,ai _,λ_ l h=>⟨rfl,l,h⟩,λ_ b h hb=>⟨rfl,⟨b,h,dG hb⟩,λ_=>rfl⟩,λ_ _ _ n h=>⟨n,h,ai _,λ_=>⟨rfl,rfl⟩⟩,λ_ h=>.inl ⟨h,rfl⟩,λ_ _ _ l z h=>⟨l,z,h,ai _,λe=>⟨rfl,e⟩,λ_=>⟨rfl,rfl⟩⟩⟩
theorem bE.trans {x y z:Cx}(h:bE x y)(k:bE y z):bE x z where
 size:=bz h.size k.size
 env:=⟨k.env.1.trans h.env.1,k.env.2.trans h.env.2⟩
 fz:=λb o hb=>⟨(k.fz b o (h.fz b o hb).1).1,(k.fz b o (h.fz b o hb).1).2.trans (h.fz b o hb).2⟩
 G6:=λb o hb=>by
  rcases k.G6 b o hb with h1|h1|⟨i,h1,h2⟩;exact h.G6 b o h1;exact .inr (.inl (bz h.size h1));rcases h.live i h1 with ⟨h3,h4⟩|h3
  grind
  grind
 old:=λb hb hn=>by
  refine(k.old b (cG hb h.size) λi hi he=>?_).trans (h.old b hb hn);rcases h.live i hi with ⟨h3,h4⟩|h3
  grind
  omega
 len:=bz h.len k.len
 cells:=λid l hl=>by obtain⟨h1,l',h2⟩:=h.cells id l hl;obtain⟨h3,l'',h4⟩:=k.cells id l' h2;exact⟨h3.trans h1,l'',h4⟩
 dn:=λid b hl hb=>by
  obtain⟨h1,⟨b',h2,h5⟩,h6⟩:=h.dn id b hl hb;obtain⟨h3,⟨b'',h4,h7⟩,h8⟩:=k.dn id b' h2 (tX h5).2;refine⟨h3.trans h1,⟨b'',h4,NR h5 h7⟩,λhd=>?_⟩;subst hd;have:b'=.defer:=by cases b'<;>first|rfl|exact h5.elim
  rw[<-h6 rfl,<-h1];exact h8 this
 cQ:=λt e s n ht=>by
  obtain⟨n',h1,h2,h3⟩:=h.cQ t e s n ht;obtain⟨n'',h4,h5,h6⟩:=k.cQ t e s n' h1;refine⟨n'',h4,bz h2 h5,λhe=>?_⟩;have e1:n'=n:=U
  have e2:n''=n':=U
  exact⟨(h6 e2).1.trans (h3 e1).1,(h6 e2).2.trans (h3 e1).2⟩
 live:=λi hi=>by
  rcases k.live i hi with ⟨h1,h2⟩|h1;rcases h.live i h1 with ⟨h3,h4⟩|h3
  grind
  grind
  exact .inr (bz h.size h1)
 ops:=λt e s l z ht=>by
  obtain⟨l1,z1,h1,h2,h3,h4⟩:=h.ops t e s l z ht;obtain⟨l2,z2,k1,k2,k3,k4⟩:=k.ops t e s l1 z1 h1;refine⟨l2,z2,k1,bz h2 k2,λhz=>?_,λhe=>?_⟩
  grind
  grind
theorem View.mono {x y:Cx}{rows:cj}{A:Option Addr}{s:Nat}{vs:Nat->Value}(hF:∀b o,x.Fz b o->y.Fz b o/\y.w.cell? ⟨b,o,none⟩=x.w.cell? ⟨b,o,none⟩)(h:View x rows A s vs):View y rows A s vs:=
 ⟨h.1,λj c hc=>by obtain⟨h1,b,o,h2,h3,h4⟩:=h.2 j c hc;exact⟨h1,b,o,h2,(hF _ _ h3).1,(hF _ _ h3).2.trans h4⟩⟩
theorem RV.mono {x y:Cx}(M:bE x y){d:DV}{v:Value}(h:RV x d v):RV y d v:=by
 induction h with
 |val h=>exact .val h
 |agg h _ ih=>exact .agg h ih
 |tup h _ ih=>exact .tup h ih
 |sl hv _ h1 h2 h3 hsp h4 ih=>
  refine .sl (hv.mono M.fz) ih h1 h2 h3 hsp λt ht=>?_;obtain⟨e,s,n,k1,k2,k3,k4⟩:=h4 t ht;obtain⟨n',m1,m2,m3⟩:=M.cQ t e s n k1;refine⟨e,s,n',m1,bz k2 m2,k3,λhe=>?_⟩;have e1:n'=n:=U
  rw[(m3 e1).1,(m3 e1).2];exact k4 (he.trans e1)
 |ptr h=>obtain⟨h1,l',h2⟩:=M.cells _ _ h;rw[<-h1];exact .ptr h2
 |eU hv _ ih=>exact .eU (hv.mono M.fz) ih
 |fn h1 h2 _ _ Qm SO=>exact .fn h1 h2 Qm SO
 |map h=>
  obtain⟨h1,⟨b',h2,h3⟩,-⟩:=M.dn _ _ h rfl;rw[<-h1];cases b' with
  |map es=>exact .map h2
  |_=>exact h3.elim
 |nj h=>
  obtain⟨h1,⟨b',h2,h3⟩,-⟩:=M.dn _ _ h rfl;rw[<-h1];cases b' with
  |loop r=>exact .nj h2
  |_=>exact h3.elim
 |jl h hn hl=>obtain⟨l',z',h1,h2,-,h4⟩:=M.ops _ _ _ _ _ h;refine .jl h1 U λhe=>?_;have e1:=h4 U;rw[e1.1,e1.2];exact hl U
 |fS h hn hl=>obtain⟨l',z',h1,h2,-,h4⟩:=M.ops _ _ _ _ _ h;refine .fS h1 U λhe=>?_;rw[(h4 U).1];exact hl U
theorem fZ.mono {x y:Cx}(M:bE x y){l:cj}{arr:Array Value}(h:fZ x l arr):fZ y l arr:=⟨h.1,λj c hc=>(h.2 j c hc).mono M⟩
theorem tD.mono {x y:Cx}(M:bE x y):∀{b:DB}{o:Obj},tD x b o->tD y b o
 |.map _,.map _ _,h=>h
 |.defer,.deferred _,_=>trivial
 |.loop r,.loop l,⟨h1,h2,h3,h4,h5,h6,h7,h8,h9⟩=>by
  obtain⟨k1,⟨b',k2,k3⟩,-⟩:=M.dn _ _ h9 rfl;have:b'=.defer:=by cases b'<;>first|rfl|exact k3.elim
  subst this;exact⟨h1,h2,h3,h4.mono M,h5,h6,h7,by rw[h8,k1],k2⟩
theorem RV.mc {x y:Cx}(hF:∀b o,x.Fz b o->y.Fz b o/\y.w.cell? ⟨b,o,none⟩=x.w.cell? ⟨b,o,none⟩){d:DV}{v:Value}(h:RV x d v)(hp:d.bS=true):RV y d v:=by
 induction h with
 |val h=>exact .val h
 |agg h _ ih=>simp[DV.bS]at hp
 |tup h _ ih=>simp[DV.bS]at hp
 |@sl rows tok full A cap s vs hv _ h1 h2 h3 hsp h4 ih=>refine .sl (hv.mono hF) (λj c hc=>ih j c hc (hv.2 j c hc).1) h1 h2 h3 hsp λt ht=>?_;subst ht;simp[DV.bS]at hp
 |ptr h=>simp[DV.bS]at hp
 |eU hv _ ih=>simp[DV.bS]at hp
 |fn h1 h2 _ _ Qm SO=>simp[DV.bS]at hp
 |map h=>simp[DV.bS]at hp
 |nj h=>simp[DV.bS]at hp
 |jl=>simp[DV.bS]at hp
 |fS=>simp[DV.bS]at hp
theorem IW{l:cj}(h:l.all DV.bS=true){j:Nat}{c:DV}(hc:l[j]? =some c):c.bS=true:=aR.1 h c (bV hc)
theorem RV.Ez {x y:Cx}(hF:∀b o,x.Fz b o->y.Fz b o/\y.w.cell? ⟨b,o,none⟩=x.w.cell? ⟨b,o,none⟩){d:DV}{v:Value}(h:RV x d v)(hp:d.jJ=true):RV y d v:=by
 cases h with
 |val h=>exact .val h
 |agg h hl=>exact .agg h λj c hc=>(hl j c hc).mc hF (IW hp hc)
 |tup h hl=>simp[DV.jJ]at hp
 |@sl rows tok full A cap s vs hv hr h1 h2 h3 hsp h4=>
  cases tok with
  |none=>exact(RV.sl hv hr h1 h2 h3 hsp h4).mc hF rfl
  |some t=>simp[DV.jJ]at hp
 |ptr h=>simp[DV.jJ]at hp
 |eU hv _=>simp[DV.jJ]at hp
 |fn h1 h2 _ _=>simp[DV.jJ]at hp
 |map h=>simp[DV.jJ]at hp
 |nj h=>simp[DV.jJ]at hp
 |jl=>simp[DV.jJ]at hp
 |fS=>simp[DV.jJ]at hp
theorem Z7{d:DV}(hp:d.pure=true):(∃l,d=.tup l/\l.all DV.jJ=true)\/d.jJ=true:=by
 cases d with
 |tup l=>exact .inl ⟨l,rfl,hp⟩
 |_=>exact .inr hp
theorem RV.pure_mono {x y:Cx}(hF:∀b o,x.Fz b o->y.Fz b o/\y.w.cell? ⟨b,o,none⟩=x.w.cell? ⟨b,o,none⟩){d:DV}{v:Value}(h:RV x d v)(hp:d.pure=true):RV y d v:=by
 rcases Z7 hp with ⟨l,rfl,hl⟩|hp;cases h with
 |tup h hr=>exact .tup h λj c hc=>(hr j c hc).Ez hF (aR.1 hl c (bV hc))
 exact h.Ez hF hp
theorem RV.aL {x:Cx}{d:DV}{v:Value}(h:RV x d v):RV x d.aL v:=by
 cases h with
 |sl hv hr h1 h2 h3 hsp h4=>exact .sl hv hr h1 ⟨ab,h2.2⟩ h3 hsp λt ht=>(by cases ht)
 |val h=>exact .val h
 |agg h hl=>exact .agg h hl
 |tup h hl=>exact .tup h hl
 |ptr h=>exact .ptr h
 |eU hv hr=>exact .eU hv hr
 |fn h1 h2 h3 h4=>exact .fn h1 h2 h3 h4
 |map h=>exact .map h
 |nj h=>exact .nj h
 |jl h h1 h2=>exact .jl h h1 h2
 |fS h h1 h2=>exact .fS h h1 h2
theorem RV.cT {x:Cx}{d:DV}{v:Value}(h:RV x d v):RV x d.cT v:=by
 cases h with
 |sl hv hr h1 h2 h3 hsp h4=>exact .sl hv hr h1 ⟨ab,h2.2⟩ h3 hsp λt ht=>(by cases ht)
 |val h=>exact .val h
 |@agg l vs h hl=>refine .agg (by simpa using h) λj c hc=>?_;simp only[cI,af]at hc;obtain⟨c',h1,rfl⟩:=hc;exact(hl j c' h1).aL
 |tup h hl=>exact .tup h hl
 |ptr h=>exact .ptr h
 |eU hv hr=>exact .eU hv hr
 |fn h1 h2 h3 h4=>exact .fn h1 h2 h3 h4
 |map h=>exact .map h
 |nj h=>exact .nj h
 |jl h h1 h2=>exact .jl h h1 h2
 |fS h h1 h2=>exact .fS h h1 h2
theorem RV.strip {x:Cx}{d:DV}{v:Value}(h:RV x d v):RV x d.strip v:=by
 cases d with
 |tup l=>
  cases h with
  |tup h hl=>refine .tup (by simpa using h) λj c hc=>?_;simp only[cI,af]at hc;obtain⟨c',h1,rfl⟩:=hc;exact(hl j c' h1).cT
 |_=>exact h.cT
def Cx.bare (x:Cx):Cx:={x with S:=[]}
def Cx.behind (x y:Cx):Cx:={x with w:=y.w,Fz:=y.Fz}
theorem gv(i:Nat):¬Live [] i:=by rintro⟨b,h,-⟩;simp at h
theorem Rel.bare {x:Cx}(h:Rel x):Rel x.bare where
 cells:=λid l hl=>by simp[Cx.bare]at hl
 cQ:=λid e s n hl=>by simp[Cx.bare]at hl
 dn:=λid b hl=>by simp[Cx.bare]at hl
 inj:=λi j hi=>(gv i hi).elim
 wo:=h.wo
 sep:=λid ⟨l,hl⟩=>by simp[Cx.bare]at hl
 mQ:=λid e s n hl=>by simp[Cx.bare]at hl
 ops:=λid e s l z hl=>by simp[Cx.bare]at hl
 glob:=h.glob
theorem uf{x y:Cx}(hR:Rel x)(M:bE x.bare y):bE x (x.behind y) where
 size:=M.size
 env:=M.env
 fz:=M.fz
 G6:=λb o hb=>by rcases M.G6 b o hb with h|h|⟨i,h,-⟩;exact .inl h;exact .inr (.inl h);exact(gv i h).elim
 old:=λb hb _=>M.old b hb λi hi=>(gv i hi).elim
 len:=ai _
 cells:=λid l hl=>⟨rfl,l,hl⟩
 dn:=λid b hl hb=>⟨rfl,⟨b,hl,dG hb⟩,λ_=>M.old _ (by obtain⟨o,h1,-⟩:=hR.dn id b hl hb;exact(aG.1 h1).1) λi hi=>(gv i hi).elim⟩
 cQ:=λt e s n ht=>⟨n,ht,ai _,λ_=>⟨rfl,rfl⟩⟩
 live:=λi hi=>.inl ⟨hi,rfl⟩
 ops:=λ_ _ _ l z h=>⟨l,z,h,ai _,λe=>⟨rfl,e⟩,λ_=>⟨rfl,rfl⟩⟩
theorem ck{w:World}{b:Nat}{o:Obj}(h:w.heap[b]? =some o):b<w.heap.size:=(aG.1 h).1
theorem Rel.behind {x y:Cx}(h:Rel x)(M:bE x.bare y)(k:Rel y):Rel (x.behind y):=by
 have hM:=uf h M;have hold:∀b,b<x.w.heap.size->y.w.heap[b]? =x.w.heap[b]? :=λb hb=>M.old b hb λi hi=>(gv i hi).elim;have Md:∀b o,b<x.w.heap.size->y.Fz b o->x.Fz b o:=λb o hb hy=>by rcases M.G6 b o hy with h|h|⟨i,h,-⟩;exact h;exact absurd h (by have:(x.bare).w=x.w:=rfl;rw[this];omega);exact(gv i h).elim
 exact{
  cells:=λid l hl=>by obtain⟨arr,e,h1,h2,h3⟩:=h.cells id l hl;exact⟨arr,e,(hold _ (ck h1)).trans h1,h2,λj c hc=>(h3 j c hc).mono hM⟩
  cQ:=λid e s n hl=>by obtain⟨arr,h1,h2⟩:=h.cQ id e s n hl;exact⟨arr,(hold _ (ck h1)).trans h1,h2⟩
  dn:=λid b hl hb=>by obtain⟨o,h1,h2⟩:=h.dn id b hl hb;exact⟨o,(hold _ (ck h1)).trans h1,h2.mono hM⟩
  inj:=h.inj
  wo:=k.wo
  sep:=λid hl o ho=>by obtain⟨l,hl⟩:=hl;obtain⟨arr,e,h1,-⟩:=h.cells id l hl;exact h.sep id ⟨l,hl⟩ o (Md _ _ (ck h1) ho)
  mQ:=λid e s n hl o ho=>by obtain⟨arr,h1,-⟩:=h.cQ id e s n hl;exact h.mQ id e s n hl o (Md _ _ (ck h1) ho)
  ops:=λid e s l z hl=>by obtain⟨arr,h1,h2,h3,h4,h5,h6,h7⟩:=h.ops id e s l z hl;exact⟨arr,(hold _ (ck h1)).trans h1,h2,h3,h4,λj c hc=>⟨(h5 j c hc).1,(h5 j c hc).2.mono hM⟩,λhz j hj=>(M.fz _ _ (h6 hz j hj)).1,λhz o ho=>h7 hz o (Md _ _ (ck h1) ho)⟩
  glob:=k.glob}
def Cx.dr (x:Cx)(d:Nat):Cx:={x with w:=x.w.at d}
theorem eM(x:Cx)(d:Nat):bE x (x.dr d):=
 ⟨ai _,⟨rfl,rfl⟩,λ_ _ h=>⟨h,rfl⟩,λ_ _ h=>.inl h,λ_ _ _=>rfl,ai _,λ_ l h=>⟨rfl,l,h⟩,λ_ b h hb=>⟨rfl,⟨b,h,dG hb⟩,λ_=>rfl⟩,λ_ _ _ n h=>⟨n,h,ai _,λ_=>⟨rfl,rfl⟩⟩,λ_ h=>.inl ⟨h,rfl⟩,λ_ _ _ l z h=>⟨l,z,h,ai _,λe=>⟨rfl,e⟩,λ_=>⟨rfl,rfl⟩⟩⟩
theorem Rel.dr {x:Cx}(h:Rel x)(d:Nat):Rel (x.dr d) where
 cells:=λid l hl=>by obtain⟨arr,e,h1,h2,h3⟩:=h.cells id l hl;exact⟨arr,e,h1,h2,λj c hc=>(h3 j c hc).mono (eM x d)⟩
 cQ:=h.cQ
 dn:=λid b hl hb=>by obtain⟨o,h1,h2⟩:=h.dn id b hl hb;exact⟨o,h1,h2.mono (eM x d)⟩
 inj:=h.inj
 wo:=h.wo
 sep:=h.sep
 mQ:=h.mQ
 ops:=λid e s l z hl=>by obtain⟨arr,h1,h2,h3,h4,h5,h6⟩:=h.ops id e s l z hl;exact⟨arr,h1,h2,h3,h4,λj c hc=>⟨(h5 j c hc).1,(h5 j c hc).2.mono (eM x d)⟩,h6⟩
 glob:=h.glob.keep (eM x d).fz
end Go.Di
namespace Go.Di
open Go
variable {P:Program} {ty:fo} {x:Cx} {w':World}
theorem ot{α:Type}{s:Sem α}{a:α}(h:cC P s=some a)(w:World):s.run P w=.ok a w:=by
 induction s generalizing a with
 |pure b=>simp only[cC,aF]at h;subst h;rfl
 |program k ih=>simp only[cC]at h;simpa [Sem.run]using ih P h
 |_=>simp[cC]at h
theorem adr(tok:Option Nat)(h:tok=none):RV x (.sl [] tok ⟨true,some true⟩) (.slice none 0 0):=by subst h;exact RV.sl (rows:=[]) (A:=none) (cap:=0) (s:=0) (vs:=λ_=>undef) ⟨ab,by simp[flat]⟩ (by simp[flat]) (ai _) ⟨λ_=>rfl,λb h=>by cases h;rfl⟩ (λ_=>rfl) (λ_ h _=>ao) (λt ht=>by cases ht)
theorem Gb{v:Value}{d:DV}(h:HP v=some d):RV x d v:=by
 unfold HP at h;split at h;cases h;exact adr _ rfl
 split at h;cases h;exact .val ‹_›
 cases h
theorem gX:∀{vs:List Value}{l:cj},rG vs=some l->vs.length=l.length/\∀j c,l[j]? =some c->RV x c (vs.getD j undef)
 |[],l,h=>by simp only[rG,aF]at h;subst h;simp
 |v::vs,l,h=>by
  unfold rG at h;split at h;rename_i d r h1 h2;cases h;obtain⟨h3,h4⟩:=gX h2;refine⟨by simp[h3],λj c hc=>?_⟩;cases j with
  |zero=>simp at hc;subst hc;exact Gb h1
  |succ j=>simpa using h4 j c (by simpa using hc)
  cases h
theorem yE{v:Value}{d:DV}(h:A7 v=some d):RV x d v:=by
 unfold A7 at h;split at h;simp only[af]at h;obtain⟨l,h1,rfl⟩:=h;obtain⟨h3,h4⟩:=gX (x:=x) h1;exact .agg (by simpa using h3) λj c hc=>by simpa [aU,aP]using h4 j c hc
 split at h;rename_i f fs cs hz;simp only[aC,bP]at hz;cases h;exact .fn hz.1 hz.2 ab ab;cases h;exact Gb h
theorem yX:∀{l:cj}{r:List Value},rE l=some r->l=r.map .val
 |[],r,h=>by simp only[rE,aF]at h;subst h;rfl
 |d::l,r,h=>by cases d<;>simp only[rE,af]at h;all_goals first|(obtain⟨r',h1,rfl⟩:=h;simp[yX h1];done)|cases h
theorem oM{v u:Value}(h:RV x (.val u) v):v=u:=by cases h;rfl
theorem Ki{d:DV}{v u:Value}(h:RV x d v)(hu:AY d=some u):v=u:=by
 cases d<;>simp only[AY,af,reduceCtorEq]at hu;simp only[aF]at hu;subst hu;exact oM h
 obtain⟨r,h1,rfl⟩:=hu;have:=yX h1;subst this;cases h with
 |@agg _ vs hs hl=>congr 1;refine Array.ext (by simpa using hs) λj h1 h2=>?_;have:=hl j (.val r[j]) (by simp[bn (show j<r.length by simpa using h2)]);have:=oM this;simpa [aU,h1]using this
theorem Ag:∀{l:cj}{vs r:List Value},tI l=some r->vs.length=l.length->(∀j c,l[j]? =some c->RV x c (vs.getD j undef))->vs=r
 |[],vs,r,h,hl,_=>by simp only[tI,aF]at h;subst h;exact eP (by simpa using hl)
 |d::l,vs,r,h,hl,hr=>by
  cases vs with
  |nil=>simp at hl
  |cons v vs=>
   unfold tI at h;split at h;rename_i v' r' h1 h2;cases h;have:=Ki (by simpa using hr 0 d rfl) h1;subst this;congr 1;exact Ag h2 (by simpa using hl) λj c hc=>by simpa using hr (j+1) c (by simpa using hc)
   cases h
def E3(S:aj)(aB:Nat):Prop:=aB=S.length\/S[aB]? =some .none
theorem E3.le {S:aj}{aB:Nat}(h:E3 S aB):aB<=S.length:=by
 rcases h with h|h;omega
 grind
theorem E3.ne {S:aj}{aB id:Nat}{b:DB}(h:E3 S aB)(hb:S[id]? =some b)(hne:b≠.none):id≠aB:=by
 rintro rfl;rcases h with h|h
 grind
 grind
theorem bC{S:aj}{i:Nat}(h:i<=S.length)(b:DB)(j:Nat):(eE S i b)[j]? =if j=i then some b else S[j]? :=by
 unfold eE;split
 grind
 grind
theorem Wt{S:aj}{i:Nat}(b:DB):S.length<=(eE S i b).length:=by unfold eE;split<;>simp
theorem aZ{S:aj}{i:Nat}{b:DB}(h:S[i]? =some b)(hb:b≠.none):Live S i:=⟨b,h,hb⟩
theorem Rel.jr (h:Rel x){i:Nat}(hi:Live x.S i):x.μ i<x.w.heap.size:=by
 obtain⟨b,hb,hne⟩:=hi;cases b with
 |none=>exact absurd rfl hne
 |cells l=>obtain⟨arr,e,h1,-⟩:=h.cells i l hb;exact ck h1
 |tail e s n=>obtain⟨arr,h1,-⟩:=h.cQ i e s n hb;exact ck h1
 |map es=>obtain⟨o,h1,-⟩:=h.dn i _ hb rfl;exact ck h1
 |defer=>obtain⟨o,h1,-⟩:=h.dn i _ hb rfl;exact ck h1
 |loop r=>obtain⟨o,h1,-⟩:=h.dn i _ hb rfl;exact ck h1
 |op e s l z=>obtain⟨arr,h1,-⟩:=h.ops i e s l z hb;exact ck h1
theorem Rel.vN (h:Rel x){b o:Nat}(hf:x.Fz b o):b<x.w.heap.size:=by obtain⟨v,hv⟩:=h.wo b o hf;exact World.block_lt_of_cell? x.w ⟨b,o,none⟩ hv
structure nN (w w':World) (ob:Obj):Prop where
 heap:w'.heap=w.heap.push ob
 env:w'.os=w.os/\w'.output=w.output
theorem gA(w:World)(ob:Obj):nN w (w.alloc ob) ob:=⟨rfl,rfl,rfl⟩
theorem nN.lt {w w':World}{ob:Obj}(h:nN w w' ob){b:Nat}(hb:b<w.heap.size):w'.heap[b]? =w.heap[b]? :=by rw[h.heap,Array.getElem?_push_lt hb,bX hb]
theorem nN.new {w w':World}{ob:Obj}(h:nN w w' ob):w'.heap[w.heap.size]? =some ob:=by rw[h.heap,Array.getElem?_push_size]
theorem cell_of_block{w w':World}{b:Nat}(h:w'.heap[b]? =w.heap[b]?)(o:Nat):w'.cell? ⟨b,o,none⟩=w.cell? ⟨b,o,none⟩:=by simp[World.cell?,h]
def Cx.fresh (x:Cx)(w':World)(aB k:Nat)(F:Nat->Prop)(b:DB):Cx:=
 ⟨w',λi=>if i=aB then x.w.heap.size else x.μ i,λi=>if i=aB then k else x.κ i,λc o=>x.Fz c o\/(c=x.w.heap.size/\F o),eE x.S aB b⟩
theorem jg{aB k:Nat}{F:Nat->Prop}{ob:Obj}{b:DB}(hR:Rel x)(hn:E3 x.S aB)(hp:nN x.w w' ob):bE x (x.fresh w' aB k F b) where
 size:=by show _<=w'.heap.size;rw[hp.heap];simp
 env:=hp.env
 fz:=λc o h=>⟨.inl h,cell_of_block (hp.lt (hR.vN h)) o⟩
 G6:=λc o h=>by
  rcases h with h|h
  grind
  grind
 old:=λc hc _=>hp.lt hc
 len:=Wt b
 cells:=λid l hl=>by have hne:=hn.ne hl ab;exact⟨if_neg hne,l,by show(eE _ _ _)[_]? =_;rw[bC hn.le,if_neg hne];exact hl⟩
 dn:=λid c hl hc=>by have hne:=hn.ne hl (eT hc);exact⟨if_neg hne,⟨c,by show(eE _ _ _)[_]? =_;rw[bC hn.le,if_neg hne];exact hl,dG hc⟩,λ_=>by obtain⟨o,h1,-⟩:=hR.dn id c hl hc;exact hp.lt (ck h1)⟩
 cQ:=λt e s n ht=>by have hne:=hn.ne ht ab;exact⟨n,by show(eE _ _ _)[_]? =_;rw[bC hn.le,if_neg hne];exact ht,ai _,λ_=>⟨if_neg hne,if_neg hne⟩⟩
 live:=λi hi=>by
  by_cases h:i=aB;subst h;right;show _<=(if _ then _ else _);rw[if_pos rfl];exact ai _
  left;obtain⟨c,hc,hne⟩:=hi;have hc:(eE x.S aB b)[i]? =some c:=hc;rw[bC hn.le,if_neg h]at hc;exact⟨⟨c,hc,hne⟩,if_neg h⟩
 ops:=λt e s l z ht=>by have hne:=hn.ne ht ab;exact⟨l,z,by show(eE _ _ _)[_]? =_;rw[bC hn.le,if_neg hne];exact ht,ai _,λe=>⟨rfl,e⟩,λ_=>⟨if_neg hne,if_neg hne⟩⟩
theorem lU{aB k:Nat}{F:Nat->Prop}{ob:Obj}{b:DB}(hR:Rel x)(hn:E3 x.S aB)(hp:nN x.w w' ob)
  (hF:∀o,F o->∃v,w'.cell? ⟨x.w.heap.size,o,none⟩=some v)
  (hb:(∃l arr e,b=.cells l/\ob=.cells arr e (0,0)/\arr.size=l.length/\(∀o,¬F o)/\∀j c,l[j]? =some c->RV x c (arr.getD j undef))\/
   (∃e s n arr,b=.tail e s n/\ob=.cells arr e (0,0)/\arr.size=k*s/\n<=arr.size/\k<=maxLen/\∀o,F o->o<n)\/(b.isObj=true/\(∀o,¬F o)/\tD (x.fresh w' aB k F b) b ob)\/
   (∃e s l arr,b=.op e s l false/\ob=.cells arr e (0,0)/\arr.size=k*s/\l.length<=arr.size/\k<=maxLen/\(∀o,¬F o)/\∀j c,l[j]? =some c->c.bS=true/\RV x c (arr.getD j undef))):
  Rel (x.fresh w' aB k F b):=by
 have M:=jg (k:=k) (F:=F) (b:=b) hR hn hp;have aS:∀i,(x.fresh w' aB k F b).S[i]? =if i=aB then some b else x.S[i]? :=λi=>bC hn.le b i
 have hμ:∀i,i≠aB->(x.fresh w' aB k F b).μ i=x.μ i:=λi h=>if_neg h;have hκ:∀i,i≠aB->(x.fresh w' aB k F b).κ i=x.κ i:=λi h=>if_neg h;have hμn:(x.fresh w' aB k F b).μ aB=x.w.heap.size:=if_pos rfl;have hκn:(x.fresh w' aB k F b).κ aB=k:=if_pos rfl;have oz:∀i,i≠aB->Live (x.fresh w' aB k F b).S i->Live x.S i:=by rintro i h ⟨c,hc,hne⟩;rw[aS,if_neg h]at hc;exact⟨c,hc,hne⟩
 constructor
 case glob=>exact hR.glob.keep M.fz
 .intro id l hl;rw[aS]at hl;by_cases h:id=aB;.subst h;rw[if_pos rfl]at hl;cases hl;rcases hb with ⟨l',arr,e,h1,rfl,h3,h4,h5⟩|⟨e,s,n,arr,h1,-⟩|⟨h1,-⟩|⟨e,s,n,arr,h1,-⟩;cases h1;rw[hμn];exact⟨arr,e,hp.new,h3,λj c hc=>(h5 j c hc).mono M⟩;all_goals cases h1
  rw[if_neg h]at hl;obtain⟨arr,e,h1,h2,h3⟩:=hR.cells id l hl;rw[hμ id h];exact⟨arr,e,(hp.lt (ck h1)).trans h1,h2,λj c hc=>(h3 j c hc).mono M⟩
 .intro id e s n hl;rw[aS]at hl;by_cases h:id=aB;.subst h;rw[if_pos rfl]at hl;cases hl;rcases hb with ⟨l',arr,e',h1,-⟩|⟨e',s',n',arr,h1,rfl,h3,h4,h5,-⟩|⟨h1,-⟩|⟨e',s',n',arr,h1,-⟩;cases h1;cases h1;rw[hμn,hκn];exact⟨arr,hp.new,h3,h4,h5⟩;all_goals cases h1
  rw[if_neg h]at hl;obtain⟨arr,h1,h2⟩:=hR.cQ id e s n hl;rw[hμ id h,hκ id h];exact⟨arr,(hp.lt (ck h1)).trans h1,h2⟩
 intro id c hl hc;rw[aS]at hl;by_cases h:id=aB;subst h;rw[if_pos rfl]at hl;cases hl;rcases hb with ⟨l',arr,e,h1,-⟩|⟨e',s',n',arr,h1,-⟩|⟨-,-,h1⟩|⟨e',s',n',arr,h1,-⟩;subst h1;cases hc
 subst h1;cases hc
 rw[hμn];exact⟨ob,hp.new,h1⟩;subst h1;cases hc
 rw[if_neg h]at hl;obtain⟨o,h1,h2⟩:=hR.dn id c hl hc;rw[hμ id h];exact⟨o,(hp.lt (ck h1)).trans h1,h2.mono M⟩;intro i j hi hj he;by_cases h1:i=aB;by_cases h2:j=aB
 grind
 rw[h1,hμn,hμ j h2]at he;have:=hR.jr (oz j h2 hj);omega;by_cases h2:j=aB;rw[h2,hμn,hμ i h1]at he;have:=hR.jr (oz i h1 hi);omega;rw[hμ i h1,hμ j h2]at he;exact hR.inj i j (oz i h1 hi) (oz j h2 hj) he;intro c o h;rcases h with h|⟨rfl,h⟩;obtain⟨v,hv⟩:=hR.wo c o h;exact⟨v,(M.fz c o h).2.trans hv⟩;exact hF o h
 .rintro id ⟨l,hl⟩ o ho;rw[aS]at hl;by_cases h:id=aB
  .subst h;rw[if_pos rfl]at hl;cases hl;rcases hb with ⟨l',arr,e,h1,-,-,h4,-⟩|⟨e',s',n',arr,h1,-⟩|⟨h1,-⟩|⟨e',s',n',arr,h1,-⟩;rw[hμn]at ho;rcases ho with ho|⟨-,ho⟩;have:=hR.vN ho;omega
   grind
   all_goals cases h1
  rw[if_neg h]at hl;rw[hμ id h]at ho;rcases ho with ho|⟨ho,-⟩;exact hR.sep id ⟨l,hl⟩ o ho;have:=hR.jr (aZ hl ab);omega
 .intro id e s n hl o ho;rw[aS]at hl;by_cases h:id=aB
  .subst h;rw[if_pos rfl]at hl;cases hl;rcases hb with ⟨l',arr,e',h1,-⟩|⟨e',s',n',arr,h1,-,-,-,-,h6⟩|⟨h1,-⟩|⟨e',s',n',arr,h1,-⟩;cases h1;cases h1;rw[hμn]at ho;rcases ho with ho|⟨-,ho⟩;have:=hR.vN ho;omega
   grind
   all_goals cases h1
  rw[if_neg h]at hl;rw[hμ id h]at ho;rcases ho with ho|⟨ho,-⟩;exact hR.mQ id e s n hl o ho;have:=hR.jr (aZ hl ab);omega
 intro id e s l z hl;rw[aS]at hl;by_cases h:id=aB;subst h;rw[if_pos rfl]at hl;cases hl;rcases hb with ⟨l',arr,e',h1,-⟩|⟨e',s',n',arr,h1,-⟩|⟨h1,-⟩|⟨e',s',n',arr,h1,rfl,h3,h4,h5,h6,h7⟩;cases h1;cases h1;cases h1;cases h1;rw[hμn,hκn];refine⟨arr,hp.new,h3,h4,h5,λj c hc=>⟨(h7 j c hc).1,(h7 j c hc).2.mono M⟩,ab,λ_ o ho=>?_⟩;rcases ho with ho|⟨-,ho⟩;have:=hR.vN ho;omega
 grind
 rw[if_neg h]at hl;obtain⟨arr,h1,h2,h3,h4,h5,h6,h7⟩:=hR.ops id e s l z hl;rw[hμ id h,hκ id h];refine⟨arr,(hp.lt (ck h1)).trans h1,h2,h3,h4,λj c hc=>⟨(h5 j c hc).1,(h5 j c hc).2.mono M⟩,λhz j hj=>.inl (h6 hz j hj),λhz o ho=>?_⟩;rcases ho with ho|⟨ho,-⟩
 grind
 grind
end Go.Di
