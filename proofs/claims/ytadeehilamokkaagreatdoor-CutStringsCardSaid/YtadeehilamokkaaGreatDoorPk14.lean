import Derived.Test.YtadeehilamokkaaGreatDoorPk01
import Derived.Laws.AppendOwn
import Derived.Conc.Machine
namespace Go.Di
open Go
structure Cx where
 w:World
 μ:Nat->Nat
 κ:Nat->Nat
 Fz:Nat->Nat->Prop
 S:aj
def Live(S:aj)(i:Nat):Prop:=∃b,S[i]? =some b/\b≠.none
def View(x:Cx)(rows:cn)(A:Option Addr)(s:Nat)(vs:Nat->Value):Prop:=
 (∀r∈rows,r.cells.length=s)/\∀j c,(flat rows)[j]? =some c->c.bU=true/\∃b o,A=some ⟨b,o,none⟩/\x.Fz b (o+j)/\x.w.cell? ⟨b,o+j,none⟩=some (vs j)
def adp(x:Cx)(tok:Option Nat)(rows:cn)(A:Option Addr)(cap:Nat):Prop:=
 ∀t,tok=some t->∃e s n,x.S[t]? =some (.tail e s n)/\rows.length*s<=n/\(∀r∈rows,r.cells.length=s)/\(rows.length*s=n->A=some ⟨x.μ t,0,none⟩/\cap=x.κ t)
def Wh(f:SF)(A:Option Addr):Prop:=∀b,f.isNil=some b->A.isNone=b
inductive RV (x:Cx):DV->Value->Prop
 |val {v:Value}:Ax v=true->RV x (.val v) v
 |agg {l:cn} {vs:Array Value}:vs.size=l.length->(∀j c,l[j]? =some c->RV x c (vs.getD j undef))->RV x (.agg l) (.agg vs)
 |tup {l:cn} {vs:Array Value}:vs.size=l.length->(∀j c,l[j]? =some c->RV x c (vs.getD j undef))->RV x (.tup l) (.tuple vs)
 |sl {rows:cn} {tok:Option Nat} {full:SF} {A:Option Addr} {cap s:Nat} {vs:Nat->Value}:View x rows A s vs->(∀j c,(flat rows)[j]? =some c->RV x c (vs j))->rows.length<=cap->((full.full=true->cap=rows.length)/\Wh full A)->(A=none->cap=0)->(∀ad,A=some ad->0<cap->ad.spot=none)->adp x tok rows A cap->
  RV x (.sl rows tok full) (.slice A rows.length cap)
 |ptr {id off:Nat} {l:cn}:x.S[id]? =some (.cells l)->RV x (.ptr id off) (.pointer (some ⟨x.μ id,off,none⟩))
 |eU {rows:cn} {i off b o s:Nat} {vs:Nat->Value}:View x rows (some ⟨b,o,none⟩) s vs->(∀j c,(flat rows)[j]? =some c->RV x c (vs j))->RV x (.eU rows i off) (.pointer (some ⟨b,o+(i*s+off),none⟩))
 |fn {f:FuncId} {first captured:cn} {fs cs:Array Value}:fs.size=first.length->cs.size=captured.length->(∀j c,first[j]? =some c->RV x c (fs.getD j undef))->(∀j c,captured[j]? =some c->RV x c (cs.getD j undef))->RV x (.fn f first captured) (.func (.func f) fs cs)
 |map {id:Nat} {es:List (Value×Value)}:x.S[id]? =some (.map es)->RV x (.map id) (.map (some (x.μ id)))
 |nN {id:Nat} {r:GA}:x.S[id]? =some (.loop r)->RV x (.nN id) (.func (.yield (x.μ id)) #[] #[])
 |jB {id n:Nat} {agg:Bool} {e:TypeId} {s:Nat} {l:cn} {z:Bool} {A:Option Addr} {cap:Nat}:x.S[id]? =some (.op e s l z)->n*s<=l.length->(n*s=l.length->A=some ⟨x.μ id,0,none⟩/\cap=x.κ id)->RV x (.jB id n agg) (.slice A n cap)
 |fV {id n off:Nat} {e:TypeId} {s:Nat} {l:cn} {z:Bool} {A:Option Addr}:x.S[id]? =some (.op e s l z)->n*s<=l.length->(n*s=l.length->A=some ⟨x.μ id,off,none⟩)->RV x (.fV id n off) (.pointer A)
def gb(x:Cx)(l:cn)(arr:Array Value):Prop:=arr.size=l.length/\∀j c,l[j]? =some c->RV x c (arr.getD j undef)
def DB.isObj:DB->Bool
 |.map _|.defer|.loop _=>true
 |_=>false
def uf(x:Cx):DB->Obj->Prop
 |.map es,.map Du _=>Du.toList.map (λe=>(e.key,e.val))=es
 |.defer,.deferred _=>True
 |.loop r,.loop l=>l.state=r.st/\l.pending=r.j5/\l.fn=r.fn/\gb x r.env l.tmps/\l.params=r.params.toArray/\l.assign=r.assign/\l.body=r.body/\l.defers=x.μ r.Bv/\x.S[r.Bv]? =some .defer
 |_,_=>False
def DB.like:DB->DB->Prop
 |.map _,.map _=>True
 |.defer,.defer=>True
 |.loop r,.loop r'=>r'={r with st:=r'.st,j5:=r'.j5}
 |_,_=>False
theorem dL:∀{b:DB},b.isObj=true->b.like b
 |.map _,_=>trivial
 |.defer,_=>trivial
 |.loop _,_=>rfl
 |.none,h=>ar
 |.cells _,h=>ar
 |.tail ..,h=>ar
 |.op ..,h=>ar
theorem uE:∀{b c:DB},b.like c->b.isObj=true/\c.isObj=true
 |.map _,.map _,_=>⟨rfl,rfl⟩
 |.defer,.defer,_=>⟨rfl,rfl⟩
 |.loop _,.loop _,_=>⟨rfl,rfl⟩
theorem OU:∀{a b c:DB},a.like b->b.like c->a.like c
 |.map _,.map _,.map _,_,_=>trivial
 |.defer,.defer,.defer,_,_=>trivial
 |.loop r,.loop r',.loop r'',h,k=>by simp only[DB.like]at h k⊢;rw[k,h]
theorem eT{b:DB}(h:b.isObj=true):b≠.none:=by rintro rfl;cases h
def Vq:Value:=.iface 196 (.agg #[.pointer (some ⟨4,91,none⟩)])
def aaJ(x:Cx):Prop:=(x.Fz 0 0/\x.w.cell? ⟨0,0,none⟩=some Vq)/\x.Fz 1 0/\∃m,x.w.cell? ⟨1,0,none⟩=some (.int .i64 m)
theorem aaJ.keep {x y:Cx}(h:aaJ x)(hF:∀b o,x.Fz b o->y.Fz b o/\y.w.cell? ⟨b,o,none⟩=x.w.cell? ⟨b,o,none⟩):aaJ y:=
 ⟨⟨(hF _ _ h.1.1).1,(hF _ _ h.1.1).2.trans h.1.2⟩,(hF _ _ h.2.1).1,h.2.2.imp λ_ hm=>(hF _ _ h.2.1).2.trans hm⟩
structure Rel (x:Cx):Prop where
 cells:∀id l,x.S[id]? =some (.cells l)->∃arr e,x.w.heap[x.μ id]? =some (.cells arr e (0,0))/\arr.size=l.length/\∀j c,l[j]? =some c->RV x c (arr.getD j undef)
 cU:∀id e s n,x.S[id]? =some (.tail e s n)->∃arr,x.w.heap[x.μ id]? =some (.cells arr e (0,0))/\arr.size=x.κ id*s/\n<=arr.size/\x.κ id<=maxLen
 dA:∀id b,x.S[id]? =some b->b.isObj=true->∃o,x.w.heap[x.μ id]? =some o/\uf x b o
 inj:∀i j,Live x.S i->Live x.S j->x.μ i=x.μ j->i=j
 xg:∀b o,x.Fz b o->∃v,x.w.cell? ⟨b,o,none⟩=some v
 sep:∀id,(∃l,x.S[id]? =some (.cells l))->∀o,¬x.Fz (x.μ id) o
 nB:∀id e s n,x.S[id]? =some (.tail e s n)->∀o,x.Fz (x.μ id) o->o<n
 ops:∀id e s l z,x.S[id]? =some (.op e s l z)->∃arr,x.w.heap[x.μ id]? =some (.cells arr e (0,0))/\arr.size=x.κ id*s/\l.length<=arr.size/\x.κ id<=maxLen/\(∀j c,l[j]? =some c->c.bU=true/\RV x c (arr.getD j undef))/\(z=true->∀j,j<l.length->x.Fz (x.μ id) j)/\(z=false->∀o,¬x.Fz (x.μ id) o)
 glob:aaJ x
structure bE (x y:Cx):Prop where
 size:x.w.heap.size<=y.w.heap.size
 env:y.w.os=x.w.os/\y.w.output=x.w.output
 fz:∀b o,x.Fz b o->y.Fz b o/\y.w.cell? ⟨b,o,none⟩=x.w.cell? ⟨b,o,none⟩
 HS:∀b o,y.Fz b o->x.Fz b o\/x.w.heap.size<=b\/∃i,Live x.S i/\x.μ i=b
 old:∀b,b<x.w.heap.size->(∀i,Live x.S i->x.μ i≠b)->y.w.heap[b]? =x.w.heap[b]?
 len:x.S.length<=y.S.length
 cells:∀id l,x.S[id]? =some (.cells l)->y.μ id=x.μ id/\∃l',y.S[id]? =some (.cells l')
 dA:∀id b,x.S[id]? =some b->b.isObj=true->y.μ id=x.μ id/\(∃b',y.S[id]? =some b'/\b.like b')/\(b=.defer->y.w.heap[x.μ id]? =x.w.heap[x.μ id]?)
 cU:∀t e s n,x.S[t]? =some (.tail e s n)->∃n',y.S[t]? =some (.tail e s n')/\n<=n'/\(n'=n->y.μ t=x.μ t/\y.κ t=x.κ t)
 live:∀i,Live y.S i->(Live x.S i/\y.μ i=x.μ i)\/x.w.heap.size<=y.μ i
 ops:∀t e s l z,x.S[t]? =some (.op e s l z)->∃l' z',y.S[t]? =some (.op e s l' z')/\l.length<=l'.length/\(z=true->l'=l/\z'=true)/\(l'.length=l.length->y.μ t=x.μ t/\y.κ t=x.κ t)
theorem bE.refl (x:Cx):bE x x:=
 ⟨ai _,⟨rfl,rfl⟩,λ_ _ h=>⟨h,rfl⟩,λ_ _ h=>.inl h,λ_ _ _=>rfl,ai _,λ_ l h=>⟨rfl,l,h⟩,λ_ b h hb=>⟨rfl,⟨b,h,dL hb⟩,λ_=>rfl⟩,λ_ _ _ n h=>⟨n,h,ai _,λ_=>⟨rfl,rfl⟩⟩,λ_ h=>.inl ⟨h,rfl⟩,λ_ _ _ l z h=>⟨l,z,h,ai _,λe=>⟨rfl,e⟩,λ_=>⟨rfl,rfl⟩⟩⟩
theorem bE.trans {x y z:Cx}(h:bE x y)(k:bE y z):bE x z where
 size:=bt h.size k.size
 env:=⟨k.env.1.trans h.env.1,k.env.2.trans h.env.2⟩
 fz:=λb o hb=>⟨(k.fz b o (h.fz b o hb).1).1,(k.fz b o (h.fz b o hb).1).2.trans (h.fz b o hb).2⟩
 HS:=λb o hb=>by
  rcases k.HS b o hb with h1|h1|⟨i,h1,h2⟩;exact h.HS b o h1;exact .inr (.inl (bt h.size h1));rcases h.live i h1 with ⟨h3,h4⟩|h3
  grind
  grind
 old:=λb hb hn=>by
  refine(k.old b (cK hb h.size) λi hi he=>?_).trans (h.old b hb hn);rcases h.live i hi with ⟨h3,h4⟩|h3
  grind
  omega
 len:=bt h.len k.len
 cells:=λid l hl=>by obtain⟨h1,l',h2⟩:=h.cells id l hl;obtain⟨h3,l'',h4⟩:=k.cells id l' h2;exact⟨h3.trans h1,l'',h4⟩
 dA:=λid b hl hb=>by
  obtain⟨h1,⟨b',h2,h5⟩,h6⟩:=h.dA id b hl hb;obtain⟨h3,⟨b'',h4,h7⟩,h8⟩:=k.dA id b' h2 (uE h5).2;refine⟨h3.trans h1,⟨b'',h4,OU h5 h7⟩,λhd=>?_⟩;subst hd;have:b'=.defer:=by cases b'<;>first|rfl|exact h5.elim
  rw[<-h6 rfl,<-h1];exact h8 this
 cU:=λt e s n ht=>by
  obtain⟨n',h1,h2,h3⟩:=h.cU t e s n ht;obtain⟨n'',h4,h5,h6⟩:=k.cU t e s n' h1;refine⟨n'',h4,bt h2 h5,λhe=>?_⟩;have e1:n'=n:=ab
  have e2:n''=n':=ab
  exact⟨(h6 e2).1.trans (h3 e1).1,(h6 e2).2.trans (h3 e1).2⟩
 live:=λi hi=>by
  rcases k.live i hi with ⟨h1,h2⟩|h1;rcases h.live i h1 with ⟨h3,h4⟩|h3
  grind
  grind
  exact .inr (bt h.size h1)
 ops:=λt e s l z ht=>by
  obtain⟨l1,z1,h1,h2,h3,h4⟩:=h.ops t e s l z ht;obtain⟨l2,z2,k1,k2,k3,k4⟩:=k.ops t e s l1 z1 h1;refine⟨l2,z2,k1,bt h2 k2,λhz=>?_,λhe=>?_⟩
  grind
  grind
theorem View.mono {x y:Cx}{rows:cn}{A:Option Addr}{s:Nat}{vs:Nat->Value}(hF:∀b o,x.Fz b o->y.Fz b o/\y.w.cell? ⟨b,o,none⟩=x.w.cell? ⟨b,o,none⟩)(h:View x rows A s vs):View y rows A s vs:=
 ⟨h.1,λj c hc=>by obtain⟨h1,b,o,h2,h3,h4⟩:=h.2 j c hc;exact⟨h1,b,o,h2,(hF _ _ h3).1,(hF _ _ h3).2.trans h4⟩⟩
theorem RV.mono {x y:Cx}(M:bE x y){d:DV}{v:Value}(h:RV x d v):RV y d v:=by
 induction h with
 |val h=>exact .val h
 |agg h _ ih=>exact .agg h ih
 |tup h _ ih=>exact .tup h ih
 |sl hv _ h1 h2 h3 hsp h4 ih=>
  refine .sl (hv.mono M.fz) ih h1 h2 h3 hsp λt ht=>?_;obtain⟨e,s,n,k1,k2,k3,k4⟩:=h4 t ht;obtain⟨n',m1,m2,m3⟩:=M.cU t e s n k1;refine⟨e,s,n',m1,bt k2 m2,k3,λhe=>?_⟩;have e1:n'=n:=ab
  rw[(m3 e1).1,(m3 e1).2];exact k4 (he.trans e1)
 |ptr h=>obtain⟨h1,l',h2⟩:=M.cells _ _ h;rw[<-h1];exact .ptr h2
 |eU hv _ ih=>exact .eU (hv.mono M.fz) ih
 |fn h1 h2 _ _ Ru Uk=>exact .fn h1 h2 Ru Uk
 |map h=>
  obtain⟨h1,⟨b',h2,h3⟩,-⟩:=M.dA _ _ h rfl;rw[<-h1];cases b' with
  |map es=>exact .map h2
  |_=>exact h3.elim
 |nN h=>
  obtain⟨h1,⟨b',h2,h3⟩,-⟩:=M.dA _ _ h rfl;rw[<-h1];cases b' with
  |loop r=>exact .nN h2
  |_=>exact h3.elim
 |jB h hn hl=>obtain⟨l',z',h1,h2,-,h4⟩:=M.ops _ _ _ _ _ h;refine .jB h1 ab λhe=>?_;have e1:=h4 ab;rw[e1.1,e1.2];exact hl ab
 |fV h hn hl=>obtain⟨l',z',h1,h2,-,h4⟩:=M.ops _ _ _ _ _ h;refine .fV h1 ab λhe=>?_;rw[(h4 ab).1];exact hl ab
theorem gb.mono {x y:Cx}(M:bE x y){l:cn}{arr:Array Value}(h:gb x l arr):gb y l arr:=⟨h.1,λj c hc=>(h.2 j c hc).mono M⟩
theorem uf.mono {x y:Cx}(M:bE x y):∀{b:DB}{o:Obj},uf x b o->uf y b o
 |.map _,.map _ _,h=>h
 |.defer,.deferred _,_=>trivial
 |.loop r,.loop l,⟨h1,h2,h3,h4,h5,h6,h7,h8,h9⟩=>by
  obtain⟨k1,⟨b',k2,k3⟩,-⟩:=M.dA _ _ h9 rfl;have:b'=.defer:=by cases b'<;>first|rfl|exact k3.elim
  subst this;exact⟨h1,h2,h3,h4.mono M,h5,h6,h7,by rw[h8,k1],k2⟩
theorem RV.mP {x y:Cx}(hF:∀b o,x.Fz b o->y.Fz b o/\y.w.cell? ⟨b,o,none⟩=x.w.cell? ⟨b,o,none⟩){d:DV}{v:Value}(h:RV x d v)(hp:d.bU=true):RV y d v:=by
 induction h with
 |val h=>exact .val h
 |agg h _ ih=>simp[DV.bU]at hp
 |tup h _ ih=>simp[DV.bU]at hp
 |@sl rows tok full A cap s vs hv _ h1 h2 h3 hsp h4 ih=>refine .sl (hv.mono hF) (λj c hc=>ih j c hc (hv.2 j c hc).1) h1 h2 h3 hsp λt ht=>?_;subst ht;simp[DV.bU]at hp
 |ptr h=>simp[DV.bU]at hp
 |eU hv _ ih=>simp[DV.bU]at hp
 |fn h1 h2 _ _ Ru Uk=>simp[DV.bU]at hp
 |map h=>simp[DV.bU]at hp
 |nN h=>simp[DV.bU]at hp
 |jB=>simp[DV.bU]at hp
 |fV=>simp[DV.bU]at hp
theorem JB{l:cn}(h:l.all DV.bU=true){j:Nat}{c:DV}(hc:l[j]? =some c):c.bU=true:=aU.1 h c (bY hc)
theorem RV.E2 {x y:Cx}(hF:∀b o,x.Fz b o->y.Fz b o/\y.w.cell? ⟨b,o,none⟩=x.w.cell? ⟨b,o,none⟩){d:DV}{v:Value}(h:RV x d v)(hp:d.jW=true):RV y d v:=by
 cases h with
 |val h=>exact .val h
 |agg h hl=>exact .agg h λj c hc=>(hl j c hc).mP hF (JB hp hc)
 |tup h hl=>simp[DV.jW]at hp
 |@sl rows tok full A cap s vs hv hr h1 h2 h3 hsp h4=>
  cases tok with
  |none=>exact(RV.sl hv hr h1 h2 h3 hsp h4).mP hF rfl
  |some t=>simp[DV.jW]at hp
 |ptr h=>simp[DV.jW]at hp
 |eU hv _=>simp[DV.jW]at hp
 |fn h1 h2 _ _=>simp[DV.jW]at hp
 |map h=>simp[DV.jW]at hp
 |nN h=>simp[DV.jW]at hp
 |jB=>simp[DV.jW]at hp
 |fV=>simp[DV.jW]at hp
theorem abv{d:DV}(hp:d.pure=true):(∃l,d=.tup l/\l.all DV.jW=true)\/d.jW=true:=by
 cases d with
 |tup l=>exact .inl ⟨l,rfl,hp⟩
 |_=>exact .inr hp
theorem RV.pure_mono {x y:Cx}(hF:∀b o,x.Fz b o->y.Fz b o/\y.w.cell? ⟨b,o,none⟩=x.w.cell? ⟨b,o,none⟩){d:DV}{v:Value}(h:RV x d v)(hp:d.pure=true):RV y d v:=by
 rcases abv hp with ⟨l,rfl,hl⟩|hp;cases h with
 |tup h hr=>exact .tup h λj c hc=>(hr j c hc).E2 hF (aU.1 hl c (bY hc))
 exact h.E2 hF hp
theorem RV.aM {x:Cx}{d:DV}{v:Value}(h:RV x d v):RV x d.aM v:=by
 cases h with
 |sl hv hr h1 h2 h3 hsp h4=>exact .sl hv hr h1 ⟨ae,h2.2⟩ h3 hsp λt ht=>(by cases ht)
 |val h=>exact .val h
 |agg h hl=>exact .agg h hl
 |tup h hl=>exact .tup h hl
 |ptr h=>exact .ptr h
 |eU hv hr=>exact .eU hv hr
 |fn h1 h2 h3 h4=>exact .fn h1 h2 h3 h4
 |map h=>exact .map h
 |nN h=>exact .nN h
 |jB h h1 h2=>exact .jB h h1 h2
 |fV h h1 h2=>exact .fV h h1 h2
theorem RV.cZ {x:Cx}{d:DV}{v:Value}(h:RV x d v):RV x d.cZ v:=by
 cases h with
 |sl hv hr h1 h2 h3 hsp h4=>exact .sl hv hr h1 ⟨ae,h2.2⟩ h3 hsp λt ht=>(by cases ht)
 |val h=>exact .val h
 |@agg l vs h hl=>refine .agg (by simpa using h) λj c hc=>?_;simp only[cH,af]at hc;obtain⟨c',h1,rfl⟩:=hc;exact(hl j c' h1).aM
 |tup h hl=>exact .tup h hl
 |ptr h=>exact .ptr h
 |eU hv hr=>exact .eU hv hr
 |fn h1 h2 h3 h4=>exact .fn h1 h2 h3 h4
 |map h=>exact .map h
 |nN h=>exact .nN h
 |jB h h1 h2=>exact .jB h h1 h2
 |fV h h1 h2=>exact .fV h h1 h2
theorem RV.strip {x:Cx}{d:DV}{v:Value}(h:RV x d v):RV x d.strip v:=by
 cases d with
 |tup l=>
  cases h with
  |tup h hl=>refine .tup (by simpa using h) λj c hc=>?_;simp only[cH,af]at hc;obtain⟨c',h1,rfl⟩:=hc;exact(hl j c' h1).cZ
 |_=>exact h.cZ
def Cx.bare (x:Cx):Cx:={x with S:=[]}
def Cx.behind (x y:Cx):Cx:={x with w:=y.w,Fz:=y.Fz}
theorem gB(i:Nat):¬Live [] i:=by rintro⟨b,h,-⟩;simp at h
theorem Rel.bare {x:Cx}(h:Rel x):Rel x.bare where
 cells:=λid l hl=>by simp[Cx.bare]at hl
 cU:=λid e s n hl=>by simp[Cx.bare]at hl
 dA:=λid b hl=>by simp[Cx.bare]at hl
 inj:=λi j hi=>(gB i hi).elim
 xg:=h.xg
 sep:=λid ⟨l,hl⟩=>by simp[Cx.bare]at hl
 nB:=λid e s n hl=>by simp[Cx.bare]at hl
 ops:=λid e s l z hl=>by simp[Cx.bare]at hl
 glob:=h.glob
theorem uK{x y:Cx}(hR:Rel x)(M:bE x.bare y):bE x (x.behind y) where
 size:=M.size
 env:=M.env
 fz:=M.fz
 HS:=λb o hb=>by rcases M.HS b o hb with h|h|⟨i,h,-⟩;exact .inl h;exact .inr (.inl h);exact(gB i h).elim
 old:=λb hb _=>M.old b hb λi hi=>(gB i hi).elim
 len:=ai _
 cells:=λid l hl=>⟨rfl,l,hl⟩
 dA:=λid b hl hb=>⟨rfl,⟨b,hl,dL hb⟩,λ_=>M.old _ (by obtain⟨o,h1,-⟩:=hR.dA id b hl hb;exact(aG.1 h1).1) λi hi=>(gB i hi).elim⟩
 cU:=λt e s n ht=>⟨n,ht,ai _,λ_=>⟨rfl,rfl⟩⟩
 live:=λi hi=>.inl ⟨hi,rfl⟩
 ops:=λ_ _ _ l z h=>⟨l,z,h,ai _,λe=>⟨rfl,e⟩,λ_=>⟨rfl,rfl⟩⟩
theorem cA{w:World}{b:Nat}{o:Obj}(h:w.heap[b]? =some o):b<w.heap.size:=(aG.1 h).1
theorem Rel.behind {x y:Cx}(h:Rel x)(M:bE x.bare y)(k:Rel y):Rel (x.behind y):=by
 have hM:=uK h M;have hold:∀b,b<x.w.heap.size->y.w.heap[b]? =x.w.heap[b]? :=λb hb=>M.old b hb λi hi=>(gB i hi).elim;have M3:∀b o,b<x.w.heap.size->y.Fz b o->x.Fz b o:=λb o hb hy=>by rcases M.HS b o hy with h|h|⟨i,h,-⟩;exact h;exact absurd h (by have:(x.bare).w=x.w:=rfl;rw[this];omega);exact(gB i h).elim
 exact{
  cells:=λid l hl=>by obtain⟨arr,e,h1,h2,h3⟩:=h.cells id l hl;exact⟨arr,e,(hold _ (cA h1)).trans h1,h2,λj c hc=>(h3 j c hc).mono hM⟩
  cU:=λid e s n hl=>by obtain⟨arr,h1,h2⟩:=h.cU id e s n hl;exact⟨arr,(hold _ (cA h1)).trans h1,h2⟩
  dA:=λid b hl hb=>by obtain⟨o,h1,h2⟩:=h.dA id b hl hb;exact⟨o,(hold _ (cA h1)).trans h1,h2.mono hM⟩
  inj:=h.inj
  xg:=k.xg
  sep:=λid hl o ho=>by obtain⟨l,hl⟩:=hl;obtain⟨arr,e,h1,-⟩:=h.cells id l hl;exact h.sep id ⟨l,hl⟩ o (M3 _ _ (cA h1) ho)
  nB:=λid e s n hl o ho=>by obtain⟨arr,h1,-⟩:=h.cU id e s n hl;exact h.nB id e s n hl o (M3 _ _ (cA h1) ho)
  ops:=λid e s l z hl=>by obtain⟨arr,h1,h2,h3,h4,h5,h6,h7⟩:=h.ops id e s l z hl;exact⟨arr,(hold _ (cA h1)).trans h1,h2,h3,h4,λj c hc=>⟨(h5 j c hc).1,(h5 j c hc).2.mono hM⟩,λhz j hj=>(M.fz _ _ (h6 hz j hj)).1,λhz o ho=>h7 hz o (M3 _ _ (cA h1) ho)⟩
  glob:=k.glob}
def Cx.dr (x:Cx)(d:Nat):Cx:={x with w:=x.w.at d}
theorem eN(x:Cx)(d:Nat):bE x (x.dr d):=
 ⟨ai _,⟨rfl,rfl⟩,λ_ _ h=>⟨h,rfl⟩,λ_ _ h=>.inl h,λ_ _ _=>rfl,ai _,λ_ l h=>⟨rfl,l,h⟩,λ_ b h hb=>⟨rfl,⟨b,h,dL hb⟩,λ_=>rfl⟩,λ_ _ _ n h=>⟨n,h,ai _,λ_=>⟨rfl,rfl⟩⟩,λ_ h=>.inl ⟨h,rfl⟩,λ_ _ _ l z h=>⟨l,z,h,ai _,λe=>⟨rfl,e⟩,λ_=>⟨rfl,rfl⟩⟩⟩
theorem Rel.dr {x:Cx}(h:Rel x)(d:Nat):Rel (x.dr d) where
 cells:=λid l hl=>by obtain⟨arr,e,h1,h2,h3⟩:=h.cells id l hl;exact⟨arr,e,h1,h2,λj c hc=>(h3 j c hc).mono (eN x d)⟩
 cU:=h.cU
 dA:=λid b hl hb=>by obtain⟨o,h1,h2⟩:=h.dA id b hl hb;exact⟨o,h1,h2.mono (eN x d)⟩
 inj:=h.inj
 xg:=h.xg
 sep:=h.sep
 nB:=h.nB
 ops:=λid e s l z hl=>by obtain⟨arr,h1,h2,h3,h4,h5,h6⟩:=h.ops id e s l z hl;exact⟨arr,h1,h2,h3,h4,λj c hc=>⟨(h5 j c hc).1,(h5 j c hc).2.mono (eN x d)⟩,h6⟩
 glob:=h.glob.keep (eN x d).fz
end Go.Di
namespace Go.Di
open Go
variable {P:Program} {ty:fo} {x:Cx} {w':World}
theorem oO{α:Type}{s:Sem α}{a:α}(h:bN P s=some a)(w:World):s.run P w=.ok a w:=by
 induction s generalizing a with
 |pure b=>simp only[bN,aF]at h;subst h;rfl
 |program k ih=>simp only[bN]at h;simpa [Sem.run]using ih P h
 |_=>simp[bN]at h
theorem aeZ(tok:Option Nat)(h:tok=none):RV x (.sl [] tok ⟨true,some true⟩) (.slice none 0 0):=by subst h;exact RV.sl (rows:=[]) (A:=none) (cap:=0) (s:=0) (vs:=λ_=>undef) ⟨ae,by simp[flat]⟩ (by simp[flat]) (ai _) ⟨λ_=>rfl,λb h=>by cases h;rfl⟩ (λ_=>rfl) (λ_ h _=>ar) (λt ht=>by cases ht)
theorem GK{v:Value}{d:DV}(h:Iy v=some d):RV x d v:=by
 unfold Iy at h;split at h;cases h;exact aeZ _ rfl
 split at h;cases h;exact .val ‹_›
 cases h
theorem ic:∀{vs:List Value}{l:cn},sw vs=some l->vs.length=l.length/\∀j c,l[j]? =some c->RV x c (vs.getD j undef)
 |[],l,h=>by simp only[sw,aF]at h;subst h;simp
 |v::vs,l,h=>by
  unfold sw at h;split at h;rename_i d r h1 h2;cases h;obtain⟨h3,h4⟩:=ic h2;refine⟨by simp[h3],λj c hc=>?_⟩;cases j with
  |zero=>simp at hc;subst hc;exact GK h1
  |succ j=>simpa using h4 j c (by simpa using hc)
  cases h
theorem zf{v:Value}{d:DV}(h:wF v=some d):RV x d v:=by
 unfold wF at h;split at h;simp only[af]at h;obtain⟨l,h1,rfl⟩:=h;obtain⟨h3,h4⟩:=ic (x:=x) h1;exact .agg (by simpa using h3) λj c hc=>by simpa [aW,aK]using h4 j c hc
 split at h;rename_i f fs cs hz;simp only[aC,bR]at hz;cases h;exact .fn hz.1 hz.2 ae ae;cases h;exact GK h
theorem zN:∀{l:cn}{r:List Value},sj l=some r->l=r.map .val
 |[],r,h=>by simp only[sj,aF]at h;subst h;rfl
 |d::l,r,h=>by cases d<;>simp only[sj,af]at h;all_goals first|(obtain⟨r',h1,rfl⟩:=h;simp[zN h1];done)|cases h
theorem nX{v u:Value}(h:RV x (.val u) v):v=u:=by cases h;rfl
theorem K6{d:DV}{v u:Value}(h:RV x d v)(hu:wA d=some u):v=u:=by
 cases d<;>simp only[wA,af,reduceCtorEq]at hu;simp only[aF]at hu;subst hu;exact nX h
 obtain⟨r,h1,rfl⟩:=hu;have:=zN h1;subst this;cases h with
 |@agg _ vs hs hl=>congr 1;refine Array.ext (by simpa using hs) λj h1 h2=>?_;have:=hl j (.val r[j]) (by simp[aT (show j<r.length by simpa using h2)]);have:=nX this;simpa [aW,h1]using this
theorem AU:∀{l:cn}{vs r:List Value},uk l=some r->vs.length=l.length->(∀j c,l[j]? =some c->RV x c (vs.getD j undef))->vs=r
 |[],vs,r,h,hl,_=>by simp only[uk,aF]at h;subst h;exact eE (by simpa using hl)
 |d::l,vs,r,h,hl,hr=>by
  cases vs with
  |nil=>simp at hl
  |cons v vs=>
   unfold uk at h;split at h;rename_i v' r' h1 h2;cases h;have:=K6 (by simpa using hr 0 d rfl) h1;subst this;congr 1;exact AU h2 (by simpa using hl) λj c hc=>by simpa using hr (j+1) c (by simpa using hc)
   cases h
def FD(S:aj)(aB:Nat):Prop:=aB=S.length\/S[aB]? =some .none
theorem FD.le {S:aj}{aB:Nat}(h:FD S aB):aB<=S.length:=by
 rcases h with h|h;omega
 grind
theorem FD.ne {S:aj}{aB id:Nat}{b:DB}(h:FD S aB)(hb:S[id]? =some b)(hne:b≠.none):id≠aB:=by
 rintro rfl;rcases h with h|h
 grind
 grind
theorem bC{S:aj}{i:Nat}(h:i<=S.length)(b:DB)(j:Nat):(eF S i b)[j]? =if j=i then some b else S[j]? :=by
 unfold eF;split
 grind
 grind
theorem XV{S:aj}{i:Nat}(b:DB):S.length<=(eF S i b).length:=by unfold eF;split<;>simp
theorem bh{S:aj}{i:Nat}{b:DB}(h:S[i]? =some b)(hb:b≠.none):Live S i:=⟨b,h,hb⟩
theorem Rel.jH (h:Rel x){i:Nat}(hi:Live x.S i):x.μ i<x.w.heap.size:=by
 obtain⟨b,hb,hne⟩:=hi;cases b with
 |none=>exact absurd rfl hne
 |cells l=>obtain⟨arr,e,h1,-⟩:=h.cells i l hb;exact cA h1
 |tail e s n=>obtain⟨arr,h1,-⟩:=h.cU i e s n hb;exact cA h1
 |map es=>obtain⟨o,h1,-⟩:=h.dA i _ hb rfl;exact cA h1
 |defer=>obtain⟨o,h1,-⟩:=h.dA i _ hb rfl;exact cA h1
 |loop r=>obtain⟨o,h1,-⟩:=h.dA i _ hb rfl;exact cA h1
 |op e s l z=>obtain⟨arr,h1,-⟩:=h.ops i e s l z hb;exact cA h1
theorem Rel.wM (h:Rel x){b o:Nat}(hf:x.Fz b o):b<x.w.heap.size:=by obtain⟨v,hv⟩:=h.xg b o hf;exact World.block_lt_of_cell? x.w ⟨b,o,none⟩ hv
structure oz (w w':World) (ob:Obj):Prop where
 heap:w'.heap=w.heap.push ob
 env:w'.os=w.os/\w'.output=w.output
theorem gG(w:World)(ob:Obj):oz w (w.alloc ob) ob:=⟨rfl,rfl,rfl⟩
theorem oz.lt {w w':World}{ob:Obj}(h:oz w w' ob){b:Nat}(hb:b<w.heap.size):w'.heap[b]? =w.heap[b]? :=by rw[h.heap,Array.getElem?_push_lt hb,b7 hb]
theorem oz.new {w w':World}{ob:Obj}(h:oz w w' ob):w'.heap[w.heap.size]? =some ob:=by rw[h.heap,Array.getElem?_push_size]
theorem cell_of_block{w w':World}{b:Nat}(h:w'.heap[b]? =w.heap[b]?)(o:Nat):w'.cell? ⟨b,o,none⟩=w.cell? ⟨b,o,none⟩:=by simp[World.cell?,h]
def Cx.fresh (x:Cx)(w':World)(aB k:Nat)(F:Nat->Prop)(b:DB):Cx:=
 ⟨w',λi=>if i=aB then x.w.heap.size else x.μ i,λi=>if i=aB then k else x.κ i,λc o=>x.Fz c o\/(c=x.w.heap.size/\F o),eF x.S aB b⟩
theorem jv{aB k:Nat}{F:Nat->Prop}{ob:Obj}{b:DB}(hR:Rel x)(hn:FD x.S aB)(hp:oz x.w w' ob):bE x (x.fresh w' aB k F b) where
 size:=by show _<=w'.heap.size;rw[hp.heap];simp
 env:=hp.env
 fz:=λc o h=>⟨.inl h,cell_of_block (hp.lt (hR.wM h)) o⟩
 HS:=λc o h=>by
  rcases h with h|h
  grind
  grind
 old:=λc hc _=>hp.lt hc
 len:=XV b
 cells:=λid l hl=>by have hne:=hn.ne hl ae;exact⟨if_neg hne,l,by show(eF _ _ _)[_]? =_;rw[bC hn.le,if_neg hne];exact hl⟩
 dA:=λid c hl hc=>by have hne:=hn.ne hl (eT hc);exact⟨if_neg hne,⟨c,by show(eF _ _ _)[_]? =_;rw[bC hn.le,if_neg hne];exact hl,dL hc⟩,λ_=>by obtain⟨o,h1,-⟩:=hR.dA id c hl hc;exact hp.lt (cA h1)⟩
 cU:=λt e s n ht=>by have hne:=hn.ne ht ae;exact⟨n,by show(eF _ _ _)[_]? =_;rw[bC hn.le,if_neg hne];exact ht,ai _,λ_=>⟨if_neg hne,if_neg hne⟩⟩
 live:=λi hi=>by
  by_cases h:i=aB;subst h;right;show _<=(if _ then _ else _);rw[if_pos rfl];exact ai _
  left;obtain⟨c,hc,hne⟩:=hi;have hc:(eF x.S aB b)[i]? =some c:=hc;rw[bC hn.le,if_neg h]at hc;exact⟨⟨c,hc,hne⟩,if_neg h⟩
 ops:=λt e s l z ht=>by have hne:=hn.ne ht ae;exact⟨l,z,by show(eF _ _ _)[_]? =_;rw[bC hn.le,if_neg hne];exact ht,ai _,λe=>⟨rfl,e⟩,λ_=>⟨if_neg hne,if_neg hne⟩⟩
theorem mG{aB k:Nat}{F:Nat->Prop}{ob:Obj}{b:DB}(hR:Rel x)(hn:FD x.S aB)(hp:oz x.w w' ob)
  (hF:∀o,F o->∃v,w'.cell? ⟨x.w.heap.size,o,none⟩=some v)
  (hb:(∃l arr e,b=.cells l/\ob=.cells arr e (0,0)/\arr.size=l.length/\(∀o,¬F o)/\∀j c,l[j]? =some c->RV x c (arr.getD j undef))\/
   (∃e s n arr,b=.tail e s n/\ob=.cells arr e (0,0)/\arr.size=k*s/\n<=arr.size/\k<=maxLen/\∀o,F o->o<n)\/(b.isObj=true/\(∀o,¬F o)/\uf (x.fresh w' aB k F b) b ob)\/
   (∃e s l arr,b=.op e s l false/\ob=.cells arr e (0,0)/\arr.size=k*s/\l.length<=arr.size/\k<=maxLen/\(∀o,¬F o)/\∀j c,l[j]? =some c->c.bU=true/\RV x c (arr.getD j undef))):
  Rel (x.fresh w' aB k F b):=by
 have M:=jv (k:=k) (F:=F) (b:=b) hR hn hp;have aR:∀i,(x.fresh w' aB k F b).S[i]? =if i=aB then some b else x.S[i]? :=λi=>bC hn.le b i
 have hμ:∀i,i≠aB->(x.fresh w' aB k F b).μ i=x.μ i:=λi h=>if_neg h;have hκ:∀i,i≠aB->(x.fresh w' aB k F b).κ i=x.κ i:=λi h=>if_neg h;have hμn:(x.fresh w' aB k F b).μ aB=x.w.heap.size:=if_pos rfl;have hκn:(x.fresh w' aB k F b).κ aB=k:=if_pos rfl;have oZ:∀i,i≠aB->Live (x.fresh w' aB k F b).S i->Live x.S i:=by rintro i h ⟨c,hc,hne⟩;rw[aR,if_neg h]at hc;exact⟨c,hc,hne⟩
 constructor
 case glob=>exact hR.glob.keep M.fz
 .intro id l hl;rw[aR]at hl;by_cases h:id=aB;.subst h;rw[if_pos rfl]at hl;cases hl;rcases hb with ⟨l',arr,e,h1,rfl,h3,h4,h5⟩|⟨e,s,n,arr,h1,-⟩|⟨h1,-⟩|⟨e,s,n,arr,h1,-⟩;cases h1;rw[hμn];exact⟨arr,e,hp.new,h3,λj c hc=>(h5 j c hc).mono M⟩;all_goals cases h1
  rw[if_neg h]at hl;obtain⟨arr,e,h1,h2,h3⟩:=hR.cells id l hl;rw[hμ id h];exact⟨arr,e,(hp.lt (cA h1)).trans h1,h2,λj c hc=>(h3 j c hc).mono M⟩
 .intro id e s n hl;rw[aR]at hl;by_cases h:id=aB;.subst h;rw[if_pos rfl]at hl;cases hl;rcases hb with ⟨l',arr,e',h1,-⟩|⟨e',s',n',arr,h1,rfl,h3,h4,h5,-⟩|⟨h1,-⟩|⟨e',s',n',arr,h1,-⟩;cases h1;cases h1;rw[hμn,hκn];exact⟨arr,hp.new,h3,h4,h5⟩;all_goals cases h1
  rw[if_neg h]at hl;obtain⟨arr,h1,h2⟩:=hR.cU id e s n hl;rw[hμ id h,hκ id h];exact⟨arr,(hp.lt (cA h1)).trans h1,h2⟩
 intro id c hl hc;rw[aR]at hl;by_cases h:id=aB;subst h;rw[if_pos rfl]at hl;cases hl;rcases hb with ⟨l',arr,e,h1,-⟩|⟨e',s',n',arr,h1,-⟩|⟨-,-,h1⟩|⟨e',s',n',arr,h1,-⟩;subst h1;cases hc
 subst h1;cases hc
 rw[hμn];exact⟨ob,hp.new,h1⟩;subst h1;cases hc
 rw[if_neg h]at hl;obtain⟨o,h1,h2⟩:=hR.dA id c hl hc;rw[hμ id h];exact⟨o,(hp.lt (cA h1)).trans h1,h2.mono M⟩;intro i j hi hj he;by_cases h1:i=aB;by_cases h2:j=aB
 grind
 rw[h1,hμn,hμ j h2]at he;have:=hR.jH (oZ j h2 hj);omega;by_cases h2:j=aB;rw[h2,hμn,hμ i h1]at he;have:=hR.jH (oZ i h1 hi);omega;rw[hμ i h1,hμ j h2]at he;exact hR.inj i j (oZ i h1 hi) (oZ j h2 hj) he;intro c o h;rcases h with h|⟨rfl,h⟩;obtain⟨v,hv⟩:=hR.xg c o h;exact⟨v,(M.fz c o h).2.trans hv⟩;exact hF o h
 .rintro id ⟨l,hl⟩ o ho;rw[aR]at hl;by_cases h:id=aB
  .subst h;rw[if_pos rfl]at hl;cases hl;rcases hb with ⟨l',arr,e,h1,-,-,h4,-⟩|⟨e',s',n',arr,h1,-⟩|⟨h1,-⟩|⟨e',s',n',arr,h1,-⟩;rw[hμn]at ho;rcases ho with ho|⟨-,ho⟩;have:=hR.wM ho;omega
   grind
   all_goals cases h1
  rw[if_neg h]at hl;rw[hμ id h]at ho;rcases ho with ho|⟨ho,-⟩;exact hR.sep id ⟨l,hl⟩ o ho;have:=hR.jH (bh hl ae);omega
 .intro id e s n hl o ho;rw[aR]at hl;by_cases h:id=aB
  .subst h;rw[if_pos rfl]at hl;cases hl;rcases hb with ⟨l',arr,e',h1,-⟩|⟨e',s',n',arr,h1,-,-,-,-,h6⟩|⟨h1,-⟩|⟨e',s',n',arr,h1,-⟩;cases h1;cases h1;rw[hμn]at ho;rcases ho with ho|⟨-,ho⟩;have:=hR.wM ho;omega
   grind
   all_goals cases h1
  rw[if_neg h]at hl;rw[hμ id h]at ho;rcases ho with ho|⟨ho,-⟩;exact hR.nB id e s n hl o ho;have:=hR.jH (bh hl ae);omega
 intro id e s l z hl;rw[aR]at hl;by_cases h:id=aB;subst h;rw[if_pos rfl]at hl;cases hl;rcases hb with ⟨l',arr,e',h1,-⟩|⟨e',s',n',arr,h1,-⟩|⟨h1,-⟩|⟨e',s',n',arr,h1,rfl,h3,h4,h5,h6,h7⟩;cases h1;cases h1;cases h1;cases h1;rw[hμn,hκn];refine⟨arr,hp.new,h3,h4,h5,λj c hc=>⟨(h7 j c hc).1,(h7 j c hc).2.mono M⟩,ae,λ_ o ho=>?_⟩;rcases ho with ho|⟨-,ho⟩;have:=hR.wM ho;omega
 grind
 rw[if_neg h]at hl;obtain⟨arr,h1,h2,h3,h4,h5,h6,h7⟩:=hR.ops id e s l z hl;rw[hμ id h,hκ id h];refine⟨arr,(hp.lt (cA h1)).trans h1,h2,h3,h4,λj c hc=>⟨(h5 j c hc).1,(h5 j c hc).2.mono M⟩,λhz j hj=>.inl (h6 hz j hj),λhz o ho=>?_⟩;rcases ho with ho|⟨ho,-⟩
 grind
 grind
end Go.Di
