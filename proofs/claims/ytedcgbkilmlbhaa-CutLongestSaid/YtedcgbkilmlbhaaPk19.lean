import Derived.Test.YtedcgbkilmlbhaaPk01
import Derived.Laws.AppendOwn
import Derived.Conc.Machine
namespace Go.Di
open Go
structure Cx where
 w:World
 μ:Nat->Nat
 κ:Nat->Nat
 Fz:Nat->Nat->Prop
 S:ai
def Live(S:ai)(i:Nat):Prop:=∃b,S[i]? =some b/\b≠.none
def View(x:Cx)(rows:List DV)(A:Option Addr)(s:Nat)(vs:Nat->Value):Prop:=
 (∀r∈rows,r.cells.length=s)/\∀j c,(flat rows)[j]? =some c->c.bY=true/\∃b o,A=some ⟨b,o,none⟩/\x.Fz b (o+j)/\x.w.cell? ⟨b,o+j,none⟩=some (vs j)
def acr(x:Cx)(tok:Option Nat)(rows:List DV)(A:Option Addr)(cap:Nat):Prop:=
 ∀t,tok=some t->∃e s n,x.S[t]? =some (.tail e s n)/\rows.length*s<=n/\(∀r∈rows,r.cells.length=s)/\(rows.length*s=n->A=some ⟨x.μ t,0,none⟩/\cap=x.κ t)
def U8(f:SF)(A:Option Addr):Prop:=∀b,f.isNil=some b->A.isNone=b
inductive RV (x:Cx):DV->Value->Prop
 |val {v:Value}:AO v=true->RV x (.val v) v
 |agg {l:List DV} {vs:Array Value}:vs.size=l.length->(∀j c,l[j]? =some c->RV x c (vs.getD j undef))->RV x (.agg l) (.agg vs)
 |tup {l:List DV} {vs:Array Value}:vs.size=l.length->(∀j c,l[j]? =some c->RV x c (vs.getD j undef))->RV x (.tup l) (.tuple vs)
 |sl {rows:List DV} {tok:Option Nat} {full:SF} {A:Option Addr} {cap s:Nat} {vs:Nat->Value}:View x rows A s vs->(∀j c,(flat rows)[j]? =some c->RV x c (vs j))->rows.length<=cap->((full.full=true->cap=rows.length)/\U8 full A)->(A=none->cap=0)->(∀ad,A=some ad->0<cap->ad.spot=none)->acr x tok rows A cap->
  RV x (.sl rows tok full) (.slice A rows.length cap)
 |ptr {id off:Nat} {l:List DV}:x.S[id]? =some (.cells l)->RV x (.ptr id off) (.pointer (some ⟨x.μ id,off,none⟩))
 |fF {rows:List DV} {i off b o s:Nat} {vs:Nat->Value}:View x rows (some ⟨b,o,none⟩) s vs->(∀j c,(flat rows)[j]? =some c->RV x c (vs j))->RV x (.fF rows i off) (.pointer (some ⟨b,o+(i*s+off),none⟩))
 |fn {f:FuncId} {first captured:List DV} {fs cs:Array Value}:fs.size=first.length->cs.size=captured.length->(∀j c,first[j]? =some c->RV x c (fs.getD j undef))->(∀j c,captured[j]? =some c->RV x c (cs.getD j undef))->RV x (.fn f first captured) (.func (.func f) fs cs)
 |map {id:Nat} {es:List (Value×Value)}:x.S[id]? =some (.map es)->RV x (.map id) (.map (some (x.μ id)))
 |oq {id:Nat} {r:Gz}:x.S[id]? =some (.loop r)->RV x (.oq id) (.func (.yield (x.μ id)) #[] #[])
 |jx {id n:Nat} {agg:Bool} {e:TypeId} {s:Nat} {l:List DV} {z:Bool} {A:Option Addr} {cap:Nat}:x.S[id]? =some (.op e s l z)->n*s<=l.length->(n*s=l.length->A=some ⟨x.μ id,0,none⟩/\cap=x.κ id)->RV x (.jx id n agg) (.slice A n cap)
 |gD {id n off:Nat} {e:TypeId} {s:Nat} {l:List DV} {z:Bool} {A:Option Addr}:x.S[id]? =some (.op e s l z)->n*s<=l.length->(n*s=l.length->A=some ⟨x.μ id,off,none⟩)->RV x (.gD id n off) (.pointer A)
def iw(x:Cx)(l:List DV)(arr:Array Value):Prop:=arr.size=l.length/\∀j c,l[j]? =some c->RV x c (arr.getD j undef)
def DB.isObj:DB->Bool
 |.map _|.defer|.loop _=>true
 |_=>false
def uL(x:Cx):DB->Obj->Prop
 |.map es,.map Dy _=>Dy.toList.map (λe=>(e.key,e.val))=es
 |.defer,.deferred _=>True
 |.loop r,.loop l=>l.state=r.st/\l.pending=r.kD/\l.fn=r.fn/\iw x r.env l.tmps/\l.params=r.params.toArray/\l.assign=r.assign/\l.body=r.body/\l.defers=x.μ r.BI/\x.S[r.BI]? =some .defer
 |_,_=>False
def DB.like:DB->DB->Prop
 |.map _,.map _=>True
 |.defer,.defer=>True
 |.loop r,.loop r'=>r'={r with st:=r'.st,kD:=r'.kD}
 |_,_=>False
theorem eX:∀{b:DB},b.isObj=true->b.like b
 |.map _,_=>trivial
 |.defer,_=>trivial
 |.loop _,_=>rfl
 |.none,h=>by cases h
 |.cells _,h=>by cases h
 |.tail ..,h=>by cases h
 |.op ..,h=>by cases h
theorem u9:∀{b c:DB},b.like c->b.isObj=true/\c.isObj=true
 |.map _,.map _,_=>⟨rfl,rfl⟩
 |.defer,.defer,_=>⟨rfl,rfl⟩
 |.loop _,.loop _,_=>⟨rfl,rfl⟩
theorem Oc:∀{a b c:DB},a.like b->b.like c->a.like c
 |.map _,.map _,.map _,_,_=>trivial
 |.defer,.defer,.defer,_,_=>trivial
 |.loop r,.loop r',.loop r'',h,k=>by simp only[DB.like]at h k⊢;rw[k,h]
theorem fE{b:DB}(h:b.isObj=true):b≠.none:=by rintro rfl;cases h
structure Rel (x:Cx):Prop where
 cells:∀id l,x.S[id]? =some (.cells l)->∃arr e,x.w.heap[x.μ id]? =some (.cells arr e (0,0))/\arr.size=l.length/\∀j c,l[j]? =some c->RV x c (arr.getD j undef)
 dZ:∀id e s n,x.S[id]? =some (.tail e s n)->∃arr,x.w.heap[x.μ id]? =some (.cells arr e (0,0))/\arr.size=x.κ id*s/\n<=arr.size/\x.κ id<=maxLen
 eF:∀id b,x.S[id]? =some b->b.isObj=true->∃o,x.w.heap[x.μ id]? =some o/\uL x b o
 inj:∀i j,Live x.S i->Live x.S j->x.μ i=x.μ j->i=j
 As:∀b o,x.Fz b o->∃v,x.w.cell? ⟨b,o,none⟩=some v
 sep:∀id,(∃l,x.S[id]? =some (.cells l))->∀o,¬x.Fz (x.μ id) o
 pL:∀id e s n,x.S[id]? =some (.tail e s n)->∀o,x.Fz (x.μ id) o->o<n
 ops:∀id e s l z,x.S[id]? =some (.op e s l z)->∃arr,x.w.heap[x.μ id]? =some (.cells arr e (0,0))/\arr.size=x.κ id*s/\l.length<=arr.size/\x.κ id<=maxLen/\(∀j c,l[j]? =some c->c.bY=true/\RV x c (arr.getD j undef))/\(z=true->∀j,j<l.length->x.Fz (x.μ id) j)/\(z=false->∀o,¬x.Fz (x.μ id) o)
structure bU (x y:Cx):Prop where
 size:x.w.heap.size<=y.w.heap.size
 env:y.w.os=x.w.os/\y.w.output=x.w.output
 fz:∀b o,x.Fz b o->y.Fz b o/\y.w.cell? ⟨b,o,none⟩=x.w.cell? ⟨b,o,none⟩
 JM:∀b o,y.Fz b o->x.Fz b o\/x.w.heap.size<=b\/∃i,Live x.S i/\x.μ i=b
 old:∀b,b<x.w.heap.size->(∀i,Live x.S i->x.μ i≠b)->y.w.heap[b]? =x.w.heap[b]?
 len:x.S.length<=y.S.length
 cells:∀id l,x.S[id]? =some (.cells l)->y.μ id=x.μ id/\∃l',y.S[id]? =some (.cells l')
 eF:∀id b,x.S[id]? =some b->b.isObj=true->y.μ id=x.μ id/\(∃b',y.S[id]? =some b'/\b.like b')/\(b=.defer->y.w.heap[x.μ id]? =x.w.heap[x.μ id]?)
 dZ:∀t e s n,x.S[t]? =some (.tail e s n)->∃n',y.S[t]? =some (.tail e s n')/\n<=n'/\(n'=n->y.μ t=x.μ t/\y.κ t=x.κ t)
 live:∀i,Live y.S i->(Live x.S i/\y.μ i=x.μ i)\/x.w.heap.size<=y.μ i
 ops:∀t e s l z,x.S[t]? =some (.op e s l z)->∃l' z',y.S[t]? =some (.op e s l' z')/\l.length<=l'.length/\(z=true->l'=l/\z'=true)/\(l'.length=l.length->y.μ t=x.μ t/\y.κ t=x.κ t)
theorem bU.refl (x:Cx):bU x x:=
 ⟨aj _,⟨rfl,rfl⟩,λ_ _ h=>⟨h,rfl⟩,λ_ _ h=>.inl h,λ_ _ _=>rfl,aj _,λ_ l h=>⟨rfl,l,h⟩,λ_ b h hb=>⟨rfl,⟨b,h,eX hb⟩,λ_=>rfl⟩,λ_ _ _ n h=>⟨n,h,aj _,λ_=>⟨rfl,rfl⟩⟩,λ_ h=>.inl ⟨h,rfl⟩,λ_ _ _ l z h=>⟨l,z,h,aj _,λe=>⟨rfl,e⟩,λ_=>⟨rfl,rfl⟩⟩⟩
theorem bU.trans {x y z:Cx}(h:bU x y)(k:bU y z):bU x z where
 size:=bp h.size k.size
 env:=⟨k.env.1.trans h.env.1,k.env.2.trans h.env.2⟩
 fz:=λb o hb=>⟨(k.fz b o (h.fz b o hb).1).1,(k.fz b o (h.fz b o hb).1).2.trans (h.fz b o hb).2⟩
 JM:=λb o hb=>by
  rcases k.JM b o hb with h1|h1|⟨i,h1,h2⟩;.exact h.JM b o h1
  .exact .inr (.inl (bp h.size h1))
  rcases h.live i h1 with ⟨h3,h4⟩|h3;.exact .inr (.inr ⟨i,h3,by rw[<-h4];exact h2⟩)
  exact .inr (.inl (h2▸h3))
 old:=λb hb hn=>by
  refine(k.old b (dM hb h.size) λi hi he=>?_).trans (h.old b hb hn);rcases h.live i hi with ⟨h3,h4⟩|h3;.exact hn i h3 (h4▸he)
  omega
 len:=bp h.len k.len
 cells:=λid l hl=>by obtain⟨h1,l',h2⟩:=h.cells id l hl;obtain⟨h3,l'',h4⟩:=k.cells id l' h2;exact⟨h3.trans h1,l'',h4⟩
 eF:=λid b hl hb=>by
  obtain⟨h1,⟨b',h2,h5⟩,h6⟩:=h.eF id b hl hb;obtain⟨h3,⟨b'',h4,h7⟩,h8⟩:=k.eF id b' h2 (u9 h5).2;refine⟨h3.trans h1,⟨b'',h4,Oc h5 h7⟩,λhd=>?_⟩;subst hd;have:b'=.defer:=by cases b'<;>first|rfl|exact h5.elim
  rw[<-h6 rfl,<-h1];exact h8 this
 dZ:=λt e s n ht=>by
  obtain⟨n',h1,h2,h3⟩:=h.dZ t e s n ht;obtain⟨n'',h4,h5,h6⟩:=k.dZ t e s n' h1;refine⟨n'',h4,bp h2 h5,λhe=>?_⟩;have e1:n'=n:=by omega
  have e2:n''=n':=by omega
  exact⟨(h6 e2).1.trans (h3 e1).1,(h6 e2).2.trans (h3 e1).2⟩
 live:=λi hi=>by
  rcases k.live i hi with ⟨h1,h2⟩|h1
  .rcases h.live i h1 with ⟨h3,h4⟩|h3;.exact .inl ⟨h3,h2.trans h4⟩
   exact .inr (h2▸h3)
  exact .inr (bp h.size h1)
 ops:=λt e s l z ht=>by
  obtain⟨l1,z1,h1,h2,h3,h4⟩:=h.ops t e s l z ht;obtain⟨l2,z2,k1,k2,k3,k4⟩:=k.ops t e s l1 z1 h1;refine⟨l2,z2,k1,bp h2 k2,λhz=>?_,λhe=>?_⟩;.obtain⟨rfl,rfl⟩:=h3 hz;exact k3 rfl
  have e1:l1.length=l.length:=by omega
  have e2:l2.length=l1.length:=by omega
  exact⟨(k4 e2).1.trans (h4 e1).1,(k4 e2).2.trans (h4 e1).2⟩
theorem View.mono {x y:Cx}{rows:List DV}{A:Option Addr}{s:Nat}{vs:Nat->Value}(hF:∀b o,x.Fz b o->y.Fz b o/\y.w.cell? ⟨b,o,none⟩=x.w.cell? ⟨b,o,none⟩)(h:View x rows A s vs):View y rows A s vs:=
 ⟨h.1,λj c hc=>by obtain⟨h1,b,o,h2,h3,h4⟩:=h.2 j c hc;exact⟨h1,b,o,h2,(hF _ _ h3).1,(hF _ _ h3).2.trans h4⟩⟩
theorem RV.mono {x y:Cx}(M:bU x y){d:DV}{v:Value}(h:RV x d v):RV y d v:=by
 induction h with
 |val h=>exact .val h
 |agg h _ ih=>exact .agg h ih
 |tup h _ ih=>exact .tup h ih
 |sl hv _ h1 h2 h3 hsp h4 ih=>
  refine .sl (hv.mono M.fz) ih h1 h2 h3 hsp λt ht=>?_;obtain⟨e,s,n,k1,k2,k3,k4⟩:=h4 t ht;obtain⟨n',m1,m2,m3⟩:=M.dZ t e s n k1;refine⟨e,s,n',m1,bp k2 m2,k3,λhe=>?_⟩;have e1:n'=n:=by omega
  rw[(m3 e1).1,(m3 e1).2];exact k4 (he.trans e1)
 |ptr h=>obtain⟨h1,l',h2⟩:=M.cells _ _ h;rw[<-h1];exact .ptr h2
 |fF hv _ ih=>exact .fF (hv.mono M.fz) ih
 |fn h1 h2 _ _ QN SR=>exact .fn h1 h2 QN SR
 |map h=>
  obtain⟨h1,⟨b',h2,h3⟩,-⟩:=M.eF _ _ h rfl;rw[<-h1];cases b' with
  |map es=>exact .map h2
  |_=>exact h3.elim
 |oq h=>
  obtain⟨h1,⟨b',h2,h3⟩,-⟩:=M.eF _ _ h rfl;rw[<-h1];cases b' with
  |loop r=>exact .oq h2
  |_=>exact h3.elim
 |jx h hn hl=>obtain⟨l',z',h1,h2,-,h4⟩:=M.ops _ _ _ _ _ h;refine .jx h1 (by omega) λhe=>?_;have e1:=h4 (by omega);rw[e1.1,e1.2];exact hl (by omega)
 |gD h hn hl=>obtain⟨l',z',h1,h2,-,h4⟩:=M.ops _ _ _ _ _ h;refine .gD h1 (by omega) λhe=>?_;rw[(h4 (by omega)).1];exact hl (by omega)
theorem iw.mono {x y:Cx}(M:bU x y){l:List DV}{arr:Array Value}(h:iw x l arr):iw y l arr:=⟨h.1,λj c hc=>(h.2 j c hc).mono M⟩
theorem uL.mono {x y:Cx}(M:bU x y):∀{b:DB}{o:Obj},uL x b o->uL y b o
 |.map _,.map _ _,h=>h
 |.defer,.deferred _,_=>trivial
 |.loop r,.loop l,⟨h1,h2,h3,h4,h5,h6,h7,h8,h9⟩=>by
  obtain⟨k1,⟨b',k2,k3⟩,-⟩:=M.eF _ _ h9 rfl;have:b'=.defer:=by cases b'<;>first|rfl|exact k3.elim
  subst this;exact⟨h1,h2,h3,h4.mono M,h5,h6,h7,by rw[h8,k1],k2⟩
theorem RV.qn {x y:Cx}(hF:∀b o,x.Fz b o->y.Fz b o/\y.w.cell? ⟨b,o,none⟩=x.w.cell? ⟨b,o,none⟩){d:DV}{v:Value}(h:RV x d v)(hp:d.bY=true):RV y d v:=by
 induction h with
 |val h=>exact .val h
 |agg h _ ih=>simp[DV.bY]at hp
 |tup h _ ih=>simp[DV.bY]at hp
 |@sl rows tok full A cap s vs hv _ h1 h2 h3 hsp h4 ih=>refine .sl (hv.mono hF) (λj c hc=>ih j c hc (hv.2 j c hc).1) h1 h2 h3 hsp λt ht=>?_;subst ht;simp[DV.bY]at hp
 |ptr h=>simp[DV.bY]at hp
 |fF hv _ ih=>simp[DV.bY]at hp
 |fn h1 h2 _ _ QN SR=>simp[DV.bY]at hp
 |map h=>simp[DV.bY]at hp
 |oq h=>simp[DV.bY]at hp
 |jx=>simp[DV.bY]at hp
 |gD=>simp[DV.bY]at hp
theorem JC{l:List DV}(h:l.all DV.bY=true){j:Nat}{c:DV}(hc:l[j]? =some c):c.bY=true:=aT.1 h c (b9 hc)
theorem RV.E1 {x y:Cx}(hF:∀b o,x.Fz b o->y.Fz b o/\y.w.cell? ⟨b,o,none⟩=x.w.cell? ⟨b,o,none⟩){d:DV}{v:Value}(h:RV x d v)(hp:d.ko=true):RV y d v:=by
 cases h with
 |val h=>exact .val h
 |agg h hl=>exact .agg h λj c hc=>(hl j c hc).qn hF (JC hp hc)
 |tup h hl=>simp[DV.ko]at hp
 |@sl rows tok full A cap s vs hv hr h1 h2 h3 hsp h4=>
  cases tok with
  |none=>exact(RV.sl hv hr h1 h2 h3 hsp h4).qn hF rfl
  |some t=>simp[DV.ko]at hp
 |ptr h=>simp[DV.ko]at hp
 |fF hv _=>simp[DV.ko]at hp
 |fn h1 h2 _ _=>simp[DV.ko]at hp
 |map h=>simp[DV.ko]at hp
 |oq h=>simp[DV.ko]at hp
 |jx=>simp[DV.ko]at hp
 |gD=>simp[DV.ko]at hp
theorem aan{d:DV}(hp:d.pure=true):(∃l,d=.tup l/\l.all DV.ko=true)\/d.ko=true:=by
 cases d with
 |tup l=>exact .inl ⟨l,rfl,hp⟩
 |_=>exact .inr hp
theorem RV.pure_mono {x y:Cx}(hF:∀b o,x.Fz b o->y.Fz b o/\y.w.cell? ⟨b,o,none⟩=x.w.cell? ⟨b,o,none⟩){d:DV}{v:Value}(h:RV x d v)(hp:d.pure=true):RV y d v:=by
 rcases aan hp with ⟨l,rfl,hl⟩|hp
 .cases h with
  |tup h hr=>exact .tup h λj c hc=>(hr j c hc).E1 hF (aT.1 hl c (b9 hc))
 exact h.E1 hF hp
theorem RV.aM {x:Cx}{d:DV}{v:Value}(h:RV x d v):RV x d.aM v:=by
 cases h with
 |sl hv hr h1 h2 h3 hsp h4=>exact .sl hv hr h1 ⟨by simp,h2.2⟩ h3 hsp λt ht=>(by cases ht)
 |val h=>exact .val h
 |agg h hl=>exact .agg h hl
 |tup h hl=>exact .tup h hl
 |ptr h=>exact .ptr h
 |fF hv hr=>exact .fF hv hr
 |fn h1 h2 h3 h4=>exact .fn h1 h2 h3 h4
 |map h=>exact .map h
 |oq h=>exact .oq h
 |jx h h1 h2=>exact .jx h h1 h2
 |gD h h1 h2=>exact .gD h h1 h2
theorem RV.dF {x:Cx}{d:DV}{v:Value}(h:RV x d v):RV x d.dF v:=by
 cases h with
 |sl hv hr h1 h2 h3 hsp h4=>exact .sl hv hr h1 ⟨by simp,h2.2⟩ h3 hsp λt ht=>(by cases ht)
 |val h=>exact .val h
 |@agg l vs h hl=>refine .agg (by simpa using h) λj c hc=>?_;simp only[cR,af]at hc;obtain⟨c',h1,rfl⟩:=hc;exact(hl j c' h1).aM
 |tup h hl=>exact .tup h hl
 |ptr h=>exact .ptr h
 |fF hv hr=>exact .fF hv hr
 |fn h1 h2 h3 h4=>exact .fn h1 h2 h3 h4
 |map h=>exact .map h
 |oq h=>exact .oq h
 |jx h h1 h2=>exact .jx h h1 h2
 |gD h h1 h2=>exact .gD h h1 h2
theorem RV.strip {x:Cx}{d:DV}{v:Value}(h:RV x d v):RV x d.strip v:=by
 cases d with
 |tup l=>
  cases h with
  |tup h hl=>refine .tup (by simpa using h) λj c hc=>?_;simp only[cR,af]at hc;obtain⟨c',h1,rfl⟩:=hc;exact(hl j c' h1).dF
 |_=>exact h.dF
def Cx.bare (x:Cx):Cx:={x with S:=[]}
def Cx.behind (x y:Cx):Cx:={x with w:=y.w,Fz:=y.Fz}
theorem gU(i:Nat):¬Live [] i:=by rintro⟨b,h,-⟩;simp at h
theorem Rel.bare {x:Cx}(h:Rel x):Rel x.bare where
 cells:=λid l hl=>by simp[Cx.bare]at hl
 dZ:=λid e s n hl=>by simp[Cx.bare]at hl
 eF:=λid b hl=>by simp[Cx.bare]at hl
 inj:=λi j hi=>(gU i hi).elim
 As:=h.As
 sep:=λid ⟨l,hl⟩=>by simp[Cx.bare]at hl
 pL:=λid e s n hl=>by simp[Cx.bare]at hl
 ops:=λid e s l z hl=>by simp[Cx.bare]at hl
theorem Cf{x y:Cx}(hR:Rel x)(M:bU x.bare y):bU x (x.behind y) where
 size:=M.size
 env:=M.env
 fz:=M.fz
 JM:=λb o hb=>by
  rcases M.JM b o hb with h|h|⟨i,h,-⟩;.exact .inl h
  .exact .inr (.inl h)
  exact(gU i h).elim
 old:=λb hb _=>M.old b hb λi hi=>(gU i hi).elim
 len:=aj _
 cells:=λid l hl=>⟨rfl,l,hl⟩
 eF:=λid b hl hb=>⟨rfl,⟨b,hl,eX hb⟩,λ_=>M.old _ (by obtain⟨o,h1,-⟩:=hR.eF id b hl hb;exact(aL.1 h1).1) λi hi=>(gU i hi).elim⟩
 dZ:=λt e s n ht=>⟨n,ht,aj _,λ_=>⟨rfl,rfl⟩⟩
 live:=λi hi=>.inl ⟨hi,rfl⟩
 ops:=λ_ _ _ l z h=>⟨l,z,h,aj _,λe=>⟨rfl,e⟩,λ_=>⟨rfl,rfl⟩⟩
theorem cL{w:World}{b:Nat}{o:Obj}(h:w.heap[b]? =some o):b<w.heap.size:=(aL.1 h).1
theorem Rel.behind {x y:Cx}(h:Rel x)(M:bU x.bare y)(k:Rel y):Rel (x.behind y):=by
 have hM:=Cf h M;have hold:∀b,b<x.w.heap.size->y.w.heap[b]? =x.w.heap[b]? :=λb hb=>M.old b hb λi hi=>(gU i hi).elim;have MF:∀b o,b<x.w.heap.size->y.Fz b o->x.Fz b o:=λb o hb hy=>by
  rcases M.JM b o hy with h|h|⟨i,h,-⟩;.exact h
  .exact absurd h (by have:(x.bare).w=x.w:=rfl;rw[this];omega)
  exact(gU i h).elim
 exact{
  cells:=λid l hl=>by obtain⟨arr,e,h1,h2,h3⟩:=h.cells id l hl;exact⟨arr,e,(hold _ (cL h1)).trans h1,h2,λj c hc=>(h3 j c hc).mono hM⟩
  dZ:=λid e s n hl=>by obtain⟨arr,h1,h2⟩:=h.dZ id e s n hl;exact⟨arr,(hold _ (cL h1)).trans h1,h2⟩
  eF:=λid b hl hb=>by obtain⟨o,h1,h2⟩:=h.eF id b hl hb;exact⟨o,(hold _ (cL h1)).trans h1,h2.mono hM⟩
  inj:=h.inj
  As:=k.As
  sep:=λid hl o ho=>by obtain⟨l,hl⟩:=hl;obtain⟨arr,e,h1,-⟩:=h.cells id l hl;exact h.sep id ⟨l,hl⟩ o (MF _ _ (cL h1) ho)
  pL:=λid e s n hl o ho=>by obtain⟨arr,h1,-⟩:=h.dZ id e s n hl;exact h.pL id e s n hl o (MF _ _ (cL h1) ho)
  ops:=λid e s l z hl=>by obtain⟨arr,h1,h2,h3,h4,h5,h6,h7⟩:=h.ops id e s l z hl;exact⟨arr,(hold _ (cL h1)).trans h1,h2,h3,h4,λj c hc=>⟨(h5 j c hc).1,(h5 j c hc).2.mono hM⟩,λhz j hj=>(M.fz _ _ (h6 hz j hj)).1,λhz o ho=>h7 hz o (MF _ _ (cL h1) ho)⟩}
def Cx.dr (x:Cx)(d:Nat):Cx:={x with w:=x.w.at d}
theorem fJ(x:Cx)(d:Nat):bU x (x.dr d):=
 ⟨aj _,⟨rfl,rfl⟩,λ_ _ h=>⟨h,rfl⟩,λ_ _ h=>.inl h,λ_ _ _=>rfl,aj _,λ_ l h=>⟨rfl,l,h⟩,λ_ b h hb=>⟨rfl,⟨b,h,eX hb⟩,λ_=>rfl⟩,λ_ _ _ n h=>⟨n,h,aj _,λ_=>⟨rfl,rfl⟩⟩,λ_ h=>.inl ⟨h,rfl⟩,λ_ _ _ l z h=>⟨l,z,h,aj _,λe=>⟨rfl,e⟩,λ_=>⟨rfl,rfl⟩⟩⟩
theorem Rel.dr {x:Cx}(h:Rel x)(d:Nat):Rel (x.dr d) where
 cells:=λid l hl=>by obtain⟨arr,e,h1,h2,h3⟩:=h.cells id l hl;exact⟨arr,e,h1,h2,λj c hc=>(h3 j c hc).mono (fJ x d)⟩
 dZ:=h.dZ
 eF:=λid b hl hb=>by obtain⟨o,h1,h2⟩:=h.eF id b hl hb;exact⟨o,h1,h2.mono (fJ x d)⟩
 inj:=h.inj
 As:=h.As
 sep:=h.sep
 pL:=h.pL
 ops:=λid e s l z hl=>by obtain⟨arr,h1,h2,h3,h4,h5,h6⟩:=h.ops id e s l z hl;exact⟨arr,h1,h2,h3,h4,λj c hc=>⟨(h5 j c hc).1,(h5 j c hc).2.mono (fJ x d)⟩,h6⟩
end Go.Di
namespace Go.Di
open Go
variable {P:Program} {ty:fP} {x:Cx} {w':World}
theorem pG{α:Type}{s:Sem α}{a:α}(h:cu P s=some a)(w:World):s.run P w=.ok a w:=by
 induction s generalizing a with
 |pure b=>simp only[cu,aB]at h;subst h;rfl
 |program k ih=>simp only[cu]at h;simpa [Sem.run]using ih P h
 |_=>simp[cu]at h
theorem aek(tok:Option Nat)(h:tok=none):RV x (.sl [] tok ⟨true,some true⟩) (.slice none 0 0):=by subst h;exact RV.sl (rows:=[]) (A:=none) (cap:=0) (s:=0) (vs:=λ_=>undef) ⟨by simp,by simp[flat]⟩ (by simp[flat]) (aj _) ⟨λ_=>rfl,λb h=>by cases h;rfl⟩ (λ_=>rfl) (λ_ h _=>by cases h) (λt ht=>by cases ht)
theorem GL{v:Value}{d:DV}(h:Is v=some d):RV x d v:=by
 unfold Is at h;split at h;.cases h;exact aek _ rfl
 split at h;.cases h;exact .val ‹_›
 cases h
theorem iQ:∀{vs:List Value}{l:List DV},s5 vs=some l->vs.length=l.length/\∀j c,l[j]? =some c->RV x c (vs.getD j undef)
 |[],l,h=>by simp only[s5,aB]at h;subst h;simp
 |v::vs,l,h=>by
  unfold s5 at h;split at h
  .rename_i d r h1 h2;cases h;obtain⟨h3,h4⟩:=iQ h2;refine⟨by simp[h3],λj c hc=>?_⟩;cases j with
   |zero=>simp at hc;subst hc;exact GL h1
   |succ j=>simpa using h4 j c (by simpa using hc)
  cases h
theorem zD{v:Value}{d:DV}(h:BP v=some d):RV x d v:=by
 unfold BP at h;split at h;.simp only[af]at h;obtain⟨l,h1,rfl⟩:=h;obtain⟨h3,h4⟩:=iQ (x:=x) h1;exact .agg (by simpa using h3) λj c hc=>by simpa [bq,aR]using h4 j c hc
 .split at h;.rename_i f fs cs hz;simp only[aA,cC]at hz;cases h;exact .fn hz.1 hz.2 (by simp) (by simp)
  cases h
 exact GL h
theorem zZ:∀{l:List DV}{r:List Value},s4 l=some r->l=r.map .val
 |[],r,h=>by simp only[s4,aB]at h;subst h;rfl
 |d::l,r,h=>by cases d<;>simp only[s4,af]at h;all_goals first|(obtain⟨r',h1,rfl⟩:=h;simp[zZ h1];done)|cases h
theorem xN{v u:Value}(h:RV x (.val u) v):v=u:=by cases h;rfl
theorem K1{d:DV}{v u:Value}(h:RV x d v)(hu:BL d=some u):v=u:=by
 cases d<;>simp only[BL,af,reduceCtorEq]at hu;.simp only[aB]at hu;subst hu;exact xN h
 obtain⟨r,h1,rfl⟩:=hu;have:=zZ h1;subst this;cases h with
 |@agg _ vs hs hl=>congr 1;refine Array.ext (by simpa using hs) λj h1 h2=>?_;have:=hl j (.val r[j]) (by simp[bQ (show j<r.length by simpa using h2)]);have:=xN this;simpa [bq,h1]using this
theorem A9:∀{l:List DV}{vs r:List Value},uP l=some r->vs.length=l.length->(∀j c,l[j]? =some c->RV x c (vs.getD j undef))->vs=r
 |[],vs,r,h,hl,_=>by simp only[uP,aB]at h;subst h;exact fA (by simpa using hl)
 |d::l,vs,r,h,hl,hr=>by
  cases vs with
  |nil=>simp at hl
  |cons v vs=>
   unfold uP at h;split at h;.rename_i v' r' h1 h2;cases h;have:=K1 (by simpa using hr 0 d rfl) h1;subst this;congr 1;exact A9 h2 (by simpa using hl) λj c hc=>by simpa using hr (j+1) c (by simpa using hc)
   cases h
def Fy(S:ai)(aD:Nat):Prop:=aD=S.length\/S[aD]? =some .none
theorem Fy.le {S:ai}{aD:Nat}(h:Fy S aD):aD<=S.length:=by
 rcases h with h|h;.omega
 have:=(az.1 h).1;omega
theorem Fy.ne {S:ai}{aD id:Nat}{b:DB}(h:Fy S aD)(hb:S[id]? =some b)(hne:b≠.none):id≠aD:=by
 rintro rfl;rcases h with h|h;.rw[h,fu (aj _)]at hb;cases hb
 rw[h]at hb;cases hb;exact hne rfl
theorem bF{S:ai}{i:Nat}(h:i<=S.length)(b:DB)(j:Nat):(eW S i b)[j]? =if j=i then some b else S[j]? :=by
 unfold eW;split
 .rw[aF];split<;>rename_i h1;.subst h1;simp[*]
  rw[if_neg (Ne.symm h1)]
 have:i=S.length:=by omega
 subst this;rw[qT];split;.rw[if_neg (by omega)]
 rename_i h1;by_cases h2:j=S.length;.subst h2;simp
 rw[if_neg h2,fu (by simp;omega),fu (by omega)]
theorem WK{S:ai}{i:Nat}(b:DB):S.length<=(eW S i b).length:=by unfold eW;split<;>simp
theorem bn{S:ai}{i:Nat}{b:DB}(h:S[i]? =some b)(hb:b≠.none):Live S i:=⟨b,h,hb⟩
theorem Rel.iN (h:Rel x){i:Nat}(hi:Live x.S i):x.μ i<x.w.heap.size:=by
 obtain⟨b,hb,hne⟩:=hi;cases b with
 |none=>exact absurd rfl hne
 |cells l=>obtain⟨arr,e,h1,-⟩:=h.cells i l hb;exact cL h1
 |tail e s n=>obtain⟨arr,h1,-⟩:=h.dZ i e s n hb;exact cL h1
 |map es=>obtain⟨o,h1,-⟩:=h.eF i _ hb rfl;exact cL h1
 |defer=>obtain⟨o,h1,-⟩:=h.eF i _ hb rfl;exact cL h1
 |loop r=>obtain⟨o,h1,-⟩:=h.eF i _ hb rfl;exact cL h1
 |op e s l z=>obtain⟨arr,h1,-⟩:=h.ops i e s l z hb;exact cL h1
theorem Rel.xg (h:Rel x){b o:Nat}(hf:x.Fz b o):b<x.w.heap.size:=by obtain⟨v,hv⟩:=h.As b o hf;exact World.block_lt_of_cell? x.w ⟨b,o,none⟩ hv
structure pP (w w':World) (ob:Obj):Prop where
 heap:w'.heap=w.heap.push ob
 env:w'.os=w.os/\w'.output=w.output
theorem gZ(w:World)(ob:Obj):pP w (w.alloc ob) ob:=⟨rfl,rfl,rfl⟩
theorem pP.lt {w w':World}{ob:Obj}(h:pP w w' ob){b:Nat}(hb:b<w.heap.size):w'.heap[b]? =w.heap[b]? :=by rw[h.heap,Array.getElem?_push_lt hb,cr hb]
theorem pP.new {w w':World}{ob:Obj}(h:pP w w' ob):w'.heap[w.heap.size]? =some ob:=by rw[h.heap,Array.getElem?_push_size]
theorem cell_of_block{w w':World}{b:Nat}(h:w'.heap[b]? =w.heap[b]?)(o:Nat):w'.cell? ⟨b,o,none⟩=w.cell? ⟨b,o,none⟩:=by simp[World.cell?,h]
def Cx.fresh (x:Cx)(w':World)(aD k:Nat)(F:Nat->Prop)(b:DB):Cx:=
 ⟨w',λi=>if i=aD then x.w.heap.size else x.μ i,λi=>if i=aD then k else x.κ i,λc o=>x.Fz c o\/(c=x.w.heap.size/\F o),eW x.S aD b⟩
theorem jS{aD k:Nat}{F:Nat->Prop}{ob:Obj}{b:DB}(hR:Rel x)(hn:Fy x.S aD)(hp:pP x.w w' ob):bU x (x.fresh w' aD k F b) where
 size:=by show _<=w'.heap.size;rw[hp.heap];simp
 env:=hp.env
 fz:=λc o h=>⟨.inl h,cell_of_block (hp.lt (hR.xg h)) o⟩
 JM:=λc o h=>by
  rcases h with h|h;.exact .inl h
  exact .inr (.inl (by omega))
 old:=λc hc _=>hp.lt hc
 len:=WK b
 cells:=λid l hl=>by have hne:=hn.ne hl (by simp);exact⟨if_neg hne,l,by show(eW _ _ _)[_]? =_;rw[bF hn.le,if_neg hne];exact hl⟩
 eF:=λid c hl hc=>by have hne:=hn.ne hl (fE hc);exact⟨if_neg hne,⟨c,by show(eW _ _ _)[_]? =_;rw[bF hn.le,if_neg hne];exact hl,eX hc⟩,λ_=>by obtain⟨o,h1,-⟩:=hR.eF id c hl hc;exact hp.lt (cL h1)⟩
 dZ:=λt e s n ht=>by have hne:=hn.ne ht (by simp);exact⟨n,by show(eW _ _ _)[_]? =_;rw[bF hn.le,if_neg hne];exact ht,aj _,λ_=>⟨if_neg hne,if_neg hne⟩⟩
 live:=λi hi=>by
  by_cases h:i=aD;.subst h;right;show _<=(if _ then _ else _);rw[if_pos rfl];exact aj _
  left;obtain⟨c,hc,hne⟩:=hi;have hc:(eW x.S aD b)[i]? =some c:=hc;rw[bF hn.le,if_neg h]at hc;exact⟨⟨c,hc,hne⟩,if_neg h⟩
 ops:=λt e s l z ht=>by have hne:=hn.ne ht (by simp);exact⟨l,z,by show(eW _ _ _)[_]? =_;rw[bF hn.le,if_neg hne];exact ht,aj _,λe=>⟨rfl,e⟩,λ_=>⟨if_neg hne,if_neg hne⟩⟩
theorem nk{aD k:Nat}{F:Nat->Prop}{ob:Obj}{b:DB}(hR:Rel x)(hn:Fy x.S aD)(hp:pP x.w w' ob)
  (hF:∀o,F o->∃v,w'.cell? ⟨x.w.heap.size,o,none⟩=some v)
  (hb:(∃l arr e,b=.cells l/\ob=.cells arr e (0,0)/\arr.size=l.length/\(∀o,¬F o)/\∀j c,l[j]? =some c->RV x c (arr.getD j undef))\/
   (∃e s n arr,b=.tail e s n/\ob=.cells arr e (0,0)/\arr.size=k*s/\n<=arr.size/\k<=maxLen/\∀o,F o->o<n)\/(b.isObj=true/\(∀o,¬F o)/\uL (x.fresh w' aD k F b) b ob)\/
   (∃e s l arr,b=.op e s l false/\ob=.cells arr e (0,0)/\arr.size=k*s/\l.length<=arr.size/\k<=maxLen/\(∀o,¬F o)/\∀j c,l[j]? =some c->c.bY=true/\RV x c (arr.getD j undef))):
  Rel (x.fresh w' aD k F b):=by
 have M:=jS (k:=k) (F:=F) (b:=b) hR hn hp;have bh:∀i,(x.fresh w' aD k F b).S[i]? =if i=aD then some b else x.S[i]? :=λi=>bF hn.le b i
 have hμ:∀i,i≠aD->(x.fresh w' aD k F b).μ i=x.μ i:=λi h=>if_neg h;have hκ:∀i,i≠aD->(x.fresh w' aD k F b).κ i=x.κ i:=λi h=>if_neg h;have hμn:(x.fresh w' aD k F b).μ aD=x.w.heap.size:=if_pos rfl;have hκn:(x.fresh w' aD k F b).κ aD=k:=if_pos rfl;have pN:∀i,i≠aD->Live (x.fresh w' aD k F b).S i->Live x.S i:=by rintro i h ⟨c,hc,hne⟩;rw[bh,if_neg h]at hc;exact⟨c,hc,hne⟩
 constructor
 .intro id l hl;rw[bh]at hl;by_cases h:id=aD
  .subst h;rw[if_pos rfl]at hl;cases hl;rcases hb with ⟨l',arr,e,h1,rfl,h3,h4,h5⟩|⟨e,s,n,arr,h1,-⟩|⟨h1,-⟩|⟨e,s,n,arr,h1,-⟩;.cases h1;rw[hμn];exact⟨arr,e,hp.new,h3,λj c hc=>(h5 j c hc).mono M⟩
   all_goals cases h1
  rw[if_neg h]at hl;obtain⟨arr,e,h1,h2,h3⟩:=hR.cells id l hl;rw[hμ id h];exact⟨arr,e,(hp.lt (cL h1)).trans h1,h2,λj c hc=>(h3 j c hc).mono M⟩
 .intro id e s n hl;rw[bh]at hl;by_cases h:id=aD
  .subst h;rw[if_pos rfl]at hl;cases hl;rcases hb with ⟨l',arr,e',h1,-⟩|⟨e',s',n',arr,h1,rfl,h3,h4,h5,-⟩|⟨h1,-⟩|⟨e',s',n',arr,h1,-⟩;.cases h1
   .cases h1;rw[hμn,hκn];exact⟨arr,hp.new,h3,h4,h5⟩
   all_goals cases h1
  rw[if_neg h]at hl;obtain⟨arr,h1,h2⟩:=hR.dZ id e s n hl;rw[hμ id h,hκ id h];exact⟨arr,(hp.lt (cL h1)).trans h1,h2⟩
 .intro id c hl hc;rw[bh]at hl;by_cases h:id=aD
  .subst h;rw[if_pos rfl]at hl;cases hl;rcases hb with ⟨l',arr,e,h1,-⟩|⟨e',s',n',arr,h1,-⟩|⟨-,-,h1⟩|⟨e',s',n',arr,h1,-⟩;.subst h1;cases hc
   .subst h1;cases hc
   .rw[hμn];exact⟨ob,hp.new,h1⟩
   subst h1;cases hc
  rw[if_neg h]at hl;obtain⟨o,h1,h2⟩:=hR.eF id c hl hc;rw[hμ id h];exact⟨o,(hp.lt (cL h1)).trans h1,h2.mono M⟩
 .intro i j hi hj he;by_cases h1:i=aD
  .by_cases h2:j=aD;.rw[h1,h2]
   rw[h1,hμn,hμ j h2]at he;have:=hR.iN (pN j h2 hj);omega
  by_cases h2:j=aD;.rw[h2,hμn,hμ i h1]at he;have:=hR.iN (pN i h1 hi);omega
  rw[hμ i h1,hμ j h2]at he;exact hR.inj i j (pN i h1 hi) (pN j h2 hj) he
 .intro c o h;rcases h with h|⟨rfl,h⟩;.obtain⟨v,hv⟩:=hR.As c o h;exact⟨v,(M.fz c o h).2.trans hv⟩
  exact hF o h
 .rintro id ⟨l,hl⟩ o ho;rw[bh]at hl;by_cases h:id=aD
  .subst h;rw[if_pos rfl]at hl;cases hl;rcases hb with ⟨l',arr,e,h1,-,-,h4,-⟩|⟨e',s',n',arr,h1,-⟩|⟨h1,-⟩|⟨e',s',n',arr,h1,-⟩
   .rw[hμn]at ho;rcases ho with ho|⟨-,ho⟩;.have:=hR.xg ho;omega
    exact h4 o ho
   all_goals cases h1
  rw[if_neg h]at hl;rw[hμ id h]at ho;rcases ho with ho|⟨ho,-⟩;.exact hR.sep id ⟨l,hl⟩ o ho
  have:=hR.iN (bn hl (by simp));omega
 .intro id e s n hl o ho;rw[bh]at hl;by_cases h:id=aD
  .subst h;rw[if_pos rfl]at hl;cases hl;rcases hb with ⟨l',arr,e',h1,-⟩|⟨e',s',n',arr,h1,-,-,-,-,h6⟩|⟨h1,-⟩|⟨e',s',n',arr,h1,-⟩;.cases h1
   .cases h1;rw[hμn]at ho;rcases ho with ho|⟨-,ho⟩;.have:=hR.xg ho;omega
    exact h6 o ho
   all_goals cases h1
  rw[if_neg h]at hl;rw[hμ id h]at ho;rcases ho with ho|⟨ho,-⟩;.exact hR.pL id e s n hl o ho
  have:=hR.iN (bn hl (by simp));omega
 intro id e s l z hl;rw[bh]at hl;by_cases h:id=aD
 .subst h;rw[if_pos rfl]at hl;cases hl;rcases hb with ⟨l',arr,e',h1,-⟩|⟨e',s',n',arr,h1,-⟩|⟨h1,-⟩|⟨e',s',n',arr,h1,rfl,h3,h4,h5,h6,h7⟩;.cases h1
  .cases h1
  .cases h1
  cases h1;rw[hμn,hκn];refine⟨arr,hp.new,h3,h4,h5,λj c hc=>⟨(h7 j c hc).1,(h7 j c hc).2.mono M⟩,by simp,λ_ o ho=>?_⟩;rcases ho with ho|⟨-,ho⟩;.have:=hR.xg ho;omega
  exact h6 o ho
 rw[if_neg h]at hl;obtain⟨arr,h1,h2,h3,h4,h5,h6,h7⟩:=hR.ops id e s l z hl;rw[hμ id h,hκ id h];refine⟨arr,(hp.lt (cL h1)).trans h1,h2,h3,h4,λj c hc=>⟨(h5 j c hc).1,(h5 j c hc).2.mono M⟩,λhz j hj=>.inl (h6 hz j hj),λhz o ho=>?_⟩;rcases ho with ho|⟨ho,-⟩;.exact h7 hz o ho
 have:=hR.iN (bn hl (by simp));omega
end Go.Di
