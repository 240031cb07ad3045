import Derived.Test.YtedcgbkilmlbhaaPk01
import Derived.Laws.AppendOwn
import Derived.Conc.Machine
namespace Go.Di
open Go
structure Cx where
 w:World
 μ:Nat->Nat
 κ:Nat->Nat
 Fz:Nat->Nat->Prop
 S:ai
def Live(S:ai)(i:Nat):Prop:=∃b,S[i]? =some b/\b≠.none
def View(x:Cx)(rows:List DV)(A:Option Addr)(s:Nat)(vs:Nat->Value):Prop:=
 (∀r∈rows,r.cells.length=s)/\∀j c,(flat rows)[j]? =some c->c.ck=true/\∃b o,A=some ⟨b,o,none⟩/\x.Fz b (o+j)/\x.w.cell? ⟨b,o+j,none⟩=some (vs j)
def ack(x:Cx)(tok:Option Nat)(rows:List DV)(A:Option Addr)(cap:Nat):Prop:=
 ∀t,tok=some t->∃e s n,x.S[t]? =some (.tail e s n)/\rows.length*s<=n/\(∀r∈rows,r.cells.length=s)/\(rows.length*s=n->A=some ⟨x.μ t,0,none⟩/\cap=x.κ t)
def UR(f:SF)(A:Option Addr):Prop:=∀b,f.isNil=some b->A.isNone=b
inductive RV (x:Cx):DV->Value->Prop
 |val {v:Value}:Aw v=true->RV x (.val v) v
 |agg {l:List DV} {vs:Array Value}:vs.size=l.length->(∀j c,l[j]? =some c->RV x c (vs.getD j undef))->RV x (.agg l) (.agg vs)
 |tup {l:List DV} {vs:Array Value}:vs.size=l.length->(∀j c,l[j]? =some c->RV x c (vs.getD j undef))->RV x (.tup l) (.tuple vs)
 |sl {rows:List DV} {tok:Option Nat} {full:SF} {A:Option Addr} {cap s:Nat} {vs:Nat->Value}:View x rows A s vs->(∀j c,(flat rows)[j]? =some c->RV x c (vs j))->rows.length<=cap->((full.full=true->cap=rows.length)/\UR full A)->(A=none->cap=0)->(∀ad,A=some ad->0<cap->ad.spot=none)->ack x tok rows A cap->
  RV x (.sl rows tok full) (.slice A rows.length cap)
 |ptr {id off:Nat} {l:List DV}:x.S[id]? =some (.cells l)->RV x (.ptr id off) (.pointer (some ⟨x.μ id,off,none⟩))
 |fq {rows:List DV} {i off b o s:Nat} {vs:Nat->Value}:View x rows (some ⟨b,o,none⟩) s vs->(∀j c,(flat rows)[j]? =some c->RV x c (vs j))->RV x (.fq rows i off) (.pointer (some ⟨b,o+(i*s+off),none⟩))
 |fn {f:FuncId} {first captured:List DV} {fs cs:Array Value}:fs.size=first.length->cs.size=captured.length->(∀j c,first[j]? =some c->RV x c (fs.getD j undef))->(∀j c,captured[j]? =some c->RV x c (cs.getD j undef))->RV x (.fn f first captured) (.func (.func f) fs cs)
 |map {id:Nat} {es:List (Value×Value)}:x.S[id]? =some (.map es)->RV x (.map id) (.map (some (x.μ id)))
 |od {id:Nat} {r:Gq}:x.S[id]? =some (.loop r)->RV x (.od id) (.func (.yield (x.μ id)) #[] #[])
 |jS {id n:Nat} {agg:Bool} {e:TypeId} {s:Nat} {l:List DV} {z:Bool} {A:Option Addr} {cap:Nat}:x.S[id]? =some (.op e s l z)->n*s<=l.length->(n*s=l.length->A=some ⟨x.μ id,0,none⟩/\cap=x.κ id)->RV x (.jS id n agg) (.slice A n cap)
 |gu {id n off:Nat} {e:TypeId} {s:Nat} {l:List DV} {z:Bool} {A:Option Addr}:x.S[id]? =some (.op e s l z)->n*s<=l.length->(n*s=l.length->A=some ⟨x.μ id,off,none⟩)->RV x (.gu id n off) (.pointer A)
def ia(x:Cx)(l:List DV)(arr:Array Value):Prop:=arr.size=l.length/\∀j c,l[j]? =some c->RV x c (arr.getD j undef)
def DB.isObj:DB->Bool
 |.map _|.defer|.loop _=>true
 |_=>false
def uF(x:Cx):DB->Obj->Prop
 |.map es,.map Dj _=>Dj.toList.map (λe=>(e.key,e.val))=es
 |.defer,.deferred _=>True
 |.loop r,.loop l=>l.state=r.st/\l.pending=r.kz/\l.fn=r.fn/\ia x r.env l.tmps/\l.params=r.params.toArray/\l.assign=r.assign/\l.body=r.body/\l.defers=x.μ r.Bp/\x.S[r.Bp]? =some .defer
 |_,_=>False
def DB.like:DB->DB->Prop
 |.map _,.map _=>True
 |.defer,.defer=>True
 |.loop r,.loop r'=>r'={r with st:=r'.st,kz:=r'.kz}
 |_,_=>False
theorem eV:∀{b:DB},b.isObj=true->b.like b
 |.map _,_=>trivial
 |.defer,_=>trivial
 |.loop _,_=>rfl
 |.none,h=>by cases h
 |.cells _,h=>by cases h
 |.tail ..,h=>by cases h
 |.op ..,h=>by cases h
theorem uW:∀{b c:DB},b.like c->b.isObj=true/\c.isObj=true
 |.map _,.map _,_=>⟨rfl,rfl⟩
 |.defer,.defer,_=>⟨rfl,rfl⟩
 |.loop _,.loop _,_=>⟨rfl,rfl⟩
theorem NY:∀{a b c:DB},a.like b->b.like c->a.like c
 |.map _,.map _,.map _,_,_=>trivial
 |.defer,.defer,.defer,_,_=>trivial
 |.loop r,.loop r',.loop r'',h,k=>by simp only[DB.like]at h k⊢;rw[k,h]
theorem fo{b:DB}(h:b.isObj=true):b≠.none:=by rintro rfl;cases h
structure Rel (x:Cx):Prop where
 cells:∀id l,x.S[id]? =some (.cells l)->∃arr e,x.w.heap[x.μ id]? =some (.cells arr e (0,0))/\arr.size=l.length/\∀j c,l[j]? =some c->RV x c (arr.getD j undef)
 dR:∀id e s n,x.S[id]? =some (.tail e s n)->∃arr,x.w.heap[x.μ id]? =some (.cells arr e (0,0))/\arr.size=x.κ id*s/\n<=arr.size/\x.κ id<=maxLen
 eC:∀id b,x.S[id]? =some b->b.isObj=true->∃o,x.w.heap[x.μ id]? =some o/\uF x b o
 inj:∀i j,Live x.S i->Live x.S j->x.μ i=x.μ j->i=j
 Ae:∀b o,x.Fz b o->∃v,x.w.cell? ⟨b,o,none⟩=some v
 sep:∀id,(∃l,x.S[id]? =some (.cells l))->∀o,¬x.Fz (x.μ id) o
 oH:∀id e s n,x.S[id]? =some (.tail e s n)->∀o,x.Fz (x.μ id) o->o<n
 ops:∀id e s l z,x.S[id]? =some (.op e s l z)->∃arr,x.w.heap[x.μ id]? =some (.cells arr e (0,0))/\arr.size=x.κ id*s/\l.length<=arr.size/\x.κ id<=maxLen/\(∀j c,l[j]? =some c->c.ck=true/\RV x c (arr.getD j undef))/\(z=true->∀j,j<l.length->x.Fz (x.μ id) j)/\(z=false->∀o,¬x.Fz (x.μ id) o)
structure bV (x y:Cx):Prop where
 size:x.w.heap.size<=y.w.heap.size
 env:y.w.os=x.w.os/\y.w.output=x.w.output
 fz:∀b o,x.Fz b o->y.Fz b o/\y.w.cell? ⟨b,o,none⟩=x.w.cell? ⟨b,o,none⟩
 JA:∀b o,y.Fz b o->x.Fz b o\/x.w.heap.size<=b\/∃i,Live x.S i/\x.μ i=b
 old:∀b,b<x.w.heap.size->(∀i,Live x.S i->x.μ i≠b)->y.w.heap[b]? =x.w.heap[b]?
 len:x.S.length<=y.S.length
 cells:∀id l,x.S[id]? =some (.cells l)->y.μ id=x.μ id/\∃l',y.S[id]? =some (.cells l')
 eC:∀id b,x.S[id]? =some b->b.isObj=true->y.μ id=x.μ id/\(∃b',y.S[id]? =some b'/\b.like b')/\(b=.defer->y.w.heap[x.μ id]? =x.w.heap[x.μ id]?)
 dR:∀t e s n,x.S[t]? =some (.tail e s n)->∃n',y.S[t]? =some (.tail e s n')/\n<=n'/\(n'=n->y.μ t=x.μ t/\y.κ t=x.κ t)
 live:∀i,Live y.S i->(Live x.S i/\y.μ i=x.μ i)\/x.w.heap.size<=y.μ i
 ops:∀t e s l z,x.S[t]? =some (.op e s l z)->∃l' z',y.S[t]? =some (.op e s l' z')/\l.length<=l'.length/\(z=true->l'=l/\z'=true)/\(l'.length=l.length->y.μ t=x.μ t/\y.κ t=x.κ t)
theorem bV.refl (x:Cx):bV x x:=
 ⟨ak _,⟨rfl,rfl⟩,λ_ _ h=>⟨h,rfl⟩,λ_ _ h=>.inl h,λ_ _ _=>rfl,ak _,λ_ l h=>⟨rfl,l,h⟩,λ_ b h hb=>⟨rfl,⟨b,h,eV hb⟩,λ_=>rfl⟩,λ_ _ _ n h=>⟨n,h,ak _,λ_=>⟨rfl,rfl⟩⟩,λ_ h=>.inl ⟨h,rfl⟩,λ_ _ _ l z h=>⟨l,z,h,ak _,λe=>⟨rfl,e⟩,λ_=>⟨rfl,rfl⟩⟩⟩
theorem bV.trans {x y z:Cx}(h:bV x y)(k:bV y z):bV x z where
 size:=bD h.size k.size
 env:=⟨k.env.1.trans h.env.1,k.env.2.trans h.env.2⟩
 fz:=λb o hb=>⟨(k.fz b o (h.fz b o hb).1).1,(k.fz b o (h.fz b o hb).1).2.trans (h.fz b o hb).2⟩
 JA:=λb o hb=>by
  rcases k.JA b o hb with h1|h1|⟨i,h1,h2⟩;.exact h.JA b o h1
  .exact .inr (.inl (bD h.size h1))
  rcases h.live i h1 with ⟨h3,h4⟩|h3;.exact .inr (.inr ⟨i,h3,by rw[<-h4];exact h2⟩)
  exact .inr (.inl (h2▸h3))
 old:=λb hb hn=>by
  refine(k.old b (dH hb h.size) λi hi he=>?_).trans (h.old b hb hn);rcases h.live i hi with ⟨h3,h4⟩|h3;.exact hn i h3 (h4▸he)
  omega
 len:=bD h.len k.len
 cells:=λid l hl=>by obtain⟨h1,l',h2⟩:=h.cells id l hl;obtain⟨h3,l'',h4⟩:=k.cells id l' h2;exact⟨h3.trans h1,l'',h4⟩
 eC:=λid b hl hb=>by
  obtain⟨h1,⟨b',h2,h5⟩,h6⟩:=h.eC id b hl hb;obtain⟨h3,⟨b'',h4,h7⟩,h8⟩:=k.eC id b' h2 (uW h5).2;refine⟨h3.trans h1,⟨b'',h4,NY h5 h7⟩,λhd=>?_⟩;subst hd;have:b'=.defer:=by cases b'<;>first|rfl|exact h5.elim
  rw[<-h6 rfl,<-h1];exact h8 this
 dR:=λt e s n ht=>by
  obtain⟨n',h1,h2,h3⟩:=h.dR t e s n ht;obtain⟨n'',h4,h5,h6⟩:=k.dR t e s n' h1;refine⟨n'',h4,bD h2 h5,λhe=>?_⟩;have e1:n'=n:=by omega
  have e2:n''=n':=by omega
  exact⟨(h6 e2).1.trans (h3 e1).1,(h6 e2).2.trans (h3 e1).2⟩
 live:=λi hi=>by
  rcases k.live i hi with ⟨h1,h2⟩|h1
  .rcases h.live i h1 with ⟨h3,h4⟩|h3;.exact .inl ⟨h3,h2.trans h4⟩
   exact .inr (h2▸h3)
  exact .inr (bD h.size h1)
 ops:=λt e s l z ht=>by
  obtain⟨l1,z1,h1,h2,h3,h4⟩:=h.ops t e s l z ht;obtain⟨l2,z2,k1,k2,k3,k4⟩:=k.ops t e s l1 z1 h1;refine⟨l2,z2,k1,bD h2 k2,λhz=>?_,λhe=>?_⟩;.obtain⟨rfl,rfl⟩:=h3 hz;exact k3 rfl
  have e1:l1.length=l.length:=by omega
  have e2:l2.length=l1.length:=by omega
  exact⟨(k4 e2).1.trans (h4 e1).1,(k4 e2).2.trans (h4 e1).2⟩
theorem View.mono {x y:Cx}{rows:List DV}{A:Option Addr}{s:Nat}{vs:Nat->Value}(hF:∀b o,x.Fz b o->y.Fz b o/\y.w.cell? ⟨b,o,none⟩=x.w.cell? ⟨b,o,none⟩)(h:View x rows A s vs):View y rows A s vs:=
 ⟨h.1,λj c hc=>by obtain⟨h1,b,o,h2,h3,h4⟩:=h.2 j c hc;exact⟨h1,b,o,h2,(hF _ _ h3).1,(hF _ _ h3).2.trans h4⟩⟩
theorem RV.mono {x y:Cx}(M:bV x y){d:DV}{v:Value}(h:RV x d v):RV y d v:=by
 induction h with
 |val h=>exact .val h
 |agg h _ ih=>exact .agg h ih
 |tup h _ ih=>exact .tup h ih
 |sl hv _ h1 h2 h3 hsp h4 ih=>
  refine .sl (hv.mono M.fz) ih h1 h2 h3 hsp λt ht=>?_;obtain⟨e,s,n,k1,k2,k3,k4⟩:=h4 t ht;obtain⟨n',m1,m2,m3⟩:=M.dR t e s n k1;refine⟨e,s,n',m1,bD k2 m2,k3,λhe=>?_⟩;have e1:n'=n:=by omega
  rw[(m3 e1).1,(m3 e1).2];exact k4 (he.trans e1)
 |ptr h=>obtain⟨h1,l',h2⟩:=M.cells _ _ h;rw[<-h1];exact .ptr h2
 |fq hv _ ih=>exact .fq (hv.mono M.fz) ih
 |fn h1 h2 _ _ Qx SC=>exact .fn h1 h2 Qx SC
 |map h=>
  obtain⟨h1,⟨b',h2,h3⟩,-⟩:=M.eC _ _ h rfl;rw[<-h1];cases b' with
  |map es=>exact .map h2
  |_=>exact h3.elim
 |od h=>
  obtain⟨h1,⟨b',h2,h3⟩,-⟩:=M.eC _ _ h rfl;rw[<-h1];cases b' with
  |loop r=>exact .od h2
  |_=>exact h3.elim
 |jS h hn hl=>obtain⟨l',z',h1,h2,-,h4⟩:=M.ops _ _ _ _ _ h;refine .jS h1 (by omega) λhe=>?_;have e1:=h4 (by omega);rw[e1.1,e1.2];exact hl (by omega)
 |gu h hn hl=>obtain⟨l',z',h1,h2,-,h4⟩:=M.ops _ _ _ _ _ h;refine .gu h1 (by omega) λhe=>?_;rw[(h4 (by omega)).1];exact hl (by omega)
theorem ia.mono {x y:Cx}(M:bV x y){l:List DV}{arr:Array Value}(h:ia x l arr):ia y l arr:=⟨h.1,λj c hc=>(h.2 j c hc).mono M⟩
theorem uF.mono {x y:Cx}(M:bV x y):∀{b:DB}{o:Obj},uF x b o->uF y b o
 |.map _,.map _ _,h=>h
 |.defer,.deferred _,_=>trivial
 |.loop r,.loop l,⟨h1,h2,h3,h4,h5,h6,h7,h8,h9⟩=>by
  obtain⟨k1,⟨b',k2,k3⟩,-⟩:=M.eC _ _ h9 rfl;have:b'=.defer:=by cases b'<;>first|rfl|exact k3.elim
  subst this;exact⟨h1,h2,h3,h4.mono M,h5,h6,h7,by rw[h8,k1],k2⟩
theorem RV.nv {x y:Cx}(hF:∀b o,x.Fz b o->y.Fz b o/\y.w.cell? ⟨b,o,none⟩=x.w.cell? ⟨b,o,none⟩){d:DV}{v:Value}(h:RV x d v)(hp:d.ck=true):RV y d v:=by
 induction h with
 |val h=>exact .val h
 |agg h _ ih=>simp[DV.ck]at hp
 |tup h _ ih=>simp[DV.ck]at hp
 |@sl rows tok full A cap s vs hv _ h1 h2 h3 hsp h4 ih=>refine .sl (hv.mono hF) (λj c hc=>ih j c hc (hv.2 j c hc).1) h1 h2 h3 hsp λt ht=>?_;subst ht;simp[DV.ck]at hp
 |ptr h=>simp[DV.ck]at hp
 |fq hv _ ih=>simp[DV.ck]at hp
 |fn h1 h2 _ _ Qx SC=>simp[DV.ck]at hp
 |map h=>simp[DV.ck]at hp
 |od h=>simp[DV.ck]at hp
 |jS=>simp[DV.ck]at hp
 |gu=>simp[DV.ck]at hp
theorem Jq{l:List DV}(h:l.all DV.ck=true){j:Nat}{c:DV}(hc:l[j]? =some c):c.ck=true:=aX.1 h c (cr hc)
theorem RV.EM {x y:Cx}(hF:∀b o,x.Fz b o->y.Fz b o/\y.w.cell? ⟨b,o,none⟩=x.w.cell? ⟨b,o,none⟩){d:DV}{v:Value}(h:RV x d v)(hp:d.j9=true):RV y d v:=by
 cases h with
 |val h=>exact .val h
 |agg h hl=>exact .agg h λj c hc=>(hl j c hc).nv hF (Jq hp hc)
 |tup h hl=>simp[DV.j9]at hp
 |@sl rows tok full A cap s vs hv hr h1 h2 h3 hsp h4=>
  cases tok with
  |none=>exact(RV.sl hv hr h1 h2 h3 hsp h4).nv hF rfl
  |some t=>simp[DV.j9]at hp
 |ptr h=>simp[DV.j9]at hp
 |fq hv _=>simp[DV.j9]at hp
 |fn h1 h2 _ _=>simp[DV.j9]at hp
 |map h=>simp[DV.j9]at hp
 |od h=>simp[DV.j9]at hp
 |jS=>simp[DV.j9]at hp
 |gu=>simp[DV.j9]at hp
theorem aad{d:DV}(hp:d.pure=true):(∃l,d=.tup l/\l.all DV.j9=true)\/d.j9=true:=by
 cases d with
 |tup l=>exact .inl ⟨l,rfl,hp⟩
 |_=>exact .inr hp
theorem RV.pure_mono {x y:Cx}(hF:∀b o,x.Fz b o->y.Fz b o/\y.w.cell? ⟨b,o,none⟩=x.w.cell? ⟨b,o,none⟩){d:DV}{v:Value}(h:RV x d v)(hp:d.pure=true):RV y d v:=by
 rcases aad hp with ⟨l,rfl,hl⟩|hp
 .cases h with
  |tup h hr=>exact .tup h λj c hc=>(hr j c hc).EM hF (aX.1 hl c (cr hc))
 exact h.EM hF hp
theorem RV.aO {x:Cx}{d:DV}{v:Value}(h:RV x d v):RV x d.aO v:=by
 cases h with
 |sl hv hr h1 h2 h3 hsp h4=>exact .sl hv hr h1 ⟨by simp,h2.2⟩ h3 hsp λt ht=>(by cases ht)
 |val h=>exact .val h
 |agg h hl=>exact .agg h hl
 |tup h hl=>exact .tup h hl
 |ptr h=>exact .ptr h
 |fq hv hr=>exact .fq hv hr
 |fn h1 h2 h3 h4=>exact .fn h1 h2 h3 h4
 |map h=>exact .map h
 |od h=>exact .od h
 |jS h h1 h2=>exact .jS h h1 h2
 |gu h h1 h2=>exact .gu h h1 h2
theorem RV.dA {x:Cx}{d:DV}{v:Value}(h:RV x d v):RV x d.dA v:=by
 cases h with
 |sl hv hr h1 h2 h3 hsp h4=>exact .sl hv hr h1 ⟨by simp,h2.2⟩ h3 hsp λt ht=>(by cases ht)
 |val h=>exact .val h
 |@agg l vs h hl=>refine .agg (by simpa using h) λj c hc=>?_;simp only[cM,af]at hc;obtain⟨c',h1,rfl⟩:=hc;exact(hl j c' h1).aO
 |tup h hl=>exact .tup h hl
 |ptr h=>exact .ptr h
 |fq hv hr=>exact .fq hv hr
 |fn h1 h2 h3 h4=>exact .fn h1 h2 h3 h4
 |map h=>exact .map h
 |od h=>exact .od h
 |jS h h1 h2=>exact .jS h h1 h2
 |gu h h1 h2=>exact .gu h h1 h2
theorem RV.strip {x:Cx}{d:DV}{v:Value}(h:RV x d v):RV x d.strip v:=by
 cases d with
 |tup l=>
  cases h with
  |tup h hl=>refine .tup (by simpa using h) λj c hc=>?_;simp only[cM,af]at hc;obtain⟨c',h1,rfl⟩:=hc;exact(hl j c' h1).dA
 |_=>exact h.dA
def Cx.bare (x:Cx):Cx:={x with S:=[]}
def Cx.behind (x y:Cx):Cx:={x with w:=y.w,Fz:=y.Fz}
theorem gK(i:Nat):¬Live [] i:=by rintro⟨b,h,-⟩;simp at h
theorem Rel.bare {x:Cx}(h:Rel x):Rel x.bare where
 cells:=λid l hl=>by simp[Cx.bare]at hl
 dR:=λid e s n hl=>by simp[Cx.bare]at hl
 eC:=λid b hl=>by simp[Cx.bare]at hl
 inj:=λi j hi=>(gK i hi).elim
 Ae:=h.Ae
 sep:=λid ⟨l,hl⟩=>by simp[Cx.bare]at hl
 oH:=λid e s n hl=>by simp[Cx.bare]at hl
 ops:=λid e s l z hl=>by simp[Cx.bare]at hl
theorem BX{x y:Cx}(hR:Rel x)(M:bV x.bare y):bV x (x.behind y) where
 size:=M.size
 env:=M.env
 fz:=M.fz
 JA:=λb o hb=>by
  rcases M.JA b o hb with h|h|⟨i,h,-⟩;.exact .inl h
  .exact .inr (.inl h)
  exact(gK i h).elim
 old:=λb hb _=>M.old b hb λi hi=>(gK i hi).elim
 len:=ak _
 cells:=λid l hl=>⟨rfl,l,hl⟩
 eC:=λid b hl hb=>⟨rfl,⟨b,hl,eV hb⟩,λ_=>M.old _ (by obtain⟨o,h1,-⟩:=hR.eC id b hl hb;exact(aN.1 h1).1) λi hi=>(gK i hi).elim⟩
 dR:=λt e s n ht=>⟨n,ht,ak _,λ_=>⟨rfl,rfl⟩⟩
 live:=λi hi=>.inl ⟨hi,rfl⟩
 ops:=λ_ _ _ l z h=>⟨l,z,h,ak _,λe=>⟨rfl,e⟩,λ_=>⟨rfl,rfl⟩⟩
theorem cF{w:World}{b:Nat}{o:Obj}(h:w.heap[b]? =some o):b<w.heap.size:=(aN.1 h).1
theorem Rel.behind {x y:Cx}(h:Rel x)(M:bV x.bare y)(k:Rel y):Rel (x.behind y):=by
 have hM:=BX h M;have hold:∀b,b<x.w.heap.size->y.w.heap[b]? =x.w.heap[b]? :=λb hb=>M.old b hb λi hi=>(gK i hi).elim;have Mr:∀b o,b<x.w.heap.size->y.Fz b o->x.Fz b o:=λb o hb hy=>by
  rcases M.JA b o hy with h|h|⟨i,h,-⟩;.exact h
  .exact absurd h (by have:(x.bare).w=x.w:=rfl;rw[this];omega)
  exact(gK i h).elim
 exact{
  cells:=λid l hl=>by obtain⟨arr,e,h1,h2,h3⟩:=h.cells id l hl;exact⟨arr,e,(hold _ (cF h1)).trans h1,h2,λj c hc=>(h3 j c hc).mono hM⟩
  dR:=λid e s n hl=>by obtain⟨arr,h1,h2⟩:=h.dR id e s n hl;exact⟨arr,(hold _ (cF h1)).trans h1,h2⟩
  eC:=λid b hl hb=>by obtain⟨o,h1,h2⟩:=h.eC id b hl hb;exact⟨o,(hold _ (cF h1)).trans h1,h2.mono hM⟩
  inj:=h.inj
  Ae:=k.Ae
  sep:=λid hl o ho=>by obtain⟨l,hl⟩:=hl;obtain⟨arr,e,h1,-⟩:=h.cells id l hl;exact h.sep id ⟨l,hl⟩ o (Mr _ _ (cF h1) ho)
  oH:=λid e s n hl o ho=>by obtain⟨arr,h1,-⟩:=h.dR id e s n hl;exact h.oH id e s n hl o (Mr _ _ (cF h1) ho)
  ops:=λid e s l z hl=>by obtain⟨arr,h1,h2,h3,h4,h5,h6,h7⟩:=h.ops id e s l z hl;exact⟨arr,(hold _ (cF h1)).trans h1,h2,h3,h4,λj c hc=>⟨(h5 j c hc).1,(h5 j c hc).2.mono hM⟩,λhz j hj=>(M.fz _ _ (h6 hz j hj)).1,λhz o ho=>h7 hz o (Mr _ _ (cF h1) ho)⟩}
def Cx.dr (x:Cx)(d:Nat):Cx:={x with w:=x.w.at d}
theorem fE(x:Cx)(d:Nat):bV x (x.dr d):=
 ⟨ak _,⟨rfl,rfl⟩,λ_ _ h=>⟨h,rfl⟩,λ_ _ h=>.inl h,λ_ _ _=>rfl,ak _,λ_ l h=>⟨rfl,l,h⟩,λ_ b h hb=>⟨rfl,⟨b,h,eV hb⟩,λ_=>rfl⟩,λ_ _ _ n h=>⟨n,h,ak _,λ_=>⟨rfl,rfl⟩⟩,λ_ h=>.inl ⟨h,rfl⟩,λ_ _ _ l z h=>⟨l,z,h,ak _,λe=>⟨rfl,e⟩,λ_=>⟨rfl,rfl⟩⟩⟩
theorem Rel.dr {x:Cx}(h:Rel x)(d:Nat):Rel (x.dr d) where
 cells:=λid l hl=>by obtain⟨arr,e,h1,h2,h3⟩:=h.cells id l hl;exact⟨arr,e,h1,h2,λj c hc=>(h3 j c hc).mono (fE x d)⟩
 dR:=h.dR
 eC:=λid b hl hb=>by obtain⟨o,h1,h2⟩:=h.eC id b hl hb;exact⟨o,h1,h2.mono (fE x d)⟩
 inj:=h.inj
 Ae:=h.Ae
 sep:=h.sep
 oH:=h.oH
 ops:=λid e s l z hl=>by obtain⟨arr,h1,h2,h3,h4,h5,h6⟩:=h.ops id e s l z hl;exact⟨arr,h1,h2,h3,h4,λj c hc=>⟨(h5 j c hc).1,(h5 j c hc).2.mono (fE x d)⟩,h6⟩
end Go.Di
namespace Go.Di
open Go
variable {P:Program} {ty:fR} {x:Cx} {w':World}
theorem pg{α:Type}{s:Sem α}{a:α}(h:cu P s=some a)(w:World):s.run P w=.ok a w:=by
 induction s generalizing a with
 |pure b=>simp only[cu,aB]at h;subst h;rfl
 |program k ih=>simp only[cu]at h;simpa [Sem.run]using ih P h
 |_=>simp[cu]at h
theorem aed(tok:Option Nat)(h:tok=none):RV x (.sl [] tok ⟨true,some true⟩) (.slice none 0 0):=by subst h;exact RV.sl (rows:=[]) (A:=none) (cap:=0) (s:=0) (vs:=λ_=>undef) ⟨by simp,by simp[flat]⟩ (by simp[flat]) (ak _) ⟨λ_=>rfl,λb h=>by cases h;rfl⟩ (λ_=>rfl) (λ_ h _=>by cases h) (λt ht=>by cases ht)
theorem GB{v:Value}{d:DV}(h:Ij v=some d):RV x d v:=by
 unfold Ij at h;split at h;.cases h;exact aed _ rfl
 split at h;.cases h;exact .val ‹_›
 cases h
theorem iK:∀{vs:List Value}{l:List DV},sO vs=some l->vs.length=l.length/\∀j c,l[j]? =some c->RV x c (vs.getD j undef)
 |[],l,h=>by simp only[sO,aB]at h;subst h;simp
 |v::vs,l,h=>by
  unfold sO at h;split at h
  .rename_i d r h1 h2;cases h;obtain⟨h3,h4⟩:=iK h2;refine⟨by simp[h3],λj c hc=>?_⟩;cases j with
   |zero=>simp at hc;subst hc;exact GB h1
   |succ j=>simpa using h4 j c (by simpa using hc)
  cases h
theorem zn{v:Value}{d:DV}(h:Bv v=some d):RV x d v:=by
 unfold Bv at h;split at h;.simp only[af]at h;obtain⟨l,h1,rfl⟩:=h;obtain⟨h3,h4⟩:=iK (x:=x) h1;exact .agg (by simpa using h3) λj c hc=>by simpa [bz,aP]using h4 j c hc
 .split at h;.rename_i f fs cs hz;simp only[aC,cq]at hz;cases h;exact .fn hz.1 hz.2 (by simp) (by simp)
  cases h
 exact GB h
theorem zN:∀{l:List DV}{r:List Value},sL l=some r->l=r.map .val
 |[],r,h=>by simp only[sL,aB]at h;subst h;rfl
 |d::l,r,h=>by cases d<;>simp only[sL,af]at h;all_goals first|(obtain⟨r',h1,rfl⟩:=h;simp[zN h1];done)|cases h
theorem xz{v u:Value}(h:RV x (.val u) v):v=u:=by cases h;rfl
theorem KH{d:DV}{v u:Value}(h:RV x d v)(hu:Br d=some u):v=u:=by
 cases d<;>simp only[Br,af,reduceCtorEq]at hu;.simp only[aB]at hu;subst hu;exact xz h
 obtain⟨r,h1,rfl⟩:=hu;have:=zN h1;subst this;cases h with
 |@agg _ vs hs hl=>congr 1;refine Array.ext (by simpa using hs) λj h1 h2=>?_;have:=hl j (.val r[j]) (by simp[bP (show j<r.length by simpa using h2)]);have:=xz this;simpa [bz,h1]using this
theorem AR:∀{l:List DV}{vs r:List Value},uJ l=some r->vs.length=l.length->(∀j c,l[j]? =some c->RV x c (vs.getD j undef))->vs=r
 |[],vs,r,h,hl,_=>by simp only[uJ,aB]at h;subst h;exact eS (by simpa using hl)
 |d::l,vs,r,h,hl,hr=>by
  cases vs with
  |nil=>simp at hl
  |cons v vs=>
   unfold uJ at h;split at h;.rename_i v' r' h1 h2;cases h;have:=KH (by simpa using hr 0 d rfl) h1;subst this;congr 1;exact AR h2 (by simpa using hl) λj c hc=>by simpa using hr (j+1) c (by simpa using hc)
   cases h
def Fi(S:ai)(aF:Nat):Prop:=aF=S.length\/S[aF]? =some .none
theorem Fi.le {S:ai}{aF:Nat}(h:Fi S aF):aF<=S.length:=by
 rcases h with h|h;.omega
 have:=(aA.1 h).1;omega
theorem Fi.ne {S:ai}{aF id:Nat}{b:DB}(h:Fi S aF)(hb:S[id]? =some b)(hne:b≠.none):id≠aF:=by
 rintro rfl;rcases h with h|h;.rw[h,fI (ak _)]at hb;cases hb
 rw[h]at hb;cases hb;exact hne rfl
theorem bG{S:ai}{i:Nat}(h:i<=S.length)(b:DB)(j:Nat):(eU S i b)[j]? =if j=i then some b else S[j]? :=by
 unfold eU;split
 .rw[aH];split<;>rename_i h1;.subst h1;simp[*]
  rw[if_neg (Ne.symm h1)]
 have:i=S.length:=by omega
 subst this;rw[qK];split;.rw[if_neg (by omega)]
 rename_i h1;by_cases h2:j=S.length;.subst h2;simp
 rw[if_neg h2,fI (by simp;omega),fI (by omega)]
theorem Wp{S:ai}{i:Nat}(b:DB):S.length<=(eU S i b).length:=by unfold eU;split<;>simp
theorem bk{S:ai}{i:Nat}{b:DB}(h:S[i]? =some b)(hb:b≠.none):Live S i:=⟨b,h,hb⟩
theorem Rel.iF (h:Rel x){i:Nat}(hi:Live x.S i):x.μ i<x.w.heap.size:=by
 obtain⟨b,hb,hne⟩:=hi;cases b with
 |none=>exact absurd rfl hne
 |cells l=>obtain⟨arr,e,h1,-⟩:=h.cells i l hb;exact cF h1
 |tail e s n=>obtain⟨arr,h1,-⟩:=h.dR i e s n hb;exact cF h1
 |map es=>obtain⟨o,h1,-⟩:=h.eC i _ hb rfl;exact cF h1
 |defer=>obtain⟨o,h1,-⟩:=h.eC i _ hb rfl;exact cF h1
 |loop r=>obtain⟨o,h1,-⟩:=h.eC i _ hb rfl;exact cF h1
 |op e s l z=>obtain⟨arr,h1,-⟩:=h.ops i e s l z hb;exact cF h1
theorem Rel.wN (h:Rel x){b o:Nat}(hf:x.Fz b o):b<x.w.heap.size:=by obtain⟨v,hv⟩:=h.Ae b o hf;exact World.block_lt_of_cell? x.w ⟨b,o,none⟩ hv
structure pK (w w':World) (ob:Obj):Prop where
 heap:w'.heap=w.heap.push ob
 env:w'.os=w.os/\w'.output=w.output
theorem gO(w:World)(ob:Obj):pK w (w.alloc ob) ob:=⟨rfl,rfl,rfl⟩
theorem pK.lt {w w':World}{ob:Obj}(h:pK w w' ob){b:Nat}(hb:b<w.heap.size):w'.heap[b]? =w.heap[b]? :=by rw[h.heap,Array.getElem?_push_lt hb,ct hb]
theorem pK.new {w w':World}{ob:Obj}(h:pK w w' ob):w'.heap[w.heap.size]? =some ob:=by rw[h.heap,Array.getElem?_push_size]
theorem cell_of_block{w w':World}{b:Nat}(h:w'.heap[b]? =w.heap[b]?)(o:Nat):w'.cell? ⟨b,o,none⟩=w.cell? ⟨b,o,none⟩:=by simp[World.cell?,h]
def Cx.fresh (x:Cx)(w':World)(aF k:Nat)(F:Nat->Prop)(b:DB):Cx:=
 ⟨w',λi=>if i=aF then x.w.heap.size else x.μ i,λi=>if i=aF then k else x.κ i,λc o=>x.Fz c o\/(c=x.w.heap.size/\F o),eU x.S aF b⟩
theorem jN{aF k:Nat}{F:Nat->Prop}{ob:Obj}{b:DB}(hR:Rel x)(hn:Fi x.S aF)(hp:pK x.w w' ob):bV x (x.fresh w' aF k F b) where
 size:=by show _<=w'.heap.size;rw[hp.heap];simp
 env:=hp.env
 fz:=λc o h=>⟨.inl h,cell_of_block (hp.lt (hR.wN h)) o⟩
 JA:=λc o h=>by
  rcases h with h|h;.exact .inl h
  exact .inr (.inl (by omega))
 old:=λc hc _=>hp.lt hc
 len:=Wp b
 cells:=λid l hl=>by have hne:=hn.ne hl (by simp);exact⟨if_neg hne,l,by show(eU _ _ _)[_]? =_;rw[bG hn.le,if_neg hne];exact hl⟩
 eC:=λid c hl hc=>by have hne:=hn.ne hl (fo hc);exact⟨if_neg hne,⟨c,by show(eU _ _ _)[_]? =_;rw[bG hn.le,if_neg hne];exact hl,eV hc⟩,λ_=>by obtain⟨o,h1,-⟩:=hR.eC id c hl hc;exact hp.lt (cF h1)⟩
 dR:=λt e s n ht=>by have hne:=hn.ne ht (by simp);exact⟨n,by show(eU _ _ _)[_]? =_;rw[bG hn.le,if_neg hne];exact ht,ak _,λ_=>⟨if_neg hne,if_neg hne⟩⟩
 live:=λi hi=>by
  by_cases h:i=aF;.subst h;right;show _<=(if _ then _ else _);rw[if_pos rfl];exact ak _
  left;obtain⟨c,hc,hne⟩:=hi;have hc:(eU x.S aF b)[i]? =some c:=hc;rw[bG hn.le,if_neg h]at hc;exact⟨⟨c,hc,hne⟩,if_neg h⟩
 ops:=λt e s l z ht=>by have hne:=hn.ne ht (by simp);exact⟨l,z,by show(eU _ _ _)[_]? =_;rw[bG hn.le,if_neg hne];exact ht,ak _,λe=>⟨rfl,e⟩,λ_=>⟨if_neg hne,if_neg hne⟩⟩
theorem mZ{aF k:Nat}{F:Nat->Prop}{ob:Obj}{b:DB}(hR:Rel x)(hn:Fi x.S aF)(hp:pK x.w w' ob)
  (hF:∀o,F o->∃v,w'.cell? ⟨x.w.heap.size,o,none⟩=some v)
  (hb:(∃l arr e,b=.cells l/\ob=.cells arr e (0,0)/\arr.size=l.length/\(∀o,¬F o)/\∀j c,l[j]? =some c->RV x c (arr.getD j undef))\/
   (∃e s n arr,b=.tail e s n/\ob=.cells arr e (0,0)/\arr.size=k*s/\n<=arr.size/\k<=maxLen/\∀o,F o->o<n)\/(b.isObj=true/\(∀o,¬F o)/\uF (x.fresh w' aF k F b) b ob)\/
   (∃e s l arr,b=.op e s l false/\ob=.cells arr e (0,0)/\arr.size=k*s/\l.length<=arr.size/\k<=maxLen/\(∀o,¬F o)/\∀j c,l[j]? =some c->c.ck=true/\RV x c (arr.getD j undef))):
  Rel (x.fresh w' aF k F b):=by
 have M:=jN (k:=k) (F:=F) (b:=b) hR hn hp;have bg:∀i,(x.fresh w' aF k F b).S[i]? =if i=aF then some b else x.S[i]? :=λi=>bG hn.le b i
 have hμ:∀i,i≠aF->(x.fresh w' aF k F b).μ i=x.μ i:=λi h=>if_neg h;have hκ:∀i,i≠aF->(x.fresh w' aF k F b).κ i=x.κ i:=λi h=>if_neg h;have hμn:(x.fresh w' aF k F b).μ aF=x.w.heap.size:=if_pos rfl;have hκn:(x.fresh w' aF k F b).κ aF=k:=if_pos rfl;have pI:∀i,i≠aF->Live (x.fresh w' aF k F b).S i->Live x.S i:=by rintro i h ⟨c,hc,hne⟩;rw[bg,if_neg h]at hc;exact⟨c,hc,hne⟩
 constructor
 .intro id l hl;rw[bg]at hl;by_cases h:id=aF
  .subst h;rw[if_pos rfl]at hl;cases hl;rcases hb with ⟨l',arr,e,h1,rfl,h3,h4,h5⟩|⟨e,s,n,arr,h1,-⟩|⟨h1,-⟩|⟨e,s,n,arr,h1,-⟩;.cases h1;rw[hμn];exact⟨arr,e,hp.new,h3,λj c hc=>(h5 j c hc).mono M⟩
   all_goals cases h1
  rw[if_neg h]at hl;obtain⟨arr,e,h1,h2,h3⟩:=hR.cells id l hl;rw[hμ id h];exact⟨arr,e,(hp.lt (cF h1)).trans h1,h2,λj c hc=>(h3 j c hc).mono M⟩
 .intro id e s n hl;rw[bg]at hl;by_cases h:id=aF
  .subst h;rw[if_pos rfl]at hl;cases hl;rcases hb with ⟨l',arr,e',h1,-⟩|⟨e',s',n',arr,h1,rfl,h3,h4,h5,-⟩|⟨h1,-⟩|⟨e',s',n',arr,h1,-⟩;.cases h1
   .cases h1;rw[hμn,hκn];exact⟨arr,hp.new,h3,h4,h5⟩
   all_goals cases h1
  rw[if_neg h]at hl;obtain⟨arr,h1,h2⟩:=hR.dR id e s n hl;rw[hμ id h,hκ id h];exact⟨arr,(hp.lt (cF h1)).trans h1,h2⟩
 .intro id c hl hc;rw[bg]at hl;by_cases h:id=aF
  .subst h;rw[if_pos rfl]at hl;cases hl;rcases hb with ⟨l',arr,e,h1,-⟩|⟨e',s',n',arr,h1,-⟩|⟨-,-,h1⟩|⟨e',s',n',arr,h1,-⟩;.subst h1;cases hc
   .subst h1;cases hc
   .rw[hμn];exact⟨ob,hp.new,h1⟩
   subst h1;cases hc
  rw[if_neg h]at hl;obtain⟨o,h1,h2⟩:=hR.eC id c hl hc;rw[hμ id h];exact⟨o,(hp.lt (cF h1)).trans h1,h2.mono M⟩
 .intro i j hi hj he;by_cases h1:i=aF
  .by_cases h2:j=aF;.rw[h1,h2]
   rw[h1,hμn,hμ j h2]at he;have:=hR.iF (pI j h2 hj);omega
  by_cases h2:j=aF;.rw[h2,hμn,hμ i h1]at he;have:=hR.iF (pI i h1 hi);omega
  rw[hμ i h1,hμ j h2]at he;exact hR.inj i j (pI i h1 hi) (pI j h2 hj) he
 .intro c o h;rcases h with h|⟨rfl,h⟩;.obtain⟨v,hv⟩:=hR.Ae c o h;exact⟨v,(M.fz c o h).2.trans hv⟩
  exact hF o h
 .rintro id ⟨l,hl⟩ o ho;rw[bg]at hl;by_cases h:id=aF
  .subst h;rw[if_pos rfl]at hl;cases hl;rcases hb with ⟨l',arr,e,h1,-,-,h4,-⟩|⟨e',s',n',arr,h1,-⟩|⟨h1,-⟩|⟨e',s',n',arr,h1,-⟩
   .rw[hμn]at ho;rcases ho with ho|⟨-,ho⟩;.have:=hR.wN ho;omega
    exact h4 o ho
   all_goals cases h1
  rw[if_neg h]at hl;rw[hμ id h]at ho;rcases ho with ho|⟨ho,-⟩;.exact hR.sep id ⟨l,hl⟩ o ho
  have:=hR.iF (bk hl (by simp));omega
 .intro id e s n hl o ho;rw[bg]at hl;by_cases h:id=aF
  .subst h;rw[if_pos rfl]at hl;cases hl;rcases hb with ⟨l',arr,e',h1,-⟩|⟨e',s',n',arr,h1,-,-,-,-,h6⟩|⟨h1,-⟩|⟨e',s',n',arr,h1,-⟩;.cases h1
   .cases h1;rw[hμn]at ho;rcases ho with ho|⟨-,ho⟩;.have:=hR.wN ho;omega
    exact h6 o ho
   all_goals cases h1
  rw[if_neg h]at hl;rw[hμ id h]at ho;rcases ho with ho|⟨ho,-⟩;.exact hR.oH id e s n hl o ho
  have:=hR.iF (bk hl (by simp));omega
 intro id e s l z hl;rw[bg]at hl;by_cases h:id=aF
 .subst h;rw[if_pos rfl]at hl;cases hl;rcases hb with ⟨l',arr,e',h1,-⟩|⟨e',s',n',arr,h1,-⟩|⟨h1,-⟩|⟨e',s',n',arr,h1,rfl,h3,h4,h5,h6,h7⟩;.cases h1
  .cases h1
  .cases h1
  cases h1;rw[hμn,hκn];refine⟨arr,hp.new,h3,h4,h5,λj c hc=>⟨(h7 j c hc).1,(h7 j c hc).2.mono M⟩,by simp,λ_ o ho=>?_⟩;rcases ho with ho|⟨-,ho⟩;.have:=hR.wN ho;omega
  exact h6 o ho
 rw[if_neg h]at hl;obtain⟨arr,h1,h2,h3,h4,h5,h6,h7⟩:=hR.ops id e s l z hl;rw[hμ id h,hκ id h];refine⟨arr,(hp.lt (cF h1)).trans h1,h2,h3,h4,λj c hc=>⟨(h5 j c hc).1,(h5 j c hc).2.mono M⟩,λhz j hj=>.inl (h6 hz j hj),λhz o ho=>?_⟩;rcases ho with ho|⟨ho,-⟩;.exact h7 hz o ho
 have:=hR.iF (bk hl (by simp));omega
end Go.Di
