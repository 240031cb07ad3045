/- agz aka how many akb stand, the aiM one and where one breaks; no agw. -/
import Derived.Test.YtedcgbkilmlbhaaGreatPk39
import Derived.Test.YtedcgbkilmlbhaaGreatPk06
import Derived.Test.YtedcgbkilmlbhaaGreatRows
import Derived.Conc.LeavingOf
import Derived.ProofKit
import Derived.Test.YtedcgbkilmlbhaaGreatPk17
import Derived.Test.YtedcgbkilmlbhaaGreatPk16
import Derived.Test.YtedcgbkilmlbhaaGreatPk19
set_option maxRecDepth 100000
namespace Go.Tv
open Go Go.Di Go.Conc Go.Co Go.Proofs
theorem Jd:CX DF where
 other:=λf a h1 h2 h3 h4=>by
  have:oU f a=none:=by unfold oU;split;exact absurd rfl h1;exact absurd rfl h2;exact absurd rfl h4;rfl
  simp[DF,more,Ne.symm h3,this]
 fit:=by simp[DF,more,DV.KF,bb]
def rowsOf(NC:br):cj:=NC.map λn=>.val (.int .i64 n)
theorem Eo:∀NC:br,eX (CR bY) bY.agg NC (rowsOf NC)
 |[]=>trivial
 |n::l=>⟨⟨rfl,λl h=>ao⟩,Eo l⟩
def akL(W:World)(b o n:Nat):Cx:={w:=W,μ:=λ_=>0,κ:=λ_=>0,Fz:=λb' j=>b'=b/\o<=j/\j<o+n,S:=[]}
end Go.Tv
namespace Go.Tv
open Go Go.Di Go.Conc Go.Co Go.Proofs
open Go.ChangeShapes Go.WideShapes Go.ChangeAt Go.RowKit
theorem Tryz.own:ownKnob Tryz.prog.godebug=none:=by kernel_rfl
theorem Tryz.laidOut:laidOutB Tryz.prog=true:=by kernel_rfl
theorem Tryz.afl:Tryz.prog.underlying 4=some .bool:=by kernel_rfl
theorem MJ{W w':World}(h:u7 W w')(may:MemPlace->Prop):W.keptBut w' may:=by refine⟨h.os,h.output,λi hi=>?_⟩;rw[h.block i hi];split<;>simp_all
theorem OA{W w':World}(h:u7 W w'){p:MemPlace}(hp:p.block<W.heap.size):W.sameAt w' p:=by
 cases p with
 |cell b o=>exact World.cell?_of_block (w:=W) (h.block b hp)
 |map b=>exact h.block b hp
end Go.Tv
namespace Go.Tv
open Go Go.Di Go.Conc Go.Co Go.Proofs
open Go.ChangeShapes Go.WideShapes Go.ChangeAt Go.RowKit
def si(W:World):Cx:={w:=W,μ:=λ_=>0,κ:=λ_=>0,Fz:=λb o=>∃v,W.cell? ⟨b,o,none⟩=some v,S:=[]}
theorem SX(W:World):Rel (si W) where
 cells:=λid l hl=>by simp[si]at hl
 ej:=λid e s n hl=>by simp[si]at hl
 eH:=λid b hl=>by simp[si]at hl
 inj:=λi j hi=>absurd hi (gV i)
 AE:=λb j h=>h
 sep:=λid ⟨l,hl⟩=>by simp[si]at hl
 oV:=λid e s n hl=>by simp[si]at hl
 ops:=λid e s l z hl=>by simp[si]at hl
section
variable (P:Program)
def xW:TT->TypeId⊕(List Field×Nat)->Prop
 |.int k,.inl t=>P.underlying t=some (.int k)/\P.cellsOf t=1
 |.bool,.inl t=>P.underlying t=some .bool/\P.cellsOf t=1
 |.str,.inl t=>P.underlying t=some .string/\P.cellsOf t=1
 |.sl a,.inl t=>P.cellsOf t=1/\∃e,P.underlying t=some (.slice e)/\P.cellsOf e=a.size/\xW a (.inl e)
 |.pair a b,.inl t=>∃fs f r,P.underlying t=some (.struct fs)/\fs.toList=f::r/\f.offset=0/\P.cellsOf t=a.size+b.size/\P.cellsOf f.type=a.size/\xW a (.inl f.type)/\xW b (.inr (r,a.size))
 |.unit,.inr x=>x.1=[]
 |.pair a b,.inr x=>∃f r,x.1=f::r/\f.offset=x.2/\P.cellsOf f.type=a.size/\xW a (.inl f.type)/\xW b (.inr (r,x.2+a.size))
 |_,_=>False
end
section
variable {H:Type} {enc:TypeId×Value->H} {P:Program} {W:World} {base:Nat} {spare:Nat->Bool} {held:Bool}
def CV(W:World)(ds:cj)(cs:List Value):Prop:=ds.length=cs.length/\∀j c,ds[j]? =some c->RV (si W) c (cs.getD j undef)
def pX(a:TT)(ds:cj):DV:=if a.agg then .agg ds else ds.headD bK
theorem Oq{a:TT}{x:a.den}{ds:cj}(ha:a.agg=false)(h:CR a x ds):∃d,ds=[d]/\d.cells=[d]/\∀l,d≠.agg l:=by
 cases a with
 |int k=>simp only[CR]at h;subst h;exact⟨_,rfl,rfl,λl h=>ao⟩
 |bool=>simp only[CR]at h;subst h;exact⟨_,rfl,rfl,λl h=>ao⟩
 |str=>simp only[CR]at h;subst h;exact⟨_,rfl,rfl,λl h=>ao⟩
 |sl t=>simp only[CR]at h;obtain⟨rows,f,rfl,-⟩:=h;exact⟨_,rfl,rfl,λl h=>ao⟩
 |unit=>cases ha
 |pair a b=>cases ha
theorem Ep{a:TT}{x:a.den}{ds:cj}(h:CR a x ds):(pX a ds).cells=ds/\y8 a.agg (pX a ds):=by
 unfold pX y8;cases ha:a.agg with
 |true=>exact⟨rfl,ds,rfl⟩
 |false=>obtain⟨d,rfl,h1,h2⟩:=Oq ha h;exact⟨h1,h2⟩
theorem Q4{α:Type}{Q:Nat->α->Prop}:∀n,(∀i,i<n->∃a,Q i a)->∃l:List α,l.length=n/\∀i a,l[i]? =some a->Q i a
 |0,_=>⟨[],rfl,λi a h=>by simp at h⟩
 |n+1,h=>by
  obtain⟨l,h1,h2⟩:=Q4 n λi hi=>h i ab;obtain⟨a,ha⟩:=h n ab;refine⟨l++[a],by simp[h1],λi b hb=>?_⟩;by_cases hi:i<l.length
  grind
  grind
theorem Qo{a:TT}:∀(l:List (a.den×cj)),(∀p∈l,CR a p.1 p.2)->eX (CR a) a.agg (l.map (·.1)) (l.map λp=>pX a p.2)
 |[],_=>by simp only[eO,eX]
 |p::l,h=>by simp only[aY,eX];have h1:=Ep (h p ae);exact⟨⟨by rw[h1.1];exact h p ae,h1.2⟩,Qo l λq hq=>h q (by simp[hq])⟩
theorem Mh:∀(T:TT){t:TypeId},xW P T (.inl t)->0<T.size
 |.int _,_,_=>Nat.one_pos
 |.bool,_,_=>Nat.one_pos
 |.str,_,_=>Nat.one_pos
 |.sl _,_,_=>Nat.one_pos
 |.pair a _,_,h=>by obtain⟨_,_,_,-,-,-,-,-,h,-⟩:=h;exact Nat.add_pos_left (Mh a h) _
 |.unit,_,h=>h.elim
theorem SK{ad:Addr}{n:Nat}{cs:List Value}(h:W.cells? base (ad.add 0) n=some cs)(hn:0<n):ad.spot=none:=by
 have h1:=(World.cells?_some h).2.2 0 hn;have h2:(ad.add 0).add 0=ad:=rfl;rw[h2]at h1;have hl:=(World.cells?_some h).2.1;rw[cq (by omega:0<cs.length)]at h1;cases hs:ad.spot with
 |none=>rfl
 |some x=>
  rw[World.cell?]at h1;split at h1
  grind
  cases h1
theorem ME{ad:Addr}(h:ad.spot=none)(i:Nat):ad.add i=⟨ad.block,ad.off+i,none⟩:=by
 obtain⟨b,o,s⟩:=ad;simp only at h;subst h;unfold Addr.add;split
 grind
 rfl
theorem Dd(A7:∀b,spare b=true):∀(T:TT),
  (∀fuel t (cs:List Value) y,xW P T (.inl t)->DataW.trod enc P W base spare held fuel t cs=some y->∃(x:T.den)(ds:cj),CR T x ds/\cs.length=T.size/\CV W ds cs)/\
  (∀n (fs:List Field)(off:Nat)(cs:List Value),xW P T (.inr (fs,off))->(∀f∈fs,∃y,DataW.trod enc P W base spare held n f.type ((cs.drop f.offset).take (P.cellsOf f.type))=some y)->off+T.size=cs.length->∃(x:T.den)(ds:cj),CR T x ds/\CV W ds (cs.drop off))
 |.int k=>by
  refine⟨λfuel t cs y ht h=>?_,λn fs off cs ht=>ht.elim⟩;obtain⟨n,rfl,-,-⟩:=DataW.trod_int ht.1 h;refine⟨n,[.val (.int k n)],rfl,rfl,rfl,λj c hj=>?_⟩;cases j with
  |zero=>cases hj;exact .val rfl
  |succ j=>simp at hj
 |.bool=>by
  refine⟨λfuel t cs y ht h=>?_,λn fs off cs ht=>ht.elim⟩;obtain⟨n,rfl,-⟩:=DataW.trod_bool ht.1 h;refine⟨n,[.val (.bool n)],rfl,rfl,rfl,λj c hj=>?_⟩;cases j with
  |zero=>cases hj;exact .val rfl
  |succ j=>simp at hj
 |.str=>by
  refine⟨λfuel t cs y ht h=>?_,λn fs off cs ht=>ht.elim⟩;obtain⟨n,rfl,-,-⟩:=DataW.trod_string ht.1 h;refine⟨n,[.val (.string n)],rfl,rfl,rfl,λj c hj=>?_⟩;cases j with
  |zero=>cases hj;exact .val rfl
  |succ j=>simp at hj
 |.unit=>by refine⟨λfuel t cs y ht=>ht.elim,λn fs off cs ht _ hl=>⟨(),[],rfl,?_,λj c hj=>by simp at hj⟩⟩;simp only[TT.size]at hl;simp;omega
 |.pair a b=>by
  have key:∀n (f:Field) r (off:Nat)(cs:List Value),P.cellsOf f.type=a.size->xW P a (.inl f.type)->xW P b (.inr (r,off+a.size))->f.offset=off->(∀g∈f::r,∃y,DataW.trod enc P W base spare held n g.type ((cs.drop g.offset).take (P.cellsOf g.type))=some y)->
    off+(a.size+b.size)=cs.length->∃(x:(TT.pair a b).den)(ds:cj),CR (.pair a b) x ds/\CV W ds (cs.drop off):=by
   intro n f r off cs h1 h2 h3 h4 h5 h7;obtain⟨y,hy⟩:=h5 f ae;obtain⟨x1,d1,k1,k2,k3⟩:=(Dd A7 a).1 n f.type _ y h2 hy;obtain⟨x2,d2,m1,m2⟩:=(Dd A7 b).2 n r (off+a.size) cs h3 (λg hg=>h5 g (by simp[hg])) ab;rw[h4,h1]at k3;refine⟨(x1,x2),d1++d2,⟨d1,d2,rfl,k1,m1⟩,?_,λj c hj=>?_⟩;have:=k3.1;have:=m2.1;simp only[cn,List.length_take,List.length_drop]at*;omega;have e1:=oJ k1;by_cases hj1:j<d1.length;rw[fI hj1]at hj;have:=k3.2 j c hj;rw[aU,wD,if_pos ab]at this
   rwa [aU]
   rw[jr ab]at hj;have:=m2.2 _ c hj;rw[aU,zG]at this⊢
   rwa [show off+j=off+a.size+(j-d1.length)by omega]
  refine⟨λfuel t cs y ht h=>?_,λn fs off cs ht h5 hl=>?_⟩;obtain⟨fs,f,r,t1,t2,t3,t4,t5,t6,t7⟩:=ht;obtain⟨xs,n,-,-,hc,hx,hf⟩:=DataW.trod_struct t1 h;obtain⟨x,ds,q1,q2⟩:=key n f r 0 cs t5 t6 (by rw[iw];exact t7) t3 (λg hg=>by
   obtain⟨i,hi⟩:=List.getElem?_of_mem hg;rw[<-t2,kg]at hi;have:=hf i g hi;have hlt:i<xs.length:=by rw[hx];exact(aN.1 hi).1
   exact⟨xs[i],by rw[this];simp[hlt]⟩) ab
  exact⟨x,ds,q1,by simp only[TT.size];omega,by simpa using q2⟩;obtain⟨f,r,t1,t2,t3,t4,t5⟩:=ht;simp only at t1 t2 t5;subst t1;exact key n f r off cs t3 t4 t5 t2 h5 (by simpa [TT.size]using hl)
 |.sl a=>by
  refine⟨λfuel t cs y ht h=>?_,λn fs off cs ht=>ht.elim⟩;obtain⟨t1,e,t2,t3,t4⟩:=ht;have hsz:=Mh a t4;rcases DataW.trod_slice t2 h with ⟨rfl,-⟩|⟨ad,len,cap,elems,rest,n,-,rfl,-,hb,hlc,hcm,hel,bz,ajk,-⟩;refine⟨[],[.sl [] none ⟨false,none⟩],⟨[],_,rfl,by simp only[eX]⟩,rfl,rfl,λj c hj=>?_⟩;cases j with
  |zero=>cases hj;exact .sl (s:=0) (vs:=λ_=>undef) ⟨λr hr=>by simp at hr,λj c hj=>by simp[flat]at hj⟩ (λj c hj=>by simp[flat]at hj) (ak 0) ⟨λh=>(nomatch h),λb h=>(nomatch h)⟩ (λ_=>rfl) (λad h _=>(nomatch h)) (λt h=>(nomatch h))
  |succ j=>simp at hj
  have B3:0<cap->ad.spot=none:=λhc=>by
   obtain⟨xg,Kq⟩:=ajk (A7 _);have key:∃iZ,W.cells? base (ad.add 0) a.size=some iZ:=by by_cases hl:0<len;have:=bz 0 hl;rw[show elems[0]? =some elems[0]from cq ab,mP,t3,Nat.zero_mul]at this;obtain⟨iZ,h1,-⟩:=this;exact⟨iZ,h1⟩;have:=Kq 0 ab;rw[show rest[0]? =some rest[0]from cq ab,mP,t3,show(len+0)*a.size=0 by rw[show len+0=0 by omega,Nat.zero_mul]]at this;obtain⟨iZ,h1,-⟩:=this;exact⟨iZ,h1⟩
   obtain⟨iZ,h1⟩:=key;exact SK h1 hsz
  obtain⟨l,hl,hQ⟩:=Q4 (Q:=λi (p:a.den×cj)=>CR a p.1 p.2/\∃iZ,W.cells? base (ad.add (i*a.size)) a.size=some iZ/\CV W p.2 iZ) len (λi hi=>by have:=bz i hi;rw[show elems[i]? =some elems[i]from cq ab,mP,t3]at this;obtain⟨iZ,h1,h2⟩:=this;obtain⟨x,ds,q1,q2,q3⟩:=(Dd A7 a).1 n e iZ _ t4 h2;exact⟨(x,ds),q1,iZ,h1,q3⟩);have hCR:∀p∈l,CR a p.1 p.2:=λp hp=>by obtain⟨i,hi⟩:=List.getElem?_of_mem hp;exact(hQ i p hi).1
  refine⟨l.map (·.1),[.sl (l.map λp=>pX a p.2) none ⟨false,none⟩],⟨_,_,rfl,Qo l hCR⟩,rfl,rfl,λj c hj=>?_⟩;cases j with
  |succ j=>simp at hj
  |zero=>
  cases hj;have Zq:(l.map λp=>pX a p.2).length=len:=by rw[List.length_map,hl]
  have sV:∀r∈l.map λp=>pX a p.2,r.cells.length=a.size:=λr hr=>by obtain⟨p,hp,rfl⟩:=er.1 hr;rw[(Ep (hCR p hp)).1];exact oJ (hCR p hp)
  have each:∀j c,(flat (l.map λp=>pX a p.2))[j]? =some c->c.ct=true/\∃v,W.cell? ⟨ad.block,ad.off+j,none⟩=some v/\RV (si W) c v:=by
   intro j c hj;have hlt:=(aM.1 hj).1;rw[Go.Di.iH sV,Zq]at hlt;have hs0:=hsz;have B3:=B3 (dD (Nat.pos_of_ne_zero λe=>by rw[e]at hlt;simp at hlt) hlc);have hi:j/a.size<len:=(Nat.div_lt_iff_lt_mul hs0).2 hlt;have hm:j % a.size<a.size:=Nat.mod_lt _ hs0;have hp:l[j/a.size]? =some l[j/a.size]:=cq ab;have hr:(l.map λp=>pX a p.2)[j/a.size]? =some (pX a (l[j/a.size]' ab).2):=by simp[dG,hp]
   have hf:=Ae sV hr hm;rw[Nat.div_add_mod' j a.size]at hf;rw[hf,(Ep (hCR _ (nQ ab))).1]at hj;obtain⟨q1,iZ,q2,q3⟩:=hQ _ _ hp;have hc:=World.cells?_some q2;have hv:=q3.2 _ c hj;obtain⟨v',hk⟩:∃v',iZ[j % a.size]? =some v':=⟨_,cq (by rw[hc.2.1];exact hm)⟩;have h3:=hc.2.2 (j % a.size) hm;rw[hk,ME B3,ME rfl]at h3;have adf:=tE q1;rw[aX]at adf;rw[aU,hk]at hv;refine⟨adf c (cB hj),v',?_,hv⟩;rw[<-h3];congr 2;have:=Nat.div_add_mod' j a.size;simp only;omega
  rw[List.getD_cons_zero,<-Zq];refine .sl (s:=a.size) (vs:=λj=>(W.cell? ⟨ad.block,ad.off+j,none⟩).getD undef) ⟨sV,λj c hj=>?_⟩ (λj c hj=>?_) (by rw[Zq];exact hlc) ⟨λh=>(nomatch h),λb h=>(nomatch h)⟩ (λh=>(nomatch h)) (λad' h hc=>by cases h;exact B3 hc) (λt h=>(nomatch h));obtain⟨h1,v,h2,h3⟩:=each j c hj;refine⟨h1,ad.block,ad.off,?_,⟨v,h2⟩,?_⟩;obtain⟨b,o,s⟩:=ad;have hlt:=(aM.1 hj).1;rw[Go.Di.iH sV,Zq]at hlt;have B3:=B3 (dD (Nat.pos_of_ne_zero λe=>by rw[e]at hlt;simp at hlt) hlc);simp only at B3;subst B3;rfl;show W.cell? _=_;simp only[h2,tI]
  grind
def aab(T:TT)(x:T.den):TV:=if T.agg then .agg (T.cells x)else(T.cells x).headD .unk
theorem ahy{ι:lp}{S:ai}{T:TT}{x:T.den}{ds:cj}(h:CR T x ds):RT ι S (aab T x) (pX T ds):=by
 have h1:=qu (ι:=ι) (S:=S) h;unfold aab pX;cases ha:T.agg with
 |true=>simp only[if_true,RT];exact h1
 |false=>
  obtain⟨d,rfl,-,-⟩:=Oq ha h;cases hc:T.cells x with
  |nil=>rw[hc]at h1;simp only[cO]at h1
  |cons a l=>rw[hc]at h1;obtain⟨d',m',e,h2,h3⟩:=aj h1;cases e;exact h2
theorem ags{r:Reach}{T:TT}{t:TypeId}{v:Value}{d:DataW H}{p:List MemPlace}(A7:∀b,spare b=true)(hT:xW P T (.inl t))(kB:Value.okWide P W r base t v)(h:DataW.Trod enc P W 0 spare held t v d p):
  ∃x ds,CR T x ds/\RV (si W) (pX T ds) v:=by
 obtain⟨fuel,hf⟩:=h;obtain⟨x,ds,h1,h2,h3⟩:=(Dd A7 T).1 fuel t _ _ hT hf;refine⟨x,ds,h1,?_⟩;unfold pX;cases ha:T.agg with
 |true=>
  have:∃cs,v=.agg cs:=by
   cases T with
   |pair a b=>obtain⟨fs,f,r,t1,-⟩:=hT;simp only[Value.okWide,t1]at kB;obtain⟨cs,hv,-⟩:=kB;exact⟨cs,hv⟩
   |unit=>exact hT.elim
   |_=>cases ha
  obtain⟨cs,rfl⟩:=this;simp only[Value.cells]at h3;refine .agg (by rw[h3.1];simp) λj c hj=>?_;have:=h3.2 j c hj
  rwa [aU,kg,<-bF]at this
 |false=>
  obtain⟨d,rfl,-,-⟩:=Oq ha h1;have:v.cells.toList=[v]:=by
   cases v with
   |agg cs=>
    exfalso;have:∀(s:TypeDesc),P.underlying t=some s->(∀fs,s≠.struct fs)->(∀n e,s≠.array n e)->False:=by
     intro s hs FK hs2;unfold Value.okWide at kB;rw[hs]at kB;split at kB
     grind
     grind
     unfold Cell.okWide at kB;split at kB<;>simp_all [Cell.ok]
    cases T with
    |int k=>exact this _ hT.1 (λ_ h=>ao) (λ_ _ h=>ao)
    |bool=>exact this _ hT.1 (λ_ h=>ao) (λ_ _ h=>ao)
    |str=>exact this _ hT.1 (λ_ h=>ao) (λ_ _ h=>ao)
    |sl a=>obtain⟨-,e,h,-⟩:=hT;exact this _ h (λ_ h=>ao) (λ_ _ h=>ao)
    |_=>cases ha
   |_=>rfl
  have h4:=h3.2 0 d rfl;rw[this]at h4;exact h4
end
end Go.Tv
namespace Go.Tv
open Go Go.Di Go.Conc Go.Co Go.Proofs
open Go.ChangeShapes Go.WideShapes Go.ChangeAt Go.RowKit
def TVs:List TT->cp->Prop
 |[],[]=>True
 |T::Ts,v::vs=>(∃x,v=aab T x)/\TVs Ts vs
 |_,_=>False
def Wh(P:Program):List TT->List TypeId->Prop
 |[],[]=>True
 |T::Ts,t::ts=>xW P T (.inl t)/\Wh P Ts ts
 |_,_=>False
section
variable {H:Type} {enc:TypeId×Value->H} {P:Program} {W W':World} {base:Nat} {spare:Nat->Bool} {held:Bool}
theorem RF{r:Reach}:∀{Ts:List TT}{ts:List TypeId}{vs:List Value}{ds:List (DataW H)}{p:List MemPlace},(∀b,spare b=true)->Wh P Ts ts->(∀(j:Nat) t v,ts[j]? =some t->vs[j]? =some v->Value.okWide P W r base t v)->
  DataW.TrodAll enc P W 0 spare held ts vs ds p->ds.length=ts.length/\∃M9 Zz,TVs Ts M9/\cO fF [] M9 Zz/\Zz.length=vs.length/\∀j c,Zz[j]? =some c->RV (si W) c (vs.getD j undef)
 |[],[],[],[],_,_,_,_,_=>⟨rfl,[],[],trivial,bS,rfl,λj c h=>by simp at h⟩
 |T::Ts,t::ts,v::vs,d::ds,p,hsp,hT,kB,h=>by
  obtain⟨p1,q1,h1,h2,-⟩:=h;obtain⟨x,dv,k1,k2⟩:=ags hsp hT.1 (kB 0 t v rfl rfl) h1;obtain⟨e,M9,Zz,m1,m2,m3,m4⟩:=RF hsp hT.2 (λj t v h1 h2=>kB (j+1) t v (by simpa using h1) (by simpa using h2)) h2;refine⟨by simp[e],aab T x::M9,pX T dv::Zz,⟨⟨x,rfl⟩,m1⟩,aR (ahy k1) m2,by simp[m3],λj c hj=>?_⟩;cases j with
  |zero=>cases hj;exact k2
  |succ j=>exact m4 j c (by simpa using hj)
 |[],_::_,_,_,_,_,hT,_,_=>hT.elim
 |_::_,[],_,_,_,_,hT,_,_=>hT.elim
 |_::_,_::_,[],_,_,_,_,_,h=>by simp[DataW.TrodAll]at h
 |_::_,_::_,_::_,[],_,_,_,_,h=>by simp[DataW.TrodAll]at h
 |[],[],_::_,_,_,_,_,_,h=>by simp[DataW.TrodAll]at h
 |[],[],[],_::_,_,_,_,_,h=>by simp[DataW.TrodAll]at h
theorem HZ(hl:laidOutB P=true)(hst:u7 W W'):∀{ts:List TypeId}{vs:List Value}{ds:List (DataW H)}{p:List MemPlace},(∀t∈ts,P.readableRec t=true/\t<P.types.size)->(∀x∈p,x.block<W.heap.size)->
  DataW.TrodAll enc P W 0 (λ_=>true) true ts vs ds p->DataW.TrodAll enc P W' 0 (λb=>decide (b<W.heap.size)) true ts vs ds p
 |[],[],[],_,_,_,h=>h
 |t::ts,v::vs,d::ds,p,hr,hp,h=>by obtain⟨p1,q1,h1,h2,rfl⟩:=h;exact⟨p1,q1,WideElems.Trod_stays hl (hr t ae).1 (hr t ae).2 h1 (λx hx=>OA hst (hp x (by simp[hx]))) λx hx=>by simpa using hp x (by simp[hx]),HZ hl hst (λt h=>hr t (by simp[h])) (λx hx=>hp x (by simp[hx])) h2,rfl⟩
 |[],_::_,_,_,_,_,h=>by simp[DataW.TrodAll]at h
 |[],[],_::_,_,_,_,h=>by simp[DataW.TrodAll]at h
 |_::_,[],_,_,_,_,h=>by simp[DataW.TrodAll]at h
 |_::_,_::_,[],_,_,_,h=>by simp[DataW.TrodAll]at h
end
theorem TU{bI:b9}(ad9:∀aa,u6 Tryz.prog aa bI)(tkt:CX bI){f:FuncId}{n:Nat}(hf:f≠60/\f≠133/\f≠12/\f≠43/\f≠52)(hi:Tryz.prog.inits.idxOf? f=none){M9:cp}(hs:vc (KA bI (n+1)) f M9 (λv=>v=kR true))
  {W:World} {Zz:cj} {vals:Array Value} (hr:cO fF [] M9 Zz) (hv:ig (si W) Zz vals):
  ∃N last o w' t',runNT Tryz.prog (N+1) (solo (G (Frame.enter Tryz.prog f vals .normal) []) W) #[]=(.ended o w',t')/\runN Tryz.prog N (solo (G (Frame.enter Tryz.prog f vals .normal) []) W)=.next last/\
   step Tryz.prog last=.ended o w'/\Conc.Good Tryz.prog (λv w=>v=.bool true/\u7 W w) last o w' t':=by
 obtain⟨d,v,h1,h2,h3,h4,rfl⟩:=hs Zz hr;have hd:d=.val (.bool true):=by cases d<;>simp[RT]at h3;rw[h3]
 subst hd;refine O0 ?_ ?_;exact⟨nv _ _ _ _,λf hf=>(nomatch hf),λh=>h.elim,λd h=>(nomatch h)⟩;exact Xx (x:=si W) lX Hv acM ad9 (tkt.other f _ hf.1 hf.2.1 hf.2.2.1 hf.2.2.2.1 hf.2.2.2.2) hi h1 (SX W) rfl hv
theorem ai3{bI:b9}(ad9:∀aa,u6 Tryz.prog aa bI)(tkt:CX bI){f:FuncId}{fn:Func}{ts:List TypeId}{Ts:List TT}(UU:Tryz.prog.funcs[f]? =some fn)(aei:fn.params.toList=ts)(hTs:Wh Tryz.prog Ts ts)(hrd:∀t∈ts,Tryz.prog.readableRec t=true/\t<Tryz.prog.types.size)(aee:fn.resultTypes=#[4]){s:ChangeSpec}(ada:s.vars=[])
  (ahV:∀(H:Type)(ds:List (DataW H)),ds.length=ts.length->s.fn H ds={results:=[.lit (.bool true)],args:=ds}) {conds:List PathCond} {fresh handsOn:Bool}
  (hf:f≠60/\f≠133/\f≠12/\f≠43/\f≠52) (hi:Tryz.prog.inits.idxOf? f=none) {n:Nat} (hs:∀M9,TVs Ts M9->vc (KA bI (n+1)) f M9 (λv=>v=kR true))
  {os:Os} (started:os.Started) {H:Type} {enc:TypeId×Value->H}
  (witness:∃(w:World)(tape:Tape)(i:Input),w.os=os/\(w.forCall tape i).Shaped Tryz.checked.prog/\i.vars=[]/\Input.okWide Tryz.checked.prog (w.forCall tape i) .any w.heap.size f i/\
   s.pre6 enc Tryz.checked.prog fn conds false (w.forCall tape i).memory i.args/\({}:Assume).holds Tryz.checked.prog (lone (Frame.enter Tryz.checked.prog f i.args .normal) [] (w.forCall tape i))):
  ReturnsInLeavingWide {} Tryz.checked os f .any (s.pre6 enc Tryz.prog fn conds false) (s.post enc Tryz.prog fn false fresh handsOn false):=by
 refine returnsInLeavingWide_of_change_sized (C:=Tryz.checked) Tryz.own started UU witness ?_;intro W base args ds gs before ahU hW _ _ _;have ajc:∀(j:Nat) t v,ts[j]? =some t->args.toList[j]? =some v->Value.okWide Tryz.prog W .any base t v:=λj t v h1 h2=>ahU j t v (by rw[<-aei]at h1;simpa using h1) (by simpa using h2);have hW':=hW;obtain⟨p,q,hA0,hV,rfl,_,_⟩:=hW;have hA:DataW.TrodAll enc Tryz.prog W 0 (λ_=>true) true fn.params.toList args.toList ds p:=hA0;rw[aei]at hA;rw[ada]at hV;obtain⟨rfl,rfl⟩:=trodVars_none hV;simp only[dW]at hW';have hlt:∀x∈p,x.block<W.heap.size:=λx hx=>by simpa using hW'.lt x hx
 obtain⟨hdl,M9,Zz,h1,h2,h3,h4⟩:=RF (λ_=>rfl) hTs ajc hA;obtain⟨M,last,o,w',t',k1,k2,k3,k4⟩:=TU ad9 tkt (vals:=args) hf hi (hs M9 h1) h2 ⟨by rw[h3];simp,λj c hj=>by
  have:=h4 j c hj
  rwa [aU,kg,<-bF]at this⟩
 refine⟨M,last,o,w',t',k1,k2,k3,k4.mono λv hF=>?_⟩;obtain⟨rfl,hst⟩:=hF;have es:s.fn H (ds++[])={results:=[.lit (.bool true)],args:=ds}:=by rw[dW];exact ahV H ds hdl
 refine⟨_,_,_,[],p,[],hW',?_,?_,by rw[es,ada];rfl,MJ hst _,λh=>ao⟩;rw[es,aee];exact trodAll_mk1 (shut_bool Tryz.afl _)
 rw[es,aei];exact HZ Tryz.laidOut hst hrd hlt hA
end Go.Tv
namespace Go.Tv
open Go Go.Di Go.Conc Go.Co Go.Proofs
variable {aa:Machine->Trace->Prop} {x:Cx}
theorem wO:∀{l:br}{rows:cj},eX (CR bY) bY.agg l rows->rows=Go.Tv.rowsOf l
 |[],[],_=>rfl
 |[],_::_,h=>h.elim
 |_::_,[],h=>h.elim
 |n::l,r::rows,h=>by
  obtain⟨⟨h1,h2⟩,h3⟩:=h;rw[wO h3];have h1:r.cells=[.val (.int .i64 n)]:=h1;have:r=.val (.int .i64 n):=by
   cases r<;>simp only[DV.cells]at h1<;>first|(cases h1;rfl)|(cases h1;done)|exact(h2 rfl _ rfl).elim|skip
   all_goals exact(h2 _ rfl).elim
  rw[this];rfl
theorem ahw{ι:lp}{S:ai}{t:TT}{l:List t.den}{ap:Ap}{d:DV}(h:RT ι S (.sl t l ap) d):∃rows tok f,d=.sl rows tok f/\eX (CR t) t.agg l rows/\pU ι S rows.length tok f ap:=by cases d<;>simp only[RT]at h;exact⟨_,_,_,rfl,h⟩
theorem ahv{ι:lp}{S:ai}{v:Value}{d:DV}(h:RT ι S (.val v) d):d=.val v:=by cases d<;>simp only[RT]at h;rw[h]
theorem Dk:∀l:br,B2 (Go.Tv.rowsOf l)=some l
 |[]=>rfl
 |n::l=>by have:=Dk l;simp only[Go.Tv.rowsOf,aY,B2]at this⊢;rw[this];rfl
theorem aa6:aaJ DF where
 rev:=λl d hl h=>by
  cases d<;>simp only[RT]at h;rename_i rows tok f;rw[wO h.1];refine⟨.sl (Go.Tv.rowsOf l.reverse) none ⟨false,none⟩,?_,rfl,by simp only[RT];exact⟨Eo _,trivial⟩⟩;have e:oU 133 [.sl (Go.Tv.rowsOf l) tok f]=some (.sl (Go.Tv.rowsOf l.reverse) none ⟨false,none⟩):=by simp only[oU,aag,Dk,if_pos hl];rfl
  simp[DF,more,e]
theorem Qa(la ub:br)(s:Int):∀k,Du la ub s k=qz (gm la ub s k)
 |0=>rfl
 |k+1=>by
  have ih:=Qa la ub s k;rw[vp,ih,gm,Ni];by_cases h:0<=(k:Int)+s/\(k:Int)+s<la.length;rw[if_pos h,if_neg ab];have e:qz (gm la ub s k++[ub.getD k 0+la.getD ((k:Int)+s).toNat 0])=RQ (qz (gm la ub s k)) (ub.getD k 0+la.getD ((k:Int)+s).toNat 0):=by simp[qz,nS]
  rw[e];generalize qz (gm la ub s k)=st;generalize ub.getD k 0+la.getD ((k:Int)+s).toNat 0=v;obtain⟨lo,hi,m⟩:=st;simp only[RQ];by_cases h0:m=0;simp[h0]
  grind
  grind
theorem YZ(la ub:br)(w:Int):Go.Co.Vo la ub w=gr la ub w:=by funext s;simp only[Go.Co.Vo,gr,xl,Qa,Bool.decide_and]
theorem ML(la ub:br)(w:Int):oW la ub w=yG la ub w (ub.length+la.length+1):=by rw[oW,Um,yG,YZ]
def Gc(u l:br)(w:Int)(q:br):Wk:=⟨q,w,λi=>([u,l.reverse,u.reverse,l]:List br).getD i [],λi=>([l,u.reverse,l.reverse,u]:List br).getD i []⟩
theorem acI{u l q:br}{w:Int}{d:DV}(h:RT fF [] (wkV u l w q) d):ZJ d=some (Gc u l w q):=by
 cases d<;>simp only[wkV,RT]at h;obtain⟨a0,m,rfl,k0,h⟩:=aj h;obtain⟨a1,m,rfl,k1,h⟩:=aj h;obtain⟨a2,m,rfl,k2,h⟩:=aj h;obtain⟨a3,m,rfl,k3,h⟩:=aj h;obtain⟨a4,m,rfl,k4,h⟩:=aj h;obtain⟨a5,m,rfl,k5,h⟩:=aj h;obtain⟨a6,m,rfl,k6,h⟩:=aj h;obtain⟨a7,m,rfl,k7,h⟩:=aj h;obtain⟨a8,m,rfl,k8,h⟩:=aj h;obtain⟨a9,m,rfl,k9,h⟩:=aj h;obtain⟨a10,m,rfl,k10,h⟩:=aj h;obtain⟨a11,m,rfl,k11,h⟩:=aj h;cases aQ h;cases ahv k2;have key:∀{l:br}{d:DV},RT fF [] (.sl bY l .no) d->R7 d=some l:=λ{l d} hd=>by obtain⟨r,t,f,rfl,hr,-⟩:=ahw hd;rw[wO hr];exact Dk l
 simp only[ZJ,Gu,key k3,key k4,key k5,key k6,key k7,key k8,key k9,key k10,key k11];rfl
theorem I2{l:br}(h:l.length<=1000)(h1:∀x∈l,0<=x/\x<=9):FV l=true:=by simp only[FV,aD,cA,aX];exact⟨h,h1⟩
theorem RD:∀{l:br},l.Pairwise (·<·)->NN l=true
 |[],_=>rfl
 |a::l,h=>by rw[List.pairwise_cons]at h;simp only[NN,aD,aX,cA];exact⟨h.1,RD h.2⟩
theorem Wq{u l q:br}{w:Int}(h:Ok u l w q):wkB (Gc u l w q)=true:=by
 have h1:=h.n8;have h2:=h.len;have sp:=BU h;have hu:=I2 sp.1 h.hu;have hl:=I2 sp.2.1 h.hl;have hur:FV u.reverse=true:=I2 (by simp;omega) λx hx=>h.hu x (by simpa using hx);have hlr:FV l.reverse=true:=I2 (by simp;omega) λx hx=>h.hl x (by simpa using hx);have h4:(List.range 4).all (λi=>FV ((Gc u l w q).up i)&&FV ((Gc u l w q).lo i))=true:=by simp[iy,Gc,hu,hl,hur,hlr]
 have hw0:=h.w0;have hw2:=h.w2;have e1:(Gc u l w q).bJ.all (λx=>decide (0<=x)&&decide (x<=3))=true:=by simp only[aX,aD,cA];exact h.CH
 unfold wkB;rw[h4,e1,show NN (Gc u l w q).bJ=true from RD h.U4,iN (show(Gc u l w q).bJ.length<=1000 from sp.2.2),iN (show 0<=(Gc u l w q).cS from hw0),iN (show(Gc u l w q).cS<=1000 by show w<=1000;omega)];rfl
theorem OE{ua la qa ub lb qb:br}{wa wb:Int}(ha:Ok ua la wa qa)(hb:Ok ub lb wb qb):eA (Gc ua la wa qa) (Gc ub lb wb qb)=(bM ua la qa ub lb qb (wa+wb)).map λx=>(x.1,x.2.1,x.2.2.1):=by
 have h3:=ha.len;have h3':=hb.len;unfold eA bM;rw[wA];have Xg:∀{α β:Type}{l:List α}{f g:α->List β},(∀x∈l,f x=g x)->l.flatMap f=l.flatMap g:=λ{α β l f g} h=>by
  induction l with
  |nil=>rfl
  |cons x l ih=>rw[cz,cz,h x ae,ih λy hy=>h y (by simp[hy])]
 refine Xg λx hx=>?_;rw[wA];refine Xg λy hy=>?_;rw[jm];have ex:(Gc ua la wa qa).lo x.toNat=fL x ua la/\(fL x ua la).length=ua.length:=by rcases four (ha.CH x hx)with rfl|rfl|rfl|rfl<;>simp[Gc,fL,h3]
 have ey:(Gc ub lb wb qb).up y.toNat=fK y ub lb/\(fK y ub lb).length=ub.length:=by rcases four (hb.CH y hy)with rfl|rfl|rfl|rfl<;>simp[Gc,fK,h3']
 rw[gM,ex.1,ey.1,ML,ex.2,ey.2];rfl
theorem Qn:∀l:List (Int×Int×Int×Unit),eX (CR bn) bn.agg l ((l.map λx=>(x.1,x.2.1,x.2.2.1)).map smD)
 |[]=>trivial
 |(x,y,s,_)::l=>⟨⟨⟨_,_,rfl,rfl,_,_,rfl,rfl,_,_,rfl,rfl,rfl⟩,⟨_,rfl⟩⟩,Qn l⟩
theorem aa5:aeG DF where
 acP:=λua la qa ub lb qb wa wb d1 d2 ha hb h1 h2=>by
  refine⟨.sl ((eA (Gc ua la wa qa) (Gc ub lb wb qb)).map smD) none ⟨false,none⟩,?_,rfl,?_⟩;have e:oU 60 [d1,d2]=some (.sl ((eA (Gc ua la wa qa) (Gc ub lb wb qb)).map smD) none ⟨false,none⟩):=by simp only[oU,II,acI h1,acI h2,Wq ha,Wq hb,jo,if_true]
  simp[DF,more,e];simp only[RT];rw[OE ha hb];exact⟨Qn _,trivial⟩
end Go.Tv
namespace Go.Tv
open Go Go.Di Go.Conc Go.Co Go.Proofs
theorem aa4:Vs DF where
 dup:=λl d hl h=>by
  cases d<;>simp only[RT]at h;rename_i rows tok f;rw[wO h.1];refine⟨.sl (Go.Tv.rowsOf l) none ⟨false,none⟩,?_,rfl,by simp only[RT];exact⟨Eo _,trivial⟩⟩;have e:oU 43 [.sl (Go.Tv.rowsOf l) tok f]=some (.sl (Go.Tv.rowsOf l) none ⟨false,none⟩):=by simp only[oU,aaD,Dk,if_pos hl];rfl
  simp[DF,more,e]
end Go.Tv
section
namespace Go.Tv
open Go Go.Di Go.Proofs
abbrev Lr:List TT:=[.sl aF,aF,.sl bn,bC]
theorem MK(n:Nat)(M9:cp)(h:TVs Lr M9):vc (KA DF (n+21)) 4 M9 (λv=>v=kR true):=by
 match M9,h with
 |[_,_,_,_],⟨⟨l,rfl⟩,⟨⟨u,lo,w,q,_⟩,rfl⟩,⟨s,rfl⟩,⟨NC,rfl⟩,_⟩=>
  have ok:=ajT Jd aa6 aa5 aa4;exact(((mg Jd ok an Tryz.func4 rfl sW (T':=H4) (cU ok 2)).2 n).I 4 [.sl aF l .no,pcV u lo w q,.sl bn s .no,.sl bY NC .no] [] (.res (kR true) [] []) rfl trivial).mono λv hv=>hv.1
end Go.Tv
namespace Go.Proofs.YtedcgbkilmlbhaaGreat
open Go Go.Di Go.Tv Go.Conc Go.Co Go.Proofs
open Go.ChangeShapes Go.WideShapes Go.ChangeAt Go.RowKit
theorem HF:xW Tryz.prog aF (.inl 25):=by have h3:Tryz.prog.underlying 3=some (.int .i64)/\Tryz.prog.cellsOf 3=1:=⟨by kernel_rfl,by kernel_rfl⟩;have h22:xW Tryz.prog bC (.inl 23):=⟨by kernel_rfl,3,by kernel_rfl,by kernel_rfl,h3⟩;exact⟨_,_,_,Tryz.underlying25,rfl,rfl,by kernel_rfl,by kernel_rfl,h22,_,_,rfl,rfl,by kernel_rfl,h22,_,_,rfl,rfl,by kernel_rfl,h3,_,_,rfl,rfl,by kernel_rfl,h22,rfl⟩
theorem YT:xW Tryz.prog bn (.inl 81):=by have h3:Tryz.prog.underlying 3=some (.int .i64)/\Tryz.prog.cellsOf 3=1:=⟨by kernel_rfl,by kernel_rfl⟩;exact⟨_,_,_,Tryz.underlying81,rfl,rfl,by kernel_rfl,by kernel_rfl,h3,_,_,rfl,rfl,by kernel_rfl,h3,_,_,rfl,rfl,by kernel_rfl,h3,rfl⟩
theorem BP(os:Os)(started:os.Started)(H:Type)(enc:TypeId×Value->H):
  ReturnsInLeavingWide {} Tryz.checked os 4 .any (Rows.cutStacksSpec.pre6 enc Tryz.prog Tryz.f4 Rows.cutStacksRow.domain false) (Rows.cutStacksSpec.post enc Tryz.prog Tryz.f4 false true false false):=
 ai3 (λ_=>abc) Jd Tryz.func4 (ts:=[22,25,47,23]) (Ts:=Lr) (by kernel_rfl) ⟨⟨by kernel_rfl,25,by kernel_rfl,by kernel_rfl,HF⟩,HF,⟨by kernel_rfl,81,by kernel_rfl,by kernel_rfl,YT⟩,⟨by kernel_rfl,3,by kernel_rfl,by kernel_rfl,by kernel_rfl,by kernel_rfl⟩,trivial⟩ (by decide+kernel) (by kernel_rfl) rfl
  (λ_ ds h=>by match ds,h with|[_,_,_,_],_=>rfl) an (by kernel_rfl) (n:=20) (MK 0) started
  (ChangeSpec.witness6 (enc:=enc) (C:=Tryz.checked) false ⟨#[],#[.slice none 0 0,.agg #[.slice none 0 0,.slice none 0 0,.int .i64 0,.slice none 0 0],.slice none 0 0,.slice none 0 0],[]⟩ 9 (by kernel_rfl) (by kernel_rfl) (by kernel_rfl) (by kernel_rfl))
theorem cutStacks_holds:Rows.CutStacksSaid:=
 OpenClaim.holds_of_wide_leaving 4 Tryz.f4 rfl rfl rfl rfl rfl rfl rfl ⟨rfl,rfl,rfl,rfl,rfl⟩ rfl rfl rfl rfl rfl (by kernel_rfl) Tryz.func4 (by kernel_rfl)
  (of_decide_eq_true (by kernel_rfl)) (by unfold Func.isWrapper;first|(rw[if_pos (by decide+kernel)];kernel_rfl)|(rw[if_neg (by decide+kernel)];exact⟨rfl,rfl⟩))
  (λos started H enc _=>BP os started H enc)
#print axioms cutStacks_holds
end Go.Proofs.YtedcgbkilmlbhaaGreat
end
