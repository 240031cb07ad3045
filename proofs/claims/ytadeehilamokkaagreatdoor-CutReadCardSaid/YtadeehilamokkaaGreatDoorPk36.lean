/- agX: the law returns true, whatever the numbers and the text (the ail aej as the program lays them). By an AI agent. -/
import Derived.Test.YtadeehilamokkaaGreatDoorPk35
import Derived.Test.YtadeehilamokkaaGreatDoorPk06
import Derived.Test.YtadeehilamokkaaGreatDoorRows
import Derived.Conc.LeavingOf
import Derived.ProofKit
import Derived.LaidLaws
import Derived.LaidHandle
import Derived.Lib.LaidIn
import Derived.Lay
import Derived.Stop.Joined
import Derived.Shelf.Vars
import Derived.Test.YtadeehilamokkaaGreatDoorTie
import Derived.Test.YtadeehilamokkaaGreatDoorCards
import Derived.SevenTiedAt
set_option maxRecDepth 100000
namespace Go.Tv
open Go Go.Di Go.Conc Go.Co Go.Proofs
open Go.ChangeShapes Go.WideShapes Go.ChangeAt Go.RowKit
def qD(W:World):Cx:={w:=W,μ:=λ_=>0,κ:=λ_=>0,Fz:=λb o=>∃v,W.cell? ⟨b,o,none⟩=some v,S:=[]}
section
variable (P:Program)
def B3:TT->TypeId⊕(List Field×Nat)->Prop
 |.int k,.inl t=>P.underlying t=some (.int k)/\P.cellsOf t=1
 |.bool,.inl t=>P.underlying t=some .bool/\P.cellsOf t=1
 |.str,.inl t=>P.underlying t=some .string/\P.cellsOf t=1
 |.sl a,.inl t=>P.cellsOf t=1/\∃e,P.underlying t=some (.slice e)/\P.cellsOf e=a.size/\B3 a (.inl e)
 |.pair a b,.inl t=>∃fs f r,P.underlying t=some (.struct fs)/\fs.toList=f::r/\f.offset=0/\P.cellsOf t=a.size+b.size/\P.cellsOf f.type=a.size/\B3 a (.inl f.type)/\B3 b (.inr (r,a.size))
 |.unit,.inr x=>x.1=[]
 |.pair a b,.inr x=>∃f r,x.1=f::r/\f.offset=x.2/\P.cellsOf f.type=a.size/\B3 a (.inl f.type)/\B3 b (.inr (r,x.2+a.size))
 |_,_=>False
end
section
variable {H:Type} {enc:TypeId×Value->H} {P:Program} {W:World} {base:Nat} {spare:Nat->Bool} {held:Bool}
def CV(W:World)(ds:cj)(cs:List Value):Prop:=ds.length=cs.length/\∀j c,ds[j]? =some c->RV (qD W) c (cs.getD j undef)
def oE(a:TT)(ds:cj):DV:=if a.agg then .agg ds else ds.headD bD
theorem M5{a:TT}{x:a.den}{ds:cj}(ha:a.agg=false)(h:CR a x ds):∃d,ds=[d]/\d.cells=[d]/\∀l,d≠.agg l:=by
 cases a with
 |int k=>simp only[CR]at h;subst h;exact⟨_,rfl,rfl,λl h=>ao⟩
 |bool=>simp only[CR]at h;subst h;exact⟨_,rfl,rfl,λl h=>ao⟩
 |str=>simp only[CR]at h;subst h;exact⟨_,rfl,rfl,λl h=>ao⟩
 |sl t=>simp only[CR]at h;obtain⟨rows,f,rfl,-⟩:=h;exact⟨_,rfl,rfl,λl h=>ao⟩
 |unit=>cases ha
 |pair a b=>cases ha
theorem DD{a:TT}{x:a.den}{ds:cj}(h:CR a x ds):(oE a ds).cells=ds/\vR a.agg (oE a ds):=by
 unfold oE vR;cases ha:a.agg with
 |true=>exact⟨rfl,ds,rfl⟩
 |false=>obtain⟨d,rfl,h1,h2⟩:=M5 ha h;exact⟨h1,h2⟩
theorem PI{α:Type}{Q:Nat->α->Prop}:∀n,(∀i,i<n->∃a,Q i a)->∃l:List α,l.length=n/\∀i a,l[i]? =some a->Q i a
 |0,_=>⟨[],rfl,λi a h=>by simp at h⟩
 |n+1,h=>by
  obtain⟨l,h1,h2⟩:=PI n λi hi=>h i U;obtain⟨a,ha⟩:=h n U;refine⟨l++[a],by simp[h1],λi b hb=>?_⟩;by_cases hi:i<l.length
  grind
  grind
theorem O8{a:TT}:∀(l:List (a.den×cj)),(∀p∈l,CR a p.1 p.2)->dZ (CR a) a.agg (l.map (·.1)) (l.map λp=>oE a p.2)
 |[],_=>by simp only[eY,dZ]
 |p::l,h=>by simp only[bg,dZ];have h1:=DD (h p ab);exact⟨⟨by rw[h1.1];exact h p ab,h1.2⟩,O8 l λq hq=>h q (by simp[hq])⟩
theorem K0:∀(T:TT){t:TypeId},B3 P T (.inl t)->0<T.size
 |.int _,_,_=>Nat.one_pos
 |.bool,_,_=>Nat.one_pos
 |.str,_,_=>Nat.one_pos
 |.sl _,_,_=>Nat.one_pos
 |.pair a _,_,h=>by obtain⟨_,_,_,-,-,-,-,-,h,-⟩:=h;exact Nat.add_pos_left (K0 a h) _
 |.unit,_,h=>h.elim
theorem Q6{ad:Addr}{n:Nat}{cs:List Value}(h:W.cells? base (ad.add 0) n=some cs)(hn:0<n):ad.spot=none:=by
 have h1:=(World.cells?_some h).2.2 0 hn;have h2:(ad.add 0).add 0=ad:=rfl;rw[h2]at h1;have hl:=(World.cells?_some h).2.1;rw[bn (by omega:0<cs.length)]at h1;cases hs:ad.spot with
 |none=>rfl
 |some x=>
  rw[World.cell?]at h1;split at h1
  grind
  cases h1
theorem Le{ad:Addr}(h:ad.spot=none)(i:Nat):ad.add i=⟨ad.block,ad.off+i,none⟩:=by
 obtain⟨b,o,s⟩:=ad;simp only at h;subst h;unfold Addr.add;split
 grind
 rfl
theorem Cw(zU:∀b,spare b=true):∀(T:TT),
  (∀fuel t (cs:List Value) y,B3 P T (.inl t)->DataW.trod enc P W base spare held fuel t cs=some y->∃(x:T.den)(ds:cj),CR T x ds/\cs.length=T.size/\CV W ds cs)/\
  (∀n (fs:List Field)(off:Nat)(cs:List Value),B3 P T (.inr (fs,off))->(∀f∈fs,∃y,DataW.trod enc P W base spare held n f.type ((cs.drop f.offset).take (P.cellsOf f.type))=some y)->off+T.size=cs.length->∃(x:T.den)(ds:cj),CR T x ds/\CV W ds (cs.drop off))
 |.int k=>by
  refine⟨λfuel t cs y ht h=>?_,λn fs off cs ht=>ht.elim⟩;obtain⟨n,rfl,-,-⟩:=DataW.trod_int ht.1 h;refine⟨n,[.val (.int k n)],rfl,rfl,rfl,λj c hj=>?_⟩;cases j with
  |zero=>cases hj;exact .val rfl
  |succ j=>simp at hj
 |.bool=>by
  refine⟨λfuel t cs y ht h=>?_,λn fs off cs ht=>ht.elim⟩;obtain⟨n,rfl,-⟩:=DataW.trod_bool ht.1 h;refine⟨n,[.val (.bool n)],rfl,rfl,rfl,λj c hj=>?_⟩;cases j with
  |zero=>cases hj;exact .val rfl
  |succ j=>simp at hj
 |.str=>by
  refine⟨λfuel t cs y ht h=>?_,λn fs off cs ht=>ht.elim⟩;obtain⟨n,rfl,-,-⟩:=DataW.trod_string ht.1 h;refine⟨n,[.val (.string n)],rfl,rfl,rfl,λj c hj=>?_⟩;cases j with
  |zero=>cases hj;exact .val rfl
  |succ j=>simp at hj
 |.unit=>by refine⟨λfuel t cs y ht=>ht.elim,λn fs off cs ht _ hl=>⟨(),[],rfl,?_,λj c hj=>by simp at hj⟩⟩;simp only[TT.size]at hl;simp;omega
 |.pair a b=>by
  have key:∀n (f:Field) r (off:Nat)(cs:List Value),P.cellsOf f.type=a.size->B3 P a (.inl f.type)->B3 P b (.inr (r,off+a.size))->f.offset=off->(∀g∈f::r,∃y,DataW.trod enc P W base spare held n g.type ((cs.drop g.offset).take (P.cellsOf g.type))=some y)->
    off+(a.size+b.size)=cs.length->∃(x:(TT.pair a b).den)(ds:cj),CR (.pair a b) x ds/\CV W ds (cs.drop off):=by
   intro n f r off cs h1 h2 h3 h4 h5 h7;obtain⟨y,hy⟩:=h5 f ab;obtain⟨x1,d1,k1,k2,k3⟩:=(Cw zU a).1 n f.type _ y h2 hy;obtain⟨x2,d2,m1,m2⟩:=(Cw zU b).2 n r (off+a.size) cs h3 (λg hg=>h5 g (by simp[hg])) U;rw[h4,h1]at k3;refine⟨(x1,x2),d1++d2,⟨d1,d2,rfl,k1,m1⟩,?_,λj c hj=>?_⟩;have:=k3.1;have:=m2.1;simp only[dM,List.length_take,List.length_drop]at*;omega;have e1:=nB k1;by_cases hj1:j<d1.length;rw[eC hj1]at hj;have:=k3.2 j c hj;rw[aP,pX,if_pos U]at this
   rwa [aP]
   rw[fP U]at hj;have:=m2.2 _ c hj;rw[aP,yu]at this⊢
   rwa [show off+j=off+a.size+(j-d1.length)by omega]
  refine⟨λfuel t cs y ht h=>?_,λn fs off cs ht h5 hl=>?_⟩;obtain⟨fs,f,r,t1,t2,t3,t4,t5,t6,t7⟩:=ht;obtain⟨xs,n,-,-,hc,hx,hf⟩:=DataW.trod_struct t1 h;obtain⟨x,ds,q1,q2⟩:=key n f r 0 cs t5 t6 (by rw[eN];exact t7) t3 (λg hg=>by
   obtain⟨i,hi⟩:=List.getElem?_of_mem hg;rw[<-t2,jx]at hi;have:=hf i g hi;have hlt:i<xs.length:=by rw[hx];exact(aG.1 hi).1
   exact⟨xs[i],by rw[this];simp[hlt]⟩) U
  exact⟨x,ds,q1,by simp only[TT.size];omega,by simpa using q2⟩;obtain⟨f,r,t1,t2,t3,t4,t5⟩:=ht;simp only at t1 t2 t5;subst t1;exact key n f r off cs t3 t4 t5 t2 h5 (by simpa [TT.size]using hl)
 |.sl a=>by
  refine⟨λfuel t cs y ht h=>?_,λn fs off cs ht=>ht.elim⟩;obtain⟨t1,e,t2,t3,t4⟩:=ht;have hsz:=K0 a t4;rcases DataW.trod_slice t2 h with ⟨rfl,-⟩|⟨ad,len,cap,elems,rest,n,-,rfl,-,hb,hlc,hcm,hel,aS,aho,-⟩;refine⟨[],[.sl [] none ⟨false,none⟩],⟨[],_,rfl,by simp only[dZ]⟩,rfl,rfl,λj c hj=>?_⟩;cases j with
  |zero=>cases hj;exact .sl (s:=0) (vs:=λ_=>undef) ⟨λr hr=>by simp at hr,λj c hj=>by simp[flat]at hj⟩ (λj c hj=>by simp[flat]at hj) (ai 0) ⟨λh=>(nomatch h),λb h=>(nomatch h)⟩ (λ_=>rfl) (λad h _=>(nomatch h)) (λt h=>(nomatch h))
  |succ j=>simp at hj
  have A9:0<cap->ad.spot=none:=λhc=>by
   obtain⟨zn,Jm⟩:=aho (zU _);have key:∃iq,W.cells? base (ad.add 0) a.size=some iq:=by by_cases hl:0<len;have:=aS 0 hl;rw[show elems[0]? =some elems[0]from bn U,lq,t3,Nat.zero_mul]at this;obtain⟨iq,h1,-⟩:=this;exact⟨iq,h1⟩;have:=Jm 0 U;rw[show rest[0]? =some rest[0]from bn U,lq,t3,show(len+0)*a.size=0 by rw[show len+0=0 by omega,Nat.zero_mul]]at this;obtain⟨iq,h1,-⟩:=this;exact⟨iq,h1⟩
   obtain⟨iq,h1⟩:=key;exact Q6 h1 hsz
  obtain⟨l,hl,hQ⟩:=PI (Q:=λi (p:a.den×cj)=>CR a p.1 p.2/\∃iq,W.cells? base (ad.add (i*a.size)) a.size=some iq/\CV W p.2 iq) len (λi hi=>by have:=aS i hi;rw[show elems[i]? =some elems[i]from bn U,lq,t3]at this;obtain⟨iq,h1,h2⟩:=this;obtain⟨x,ds,q1,q2,q3⟩:=(Cw zU a).1 n e iq _ t4 h2;exact⟨(x,ds),q1,iq,h1,q3⟩);have hCR:∀p∈l,CR a p.1 p.2:=λp hp=>by obtain⟨i,hi⟩:=List.getElem?_of_mem hp;exact(hQ i p hi).1
  refine⟨l.map (·.1),[.sl (l.map λp=>oE a p.2) none ⟨false,none⟩],⟨_,_,rfl,O8 l hCR⟩,rfl,rfl,λj c hj=>?_⟩;cases j with
  |succ j=>simp at hj
  |zero=>
  cases hj;have Yw:(l.map λp=>oE a p.2).length=len:=by rw[List.length_map,hl]
  have o6:∀r∈l.map λp=>oE a p.2,r.cells.length=a.size:=λr hr=>by obtain⟨p,hp,rfl⟩:=eO.1 hr;rw[(DD (hCR p hp)).1];exact nB (hCR p hp)
  have each:∀j c,(flat (l.map λp=>oE a p.2))[j]? =some c->c.bS=true/\∃v,W.cell? ⟨ad.block,ad.off+j,none⟩=some v/\RV (qD W) c v:=by
   intro j c hj;have hlt:=(aI.1 hj).1;rw[Go.Di.gK o6,Yw]at hlt;have hs0:=hsz;have A9:=A9 (cG (Nat.pos_of_ne_zero λe=>by rw[e]at hlt;simp at hlt) hlc);have hi:j/a.size<len:=(Nat.div_lt_iff_lt_mul hs0).2 hlt;have hm:j % a.size<a.size:=Nat.mod_lt _ hs0;have hp:l[j/a.size]? =some l[j/a.size]:=bn U;have hr:(l.map λp=>oE a p.2)[j/a.size]? =some (oE a (l[j/a.size]' U).2):=by simp[cI,hp]
   have hf:=tY o6 hr hm;rw[Nat.div_add_mod' j a.size]at hf;rw[hf,(DD (hCR _ (lp U))).1]at hj;obtain⟨q1,iq,q2,q3⟩:=hQ _ _ hp;have hc:=World.cells?_some q2;have hv:=q3.2 _ c hj;obtain⟨v',hk⟩:∃v',iq[j % a.size]? =some v':=⟨_,bn (by rw[hc.2.1];exact hm)⟩;have h3:=hc.2.2 (j % a.size) hm;rw[hk,Le A9,Le rfl]at h3;have abw:=rJ q1;rw[aR]at abw;rw[aP,hk]at hv;refine⟨abw c (bV hj),v',?_,hv⟩;rw[<-h3];congr 2;have:=Nat.div_add_mod' j a.size;simp only;omega
  rw[List.getD_cons_zero,<-Yw];refine .sl (s:=a.size) (vs:=λj=>(W.cell? ⟨ad.block,ad.off+j,none⟩).getD undef) ⟨o6,λj c hj=>?_⟩ (λj c hj=>?_) (by rw[Yw];exact hlc) ⟨λh=>(nomatch h),λb h=>(nomatch h)⟩ (λh=>(nomatch h)) (λad' h hc=>by cases h;exact A9 hc) (λt h=>(nomatch h));obtain⟨h1,v,h2,h3⟩:=each j c hj;refine⟨h1,ad.block,ad.off,?_,⟨v,h2⟩,?_⟩;obtain⟨b,o,s⟩:=ad;have hlt:=(aI.1 hj).1;rw[Go.Di.gK o6,Yw]at hlt;have A9:=A9 (cG (Nat.pos_of_ne_zero λe=>by rw[e]at hlt;simp at hlt) hlc);simp only at A9;subst A9;rfl;show W.cell? _=_;simp only[h2,rO]
  grind
def YP(T:TT)(x:T.den):TV:=if T.agg then .agg (T.cells x)else(T.cells x).headD .unk
theorem afb{ι:kB}{S:aj}{T:TT}{x:T.den}{ds:cj}(h:CR T x ds):RT ι S (YP T x) (oE T ds):=by
 have h1:=oT (ι:=ι) (S:=S) h;unfold YP oE;cases ha:T.agg with
 |true=>simp only[if_true,RT];exact h1
 |false=>
  obtain⟨d,rfl,-,-⟩:=M5 ha h;cases hc:T.cells x with
  |nil=>rw[hc]at h1;simp only[cz]at h1
  |cons a l=>rw[hc]at h1;obtain⟨d',m',e,h2,h3⟩:=ax h1;cases e;exact h2
theorem aef{r:Reach}{T:TT}{t:TypeId}{v:Value}{d:DataW H}{p:List MemPlace}(zU:∀b,spare b=true)(hT:B3 P T (.inl t))(jU:Value.okWide P W r base t v)(h:DataW.Trod enc P W 0 spare held t v d p):
  ∃x ds,CR T x ds/\RV (qD W) (oE T ds) v:=by
 obtain⟨fuel,hf⟩:=h;obtain⟨x,ds,h1,h2,h3⟩:=(Cw zU T).1 fuel t _ _ hT hf;refine⟨x,ds,h1,?_⟩;unfold oE;cases ha:T.agg with
 |true=>
  have:∃cs,v=.agg cs:=by
   cases T with
   |pair a b=>obtain⟨fs,f,r,t1,-⟩:=hT;simp only[Value.okWide,t1]at jU;obtain⟨cs,hv,-⟩:=jU;exact⟨cs,hv⟩
   |unit=>exact hT.elim
   |_=>cases ha
  obtain⟨cs,rfl⟩:=this;simp only[Value.cells]at h3;refine .agg (by rw[h3.1];simp) λj c hj=>?_;have:=h3.2 j c hj
  rwa [aP,jx,<-aU]at this
 |false=>
  obtain⟨d,rfl,-,-⟩:=M5 ha h1;have:v.cells.toList=[v]:=by
   cases v with
   |agg cs=>
    exfalso;have:∀(s:TypeDesc),P.underlying t=some s->(∀fs,s≠.struct fs)->(∀n e,s≠.array n e)->False:=by
     intro s hs He hs2;unfold Value.okWide at jU;rw[hs]at jU;split at jU
     grind
     grind
     unfold Cell.okWide at jU;split at jU<;>simp_all [Cell.ok]
    cases T with
    |int k=>exact this _ hT.1 (λ_ h=>ao) (λ_ _ h=>ao)
    |bool=>exact this _ hT.1 (λ_ h=>ao) (λ_ _ h=>ao)
    |str=>exact this _ hT.1 (λ_ h=>ao) (λ_ _ h=>ao)
    |sl a=>obtain⟨-,e,h,-⟩:=hT;exact this _ h (λ_ h=>ao) (λ_ _ h=>ao)
    |_=>cases ha
   |_=>rfl
  have h4:=h3.2 0 d rfl;rw[this]at h4;exact h4
end
end Go.Tv
namespace Go.Tv
open Go Go.Di Go.Conc Go.Co Go.Proofs
open Go.ChangeShapes Go.WideShapes Go.ChangeAt Go.RowKit
open Go.Proofs.YtadeehilamokkaaGreatDoor
abbrev C2:List (String×DataW Unit):=Rows.cutReadRow.laid
theorem Tryz.own:ownKnob Tryz.prog.godebug=none:=by kernel_rfl
theorem Tryz.et:Tryz.prog.globalNamed "errors.errorType"=some 0:=by kernel_rfl
theorem Tryz.rt:(Tryz.prog.cutTypes.find? (·.1=="internal/reflectlite.rtype")).map (·.2)=some 196:=by kernel_rfl
theorem Tryz.adF:((List.range 280).filter λt=>Tryz.prog.rowNamed t [101,114,114,111,114])=[91]:=by kernel_rfl
theorem Tryz.ZQ:Tryz.prog.types.size=280:=by kernel_rfl
theorem Tryz.adW:typeHandle Tryz.prog 91=.pointer (some ⟨4,91,none⟩):=by kernel_rfl
theorem Sz{W:World}(h:laidMetH Tryz.prog C2 W):W.cell? ⟨0,0,none⟩=some Ug:=by have h':laidMet Tryz.prog (C2.filter λx=>x.2.handleName?.isNone) W/\handlesMet Tryz.prog [("errors.errorType",Rows.laid_errors_errorType)] W:=h;obtain⟨name,u,ty,e1,e2,e3,e4,e5⟩:=h'.2 _ (bQ.2 rfl);have en:name=[101,114,114,111,114]:=(bM e1).symm;subst en;obtain rfl:=bM (Tryz.rt.symm.trans e2);have hm:ty∈(List.range 280).filter λt=>Tryz.prog.rowNamed t [101,114,114,111,114]:=List.mem_filter.2 ⟨CI.2 (by rw[<-Tryz.ZQ];exact e3),e4⟩;rw[Tryz.adF]at hm;obtain rfl:=bQ.1 hm;rw[Tryz.adW]at e5;have h1:=World.var?_cell Tryz.et e5 0;exact h1
theorem Sg{W:World}(h:W.ShapedOpen Tryz.prog):∃m,W.cell? ⟨1,0,none⟩=some (.int .i64 m):=
 cell_of_shapedOpen_int (zero:=#[.int .i64 0]) (t:=3) h (of_decide_eq_true (by kernel_rfl)) (by kernel_rfl) rfl (by kernel_rfl) (by kernel_rfl) (by kernel_rfl)
noncomputable def ov (os:Os):World:=
 let w0:=World.holding Tryz.prog os ⟨#[],#[],[]⟩
 let put (h:Array Obj) (g:Nat) (cs:Array Value):Array Obj:=h.modify g λ
  |.cells _ t frozen=>.cells cs t frozen
  |o=>o
 let wC:DataW Unit->Array Value:=λ
  |.agg l=>(l.map λ
   |.lit (.int k n)=>Value.int k n
   |_=>undef).toArray
  |_=>#[]
 let afs:DataW Unit->Array Value:=λ
  |.agg l=>(l.flatMap λd=>(wC d).toList).toArray
  |_=>#[]
 let h1:=put w0.heap 0 #[Ug]
 let h2:=put h1 2 (wC Rows.laid_unicode_utf8_first)
 let h3:=put h2 3 (afs Rows.laid_unicode_utf8_acceptRanges)
 {w0 with heap:=h3}
theorem Fy(os:Os)(args:Array Value):laidMetH Tryz.prog C2 ((ov os).forCall (λ_ _=>0) ⟨#[],args,[]⟩).memory:=
 laidMetH_of_parts (LaidIn.of_run (l:=C2.filter λx=>x.2.handleName?.isNone) [2,3] 8 (by kernel_rfl) (by kernel_rfl) (by kernel_rfl) (by kernel_rfl)).met (by kernel_rfl)
theorem AP(os:Os):((ov os).forCall (λ_ _=>0) ⟨#[],#[.slice none 0 0,.string ⟨#[]⟩],[]⟩).Shaped Tryz.checked.prog:=World.shaped_of_ZipB (by kernel_rfl) (by kernel_rfl)
theorem I4(os:Os):Input.okWideB Tryz.checked.prog ((ov os).forCall (λ_ _=>0) ⟨#[],#[.slice none 0 0,.string ⟨#[]⟩],[]⟩) 4 ⟨#[],#[.slice none 0 0,.string ⟨#[]⟩],[]⟩=true:=by kernel_rfl
theorem Fw(os:Os){H:Type}(enc:TypeId×Value->H):Rows.cutReadSpec.preB enc Tryz.checked.prog Tryz.f4 [] false ((ov os).forCall (λ_ _=>0) ⟨#[],#[.slice none 0 0,.string ⟨#[]⟩],[]⟩).memory #[.slice none 0 0,.string ⟨#[]⟩] 8=true:=by kernel_rfl
theorem B7(os:Os){H:Type}(enc:TypeId×Value->H):Rows.cutReadSpec.sizedB enc Tryz.checked.prog Tryz.f4 false ((ov os).forCall (λ_ _=>0) ⟨#[],#[.slice none 0 0,.string ⟨#[]⟩],[]⟩).memory #[.slice none 0 0,.string ⟨#[]⟩] 8=true:=by kernel_rfl
theorem Rj{W:World}(h0:W.cell? ⟨0,0,none⟩=some Ug)(h1:∃m,W.cell? ⟨1,0,none⟩=some (.int .i64 m)):Rel (qD W) where
 cells:=λid l hl=>by simp[qD]at hl
 cQ:=λid e s n hl=>by simp[qD]at hl
 dn:=λid b hl=>by simp[qD]at hl
 inj:=λi j hi=>absurd hi (gv i)
 wo:=λb j h=>h
 sep:=λid ⟨l,hl⟩=>by simp[qD]at hl
 mQ:=λid e s n hl=>by simp[qD]at hl
 ops:=λid e s l z hl=>by simp[qD]at hl
 glob:=⟨⟨⟨_,h0⟩,h0⟩,⟨h1.elim λm hm=>⟨_,hm⟩,h1⟩⟩
theorem Ln{W w':World}(h:tC W w')(may:MemPlace->Prop):W.keptBut w' may:=by refine⟨h.os,h.output,λi hi=>?_⟩;rw[h.block i hi];split<;>simp_all
theorem Ni{W w':World}(h:tC W w'){p:MemPlace}(hp:p.block<W.heap.size):W.sameAt w' p:=by
 cases p with
 |cell b o=>exact World.cell?_of_block (w:=W) (h.block b hp)
 |map b=>exact h.block b hp
def TVs:List TT->cn->Prop
 |[],[]=>True
 |T::Ts,v::vs=>(∃x,v=YP T x)/\TVs Ts vs
 |_,_=>False
def U0(P:Program):List TT->List TypeId->Prop
 |[],[]=>True
 |T::Ts,t::ts=>B3 P T (.inl t)/\U0 P Ts ts
 |_,_=>False
section
variable {H:Type} {enc:TypeId×Value->H} {P:Program} {W W':World} {base:Nat} {spare:Nat->Bool} {held:Bool}
theorem Qb{r:Reach}:∀{Ts:List TT}{ts:List TypeId}{vs:List Value}{ds:List (DataW H)}{p:List MemPlace},(∀b,spare b=true)->U0 P Ts ts->(∀(j:Nat) t v,ts[j]? =some t->vs[j]? =some v->Value.okWide P W r base t v)->
  DataW.TrodAll enc P W 0 spare held ts vs ds p->ds.length=ts.length/\∃Qk Ya,TVs Ts Qk/\cz gC [] Qk Ya/\Ya.length=vs.length/\∀j c,Ya[j]? =some c->RV (qD W) c (vs.getD j undef)
 |[],[],[],[],_,_,_,_,_=>⟨rfl,[],[],trivial,bH,rfl,λj c h=>by simp at h⟩
 |T::Ts,t::ts,v::vs,d::ds,p,hsp,hT,jU,h=>by
  obtain⟨p1,q1,h1,h2,-⟩:=h;obtain⟨x,dv,k1,k2⟩:=aef hsp hT.1 (jU 0 t v rfl rfl) h1;obtain⟨e,Qk,Ya,m1,m2,m3,m4⟩:=Qb hsp hT.2 (λj t v h1 h2=>jU (j+1) t v (by simpa using h1) (by simpa using h2)) h2;refine⟨by simp[e],YP T x::Qk,oE T dv::Ya,⟨⟨x,rfl⟩,m1⟩,aO (afb k1) m2,by simp[m3],λj c hj=>?_⟩;cases j with
  |zero=>cases hj;exact k2
  |succ j=>exact m4 j c (by simpa using hj)
 |[],_::_,_,_,_,_,hT,_,_=>hT.elim
 |_::_,[],_,_,_,_,hT,_,_=>hT.elim
 |_::_,_::_,[],_,_,_,_,_,h=>by simp[DataW.TrodAll]at h
 |_::_,_::_,_::_,[],_,_,_,_,h=>by simp[DataW.TrodAll]at h
 |[],[],_::_,_,_,_,_,_,h=>by simp[DataW.TrodAll]at h
 |[],[],[],_::_,_,_,_,_,h=>by simp[DataW.TrodAll]at h
theorem G0(hl:laidOutB P=true)(hst:tC W W'):∀{ts:List TypeId}{vs:List Value}{ds:List (DataW H)}{p:List MemPlace},(∀t∈ts,P.readableRec t=true/\t<P.types.size)->(∀x∈p,x.block<W.heap.size)->
  DataW.TrodAll enc P W 0 (λ_=>true) true ts vs ds p->DataW.TrodAll enc P W' 0 (λb=>decide (b<W.heap.size)) true ts vs ds p
 |[],[],[],_,_,_,h=>h
 |t::ts,v::vs,d::ds,p,hr,hp,h=>by obtain⟨p1,q1,h1,h2,rfl⟩:=h;exact⟨p1,q1,WideElems.Trod_stays hl (hr t ab).1 (hr t ab).2 h1 (λx hx=>Ni hst (hp x (by simp[hx]))) λx hx=>by simpa using hp x (by simp[hx]),G0 hl hst (λt h=>hr t (by simp[h])) (λx hx=>hp x (by simp[hx])) h2,rfl⟩
 |[],_::_,_,_,_,_,h=>by simp[DataW.TrodAll]at h
 |[],[],_::_,_,_,_,h=>by simp[DataW.TrodAll]at h
 |_::_,[],_,_,_,_,h=>by simp[DataW.TrodAll]at h
 |_::_,_::_,[],_,_,_,h=>by simp[DataW.TrodAll]at h
end
theorem Rp{f:FuncId}{n:Nat}(hf:f≠64/\f≠124/\f≠7/\f≠10/\f≠14)(hi:Tryz.prog.inits.idxOf? f=none){Qk:cn}(hs:tE (Js Hq (n+1)) f Qk (λv=>v=zG true))
  {W:World} (h0:W.cell? ⟨0,0,none⟩=some Ug) (h1:∃m,W.cell? ⟨1,0,none⟩=some (.int .i64 m)) {Ya:cj} {vals:Array Value} (hr:cz gC [] Qk Ya) (hv:fZ (qD W) Ya vals):
  ∃N last o w' t',runNT Tryz.prog (N+1) (solo (G (Frame.enter Tryz.prog f vals .normal) []) W) #[]=(.ended o w',t')/\runN Tryz.prog N (solo (G (Frame.enter Tryz.prog f vals .normal) []) W)=.next last/\
   step Tryz.prog last=.ended o w'/\Conc.Good Tryz.prog (λv w=>v=.bool true/\tC W w) last o w' t':=by
 obtain⟨d,v,k1,k2,k3,k4,rfl⟩:=hs Ya hr;have hd:d=.val (.bool true):=by cases d<;>simp[RT]at k3;rw[k3]
 subst hd;refine NX ?_ ?_;exact⟨lV _ _ _ _,λf hf=>(nomatch hf),λh=>h.elim,λd h=>(nomatch h)⟩;exact VZ (x:=qD W) jC Gz aa5 (λ_=>ZL) (OU.other f _ hf.1 hf.2.1 hf.2.2.1 hf.2.2.2.1 hf.2.2.2.2) hi k1 (Rj h0 h1) rfl hv
theorem Tryz.ada:Tryz.prog.underlying 4=some .bool:=by kernel_rfl
theorem Tryz.laidOut:laidOutB Tryz.prog=true:=by kernel_rfl
theorem ab8:Tryz.f4.params.toList=[23,9]:=by kernel_rfl
theorem ag7:Tryz.f4.resultTypes.toList=[4]:=by kernel_rfl
abbrev Vf:List TT:=[gd,.str]
theorem Xy:U0 Tryz.prog Vf [23,9]:=⟨⟨by kernel_rfl,3,by kernel_rfl,by kernel_rfl,by kernel_rfl,by kernel_rfl⟩,⟨by kernel_rfl,by kernel_rfl⟩,trivial⟩
theorem Rn(Qk:cn)(h:TVs Vf Qk):tE (Js Hq (0+7+1)) 4 Qk (λv=>v=zG true):=by
 match Qk,h with
 |[_,_],⟨⟨wC,rfl⟩,⟨text,rfl⟩,_⟩=>exact Xs OU ZG 0 wC text
theorem NT(os:Os)(started:os.Started)(H:Type)(enc:TypeId×Value->H):
  ReturnsInLeavingWide {} Tryz.checked os 4 .any (λw args=>(Rows.cutReadSpec.pre enc Tryz.prog Tryz.f4 [] false w args/\laidMetH Tryz.prog C2 w)/\sizedMet enc Tryz.prog Tryz.f4 (OpenSpec.ofChange Rows.cutReadSpec) false w args)
   (Rows.cutReadSpec.post enc Tryz.prog Tryz.f4 false true false false):=by
 refine returnsInLeavingWide_of_good (C:=Tryz.checked) Tryz.own started
  (ChangeSpec.witness_shaped (enc:=enc) (C:=Tryz.checked) (os:=os) (X:=λw _=>laidMetH Tryz.prog C2 w) false (ov os) #[.slice none 0 0,.string ⟨#[]⟩] 8 rfl (AP os) (I4 os) (Fw os enc) (B7 os enc) (Fy os _)) ?_
 intro w tape i _ hsh _ jU vz _;obtain⟨_,_,_,sW,ahF,_,_,_,_,ahg⟩:=jU;obtain⟨⟨⟨ds,gs,before,hw,_⟩,hL⟩,_⟩:=vz;have hW:DataW.Whole enc Tryz.prog Tryz.f4.params.toList Rows.cutReadSpec.vars false (w.forCall tape i) i.args.toList ds gs before:=DataW.Whole.of_heap (w':=w.forCall tape i) (by rfl) hw;have Qr:laidMetH Tryz.prog C2 (w.forCall tape i):=laidMetH.of_heap (w:=(w.forCall tape i).memory) rfl hL;obtain rfl:Tryz.f4=sW:=bM (Tryz.func4.symm.trans ahF);have hW':=hW;obtain⟨p,q,hA0,hV,rfl,_,_⟩:=hW;have hA:DataW.TrodAll enc Tryz.prog (w.forCall tape i) 0 (λ_=>true) true Tryz.f4.params.toList i.args.toList ds p:=hA0;rw[ab8]at hA;obtain⟨rfl,rfl⟩:=trodVars_none hV;simp only[iJ]at hW';have hlt:∀x∈p,x.block<(w.forCall tape i).heap.size:=λx hx=>by simpa using hW'.lt x hx
 have afB:∀(j:Nat) t v,([23,9]:List TypeId)[j]? =some t->i.args.toList[j]? =some v->Value.okWide Tryz.prog (w.forCall tape i) .any w.heap.size t v:=λj t v h1 h2=>ahg j t v (by rw[<-ab8]at h1;simpa using h1) (by simpa using h2);obtain⟨hdl,Qk,Ya,h1,h2,h3,h4⟩:=Qb (λ_=>rfl) Xy afB hA;obtain⟨M,last,o,w',t',k1,k2,k3,k4⟩:=Rp (vals:=i.args) ae (by kernel_rfl) (Rn Qk h1) (Sz Qr) (Sg hsh) h2 ⟨by rw[h3];simp,λj c hj=>by
  have:=h4 j c hj
  rwa [aP,jx,<-aU]at this⟩
 refine⟨M,last,o,w',t',k1,k2,k3,k4.mono λv hF=>ChangeSpec.post_blind ?_⟩;obtain⟨rfl,hst⟩:=hF;have es:Rows.cutReadSpec.fn H (ds++[])={results:=[.lit (.bool true)],args:=ds}:=by
  rw[iJ]
  match ds,hdl with
  |[_,_],_=>rfl
 refine⟨_,_,_,[],p,[],hW',?_,?_,by rw[es];rfl,Ln hst _,λh=>ao⟩;rw[es,ag7];exact trodAll_mk1 (shut_bool Tryz.ada _)
 rw[es,ab8];exact G0 Tryz.laidOut hst (by intro t ht;simp only[aX,ez,or_false]at ht;rcases ht with rfl|rfl;exact⟨by kernel_rfl,of_decide_eq_true (by kernel_rfl)⟩;exact⟨by kernel_rfl,of_decide_eq_true (by kernel_rfl)⟩) hlt hA
theorem read_holds:Rows.CutReadSaid:=
 OpenClaim.holds_of_wide_leaving 4 Tryz.f4 rfl rfl rfl rfl rfl rfl rfl ⟨rfl,rfl,rfl,rfl,rfl⟩ rfl rfl rfl rfl rfl (by kernel_rfl) Tryz.func4 (by kernel_rfl)
  (of_decide_eq_true (by kernel_rfl)) (by unfold Func.isWrapper;rw[if_neg (of_decide_eq_false (by kernel_rfl))];exact⟨rfl,rfl⟩)
  (λos started H enc _=>NT os started H enc)
#print axioms read_holds
end Go.Tv
section
namespace Go.Tv
open Go Go.Proofs Go.Proofs.YtadeehilamokkaaGreatDoor
theorem B8{p:Pinned}{s:OpenSpec}{c:OpenClaim}(kinds:List LaidKind)(Un:Bool)(har:Bool×String)(lk:Bool)
  (hc:c.holds p s) (hw:c.wfByText s=true) (ahi:c.laidByTextAt .later p kinds Un)
  (hst:c.start=.entering) (hnb:c.noBlocks=false/\c.again=false) (hm:p.checked.prog.mainIs=some (har.1,har.2.toList)) (hn:(!har.1&&har.2.isEmpty&&!lk)=false)
  (hl:∀f fn,p.checked.prog.funcNamed c.func=some f->p.checked.prog.funcs[f]? =some fn->lk=p.checked.prog.looks []/\∀(j:Nat) t,fn.params[j]? =some t->p.checked.prog.wantsStandIn t=false)
  (hg:true=c.goesBy p.checked.prog):
  Claim7.holds p (.plain s) {stood:={row:=c,standIns:=[],harness:=har,looks:=lk},kinds:=[],alts:=[],goes:=true,laidByText:=true,laidKinds:=kinds,laidTests:=Un,laidLooks:=.later}:=by
 have h6:∀r:OpenClaim,Claim7.isSixth {stood:={row:=r,standIns:=[],harness:=har,looks:=lk},kinds:=[]}=false:=λr=>by simpa [Claim7.isSixth]using hn
 exact⟨Claim7.tied_new_at .later kinds Un (Claim7.new_of_sixth hc har lk hst hnb hm (h6 c) hl) hw,(λD hD=>by cases hD),ahi,(λh=>ao),hg⟩
theorem XK:Rows.CutReadCardSaid:=
 B8 [.data,.handle,.pinned] true (true,"35b1f8f6d9a3bda12da3589a3b7cc03f41d047318345d815f1efe68ea677edf1") true
  read_holds (by kernel_rfl) cutRead_row_tie rfl ⟨rfl,rfl⟩ (by kernel_rfl) rfl
  (λf fn hf TH=>by
   obtain rfl:f=4:=bM ((show Tryz.prog.funcNamed "maculature/maculaturelaw01.CutRead"=some 4 by kernel_rfl).symm.trans hf)|>.symm;obtain rfl:fn=Tryz.f4:=(bM (Tryz.func4.symm.trans TH)).symm;exact⟨by kernel_rfl,λj t ht=>by
    have hp:Tryz.f4.params=#[23,9]:=by kernel_rfl
    rw[hp]at ht
    match j,ht with
    |0,ht=>obtain rfl:23=t:=bM ht;show Tryz.prog.wantsStandIn 23=false;kernel_rfl
    |1,ht=>obtain rfl:9=t:=bM ht;show Tryz.prog.wantsStandIn 9=false;kernel_rfl⟩)
  (by kernel_rfl)
end Go.Tv
namespace Go.Proofs.YtadeehilamokkaaGreatDoor
theorem cutRead_holds:Rows.CutReadCardSaid:=Go.Tv.XK
#print axioms cutRead_holds
end Go.Proofs.YtadeehilamokkaaGreatDoor
end
