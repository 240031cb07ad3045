/- CutStrings: the law returns true, whatever the pieces, the text and the numbers (the card's variables as the program lays them). By an AI agent. -/
import Derived.Test.YtadeehilamokkaaGreatDoorPk36
import Derived.Test.YtadeehilamokkaaGreatDoorPk06
import Derived.Test.YtadeehilamokkaaGreatDoorRows
import Derived.Conc.LeavingOf
import Derived.ProofKit
import Derived.LaidLaws
import Derived.LaidHandle
import Derived.Lib.LaidIn
import Derived.Lay
import Derived.Stop.Joined
import Derived.Shelf.Vars
import Derived.Test.YtadeehilamokkaaGreatDoorTie
import Derived.Test.YtadeehilamokkaaGreatDoorCards
import Derived.SevenTiedAt
set_option maxRecDepth 100000
namespace Go.Tv
open Go Go.Di Go.Conc Go.Co Go.Proofs
open Go.ChangeShapes Go.WideShapes Go.ChangeAt Go.RowKit
def q9(W:World):Cx:={w:=W,μ:=λ_=>0,κ:=λ_=>0,Fz:=λb o=>∃v,W.cell? ⟨b,o,none⟩=some v,S:=[]}
section
variable (P:Program)
def yo:TT->TypeId⊕(List Field×Nat)->Prop
 |.int k,.inl t=>P.underlying t=some (.int k)/\P.cellsOf t=1
 |.bool,.inl t=>P.underlying t=some .bool/\P.cellsOf t=1
 |.str,.inl t=>P.underlying t=some .string/\P.cellsOf t=1
 |.sl a,.inl t=>P.cellsOf t=1/\∃e,P.underlying t=some (.slice e)/\P.cellsOf e=a.size/\yo a (.inl e)
 |.pair a b,.inl t=>∃fs f r,P.underlying t=some (.struct fs)/\fs.toList=f::r/\f.offset=0/\P.cellsOf t=a.size+b.size/\P.cellsOf f.type=a.size/\yo a (.inl f.type)/\yo b (.inr (r,a.size))
 |.unit,.inr x=>x.1=[]
 |.pair a b,.inr x=>∃f r,x.1=f::r/\f.offset=x.2/\P.cellsOf f.type=a.size/\yo a (.inl f.type)/\yo b (.inr (r,x.2+a.size))
 |_,_=>False
end
section
variable {H:Type} {enc:TypeId×Value->H} {P:Program} {W:World} {base:Nat} {spare:Nat->Bool} {held:Bool}
def CV(W:World)(ds:cn)(cs:List Value):Prop:=ds.length=cs.length/\∀j c,ds[j]? =some c->RV (q9 W) c (cs.getD j undef)
def o9(a:TT)(ds:cn):DV:=if a.agg then .agg ds else ds.headD bD
theorem N2{a:TT}{x:a.den}{ds:cn}(ha:a.agg=false)(h:CR a x ds):∃d,ds=[d]/\d.cells=[d]/\∀l,d≠.agg l:=by
 cases a with
 |int k=>simp only[CR]at h;subst h;exact⟨_,rfl,rfl,λl h=>ar⟩
 |bool=>simp only[CR]at h;subst h;exact⟨_,rfl,rfl,λl h=>ar⟩
 |str=>simp only[CR]at h;subst h;exact⟨_,rfl,rfl,λl h=>ar⟩
 |sl t=>simp only[CR]at h;obtain⟨rows,f,rfl,-⟩:=h;exact⟨_,rfl,rfl,λl h=>ar⟩
 |unit=>cases ha
 |pair a b=>cases ha
theorem Ee{a:TT}{x:a.den}{ds:cn}(h:CR a x ds):(o9 a ds).cells=ds/\wQ a.agg (o9 a ds):=by
 unfold o9 wQ;cases ha:a.agg with
 |true=>exact⟨rfl,ds,rfl⟩
 |false=>obtain⟨d,rfl,h1,h2⟩:=N2 ha h;exact⟨h1,h2⟩
theorem QS{α:Type}{Q:Nat->α->Prop}:∀n,(∀i,i<n->∃a,Q i a)->∃l:List α,l.length=n/\∀i a,l[i]? =some a->Q i a
 |0,_=>⟨[],rfl,λi a h=>by simp at h⟩
 |n+1,h=>by
  obtain⟨l,h1,h2⟩:=QS n λi hi=>h i ab;obtain⟨a,ha⟩:=h n ab;refine⟨l++[a],by simp[h1],λi b hb=>?_⟩;by_cases hi:i<l.length
  grind
  grind
theorem Qm{a:TT}:∀(l:List (a.den×cn)),(∀p∈l,CR a p.1 p.2)->ei (CR a) a.agg (l.map (·.1)) (l.map λp=>o9 a p.2)
 |[],_=>by simp only[dR,ei]
 |p::l,h=>by simp only[aZ,ei];have h1:=Ee (h p ae);exact⟨⟨by rw[h1.1];exact h p ae,h1.2⟩,Qm l λq hq=>h q (by simp[hq])⟩
theorem LN:∀(T:TT){t:TypeId},yo P T (.inl t)->0<T.size
 |.int _,_,_=>Nat.one_pos
 |.bool,_,_=>Nat.one_pos
 |.str,_,_=>Nat.one_pos
 |.sl _,_,_=>Nat.one_pos
 |.pair a _,_,h=>by obtain⟨_,_,_,-,-,-,-,-,h,-⟩:=h;exact Nat.add_pos_left (LN a h) _
 |.unit,_,h=>h.elim
theorem Sz{ad:Addr}{n:Nat}{cs:List Value}(h:W.cells? base (ad.add 0) n=some cs)(hn:0<n):ad.spot=none:=by
 have h1:=(World.cells?_some h).2.2 0 hn;have h2:(ad.add 0).add 0=ad:=rfl;rw[h2]at h1;have hl:=(World.cells?_some h).2.1;rw[aT (by omega:0<cs.length)]at h1;cases hs:ad.spot with
 |none=>rfl
 |some x=>
  rw[World.cell?]at h1;split at h1
  grind
  cases h1
theorem L8{ad:Addr}(h:ad.spot=none)(i:Nat):ad.add i=⟨ad.block,ad.off+i,none⟩:=by
 obtain⟨b,o,s⟩:=ad;simp only at h;subst h;unfold Addr.add;split
 grind
 rfl
theorem C2(AB:∀b,spare b=true):∀(T:TT),
  (∀fuel t (cs:List Value) y,yo P T (.inl t)->DataW.trod enc P W base spare held fuel t cs=some y->∃(x:T.den)(ds:cn),CR T x ds/\cs.length=T.size/\CV W ds cs)/\
  (∀n (fs:List Field)(off:Nat)(cs:List Value),yo P T (.inr (fs,off))->(∀f∈fs,∃y,DataW.trod enc P W base spare held n f.type ((cs.drop f.offset).take (P.cellsOf f.type))=some y)->off+T.size=cs.length->∃(x:T.den)(ds:cn),CR T x ds/\CV W ds (cs.drop off))
 |.int k=>by
  refine⟨λfuel t cs y ht h=>?_,λn fs off cs ht=>ht.elim⟩;obtain⟨n,rfl,-,-⟩:=DataW.trod_int ht.1 h;refine⟨n,[.val (.int k n)],rfl,rfl,rfl,λj c hj=>?_⟩;cases j with
  |zero=>cases hj;exact .val rfl
  |succ j=>simp at hj
 |.bool=>by
  refine⟨λfuel t cs y ht h=>?_,λn fs off cs ht=>ht.elim⟩;obtain⟨n,rfl,-⟩:=DataW.trod_bool ht.1 h;refine⟨n,[.val (.bool n)],rfl,rfl,rfl,λj c hj=>?_⟩;cases j with
  |zero=>cases hj;exact .val rfl
  |succ j=>simp at hj
 |.str=>by
  refine⟨λfuel t cs y ht h=>?_,λn fs off cs ht=>ht.elim⟩;obtain⟨n,rfl,-,-⟩:=DataW.trod_string ht.1 h;refine⟨n,[.val (.string n)],rfl,rfl,rfl,λj c hj=>?_⟩;cases j with
  |zero=>cases hj;exact .val rfl
  |succ j=>simp at hj
 |.unit=>by refine⟨λfuel t cs y ht=>ht.elim,λn fs off cs ht _ hl=>⟨(),[],rfl,?_,λj c hj=>by simp at hj⟩⟩;simp only[TT.size]at hl;simp;omega
 |.pair a b=>by
  have key:∀n (f:Field) r (off:Nat)(cs:List Value),P.cellsOf f.type=a.size->yo P a (.inl f.type)->yo P b (.inr (r,off+a.size))->f.offset=off->(∀g∈f::r,∃y,DataW.trod enc P W base spare held n g.type ((cs.drop g.offset).take (P.cellsOf g.type))=some y)->
    off+(a.size+b.size)=cs.length->∃(x:(TT.pair a b).den)(ds:cn),CR (.pair a b) x ds/\CV W ds (cs.drop off):=by
   intro n f r off cs h1 h2 h3 h4 h5 h7;obtain⟨y,hy⟩:=h5 f ae;obtain⟨x1,d1,k1,k2,k3⟩:=(C2 AB a).1 n f.type _ y h2 hy;obtain⟨x2,d2,m1,m2⟩:=(C2 AB b).2 n r (off+a.size) cs h3 (λg hg=>h5 g (by simp[hg])) ab;rw[h4,h1]at k3;refine⟨(x1,x2),d1++d2,⟨d1,d2,rfl,k1,m1⟩,?_,λj c hj=>?_⟩;have:=k3.1;have:=m2.1;simp only[cL,List.length_take,List.length_drop]at*;omega;have e1:=oa k1;by_cases hj1:j<d1.length;rw[eD hj1]at hj;have:=k3.2 j c hj;rw[aK,qB,if_pos ab]at this
   rwa [aK]
   rw[fT ab]at hj;have:=m2.2 _ c hj;rw[aK,y6]at this⊢
   rwa [show off+j=off+a.size+(j-d1.length)by omega]
  refine⟨λfuel t cs y ht h=>?_,λn fs off cs ht h5 hl=>?_⟩;obtain⟨fs,f,r,t1,t2,t3,t4,t5,t6,t7⟩:=ht;obtain⟨xs,n,-,-,hc,hx,hf⟩:=DataW.trod_struct t1 h;obtain⟨x,ds,q1,q2⟩:=key n f r 0 cs t5 t6 (by rw[eO];exact t7) t3 (λg hg=>by
   obtain⟨i,hi⟩:=List.getElem?_of_mem hg;rw[<-t2,jL]at hi;have:=hf i g hi;have hlt:i<xs.length:=by rw[hx];exact(aG.1 hi).1
   exact⟨xs[i],by rw[this];simp[hlt]⟩) ab
  exact⟨x,ds,q1,by simp only[TT.size];omega,by simpa using q2⟩;obtain⟨f,r,t1,t2,t3,t4,t5⟩:=ht;simp only at t1 t2 t5;subst t1;exact key n f r off cs t3 t4 t5 t2 h5 (by simpa [TT.size]using hl)
 |.sl a=>by
  refine⟨λfuel t cs y ht h=>?_,λn fs off cs ht=>ht.elim⟩;obtain⟨t1,e,t2,t3,t4⟩:=ht;have hsz:=LN a t4;rcases DataW.trod_slice t2 h with ⟨rfl,-⟩|⟨ad,len,cap,elems,rest,n,-,rfl,-,hb,hlc,hcm,hel,aR,aja,-⟩;refine⟨[],[.sl [] none ⟨false,none⟩],⟨[],_,rfl,by simp only[ei]⟩,rfl,rfl,λj c hj=>?_⟩;cases j with
  |zero=>cases hj;exact .sl (s:=0) (vs:=λ_=>undef) ⟨λr hr=>by simp at hr,λj c hj=>by simp[flat]at hj⟩ (λj c hj=>by simp[flat]at hj) (ai 0) ⟨λh=>(nomatch h),λb h=>(nomatch h)⟩ (λ_=>rfl) (λad h _=>(nomatch h)) (λt h=>(nomatch h))
  |succ j=>simp at hj
  have BB:0<cap->ad.spot=none:=λhc=>by
   obtain⟨Ad,J3⟩:=aja (AB _);have key:∃iB,W.cells? base (ad.add 0) a.size=some iB:=by by_cases hl:0<len;have:=aR 0 hl;rw[show elems[0]? =some elems[0]from aT ab,kN,t3,Nat.zero_mul]at this;obtain⟨iB,h1,-⟩:=this;exact⟨iB,h1⟩;have:=J3 0 ab;rw[show rest[0]? =some rest[0]from aT ab,kN,t3,show(len+0)*a.size=0 by rw[show len+0=0 by omega,Nat.zero_mul]]at this;obtain⟨iB,h1,-⟩:=this;exact⟨iB,h1⟩
   obtain⟨iB,h1⟩:=key;exact Sz h1 hsz
  obtain⟨l,hl,hQ⟩:=QS (Q:=λi (p:a.den×cn)=>CR a p.1 p.2/\∃iB,W.cells? base (ad.add (i*a.size)) a.size=some iB/\CV W p.2 iB) len (λi hi=>by have:=aR i hi;rw[show elems[i]? =some elems[i]from aT ab,kN,t3]at this;obtain⟨iB,h1,h2⟩:=this;obtain⟨x,ds,q1,q2,q3⟩:=(C2 AB a).1 n e iB _ t4 h2;exact⟨(x,ds),q1,iB,h1,q3⟩);have hCR:∀p∈l,CR a p.1 p.2:=λp hp=>by obtain⟨i,hi⟩:=List.getElem?_of_mem hp;exact(hQ i p hi).1
  refine⟨l.map (·.1),[.sl (l.map λp=>o9 a p.2) none ⟨false,none⟩],⟨_,_,rfl,Qm l hCR⟩,rfl,rfl,λj c hj=>?_⟩;cases j with
  |succ j=>simp at hj
  |zero=>
  cases hj;have ZP:(l.map λp=>o9 a p.2).length=len:=by rw[List.length_map,hl]
  have pU:∀r∈l.map λp=>o9 a p.2,r.cells.length=a.size:=λr hr=>by obtain⟨p,hp,rfl⟩:=fQ.1 hr;rw[(Ee (hCR p hp)).1];exact oa (hCR p hp)
  have each:∀j c,(flat (l.map λp=>o9 a p.2))[j]? =some c->c.bU=true/\∃v,W.cell? ⟨ad.block,ad.off+j,none⟩=some v/\RV (q9 W) c v:=by
   intro j c hj;have hlt:=(aI.1 hj).1;rw[Go.Di.gT pU,ZP]at hlt;have hs0:=hsz;have BB:=BB (cK (Nat.pos_of_ne_zero λe=>by rw[e]at hlt;simp at hlt) hlc);have hi:j/a.size<len:=(Nat.div_lt_iff_lt_mul hs0).2 hlt;have hm:j % a.size<a.size:=Nat.mod_lt _ hs0;have hp:l[j/a.size]? =some l[j/a.size]:=aT ab;have hr:(l.map λp=>o9 a p.2)[j/a.size]? =some (o9 a (l[j/a.size]' ab).2):=by simp[cH,hp]
   have hf:=uF pU hr hm;rw[Nat.div_add_mod' j a.size]at hf;rw[hf,(Ee (hCR _ (iS ab))).1]at hj;obtain⟨q1,iB,q2,q3⟩:=hQ _ _ hp;have hc:=World.cells?_some q2;have hv:=q3.2 _ c hj;obtain⟨v',hk⟩:∃v',iB[j % a.size]? =some v':=⟨_,aT (by rw[hc.2.1];exact hm)⟩;have h3:=hc.2.2 (j % a.size) hm;rw[hk,L8 BB,L8 rfl]at h3;have ac4:=sB q1;rw[aU]at ac4;rw[aK,hk]at hv;refine⟨ac4 c (bY hj),v',?_,hv⟩;rw[<-h3];congr 2;have:=Nat.div_add_mod' j a.size;simp only;omega
  rw[List.getD_cons_zero,<-ZP];refine .sl (s:=a.size) (vs:=λj=>(W.cell? ⟨ad.block,ad.off+j,none⟩).getD undef) ⟨pU,λj c hj=>?_⟩ (λj c hj=>?_) (by rw[ZP];exact hlc) ⟨λh=>(nomatch h),λb h=>(nomatch h)⟩ (λh=>(nomatch h)) (λad' h hc=>by cases h;exact BB hc) (λt h=>(nomatch h));obtain⟨h1,v,h2,h3⟩:=each j c hj;refine⟨h1,ad.block,ad.off,?_,⟨v,h2⟩,?_⟩;obtain⟨b,o,s⟩:=ad;have hlt:=(aI.1 hj).1;rw[Go.Di.gT pU,ZP]at hlt;have BB:=BB (cK (Nat.pos_of_ne_zero λe=>by rw[e]at hlt;simp at hlt) hlc);simp only at BB;subst BB;rfl;show W.cell? _=_;simp only[h2,sE]
  grind
def Z7(T:TT)(x:T.den):TV:=if T.agg then .agg (T.cells x)else(T.cells x).headD .unk
theorem agT{ι:kW}{S:aj}{T:TT}{x:T.den}{ds:cn}(h:CR T x ds):RT ι S (Z7 T x) (o9 T ds):=by
 have h1:=pO (ι:=ι) (S:=S) h;unfold Z7 o9;cases ha:T.agg with
 |true=>simp only[if_true,RT];exact h1
 |false=>
  obtain⟨d,rfl,-,-⟩:=N2 ha h;cases hc:T.cells x with
  |nil=>rw[hc]at h1;simp only[cq]at h1
  |cons a l=>rw[hc]at h1;obtain⟨d',m',e,h2,h3⟩:=ax h1;cases e;exact h2
theorem afR{r:Reach}{T:TT}{t:TypeId}{v:Value}{d:DataW H}{p:List MemPlace}(AB:∀b,spare b=true)(hT:yo P T (.inl t))(jU:Value.okWide P W r base t v)(h:DataW.Trod enc P W 0 spare held t v d p):
  ∃x ds,CR T x ds/\RV (q9 W) (o9 T ds) v:=by
 obtain⟨fuel,hf⟩:=h;obtain⟨x,ds,h1,h2,h3⟩:=(C2 AB T).1 fuel t _ _ hT hf;refine⟨x,ds,h1,?_⟩;unfold o9;cases ha:T.agg with
 |true=>
  have:∃cs,v=.agg cs:=by
   cases T with
   |pair a b=>obtain⟨fs,f,r,t1,-⟩:=hT;simp only[Value.okWide,t1]at jU;obtain⟨cs,hv,-⟩:=jU;exact⟨cs,hv⟩
   |unit=>exact hT.elim
   |_=>cases ha
  obtain⟨cs,rfl⟩:=this;simp only[Value.cells]at h3;refine .agg (by rw[h3.1];simp) λj c hj=>?_;have:=h3.2 j c hj
  rwa [aK,jL,<-aW]at this
 |false=>
  obtain⟨d,rfl,-,-⟩:=N2 ha h1;have:v.cells.toList=[v]:=by
   cases v with
   |agg cs=>
    exfalso;have:∀(s:TypeDesc),P.underlying t=some s->(∀fs,s≠.struct fs)->(∀n e,s≠.array n e)->False:=by
     intro s hs HW hs2;unfold Value.okWide at jU;rw[hs]at jU;split at jU
     grind
     grind
     unfold Cell.okWide at jU;split at jU<;>simp_all [Cell.ok]
    cases T with
    |int k=>exact this _ hT.1 (λ_ h=>ar) (λ_ _ h=>ar)
    |bool=>exact this _ hT.1 (λ_ h=>ar) (λ_ _ h=>ar)
    |str=>exact this _ hT.1 (λ_ h=>ar) (λ_ _ h=>ar)
    |sl a=>obtain⟨-,e,h,-⟩:=hT;exact this _ h (λ_ h=>ar) (λ_ _ h=>ar)
    |_=>cases ha
   |_=>rfl
  have h4:=h3.2 0 d rfl;rw[this]at h4;exact h4
end
end Go.Tv
namespace Go.Tv
open Go Go.Di Go.Conc Go.Co Go.Proofs
open Go.ChangeShapes Go.WideShapes Go.ChangeAt Go.RowKit
open Go.Proofs.YtadeehilamokkaaGreatDoor
abbrev Dx:List (String×DataW Unit):=Rows.cutStringsRow.laid
theorem Tryz.own:ownKnob Tryz.prog.godebug=none:=by kernel_rfl
theorem Tryz.et:Tryz.prog.globalNamed "errors.errorType"=some 0:=by kernel_rfl
theorem Tryz.rt:(Tryz.prog.cutTypes.find? (·.1=="internal/reflectlite.rtype")).map (·.2)=some 196:=by kernel_rfl
theorem Tryz.afe:((List.range 280).filter λt=>Tryz.prog.rowNamed t [101,114,114,111,114])=[91]:=by kernel_rfl
theorem Tryz.abd:Tryz.prog.types.size=280:=by kernel_rfl
theorem Tryz.afx:typeHandle Tryz.prog 91=.pointer (some ⟨4,91,none⟩):=by kernel_rfl
theorem T4{W:World}(h:laidMetH Tryz.prog Dx W):W.cell? ⟨0,0,none⟩=some Vq:=by have h':laidMet Tryz.prog (Dx.filter λx=>x.2.handleName?.isNone) W/\handlesMet Tryz.prog [("errors.errorType",Rows.laid_errors_errorType)] W:=h;obtain⟨name,u,ty,e1,e2,e3,e4,e5⟩:=h'.2 _ (bX.2 rfl);have en:name=[101,114,114,111,114]:=(bG e1).symm;subst en;obtain rfl:=bG (Tryz.rt.symm.trans e2);have hm:ty∈(List.range 280).filter λt=>Tryz.prog.rowNamed t [101,114,114,111,114]:=List.mem_filter.2 ⟨Dc.2 (by rw[<-Tryz.abd];exact e3),e4⟩;rw[Tryz.afe]at hm;obtain rfl:=bX.1 hm;rw[Tryz.afx]at e5;have h1:=World.var?_cell Tryz.et e5 0;exact h1
theorem TM{W:World}(h:W.ShapedOpen Tryz.prog):∃m,W.cell? ⟨1,0,none⟩=some (.int .i64 m):=
 cell_of_shapedOpen_int (zero:=#[.int .i64 0]) (t:=3) h (of_decide_eq_true (by kernel_rfl)) (by kernel_rfl) rfl (by kernel_rfl) (by kernel_rfl) (by kernel_rfl)
noncomputable def oQ (os:Os):World:=
 let w0:=World.holding Tryz.prog os ⟨#[],#[],[]⟩
 let put (h:Array Obj) (g:Nat) (cs:Array Value):Array Obj:=h.modify g λ
  |.cells _ t frozen=>.cells cs t frozen
  |o=>o
 let yd:DataW Unit->Array Value:=λ
  |.agg l=>(l.map λ
   |.lit (.int k n)=>Value.int k n
   |_=>undef).toArray
  |_=>#[]
 let ahb:DataW Unit->Array Value:=λ
  |.agg l=>(l.flatMap λd=>(yd d).toList).toArray
  |_=>#[]
 let h1:=put w0.heap 0 #[Vq]
 let h2:=put h1 2 (yd Rows.laid_unicode_utf8_first)
 let h3:=put h2 3 (ahb Rows.laid_unicode_utf8_acceptRanges)
 {w0 with heap:=h3}
theorem F2(os:Os)(args:Array Value):laidMetH Tryz.prog Dx ((oQ os).forCall (λ_ _=>0) ⟨#[],args,[]⟩).memory:=
 laidMetH_of_parts (LaidIn.of_run (l:=Dx.filter λx=>x.2.handleName?.isNone) [2,3] 8 (by kernel_rfl) (by kernel_rfl) (by kernel_rfl) (by kernel_rfl)).met (by kernel_rfl)
theorem Br(os:Os):((oQ os).forCall (λ_ _=>0) ⟨#[],#[.slice none 0 0,.string ⟨#[]⟩,.int .i64 0,.int .i64 0,.int .u8 0,.slice none 0 0],[]⟩).Shaped Tryz.checked.prog:=World.shaped_of_ZipB (by kernel_rfl) (by kernel_rfl)
theorem JI(os:Os):Input.okWideB Tryz.checked.prog ((oQ os).forCall (λ_ _=>0) ⟨#[],#[.slice none 0 0,.string ⟨#[]⟩,.int .i64 0,.int .i64 0,.int .u8 0,.slice none 0 0],[]⟩) 3 ⟨#[],#[.slice none 0 0,.string ⟨#[]⟩,.int .i64 0,.int .i64 0,.int .u8 0,.slice none 0 0],[]⟩=true:=by kernel_rfl
theorem F1(os:Os){H:Type}(enc:TypeId×Value->H):Rows.cutStringsSpec.preB enc Tryz.checked.prog Tryz.f3 [] false ((oQ os).forCall (λ_ _=>0) ⟨#[],#[.slice none 0 0,.string ⟨#[]⟩,.int .i64 0,.int .i64 0,.int .u8 0,.slice none 0 0],[]⟩).memory #[.slice none 0 0,.string ⟨#[]⟩,.int .i64 0,.int .i64 0,.int .u8 0,.slice none 0 0] 8=true:=by kernel_rfl
theorem CF(os:Os){H:Type}(enc:TypeId×Value->H):Rows.cutStringsSpec.sizedB enc Tryz.checked.prog Tryz.f3 false ((oQ os).forCall (λ_ _=>0) ⟨#[],#[.slice none 0 0,.string ⟨#[]⟩,.int .i64 0,.int .i64 0,.int .u8 0,.slice none 0 0],[]⟩).memory #[.slice none 0 0,.string ⟨#[]⟩,.int .i64 0,.int .i64 0,.int .u8 0,.slice none 0 0] 8=true:=by kernel_rfl
theorem SM{W:World}(h0:W.cell? ⟨0,0,none⟩=some Vq)(h1:∃m,W.cell? ⟨1,0,none⟩=some (.int .i64 m)):Rel (q9 W) where
 cells:=λid l hl=>by simp[q9]at hl
 cU:=λid e s n hl=>by simp[q9]at hl
 dA:=λid b hl=>by simp[q9]at hl
 inj:=λi j hi=>absurd hi (gB i)
 xg:=λb j h=>h
 sep:=λid ⟨l,hl⟩=>by simp[q9]at hl
 nB:=λid e s n hl=>by simp[q9]at hl
 ops:=λid e s l z hl=>by simp[q9]at hl
 glob:=⟨⟨⟨_,h0⟩,h0⟩,⟨h1.elim λm hm=>⟨_,hm⟩,h1⟩⟩
theorem Mg{W w':World}(h:ue W w')(may:MemPlace->Prop):W.keptBut w' may:=by refine⟨h.os,h.output,λi hi=>?_⟩;rw[h.block i hi];split<;>simp_all
theorem Oe{W w':World}(h:ue W w'){p:MemPlace}(hp:p.block<W.heap.size):W.sameAt w' p:=by
 cases p with
 |cell b o=>exact World.cell?_of_block (w:=W) (h.block b hp)
 |map b=>exact h.block b hp
def TVs:List TT->cp->Prop
 |[],[]=>True
 |T::Ts,v::vs=>(∃x,v=Z7 T x)/\TVs Ts vs
 |_,_=>False
def Wi(P:Program):List TT->List TypeId->Prop
 |[],[]=>True
 |T::Ts,t::ts=>yo P T (.inl t)/\Wi P Ts ts
 |_,_=>False
section
variable {H:Type} {enc:TypeId×Value->H} {P:Program} {W W':World} {base:Nat} {spare:Nat->Bool} {held:Bool}
theorem Rj{r:Reach}:∀{Ts:List TT}{ts:List TypeId}{vs:List Value}{ds:List (DataW H)}{p:List MemPlace},(∀b,spare b=true)->Wi P Ts ts->(∀(j:Nat) t v,ts[j]? =some t->vs[j]? =some v->Value.okWide P W r base t v)->
  DataW.TrodAll enc P W 0 spare held ts vs ds p->ds.length=ts.length/\∃Rs Zu,TVs Ts Rs/\cq gI [] Rs Zu/\Zu.length=vs.length/\∀j c,Zu[j]? =some c->RV (q9 W) c (vs.getD j undef)
 |[],[],[],[],_,_,_,_,_=>⟨rfl,[],[],trivial,bJ,rfl,λj c h=>by simp at h⟩
 |T::Ts,t::ts,v::vs,d::ds,p,hsp,hT,jU,h=>by
  obtain⟨p1,q1,h1,h2,-⟩:=h;obtain⟨x,dv,k1,k2⟩:=afR hsp hT.1 (jU 0 t v rfl rfl) h1;obtain⟨e,Rs,Zu,m1,m2,m3,m4⟩:=Rj hsp hT.2 (λj t v h1 h2=>jU (j+1) t v (by simpa using h1) (by simpa using h2)) h2;refine⟨by simp[e],Z7 T x::Rs,o9 T dv::Zu,⟨⟨x,rfl⟩,m1⟩,aP (agT k1) m2,by simp[m3],λj c hj=>?_⟩;cases j with
  |zero=>cases hj;exact k2
  |succ j=>exact m4 j c (by simpa using hj)
 |[],_::_,_,_,_,_,hT,_,_=>hT.elim
 |_::_,[],_,_,_,_,hT,_,_=>hT.elim
 |_::_,_::_,[],_,_,_,_,_,h=>by simp[DataW.TrodAll]at h
 |_::_,_::_,_::_,[],_,_,_,_,h=>by simp[DataW.TrodAll]at h
 |[],[],_::_,_,_,_,_,_,h=>by simp[DataW.TrodAll]at h
 |[],[],[],_::_,_,_,_,_,h=>by simp[DataW.TrodAll]at h
theorem HN(hl:laidOutB P=true)(hst:ue W W'):∀{ts:List TypeId}{vs:List Value}{ds:List (DataW H)}{p:List MemPlace},(∀t∈ts,P.readableRec t=true/\t<P.types.size)->(∀x∈p,x.block<W.heap.size)->
  DataW.TrodAll enc P W 0 (λ_=>true) true ts vs ds p->DataW.TrodAll enc P W' 0 (λb=>decide (b<W.heap.size)) true ts vs ds p
 |[],[],[],_,_,_,h=>h
 |t::ts,v::vs,d::ds,p,hr,hp,h=>by obtain⟨p1,q1,h1,h2,rfl⟩:=h;exact⟨p1,q1,WideElems.Trod_stays hl (hr t ae).1 (hr t ae).2 h1 (λx hx=>Oe hst (hp x (by simp[hx]))) λx hx=>by simpa using hp x (by simp[hx]),HN hl hst (λt h=>hr t (by simp[h])) (λx hx=>hp x (by simp[hx])) h2,rfl⟩
 |[],_::_,_,_,_,_,h=>by simp[DataW.TrodAll]at h
 |[],[],_::_,_,_,_,h=>by simp[DataW.TrodAll]at h
 |_::_,[],_,_,_,_,h=>by simp[DataW.TrodAll]at h
 |_::_,_::_,[],_,_,_,h=>by simp[DataW.TrodAll]at h
end
theorem SQ{f:FuncId}{n:Nat}(hf:f≠64/\f≠124/\f≠7/\f≠10/\f≠14)(hi:Tryz.prog.inits.idxOf? f=none){Rs:cp}(hs:ug (Ka H9 (n+1)) f Rs (λv=>v=tQ true))
  {W:World} (h0:W.cell? ⟨0,0,none⟩=some Vq) (h1:∃m,W.cell? ⟨1,0,none⟩=some (.int .i64 m)) {Zu:cn} {vals:Array Value} (hr:cq gI [] Rs Zu) (hv:gb (q9 W) Zu vals):
  ∃N last o w' t',runNT Tryz.prog (N+1) (solo (G (Frame.enter Tryz.prog f vals .normal) []) W) #[]=(.ended o w',t')/\runN Tryz.prog N (solo (G (Frame.enter Tryz.prog f vals .normal) []) W)=.next last/\
   step Tryz.prog last=.ended o w'/\Conc.Good Tryz.prog (λv w=>v=.bool true/\ue W w) last o w' t':=by
 obtain⟨d,v,k1,k2,k3,k4,rfl⟩:=hs Zu hr;have hd:d=.val (.bool true):=by cases d<;>simp[RT]at k3;rw[k3]
 subst hd;refine OZ ?_ ?_;exact⟨mH _ _ _ _,λf hf=>(nomatch hf),λh=>h.elim,λd h=>(nomatch h)⟩;exact Xr (x:=q9 W) jP He acE (λ_=>aa8) (P5.other f _ hf.1 hf.2.1 hf.2.2.1 hf.2.2.2.1 hf.2.2.2.2) hi k1 (SM h0 h1) rfl hv
theorem Tryz.aeI:Tryz.prog.underlying 4=some .bool:=by kernel_rfl
theorem Tryz.laidOut:laidOutB Tryz.prog=true:=by kernel_rfl
theorem adI:Tryz.f3.params.toList=[22,9,3,3,5,23]:=by kernel_rfl
theorem aiT:Tryz.f3.resultTypes.toList=[4]:=by kernel_rfl
abbrev WB:List TT:=[.sl cE,.str,kP,kP,.int .u8,fH]
theorem T3:yo Tryz.prog cE (.inl 42):=by have h3:Tryz.prog.underlying 3=some (.int .i64)/\Tryz.prog.cellsOf 3=1:=⟨by kernel_rfl,by kernel_rfl⟩;have h23:yo Tryz.prog fH (.inl 23):=⟨by kernel_rfl,3,by kernel_rfl,by kernel_rfl,h3⟩;exact⟨_,_,_,Tryz.underlying42,rfl,rfl,by kernel_rfl,by kernel_rfl,h23,_,_,rfl,rfl,by kernel_rfl,h23,_,_,rfl,rfl,by kernel_rfl,h3,_,_,rfl,rfl,by kernel_rfl,h23,rfl⟩
theorem YT:Wi Tryz.prog WB [22,9,3,3,5,23]:=by have h3:Tryz.prog.underlying 3=some (.int .i64)/\Tryz.prog.cellsOf 3=1:=⟨by kernel_rfl,by kernel_rfl⟩;exact⟨⟨by kernel_rfl,42,by kernel_rfl,by kernel_rfl,T3⟩,⟨by kernel_rfl,by kernel_rfl⟩,h3,h3,⟨by kernel_rfl,by kernel_rfl⟩,⟨by kernel_rfl,3,by kernel_rfl,by kernel_rfl,h3⟩,trivial⟩
theorem SP(Rs:cp)(h:TVs WB Rs):ug (Ka H9 (0+7+1)) 3 Rs (λv=>v=tQ true):=by
 match Rs,h with
 |[_,_,_,_,_,_],⟨⟨l,rfl⟩,⟨text,rfl⟩,⟨a,rfl⟩,⟨b,rfl⟩,⟨c,rfl⟩,⟨yd,rfl⟩,_⟩=>exact YM P5 aa3 0 l text a b c yd
theorem OV(os:Os)(started:os.Started)(H:Type)(enc:TypeId×Value->H):
  ReturnsInLeavingWide {} Tryz.checked os 3 .any (λw args=>(Rows.cutStringsSpec.pre enc Tryz.prog Tryz.f3 [] false w args/\laidMetH Tryz.prog Dx w)/\sizedMet enc Tryz.prog Tryz.f3 (OpenSpec.ofChange Rows.cutStringsSpec) false w args)
   (Rows.cutStringsSpec.post enc Tryz.prog Tryz.f3 false true false false):=by
 refine returnsInLeavingWide_of_good (C:=Tryz.checked) Tryz.own started
  (ChangeSpec.witness_shaped (enc:=enc) (C:=Tryz.checked) (os:=os) (X:=λw _=>laidMetH Tryz.prog Dx w) false (oQ os) #[.slice none 0 0,.string ⟨#[]⟩,.int .i64 0,.int .i64 0,.int .u8 0,.slice none 0 0] 8 rfl (Br os) (JI os) (F1 os enc) (CF os enc) (F2 os _)) ?_
 intro w tape i _ hsh _ jU wj _;obtain⟨_,_,_,tF,ajr,_,_,_,_,ai2⟩:=jU;obtain⟨⟨⟨ds,gs,before,hw,_⟩,hL⟩,_⟩:=wj;have hW:DataW.Whole enc Tryz.prog Tryz.f3.params.toList Rows.cutStringsSpec.vars false (w.forCall tape i) i.args.toList ds gs before:=DataW.Whole.of_heap (w':=w.forCall tape i) (by rfl) hw;have RB:laidMetH Tryz.prog Dx (w.forCall tape i):=laidMetH.of_heap (w:=(w.forCall tape i).memory) rfl hL;obtain rfl:Tryz.f3=tF:=bG (Tryz.func3.symm.trans ajr);have hW':=hW;obtain⟨p,q,hA0,hV,rfl,_,_⟩:=hW;have hA:DataW.TrodAll enc Tryz.prog (w.forCall tape i) 0 (λ_=>true) true Tryz.f3.params.toList i.args.toList ds p:=hA0;rw[adI]at hA;obtain⟨rfl,rfl⟩:=trodVars_none hV;simp only[iR]at hW';have hlt:∀x∈p,x.block<(w.forCall tape i).heap.size:=λx hx=>by simpa using hW'.lt x hx
 have ahk:∀(j:Nat) t v,([22,9,3,3,5,23]:List TypeId)[j]? =some t->i.args.toList[j]? =some v->Value.okWide Tryz.prog (w.forCall tape i) .any w.heap.size t v:=λj t v h1 h2=>ai2 j t v (by rw[<-adI]at h1;simpa using h1) (by simpa using h2);obtain⟨hdl,Rs,Zu,h1,h2,h3,h4⟩:=Rj (λ_=>rfl) YT ahk hA;obtain⟨M,last,o,w',t',k1,k2,k3,k4⟩:=SQ (vals:=i.args) ao (by kernel_rfl) (SP Rs h1) (T4 RB) (TM hsh) h2 ⟨by rw[h3];simp,λj c hj=>by
  have:=h4 j c hj
  rwa [aK,jL,<-aW]at this⟩
 refine⟨M,last,o,w',t',k1,k2,k3,k4.mono λv hF=>ChangeSpec.post_blind ?_⟩;obtain⟨rfl,hst⟩:=hF;have es:Rows.cutStringsSpec.fn H (ds++[])={results:=[.lit (.bool true)],args:=ds}:=by
  rw[iR]
  match ds,hdl with
  |[_,_,_,_,_,_],_=>rfl
 refine⟨_,_,_,[],p,[],hW',?_,?_,by rw[es];rfl,Mg hst _,λh=>ar⟩;rw[es,aiT];exact trodAll_mk1 (shut_bool Tryz.aeI _)
 rw[es,adI];exact HN Tryz.laidOut hst (by intro t ht;simp only[aV,ek,or_false]at ht;rcases ht with rfl|rfl|rfl|rfl|rfl|rfl;exact⟨by kernel_rfl,of_decide_eq_true (by kernel_rfl)⟩;exact⟨by kernel_rfl,of_decide_eq_true (by kernel_rfl)⟩;exact⟨by kernel_rfl,of_decide_eq_true (by kernel_rfl)⟩;exact⟨by kernel_rfl,of_decide_eq_true (by kernel_rfl)⟩;exact⟨by kernel_rfl,of_decide_eq_true (by kernel_rfl)⟩;exact⟨by kernel_rfl,of_decide_eq_true (by kernel_rfl)⟩) hlt hA
theorem read_holds:Rows.CutStringsSaid:=
 OpenClaim.holds_of_wide_leaving 3 Tryz.f3 rfl rfl rfl rfl rfl rfl rfl ⟨rfl,rfl,rfl,rfl,rfl⟩ rfl rfl rfl rfl rfl (by kernel_rfl) Tryz.func3 (by kernel_rfl)
  (of_decide_eq_true (by kernel_rfl)) (by unfold Func.isWrapper;rw[if_neg (of_decide_eq_false (by kernel_rfl))];exact⟨rfl,rfl⟩)
  (λos started H enc _=>OV os started H enc)
#print axioms read_holds
end Go.Tv
section
namespace Go.Tv
open Go Go.Proofs Go.Proofs.YtadeehilamokkaaGreatDoor
theorem CG{p:Pinned}{s:OpenSpec}{c:OpenClaim}(kinds:List LaidKind)(Vx:Bool)(har:Bool×String)(lk:Bool)
  (hc:c.holds p s) (hw:c.wfByText s=true) (ai4:c.laidByTextAt .later p kinds Vx)
  (hst:c.start=.entering) (hnb:c.noBlocks=false/\c.again=false) (hm:p.checked.prog.mainIs=some (har.1,har.2.toList)) (hn:(!har.1&&har.2.isEmpty&&!lk)=false)
  (hl:∀f fn,p.checked.prog.funcNamed c.func=some f->p.checked.prog.funcs[f]? =some fn->lk=p.checked.prog.looks []/\∀(j:Nat) t,fn.params[j]? =some t->p.checked.prog.wantsStandIn t=false)
  (hg:true=c.goesBy p.checked.prog):
  Claim7.holds p (.plain s) {stood:={row:=c,standIns:=[],harness:=har,looks:=lk},kinds:=[],alts:=[],goes:=true,laidByText:=true,laidKinds:=kinds,laidTests:=Vx,laidLooks:=.later}:=by
 have h6:∀r:OpenClaim,Claim7.isSixth {stood:={row:=r,standIns:=[],harness:=har,looks:=lk},kinds:=[]}=false:=λr=>by simpa [Claim7.isSixth]using hn
 exact⟨Claim7.tied_new_at .later kinds Vx (Claim7.new_of_sixth hc har lk hst hnb hm (h6 c) hl) hw,(λD hD=>by cases hD),ai4,(λh=>ar),hg⟩
theorem Y5:Rows.CutStringsCardSaid:=
 CG [.data,.handle,.pinned] true (true,"35b1f8f6d9a3bda12da3589a3b7cc03f41d047318345d815f1efe68ea677edf1") true
  read_holds (by kernel_rfl) cutStrings_row_tie rfl ⟨rfl,rfl⟩ (by kernel_rfl) rfl
  (λf fn hf UT=>by
   obtain rfl:f=3:=bG ((show Tryz.prog.funcNamed "maculature/maculaturelaw01.CutStrings"=some 3 by kernel_rfl).symm.trans hf)|>.symm;obtain rfl:fn=Tryz.f3:=(bG (Tryz.func3.symm.trans UT)).symm;exact⟨by kernel_rfl,λj t ht=>by
    have hp:Tryz.f3.params=#[22,9,3,3,5,23]:=by kernel_rfl
    rw[hp]at ht
    match j,ht with
    |0,ht=>obtain rfl:22=t:=bG ht;show Tryz.prog.wantsStandIn 22=false;kernel_rfl
    |1,ht=>obtain rfl:9=t:=bG ht;show Tryz.prog.wantsStandIn 9=false;kernel_rfl
    |2,ht=>obtain rfl:3=t:=bG ht;show Tryz.prog.wantsStandIn 3=false;kernel_rfl
    |3,ht=>obtain rfl:3=t:=bG ht;show Tryz.prog.wantsStandIn 3=false;kernel_rfl
    |4,ht=>obtain rfl:5=t:=bG ht;show Tryz.prog.wantsStandIn 5=false;kernel_rfl
    |5,ht=>obtain rfl:23=t:=bG ht;show Tryz.prog.wantsStandIn 23=false;kernel_rfl⟩)
  (by kernel_rfl)
end Go.Tv
namespace Go.Proofs.YtadeehilamokkaaGreatDoor
theorem cutStrings_holds:Rows.CutStringsCardSaid:=Go.Tv.Y5
#print axioms cutStrings_holds
end Go.Proofs.YtadeehilamokkaaGreatDoor
end
