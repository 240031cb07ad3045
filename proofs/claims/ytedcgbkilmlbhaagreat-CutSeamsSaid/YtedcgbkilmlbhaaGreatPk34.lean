import Derived.Test.YtedcgbkilmlbhaaGreatPk33
import Derived.Test.YtedcgbkilmlbhaaGreatPk05
import Derived.Test.YtedcgbkilmlbhaaGreatRows
import Derived.Conc.LeavingOf
import Derived.ProofKit
import Derived.Shelf.Sort.Plain
import Derived.Sort.OwnSortedInts
import Derived.Test.YtedcgbkilmlbhaaGreatPk32
import Derived.Test.YtedcgbkilmlbhaaGreatPk11
section
namespace Go.Tv
open Go Go.Di Go.Conc Go.Co Go.Proofs
theorem FL:uK j8 where
 other:=fun f a h1 h2 h3 h4=>by
  have:nv f a=none:=by
   unfold nv
   split
   ·exact absurd rfl h1
   ·exact absurd rfl h2
   ·exact absurd rfl h4
   ·rfl
  simp[j8,more,Ne.symm h3,this]
 fit:=by simp[j8,more,DV.GY,bb]
def rowsOf (Dk:List Int):List DV:=Dk.map fun n => .val (.int .i64 n)
theorem lC:∀ Dk:List Int,eN (CR bO) bO.agg Dk (rowsOf Dk)
 | []=>trivial
 | n::l=>⟨⟨rfl,fun l h=>by cases h⟩,lC l⟩
theorem tf:∀ Dk:List Int,flat (rowsOf Dk)=rowsOf Dk
 | []=>rfl
 | n::l=>by
  have:=tf l
  simp only[flat,rowsOf,bQ,fM] at this ⊢
  rw[this]
  rfl
def afR (W:World) (b o n:Nat):Cx:={ w:=W,μ:=fun _=>0,κ:=fun _=>0,Fz:=fun b' j=>b'=b∧o≤j∧j<o+n,S:=[] }
end Go.Tv
end
section
namespace Go.Tv
open Go Go.Di Go.Conc Go.Co Go.Proofs
open Go.ChangeShapes Go.WideShapes Go.ChangeAt Go.RowKit
theorem Tryz.own:ownKnob Tryz.prog.godebug=none:=by kernel_rfl
theorem Tryz.laidOut:laidOutB Tryz.prog=true:=by kernel_rfl
theorem Tryz.aaD:Tryz.prog.underlying 4=some .bool:=by kernel_rfl
theorem IV {W w':World} (h:sB W w') (may:MemPlace→Prop):W.keptBut w' may:=by
 refine⟨h.os,h.output,fun i hi => ?_⟩
 rw[h.block i hi]
 split<;>simp_all
theorem Kr {W w':World} (h:sB W w') {p:MemPlace} (hp:p.block<W.heap.size):W.sameAt w' p:=by
 cases p with
 | cell b o=>exact World.cell?_of_block (w:=W) (h.block b hp)
 | map b=>exact h.block b hp
end Go.Tv
end
section
namespace Go.Tv
open Go Go.Di Go.Conc Go.Co Go.Proofs
open Go.ChangeShapes Go.WideShapes Go.ChangeAt Go.RowKit
def pY (W:World):Cx:={ w:=W,μ:=fun _=>0,κ:=fun _=>0,Fz:=fun b o=>∃ v,W.cell? ⟨b,o,none⟩=some v,S:=[] }
theorem N9 (W:World):Rel (pY W) where
 cells:=fun id l hl=>by simp[pY] at hl
 eA:=fun id e s n hl=>by simp[pY] at hl
 eR:=fun id b hl=>by simp[pY] at hl
 inj:=fun i j hi=>absurd hi (gK i)
 x7:=fun b j h=>h
 sep:=fun id ⟨l,hl⟩=>by simp[pY] at hl
 oF:=fun id e s n hl=>by simp[pY] at hl
 ops:=fun id e s l z hl=>by simp[pY] at hl
section
variable (P:Program)
def wK:TT→TypeId ⊕ (List Field×Nat)→Prop
 | .int k,.inl t=>P.underlying t=some (.int k)∧P.cellsOf t=1
 | .bool,.inl t=>P.underlying t=some .bool∧P.cellsOf t=1
 | .str,.inl t=>P.underlying t=some .string∧P.cellsOf t=1
 | .sl a,.inl t=>P.cellsOf t=1∧∃ e,P.underlying t=some (.slice e)∧P.cellsOf e=a.size∧wK a (.inl e)
 | .pair a b,.inl t=>∃ fs f r,P.underlying t=some (.struct fs)∧fs.toList=f::r∧f.offset=0∧P.cellsOf t=a.size+b.size∧P.cellsOf f.type=a.size∧wK a (.inl f.type)∧wK b (.inr (r,a.size))
 | .unit,.inr x=>x.1=[]
 | .pair a b,.inr x=>∃ f r,x.1=f::r∧f.offset=x.2∧P.cellsOf f.type=a.size∧wK a (.inl f.type)∧wK b (.inr (r,x.2+a.size))
 | _,_=>False
end
section
variable {H:Type} {enc:TypeId×Value→H} {P:Program} {W:World} {base:Nat} {spare:Nat→Bool} {held:Bool}
def CV (W:World) (ds:List DV) (cs:List Value):Prop:=ds.length=cs.length∧∀ j c,ds[j]? = some c→RV (pY W) c (cs.getD j undef)
def nZ (a:TT) (ds:List DV):DV:=if a.agg then .agg ds else ds.headD bh
theorem Ke {a:TT} {x:a.den} {ds:List DV} (ha:a.agg=false) (h:CR a x ds):∃ d,ds=[d]∧d.cells=[d]∧∀ l,d ≠ .agg l:=by
 cases a with
 | int k=>simp only[CR] at h; subst h; exact⟨_,rfl,rfl,fun l h=>by cases h⟩
 | bool=>simp only[CR] at h; subst h; exact⟨_,rfl,rfl,fun l h=>by cases h⟩
 | str=>simp only[CR] at h; subst h; exact⟨_,rfl,rfl,fun l h=>by cases h⟩
 | sl t=>simp only[CR] at h; obtain⟨rows,f,rfl,-⟩:=h; exact⟨_,rfl,rfl,fun l h=>by cases h⟩
 | unit=>cases ha
 | pair a b=>cases ha
theorem B2 {a:TT} {x:a.den} {ds:List DV} (h:CR a x ds):(nZ a ds).cells=ds∧wU a.agg (nZ a ds):=by
 unfold nZ wU
 cases ha:a.agg with
 | true=>exact⟨rfl,ds,rfl⟩
 | false =>
  obtain⟨d,rfl,h1,h2⟩:=Ke ha h
  exact⟨h1,h2⟩
theorem MI {α:Type} {Q:Nat→α→Prop}:∀ n,(∀ i,i<n→∃ a,Q i a)→∃ l:List α,l.length=n∧∀ i a,l[i]? = some a→Q i a
 | 0,_=>⟨[],rfl,fun i a h=>by simp at h⟩
 | n+1,h=>by
  obtain⟨l,h1,h2⟩:=MI n fun i hi=>h i (by omega)
  obtain⟨a,ha⟩:=h n (by omega)
  refine⟨l++[a],by simp[h1],fun i b hb => ?_⟩
  by_cases hi:i<l.length
  ·rw[fq hi] at hb; exact h2 i b hb
  ·rw[gF (by omega)] at hb
   have:i-l.length=0:=by
    by_cases e:i-l.length=0
    ·exact e
    ·rw[fN (by simp; omega)] at hb; cases hb
   rw[this] at hb
   simp only[List.getElem?_cons_zero,aB] at hb
   subst hb
   rw[show i=n by omega]; exact ha
theorem Mk {a:TT}:∀ (l:List (a.den×List DV)),(∀ p∈l,CR a p.1 p.2)→eN (CR a) a.agg (l.map (·.1)) (l.map fun p=>nZ a p.2)
 | [],_=>by simp only[fK,eN]
 | p::l,h=>by
  simp only[bQ,eN]
  have h1:=B2 (h p (by simp))
  exact⟨⟨by rw[h1.1]; exact h p (by simp),h1.2⟩,Mk l fun q hq=>h q (by simp[hq])⟩
theorem It:∀ (T:TT) {t:TypeId},wK P T (.inl t)→0<T.size
 | .int _,_,_=>Nat.one_pos
 | .bool,_,_=>Nat.one_pos
 | .str,_,_=>Nat.one_pos
 | .sl _,_,_=>Nat.one_pos
 | .pair a _,_,h=>by
  obtain⟨_,_,_,-,-,-,-,-,h,-⟩:=h
  exact Nat.add_pos_left (It a h) _
 | .unit,_,h=>h.elim
theorem NU {ad:Addr} {n:Nat} {cs:List Value} (h:W.cells? base (ad.add 0) n=some cs) (hn:0<n):ad.spot=none:=by
 have h1:=(World.cells?_some h).2.2 0 hn
 have h2:(ad.add 0).add 0=ad:=rfl
 rw[h2] at h1
 have hl:=(World.cells?_some h).2.1
 rw[bH (by omega:0<cs.length)] at h1
 cases hs:ad.spot with
 | none=>rfl
 | some x =>
  rw[World.cell?] at h1
  split at h1
  ·rw[hs] at h1; cases h1
  ·cases h1
theorem IL {ad:Addr} (h:ad.spot=none) (i:Nat):ad.add i=⟨ad.block,ad.off+i,none⟩:=by
 obtain⟨b,o,s⟩:=ad
 simp only at h
 subst h
 unfold Addr.add
 split
 ·rename_i e; subst e; rfl
 ·rfl
theorem AL (yp:∀ b,spare b=true):∀ (T:TT),
  (∀ fuel t (cs:List Value) y,wK P T (.inl t)→DataW.trod enc P W base spare held fuel t cs=some y→∃ (x:T.den) (ds:List DV),CR T x ds∧cs.length=T.size∧CV W ds cs) ∧
  (∀ n (fs:List Field) (off:Nat) (cs:List Value),wK P T (.inr (fs,off))→(∀ f∈fs,∃ y,DataW.trod enc P W base spare held n f.type ((cs.drop f.offset).take (P.cellsOf f.type))=some y)→off+T.size=cs.length→∃ (x:T.den) (ds:List DV),CR T x ds∧CV W ds (cs.drop off))
 | .int k=>by
  refine⟨fun fuel t cs y ht h => ?_,fun n fs off cs ht=>ht.elim⟩
  obtain⟨n,rfl,-,-⟩:=DataW.trod_int ht.1 h
  refine⟨n,[.val (.int k n)],rfl,rfl,rfl,fun j c hj => ?_⟩
  cases j with
  | zero=>cases hj; exact .val rfl
  | succ j=>simp at hj
 | .bool=>by
  refine⟨fun fuel t cs y ht h => ?_,fun n fs off cs ht=>ht.elim⟩
  obtain⟨n,rfl,-⟩:=DataW.trod_bool ht.1 h
  refine⟨n,[.val (.bool n)],rfl,rfl,rfl,fun j c hj => ?_⟩
  cases j with
  | zero=>cases hj; exact .val rfl
  | succ j=>simp at hj
 | .str=>by
  refine⟨fun fuel t cs y ht h => ?_,fun n fs off cs ht=>ht.elim⟩
  obtain⟨n,rfl,-,-⟩:=DataW.trod_string ht.1 h
  refine⟨n,[.val (.string n)],rfl,rfl,rfl,fun j c hj => ?_⟩
  cases j with
  | zero=>cases hj; exact .val rfl
  | succ j=>simp at hj
 | .unit=>by
  refine⟨fun fuel t cs y ht=>ht.elim,fun n fs off cs ht _ hl=>⟨(),[],rfl,?_,fun j c hj=>by simp at hj⟩⟩
  simp only[TT.size] at hl
  simp; omega
 | .pair a b=>by
  have key:∀ n (f:Field) r (off:Nat) (cs:List Value),P.cellsOf f.type=a.size→wK P a (.inl f.type)→wK P b (.inr (r,off+a.size))→f.offset=off→(∀ g∈f::r,∃ y,DataW.trod enc P W base spare held n g.type ((cs.drop g.offset).take (P.cellsOf g.type))=some y) →
    off+(a.size+b.size)=cs.length→∃ (x:(TT.pair a b).den) (ds:List DV),CR (.pair a b) x ds∧CV W ds (cs.drop off):=by
   intro n f r off cs h1 h2 h3 h4 h5 h7
   obtain⟨y,hy⟩:=h5 f (by simp)
   obtain⟨x1,d1,k1,k2,k3⟩:=(AL yp a).1 n f.type _ y h2 hy
   obtain⟨x2,d2,m1,m2⟩:=(AL yp b).2 n r (off+a.size) cs h3 (fun g hg=>h5 g (by simp[hg])) (by omega)
   rw[h4,h1] at k3
   refine⟨(x1,x2),d1++d2,⟨d1,d2,rfl,k1,m1⟩,?_,fun j c hj => ?_⟩
   ·have:=k3.1
    have:=m2.1
    simp only[b9,iD,List.length_drop] at *
    omega
   ·have e1:=mU k1
    by_cases hj1:j<d1.length
    ·rw[fq hj1] at hj
     have:=k3.2 j c hj
     rw[aN,nI,if_pos (by omega)] at this
     rwa [aN]
    ·rw[gF (by omega)] at hj
     have:=m2.2 _ c hj
     rw[aN,qO] at this ⊢
     rwa [show off+j=off+a.size+(j-d1.length) by omega]
  refine⟨fun fuel t cs y ht h => ?_,fun n fs off cs ht h5 hl => ?_⟩
  ·obtain⟨fs,f,r,t1,t2,t3,t4,t5,t6,t7⟩:=ht
   obtain⟨xs,n,-,-,hc,hx,hf⟩:=DataW.trod_struct t1 h
   obtain⟨x,ds,q1,q2⟩:=key n f r 0 cs t5 t6 (by rw[gy]; exact t7) t3 (fun g hg=>by
    obtain⟨i,hi⟩:=List.getElem?_of_mem hg
    rw[← t2,gE] at hi
    have:=hf i g hi
    have hlt:i<xs.length:=by rw[hx]; exact(aR.1 hi).1
    exact⟨xs[i],by rw[this]; simp[hlt]⟩) (by omega)
   exact⟨x,ds,q1,by simp only[TT.size]; omega,by simpa using q2⟩
  ·obtain⟨f,r,t1,t2,t3,t4,t5⟩:=ht
   simp only at t1 t2 t5
   subst t1
   exact key n f r off cs t3 t4 t5 t2 h5 (by simpa [TT.size] using hl)
 | .sl a=>by
  refine⟨fun fuel t cs y ht h => ?_,fun n fs off cs ht=>ht.elim⟩
  obtain⟨t1,e,t2,t3,t4⟩:=ht
  have hsz:=It a t4
  rcases DataW.trod_slice t2 h with ⟨rfl,-⟩ | ⟨ad,len,cap,elems,rest,n,-,rfl,-,hb,hlc,hcm,hel,bn,aeD,-⟩
  ·refine⟨[],[.sl [] none ⟨false,none⟩],⟨[],_,rfl,by simp only[eN]⟩,rfl,rfl,fun j c hj => ?_⟩
   cases j with
   | zero =>
    cases hj
    exact .sl (s:=0) (vs:=fun _=>undef) ⟨fun r hr=>by simp at hr,fun j c hj=>by simp[flat] at hj⟩ (fun j c hj=>by simp[flat] at hj) (ak 0) ⟨fun h=>(nomatch h),fun b h=>(nomatch h)⟩ (fun _=>rfl) (fun ad h _=>(nomatch h)) (fun t h=>(nomatch h))
   | succ j=>simp at hj
  ·have zn:0<cap→ad.spot=none:=fun hc=>by
    obtain⟨xX,Pb⟩:=aeD (yp _)
    have key:∃ jH,W.cells? base (ad.add 0) a.size=some jH:=by
     by_cases hl:0<len
     ·have:=bn 0 hl
      rw[show elems[0]? = some elems[0] from bH (by omega),lq,t3,Nat.zero_mul] at this
      obtain⟨jH,h1,-⟩:=this
      exact⟨jH,h1⟩
     ·have:=Pb 0 (by omega)
      rw[show rest[0]? = some rest[0] from bH (by omega),lq,t3,show (len+0)*a.size=0 by rw[show len+0=0 by omega,Nat.zero_mul]] at this
      obtain⟨jH,h1,-⟩:=this
      exact⟨jH,h1⟩
    obtain⟨jH,h1⟩:=key
    exact NU h1 hsz
   obtain⟨l,hl,hQ⟩:=MI (Q:=fun i (p:a.den×List DV)=>CR a p.1 p.2∧∃ jH,W.cells? base (ad.add (i*a.size)) a.size=some jH∧CV W p.2 jH) len (fun i hi=>by
    have:=bn i hi
    rw[show elems[i]? = some elems[i] from bH (by omega),lq,t3] at this
    obtain⟨jH,h1,h2⟩:=this
    obtain⟨x,ds,q1,q2,q3⟩:=(AL yp a).1 n e jH _ t4 h2
    exact⟨(x,ds),q1,jH,h1,q3⟩)
   have hCR:∀ p∈l,CR a p.1 p.2:=fun p hp=>by
    obtain⟨i,hi⟩:=List.getElem?_of_mem hp
    exact(hQ i p hi).1
   refine⟨l.map (·.1),[.sl (l.map fun p=>nZ a p.2) none ⟨false,none⟩],⟨_,_,rfl,Mk l hCR⟩,rfl,rfl,fun j c hj => ?_⟩
   cases j with
   | succ j=>simp at hj
   | zero =>
   cases hj
   have Uq:(l.map fun p=>nZ a p.2).length=len:=by rw[eT,hl]
   have uw:∀ r∈l.map fun p=>nZ a p.2,r.cells.length=a.size:=fun r hr=>by
    obtain⟨p,hp,rfl⟩:=cR.1 hr
    rw[(B2 (hCR p hp)).1]; exact mU (hCR p hp)
   have each:∀ j c,(flat (l.map fun p=>nZ a p.2))[j]? = some c→c.ck=true∧∃ v,W.cell? ⟨ad.block,ad.off+j,none⟩=some v∧RV (pY W) c v:=by
    intro j c hj
    have hlt:=(aJ.1 hj).1
    rw[Go.Di.gI uw,Uq] at hlt
    have hs0:=hsz
    have zn:=zn (cH (Nat.pos_of_ne_zero fun e=>by rw[e] at hlt; simp at hlt) hlc)
    have hi:j / a.size<len:=(Nat.div_lt_iff_lt_mul hs0).2 hlt
    have hm:j % a.size<a.size:=Nat.mod_lt _ hs0
    have hp:l[j / a.size]? = some l[j / a.size]:=bH (by omega)
    have hr:(l.map fun p=>nZ a p.2)[j / a.size]? = some (nZ a (l[j / a.size]'(by omega)).2):=by simp[eE,hp]
    have hf:=xD uw hr hm
    rw[Nat.div_add_mod' j a.size] at hf
    rw[hf,(B2 (hCR _ (mB (by omega)))).1] at hj
    obtain⟨q1,jH,q2,q3⟩:=hQ _ _ hp
    have hc:=World.cells?_some q2
    have hv:=q3.2 _ c hj
    obtain⟨v',hk⟩:∃ v',jH[j % a.size]? = some v':=⟨_,bH (by rw[hc.2.1]; exact hm)⟩
    have h3:=hc.2.2 (j % a.size) hm
    rw[hk,IL zn,IL rfl] at h3
    have Yt:=qM q1
    rw[bt] at Yt
    rw[aN,hk] at hv
    refine⟨Yt c (dA hj),v',?_,hv⟩
    rw[← h3]
    congr 2
    have:=Nat.div_add_mod' j a.size
    simp only; omega
   rw[List.getD_cons_zero,← Uq]
   refine .sl (s:=a.size) (vs:=fun j=>(W.cell? ⟨ad.block,ad.off+j,none⟩).getD undef) ⟨uw,fun j c hj => ?_⟩ (fun j c hj => ?_) (by rw[Uq]; exact hlc) ⟨fun h=>(nomatch h),fun b h=>(nomatch h)⟩ (fun h=>(nomatch h)) (fun ad' h hc=>by cases h; exact zn hc) (fun t h=>(nomatch h))
   ·obtain⟨h1,v,h2,h3⟩:=each j c hj
    refine⟨h1,ad.block,ad.off,?_,⟨v,h2⟩,?_⟩
    ·obtain⟨b,o,s⟩:=ad
     have hlt:=(aJ.1 hj).1
     rw[Go.Di.gI uw,Uq] at hlt
     have zn:=zn (cH (Nat.pos_of_ne_zero fun e=>by rw[e] at hlt; simp at hlt) hlc)
     simp only at zn
     subst zn
     rfl
    show W.cell? _=_
    simp only[h2,Option.getD_some]
   ·obtain⟨h1,v,h2,h3⟩:=each j c hj
    simp only[h2,Option.getD_some]; exact h3
def U7 (T:TT) (x:T.den):TV:=if T.agg then .agg (T.cells x) else (T.cells x).headD .unk
theorem acU {ι:mm} {S:ax} {T:TT} {x:T.den} {ds:List DV} (h:CR T x ds):RT ι S (U7 T x) (nZ T ds):=by
 have h1:=oz (ι:=ι) (S:=S) h
 unfold U7 nZ
 cases ha:T.agg with
 | true=>simp only[if_true,RT]; exact h1
 | false =>
  obtain⟨d,rfl,-,-⟩:=Ke ha h
  cases hc:T.cells x with
  | nil=>rw[hc] at h1; simp only[dw] at h1
  | cons a l=>rw[hc] at h1; obtain⟨d',m',e,h2,h3⟩:=aj h1; cases e; exact h2
theorem abG {r:Reach} {T:TT} {t:TypeId} {v:Value} {d:DataW H} {p:List MemPlace} (yp:∀ b,spare b=true) (hT:wK P T (.inl t)) (jF:Value.okWide P W r base t v) (h:DataW.Trod enc P W 0 spare held t v d p) :
  ∃ x ds,CR T x ds∧RV (pY W) (nZ T ds) v:=by
 obtain⟨fuel,hf⟩:=h
 obtain⟨x,ds,h1,h2,h3⟩:=(AL yp T).1 fuel t _ _ hT hf
 refine⟨x,ds,h1,?_⟩
 unfold nZ
 cases ha:T.agg with
 | true =>
  have:∃ cs,v = .agg cs:=by
   cases T with
   | pair a b =>
    obtain⟨fs,f,r,t1,-⟩:=hT
    simp only[Value.okWide,t1] at jF
    obtain⟨cs,hv,-⟩:=jF
    exact⟨cs,hv⟩
   | unit=>exact hT.elim
   | _=>cases ha
  obtain⟨cs,rfl⟩:=this
  simp only[Value.cells] at h3
  refine .agg (by rw[h3.1]; simp) fun j c hj => ?_
  have:=h3.2 j c hj
  rwa [aN,gE,← bg] at this
 | false =>
  obtain⟨d,rfl,-,-⟩:=Ke ha h1
  have:v.cells.toList=[v]:=by
   cases v with
   | agg cs =>
    exfalso
    have:∀ (s:TypeDesc),P.underlying t=some s→(∀ fs,s ≠ .struct fs)→(∀ n e,s ≠ .array n e)→False:=by
     intro s hs DG hs2
     unfold Value.okWide at jF
     rw[hs] at jF
     split at jF
     ·rename_i e; cases e; exact DG _ rfl
     ·rename_i e; cases e; exact hs2 _ _ rfl
     ·unfold Cell.okWide at jF; split at jF<;>simp_all [Cell.ok]
    cases T with
    | int k=>exact this _ hT.1 (fun _ h=>by cases h) (fun _ _ h=>by cases h)
    | bool=>exact this _ hT.1 (fun _ h=>by cases h) (fun _ _ h=>by cases h)
    | str=>exact this _ hT.1 (fun _ h=>by cases h) (fun _ _ h=>by cases h)
    | sl a=>obtain⟨-,e,h,-⟩:=hT; exact this _ h (fun _ h=>by cases h) (fun _ _ h=>by cases h)
    | _=>cases ha
   | _=>rfl
  have h4:=h3.2 0 d rfl
  rw[this] at h4
  exact h4
end
end Go.Tv
end
section
namespace Go.Tv
open Go Go.Di Go.Conc Go.Co Go.Proofs
open Go.ChangeShapes Go.WideShapes Go.ChangeAt Go.RowKit
def TVs:List TT→List TV→Prop
 | [],[]=>True
 | T::Ts,v::vs=>(∃ x,v=U7 T x)∧TVs Ts vs
 | _,_=>False
def QV (P:Program):List TT→List TypeId→Prop
 | [],[]=>True
 | T::Ts,t::ts=>wK P T (.inl t)∧QV P Ts ts
 | _,_=>False
section
variable {H:Type} {enc:TypeId×Value→H} {P:Program} {W W':World} {base:Nat} {spare:Nat→Bool} {held:Bool}
theorem MW {r:Reach}:∀ {Ts:List TT} {ts:List TypeId} {vs:List Value} {ds:List (DataW H)} {p:List MemPlace},(∀ b,spare b=true)→QV P Ts ts→(∀ (j:Nat) t v,ts[j]? = some t→vs[j]? = some v→Value.okWide P W r base t v) →
  DataW.TrodAll enc P W 0 spare held ts vs ds p→ds.length=ts.length∧∃ Jh Uw,TVs Ts Jh∧dw dK [] Jh Uw∧Uw.length=vs.length∧∀ j c,Uw[j]? = some c→RV (pY W) c (vs.getD j undef)
 | [],[],[],[],_,_,_,_,_=>⟨rfl,[],[],trivial,cF,rfl,fun j c h=>by simp at h⟩
 | T::Ts,t::ts,v::vs,d::ds,p,hsp,hT,jF,h=>by
  obtain⟨p1,q1,h1,h2,-⟩:=h
  obtain⟨x,dv,k1,k2⟩:=abG hsp hT.1 (jF 0 t v rfl rfl) h1
  obtain⟨e,Jh,Uw,m1,m2,m3,m4⟩:=MW hsp hT.2 (fun j t v h1 h2=>jF (j+1) t v (by simpa using h1) (by simpa using h2)) h2
  refine⟨by simp[e],U7 T x::Jh,nZ T dv::Uw,⟨⟨x,rfl⟩,m1⟩,aP (acU k1) m2,by simp[m3],fun j c hj => ?_⟩
  cases j with
  | zero=>cases hj; exact k2
  | succ j=>exact m4 j c (by simpa using hj)
 | [],_::_,_,_,_,_,hT,_,_=>hT.elim
 | _::_,[],_,_,_,_,hT,_,_=>hT.elim
 | _::_,_::_,[],_,_,_,_,_,h=>by simp[DataW.TrodAll] at h
 | _::_,_::_,_::_,[],_,_,_,_,h=>by simp[DataW.TrodAll] at h
 | [],[],_::_,_,_,_,_,_,h=>by simp[DataW.TrodAll] at h
 | [],[],[],_::_,_,_,_,_,h=>by simp[DataW.TrodAll] at h
theorem ER (hl:laidOutB P=true) (hst:sB W W'):∀ {ts:List TypeId} {vs:List Value} {ds:List (DataW H)} {p:List MemPlace},(∀ t∈ts,P.readableRec t=true∧t<P.types.size)→(∀ x∈p,x.block<W.heap.size) →
  DataW.TrodAll enc P W 0 (fun _=>true) true ts vs ds p→DataW.TrodAll enc P W' 0 (fun b=>decide (b<W.heap.size)) true ts vs ds p
 | [],[],[],_,_,_,h=>h
 | t::ts,v::vs,d::ds,p,hr,hp,h=>by
  obtain⟨p1,q1,h1,h2,rfl⟩:=h
  exact⟨p1,q1,WideElems.Trod_stays hl (hr t (by simp)).1 (hr t (by simp)).2 h1 (fun x hx=>Kr hst (hp x (by simp[hx]))) fun x hx=>by simpa using hp x (by simp[hx]),ER hl hst (fun t h=>hr t (by simp[h])) (fun x hx=>hp x (by simp[hx])) h2,rfl⟩
 | [],_::_,_,_,_,_,h=>by simp[DataW.TrodAll] at h
 | [],[],_::_,_,_,_,h=>by simp[DataW.TrodAll] at h
 | _::_,[],_,_,_,_,h=>by simp[DataW.TrodAll] at h
 | _::_,_::_,[],_,_,_,h=>by simp[DataW.TrodAll] at h
end
theorem OK {bG:bV} (ZE:∀ af,rI Tryz.prog af bG) (tkt:uK bG) {f:FuncId} {n:Nat} (hf:f≠60∧f≠133∧f≠12∧f≠43∧f≠52) (hi:Tryz.prog.inits.idxOf? f=none) {Jh:List TV} (hs:sE (vt bG (n+1)) f Jh (fun v=>v=kC true))
  {W:World} {Uw:List DV} {vals:Array Value} (hr:dw dK [] Jh Uw) (hv:gn (pY W) Uw vals) :
  ∃ N last o w' t',runNT Tryz.prog (N+1) (solo (G (Frame.enter Tryz.prog f vals .normal) []) W) #[]=(.ended o w',t')∧runN Tryz.prog N (solo (G (Frame.enter Tryz.prog f vals .normal) []) W) = .next last ∧
   step Tryz.prog last = .ended o w'∧Conc.Good Tryz.prog (fun v w=>v = .bool true∧sB W w) last o w' t':=by
 obtain⟨d,v,h1,h2,h3,h4,rfl⟩:=hs Uw hr
 have hd:d = .val (.bool true):=by
  cases d<;>simp[RT] at h3
  rw[h3]
 subst hd
 refine KX ?_ ?_
 ·exact⟨lY _ _ _ _,fun f hf=>(nomatch hf),fun h=>h.elim,fun d h=>(nomatch h)⟩
 ·exact R7 (x:=pY W) iq ue Bn ZE (tkt.other f _ hf.1 hf.2.1 hf.2.2.1 hf.2.2.2.1 hf.2.2.2.2) hi h1 (N9 W) rfl hv
set_option maxRecDepth 100000 in
theorem aej {bG:bV} (ZE:∀ af,rI Tryz.prog af bG) (tkt:uK bG) {f:FuncId} {fn:Func} {ts:List TypeId} {Ts:List TT} (Lj:Tryz.prog.funcs[f]? = some fn) (ZM:fn.params.toList=ts) (hTs:QV Tryz.prog Ts ts) (PC:∀ t∈ts,Tryz.prog.readableRec t=true∧t<Tryz.prog.types.size) (P4:fn.resultTypes=#[4]) {s:ChangeSpec} (Yr:s.vars=[])
  (adk:∀ (H:Type) (ds:List (DataW H)),ds.length=ts.length→s.fn H ds={ results:=[.lit (.bool true)],args:=ds }) {conds:List PathCond} {fresh handsOn:Bool}
  (hf:f≠60∧f≠133∧f≠12∧f≠43∧f≠52) (hi:Tryz.prog.inits.idxOf? f=none) {n:Nat} (hs:∀ Jh,TVs Ts Jh→sE (vt bG (n+1)) f Jh (fun v=>v=kC true))
  {os:Os} (started:os.Started) {H:Type} {enc:TypeId×Value→H}
  (witness:∃ (w:World) (tape:Tape) (i:Input),w.os=os∧(w.forCall tape i).Shaped Tryz.checked.prog∧i.vars=[]∧Input.okWide Tryz.checked.prog (w.forCall tape i) .any w.heap.size f i ∧
   s.pre6 enc Tryz.checked.prog fn conds false (w.forCall tape i).memory i.args∧({}:Assume).holds Tryz.checked.prog (lone (Frame.enter Tryz.checked.prog f i.args .normal) [] (w.forCall tape i))) :
  ReturnsInLeavingWide {} Tryz.checked os f .any (s.pre6 enc Tryz.prog fn conds false) (s.post enc Tryz.prog fn false fresh handsOn false):=by
 refine returnsInLeavingWide_of_change_sized (C:=Tryz.checked) Tryz.own started Lj witness ?_
 intro W base args ds gs before adi hW _ _ _
 have aew:∀ (j:Nat) t v,ts[j]? = some t→args.toList[j]? = some v→Value.okWide Tryz.prog W .any base t v:=fun j t v h1 h2=>adi j t v (by rw[← ZM] at h1; simpa using h1) (by simpa using h2)
 have hW':=hW
 obtain⟨p,q,hA0,hV,rfl,_,_⟩:=hW
 have hA:DataW.TrodAll enc Tryz.prog W 0 (fun _=>true) true fn.params.toList args.toList ds p:=hA0
 rw[ZM] at hA
 rw[Yr] at hV
 obtain⟨rfl,rfl⟩:=trodVars_none hV
 simp only[ff] at hW'
 have hlt:∀ x∈p,x.block<W.heap.size:=fun x hx=>by simpa using hW'.lt x hx
 obtain⟨hdl,Jh,Uw,h1,h2,h3,h4⟩:=MW (fun _=>rfl) hTs aew hA
 obtain⟨M,last,o,w',t',k1,k2,k3,k4⟩:=OK ZE tkt (vals:=args) hf hi (hs Jh h1) h2 ⟨by rw[h3]; simp,fun j c hj=>by
  have:=h4 j c hj
  rwa [aN,gE,← bg] at this⟩
 refine⟨M,last,o,w',t',k1,k2,k3,k4.mono fun v hF => ?_⟩
 obtain⟨rfl,hst⟩:=hF
 have es:s.fn H (ds++[])={ results:=[.lit (.bool true)],args:=ds }:=by rw[ff]; exact adk H ds hdl
 refine⟨_,_,_,[],p,[],hW',?_,?_,by rw[es,Yr]; rfl,IV hst _,fun h=>by cases h⟩
 ·rw[es,P4]; exact trodAll_mk1 (shut_bool Tryz.aaD _)
 ·rw[es,ZM]; exact ER Tryz.laidOut hst PC hlt hA
end Go.Tv
end
section
namespace Go.Proofs
open Go.Shelf Go.Sort
def Tryz.IW:Go.Shelf.Ren:=⟨fun | 189=>99 | 125=>128 | 257=>127 | 128=>143 | 129=>144 | 294=>134 | 295=>135 | 296=>136 | 297=>137 | 298=>138 | 299=>139 | 216=>140 | 300=>141 | 301=>142 | 328=>154 | 329=>155 | 330=>156 | 331=>157 | 332=>158 | 215=>130 | 343=>162 | n=>n,fun | 28=>23 | 3=>3 | 46=>87 | 0=>0 | 51=>182 | 53=>83 | 4=>4 | 183=>175 | 182=>174 | 131=>179 | 5=>5 | 9=>9 | 218=>189 | 222=>192 | 228=>196 | 229=>163 | n=>n,fun | n=>n⟩
theorem Tryz.sortInt:Go.Proofs.Lays.n189 Tryz.prog Tryz.IW:={
 mixed:=by kernel_rfl
 f125:=Tryz.func128.trans (congrArg some (by kernel_rfl))
 f128:=Tryz.func143.trans (congrArg some (by kernel_rfl))
 f129:=Tryz.func144.trans (congrArg some (by kernel_rfl))
 f189:=Tryz.func99.trans (congrArg some (by kernel_rfl))
 f215:=Tryz.func130.trans (congrArg some (by kernel_rfl))
 f216:=Tryz.func140.trans (congrArg some (by kernel_rfl))
 f257:=Tryz.func127.trans (congrArg some (by kernel_rfl))
 f294:=Tryz.func134.trans (congrArg some (by kernel_rfl))
 f295:=Tryz.func135.trans (congrArg some (by kernel_rfl))
 f296:=Tryz.func136.trans (congrArg some (by kernel_rfl))
 f297:=Tryz.func137.trans (congrArg some (by kernel_rfl))
 f298:=Tryz.func138.trans (congrArg some (by kernel_rfl))
 f299:=Tryz.func139.trans (congrArg some (by kernel_rfl))
 f300:=Tryz.func141.trans (congrArg some (by kernel_rfl))
 f301:=Tryz.func142.trans (congrArg some (by kernel_rfl))
 f328:=Tryz.func154.trans (congrArg some (by kernel_rfl))
 f329:=Tryz.func155.trans (congrArg some (by kernel_rfl))
 f330:=Tryz.func156.trans (congrArg some (by kernel_rfl))
 f331:=Tryz.func157.trans (congrArg some (by kernel_rfl))
 f332:=Tryz.func158.trans (congrArg some (by kernel_rfl))
 f343:=Tryz.func162.trans (congrArg some (by kernel_rfl))
 t0:=Tryz.underlying0
 a0:=Tryz.isAgg0
 z0:=Tryz.sizeOf0
 v0:=Tryz.zeroValue0
 t3:=Tryz.underlying3
 a3:=Tryz.isAgg3
 z3:=Tryz.sizeOf3
 v3:=Tryz.zeroValue3
 t4:=Tryz.underlying4
 a4:=Tryz.isAgg4
 z4:=Tryz.sizeOf4
 v4:=Tryz.zeroValue4
 t5:=Tryz.underlying5
 a5:=Tryz.isAgg5
 z5:=Tryz.sizeOf5
 v5:=Tryz.zeroValue5
 t9:=Tryz.underlying9
 a9:=Tryz.isAgg9
 z9:=Tryz.sizeOf9
 v9:=Tryz.zeroValue9
 t28:=Tryz.underlying23
 a28:=Tryz.isAgg23
 z28:=Tryz.sizeOf23
 v28:=Tryz.zeroValue23
 t46:=Tryz.underlying87
 a46:=Tryz.isAgg87
 z46:=Tryz.sizeOf87
 v46:=Tryz.zeroValue87
 t51:=Tryz.underlying182
 a51:=Tryz.isAgg182
 z51:=Tryz.sizeOf182
 v51:=Tryz.zeroValue182
 t53:=Tryz.underlying83
 a53:=Tryz.isAgg83
 z53:=Tryz.sizeOf83
 v53:=Tryz.zeroValue83
 t131:=Tryz.underlying179
 a131:=Tryz.isAgg179
 z131:=Tryz.sizeOf179
 v131:=Tryz.zeroValue179
 t182:=Tryz.underlying174
 a182:=Tryz.isAgg174
 z182:=Tryz.sizeOf174
 v182:=Tryz.zeroValue174
 t183:=Tryz.underlying175
 a183:=Tryz.isAgg175
 z183:=Tryz.sizeOf175
 v183:=Tryz.zeroValue175
 t218:=Tryz.underlying189
 a218:=Tryz.isAgg189
 z218:=Tryz.sizeOf189
 v218:=Tryz.zeroValue189
 t222:=Tryz.underlying192
 a222:=Tryz.isAgg192
 z222:=Tryz.sizeOf192
 v222:=Tryz.zeroValue192
 t228:=Tryz.underlying196
 a228:=Tryz.isAgg196
 z228:=Tryz.sizeOf196
 v228:=Tryz.zeroValue196
 t229:=Tryz.underlying163
 a229:=Tryz.isAgg163
 z229:=Tryz.sizeOf163
 v229:=Tryz.zeroValue163 }
theorem Tryz.BT {g cap:Nat} {cur:Array Value} {e0:TypeId} {zs:List Int} {w:World} (hb:w.heap[g]? = some (.cells cur e0 (0,0))) (ht:cur.toList.take zs.length=zs.map (Value.int .i64)) (hl:zs.length≤1000) :
  Calls Tryz.prog 99 #[.slice (some ⟨g,0,none⟩) zs.length cap] w fun e w'=>e = .returned (.tuple #[])∧w.grownBy w' (some g)∧w'.heap[g]? = some (.cells (putCells (Value.int .i64) 0 (zs.mergeSort fun x y=>decide (x≤y)).toArray cur) e0 (0,0)):=by
 have h:=Any.slices_Sort_int Tryz.sortInt g 0 cap zs w (holds_of_blockI hb ht) (aR.1 hb).1 (by omega)
 refine h.mono ?_
 rintro e w' ⟨rfl,n,os,rfl⟩
 exact⟨rfl,grownBy_sortedI _,heap_sortedI _ hb⟩
end Go.Proofs
end
section
namespace Go.Tv
open Go Go.Di Go.Conc Go.Co Go.Proofs
variable {af:Machine→Trace→Prop} {x:Cx}
section
variable {P:Program} {ty:ir} {aM:bV} {call:bP} {yf:fI}
theorem Ae {L:Nat} {fn:FuncId} {iJ:Bool} {m:List Code} {e':List DV} {s':ax}:∀ (l:List Code) {env:List DV} {S:ax},ct P ty aM call yf L fn iJ (x9 (l++m) .skip) env S=some (.normal,e',s') →
  ∃ e1 s1,ct P ty aM call yf L fn iJ (x9 l .skip) env S=some (.normal,e1,s1)∧ct P ty aM call yf L fn iJ (x9 m .skip) e1 s1=some (.normal,e',s')
 | [],env,S,h=>⟨env,S,rfl,h⟩
 | c::l,env,S,h=>by
  simp only[List.cons_append,x9,ct] at h
  split at h
  ·rename_i e1 s1 h1
   obtain⟨e2,s2,h2,h3⟩:=Ae l h
   exact⟨e2,s2,by simp only[x9,ct,h1]; exact h2,h3⟩
  ·rename_i r hne
   exact absurd h (hne _ _)
theorem Cn (hP:Plain P) (hc:jr P af call) (je:∀ id ops draw,sC P af ty aM call yf id ops draw) {L:Nat} {fn:FuncId} {n0:Nat} {b:Frame} {cs:List Frame} (hk:b.kind ≠ .early) (Lj:b.fn=fn) (PC:b.roundOf=none) :
  ∀ (pre:List Code) (rest:Code) {k:List Item} {env aD:List DV} {S':ax} {a:Act} {x:Cx} {ds:List Nat},ct P ty aM call yf L fn false (x9 pre .skip) env x.S=some (.normal,aD,S')→Rel x→gn x env a.tmps→oN n0 x ds a.defers→n0≤x.S.length →
   (∀ y a' gR,y.S=S'→Rel y→bZ x y→gn y aD a'.tmps→oN n0 y gR a'.defers→iz P af () (G (b.atR a' (.code rest::k)) cs) y.w)→iz P af () (G (b.atR a (.code (x9 pre rest)::k)) cs) x.w
 | [],rest,k,env,aD,S',a,x,ds,h,hR,he,hd,tA,hn=>by
  simp only[x9,ct,aB,ay,true_and] at h
  obtain⟨rfl,rfl⟩:=h
  exact hn x a ds rfl hR (bZ.refl x) he hd
 | c::pre,rest,k,env,aD,S',a,x,ds,h,hR,he,hd,tA,hn=>by
  simp only[x9,ct] at h
  split at h
  ·rename_i e1 s1 h1
   refine dY hP (fun w=>⟨_,Fq⟩) ?_
   refine oA (iJ:=false) hP hc hk Lj (fun _=>PC) c (ow je c) h1 hR he hd tA fun y a' gR q1 q2 q3 q4 q5 => ?_
   subst q1
   exact Cn hP hc je hk Lj PC pre rest h q2 q4 q5 (aS tA q3.len) fun z a'' Qc r1 r2 r3 r4 r5=>hn z a'' Qc r1 r2 (q3.trans r3) r4 r5
  ·rename_i r hne
   exact absurd h (hne _ _)
end
theorem Cr {y:Cx} {l:List DV} {vs:Array Value} (hsz:vs.size=l.length) (h:∀ j c,l[j]? = some c→∃ d,RV y d (vs.getD j undef)):∃ l':List DV,vs.size=l'.length∧∀ j c,l'[j]? = some c→RV y c (vs.getD j undef):=by
 have h':∀ j:Fin l.length,∃ d,RV y d (vs.getD j.1 undef):=fun j=>h j.1 _ (bH j.2)
 refine⟨List.ofFn fun j=>Classical.choose (h' j),by simpa using hsz,fun j c hj => ?_⟩
 rw[List.getElem?_ofFn] at hj
 split at hj
 ·cases hj; exact qQ (h' _)
 ·cases hj
theorem abH {y:Cx} {d:DV} {v:Value} (h:RV x d v):∃ d',RV y d' v:=by
 induction h with
 | @val v h=>exact⟨_,.val h⟩
 | @agg l vs hsz _ ih =>
  obtain⟨l',h1,h2⟩:=Cr hsz ih
  exact⟨.agg l',.agg h1 h2⟩
 | @gd l vs hsz _ ih =>
  obtain⟨l',h1,h2⟩:=Cr hsz ih
  exact⟨.gd l',.gd h1 h2⟩
 | sl _ _ _ _ _ _ _ _=>exact⟨_,.val rfl⟩
 | ptr _=>exact⟨_,.val rfl⟩
 | eL _ _ _=>exact⟨_,.val rfl⟩
 | fn _ _ _ _ _ _=>exact⟨_,.val rfl⟩
 | map _=>exact⟨_,.val rfl⟩
 | xV _=>exact⟨_,.val rfl⟩
 | jD _ _ _=>exact⟨_,.val rfl⟩
 | fC _ _ _=>exact⟨_,.val rfl⟩
theorem Xv {y:Cx} {env:List DV} {arr:Array Value} (h:gn x env arr):∃ aD,gn y aD arr∧aD.length=env.length:=by
 obtain⟨l',h1,h2⟩:=Cr (y:=y) h.1 fun j c hj=>abH (h.2 j c hj)
 exact⟨l',⟨h1,h2⟩,by rw[← h1,h.1]⟩
def wk1:DV→DV
 | .sl r _ _ => .sl r none ⟨false,none⟩
 | d=>d
def wk2:DV→DV
 | .agg l => .agg (l.map wk1)
 | d=>wk1 d
def Zl:DV→DV
 | .gd l => .gd (l.map wk2)
 | d=>wk2 d
theorem Fp {d:DV} {v:Value} (h:RV x d v):RV x (wk1 d) v:=by
 cases h with
 | sl h1 h2 h3 h4 h5 h6 h7=>exact .sl h1 h2 h3 ⟨fun h=>(nomatch h),fun b h=>(nomatch h)⟩ h5 h6 (fun t h=>(nomatch h))
 | val h=>exact .val h
 | agg h1 h2=>exact .agg h1 h2
 | gd h1 h2=>exact .gd h1 h2
 | ptr h=>exact .ptr h
 | eL h1 h2=>exact .eL h1 h2
 | fn h1 h2 h3 h4=>exact .fn h1 h2 h3 h4
 | map h=>exact .map h
 | xV h=>exact .xV h
 | jD h1 h2 h3=>exact .jD h1 h2 h3
 | fC h1 h2 h3=>exact .fC h1 h2 h3
theorem Rk {f:DV→DV} {l:List DV} {vs:Array Value} (hf:∀ d v,RV x d v→RV x (f d) v) (h:∀ j c,l[j]? = some c→RV x c (vs.getD j undef)):∀ j c,(l.map f)[j]? = some c→RV x c (vs.getD j undef):=fun j c hj=>by
 rw[eE,ai] at hj
 obtain⟨d,h1,rfl⟩:=hj
 exact hf _ _ (h j d h1)
theorem Ri {d:DV} {v:Value} (h:RV x d v):RV x (wk2 d) v:=by
 cases h with
 | agg h1 h2=>exact .agg (by simpa using h1) (Rk (fun _ _=>Fp) h2)
 | sl h1 h2 h3 h4 h5 h6 h7=>exact Fp (.sl h1 h2 h3 h4 h5 h6 h7)
 | val h=>exact .val h
 | gd h1 h2=>exact .gd h1 h2
 | ptr h=>exact .ptr h
 | eL h1 h2=>exact .eL h1 h2
 | fn h1 h2 h3 h4=>exact .fn h1 h2 h3 h4
 | map h=>exact .map h
 | xV h=>exact .xV h
 | jD h1 h2 h3=>exact .jD h1 h2 h3
 | fC h1 h2 h3=>exact .fC h1 h2 h3
theorem aaS {d:DV} {v:Value} (h:RV x d v):RV x (Zl d) v:=by
 cases h with
 | gd h1 h2=>exact .gd (by simpa using h1) (Rk (fun _ _=>Ri) h2)
 | agg h1 h2=>exact Ri (.agg h1 h2)
 | sl h1 h2 h3 h4 h5 h6 h7=>exact Fp (.sl h1 h2 h3 h4 h5 h6 h7)
 | val h=>exact .val h
 | ptr h=>exact .ptr h
 | eL h1 h2=>exact .eL h1 h2
 | fn h1 h2 h3 h4=>exact .fn h1 h2 h3 h4
 | map h=>exact .map h
 | xV h=>exact .xV h
 | jD h1 h2 h3=>exact .jD h1 h2 h3
 | fC h1 h2 h3=>exact .fC h1 h2 h3
end Go.Tv
end
section
namespace Go.Tv
open Go Go.Di Go.Conc Go.Co Go.Proofs
variable {af:Machine→Trace→Prop} {x:Cx}
theorem Er {id:Nat} {l l':List DV} (h:x.S[id]? = some (.cells l)):bZ x { x with S:=x.S.set id (.cells l') }:=by
 have bn:=fun j=>ej h (.cells l') j
 refine⟨ak _,⟨rfl,rfl⟩,fun _ _ h=>⟨h,rfl⟩,fun _ _ h => .inl h,fun _ _ _=>rfl,by simp,fun i m hm=>⟨rfl,?_⟩,fun i b hb ho=>⟨rfl,?_,fun _=>rfl⟩,fun t e s n ht=>⟨n,?_,ak _,fun _=>⟨rfl,rfl⟩⟩,fun i hi => .inl ⟨?_,rfl⟩,fun t e s m z ht=>⟨m,z,?_,ak _,fun e=>⟨rfl,e⟩,fun _=>⟨rfl,rfl⟩⟩⟩
 ·by_cases e:i=id
  ·exact⟨l',by show (x.S.set id _)[i]? = _; rw[bn,if_pos e]⟩
  ·exact⟨m,by show (x.S.set id _)[i]? = _; rw[bn,if_neg e]; exact hm⟩
 ·by_cases e:i=id
  ·subst e; rw[h] at hb; cases hb; cases ho
  ·exact⟨b,by show (x.S.set id _)[i]? = _; rw[bn,if_neg e]; exact hb,fu ho⟩
 ·have e:t≠id:=by rintro rfl; rw[h] at ht; cases ht
  show (x.S.set id _)[t]? = _
  rw[bn,if_neg e]; exact ht
 ·obtain⟨b,h1,h2⟩:=hi
  have h1:(x.S.set id (.cells l'))[i]? = some b:=h1
  rw[bn] at h1
  split at h1
  ·rename_i e; subst e; exact⟨_,h,by simp⟩
  ·exact⟨b,h1,h2⟩
 ·have e:t≠id:=by rintro rfl; rw[h] at ht; cases ht
  show (x.S.set id _)[t]? = _
  rw[bn,if_neg e]; exact ht
theorem SE {id:Nat} {l l':List DV} (hR:Rel x) (h:x.S[id]? = some (.cells l)) (hl:l'.length=l.length) (hv:∀ arr e,x.w.heap[x.μ id]? = some (.cells arr e (0,0))→∀ j c,l'[j]? = some c→RV { x with S:=x.S.set id (.cells l') } c (arr.getD j undef)):Rel { x with S:=x.S.set id (.cells l') }:=by
 have M:=Er (l':=l') h
 have bn:=fun j=>ej h (.cells l') j
 have iV:∀ i,Live { x with S:=x.S.set id (.cells l') }.S i→Live x.S i:=fun i hi=>by
  rcases M.live i hi with h1 | h1
  ·exact h1.1
  ·obtain⟨b,h1,h2⟩:=hi
   have h1:(x.S.set id (.cells l'))[i]? = some b:=h1
   rw[bn] at h1
   split at h1
   ·rename_i e; subst e; exact⟨_,h,by simp⟩
   ·exact⟨b,h1,h2⟩
 refine⟨fun i m hm => ?_,fun i e s n hm => ?_,fun i b hm hb => ?_,fun i j hi hj he=>hR.inj i j (iV i hi) (iV j hj) he,hR.x7,fun i ⟨m,hm⟩ => ?_,fun i e s n hm => ?_,fun i e s m z hm => ?_⟩
 ·have hm:(x.S.set id (.cells l'))[i]? = some (.cells m):=hm
  rw[bn] at hm
  split at hm
  ·rename_i e
   have e2:l'=m:=by simpa using hm
   subst e2
   subst e
   obtain⟨arr,e,h1,h2,-⟩:=hR.cells i l h
   exact⟨arr,e,h1,h2.trans hl.symm,hv arr e h1⟩
  ·obtain⟨arr,e,h1,h2,h3⟩:=hR.cells i m hm
   exact⟨arr,e,h1,h2,fun j c hc=>(h3 j c hc).mono M⟩
 ·have hm:(x.S.set id (.cells l'))[i]? = some (.tail e s n):=hm
  rw[bn] at hm
  split at hm
  ·cases hm
  ·exact hR.eA i e s n hm
 ·have hm:(x.S.set id (.cells l'))[i]? = some b:=hm
  rw[bn] at hm
  split at hm
  ·cases hm; cases hb
  ·obtain⟨o,h1,h2⟩:=hR.eR i b hm hb
   exact⟨o,h1,h2.mono M⟩
 ·have hm:(x.S.set id (.cells l'))[i]? = some (.cells m):=hm
  rw[bn] at hm
  split at hm
  ·rename_i e; subst e; exact hR.sep i ⟨l,h⟩
  ·exact hR.sep i ⟨m,hm⟩
 ·have hm:(x.S.set id (.cells l'))[i]? = some (.tail e s n):=hm
  rw[bn] at hm
  split at hm
  ·cases hm
  ·exact hR.oF i e s n hm
 ·have hm:(x.S.set id (.cells l'))[i]? = some (.op e s m z):=hm
  rw[bn] at hm
  split at hm
  ·cases hm
  ·obtain⟨arr,h1,h2,h3,h4,h5,h6⟩:=hR.ops i e s m z hm
   exact⟨arr,h1,h2,h3,h4,fun j c hc=>⟨(h5 j c hc).1,(h5 j c hc).2.mono M⟩,h6⟩
theorem Ob {ι:mm} {te:List TV} {tS:List TB} {env:List DV} {S:ax} {k id:Nat} {ts uq:List TV} {ds gR:List DV} (h:cK ι te tS env S) (hk:tS[k]? = some (.cells ts)) (hi:ι k=some id) (hS:S[id]? = some (.cells ds)) (hr:dw ι (S.set id (.cells gR)) uq gR):cK ι te (tS.set k (.cells uq)) env (S.set id (.cells gR)):=by
 have hlt:=(aJ.1 hk).1
 have K:lU ι S ι (S.set id (.cells gR)) fun _=>False:=fun a b _ pO=>⟨pO,by
  by_cases e1:b=id
  ·subst e1
   exact xd (fun _ _ _ h=>by rw[hS] at h; cases h) (fun _ _ _ _ h=>by rw[hS] at h; cases h)
  ·exact fR (by rw[ej hS,if_neg e1])⟩
 have hg:∀ j,(tS.set k (.cells uq))[j]? = if j=k then some (.cells uq) else tS[j]? := fun j=>by
  rw[aQ]
  by_cases e:j=k
  ·subst e; simp[hlt]
  ·rw[if_neg (Ne.symm e),if_neg e]
 refine⟨bU K _ _ h.env,fun j l hj => ?_,fun j e s hj t ht => ?_,fun j j' hj => ?_,h.inj,fun j b hj t ht => ?_⟩
 ·rw[hg] at hj
  split at hj
  ·rename_i e; subst e; cases hj
   exact⟨id,gR,hi,by rw[ej hS,if_pos rfl],hr⟩
  ·rename_i e
   obtain⟨j',Nk,h1,h2,h3⟩:=h.cells j l hj
   refine⟨j',Nk,h1,?_,bU K _ _ h3⟩
   rw[ej hS,if_neg]
   ·exact h2
   ·rintro rfl; exact e (h.inj _ _ _ h1 hi)
 ·rw[hg] at hj
  split at hj
  ·cases hj
  ·obtain⟨n,h1⟩:=h.own j e s hj t ht
   exact⟨n,(K j t (fun e=>e) ht).2.1 _ _ _ h1⟩
 ·rw[hg]
  split
  ·exact⟨_,rfl,by simp⟩
  ·exact h.xY j j' hj
 ·rw[hg] at hj
  split at hj
  ·cases hj; trivial
  ·rename_i e
   have h1:=h.mp j b hj t ht
   rw[ej hS,if_neg]
   ·exact h1
   ·rintro rfl; exact e (h.inj _ _ _ ht hi)
theorem iQ:∀ {l:List Int} {rows:List DV},eN (CR bO) bO.agg l rows→rows=Go.Tv.rowsOf l
 | [],[],_=>rfl
 | [],_::_,h=>h.elim
 | _::_,[],h=>h.elim
 | n::l,r::rows,h=>by
  obtain⟨⟨h1,h2⟩,h3⟩:=h
  rw[iQ h3]
  have h1:r.cells=[.val (.int .i64 n)]:=h1
  have:r = .val (.int .i64 n):=by
   cases r<;>simp only[DV.cells] at h1<;>first | (cases h1; rfl) | (cases h1; done) | exact(h2 rfl _ rfl).elim | skip
   all_goals exact(h2 _ rfl).elim
  rw[this]; rfl
theorem HY {rows:List DV} {tok:Option Nat} {f:SF} {v:Value} (h:RV x (.sl rows tok f) v):∃ a c,v = .slice a rows.length c:=by
 cases h with
 | sl _ _ _ _ _ _ _=>exact⟨_,_,rfl⟩
abbrev Hl (l:List Int):DV := .sl (Go.Tv.rowsOf l) none ⟨false,none⟩
def Fv (n:Int) (u l q:List Int) (w:Int):DV := .gd [.agg [Hl (bR n u l),Hl (bS n u l),.val (.int .i64 w),Hl (oL (jX n q))],.val (.int .i64 0)]
end Go.Tv
end
section
namespace Go.Tv
open Go Go.Di Go.Conc Go.Co Go.Proofs
variable {x0 x1 y:Cx} {w3:World}
def DY:DB→DB
 | .defer => .defer
 | _ => .none
abbrev zD:DV := .sl [] none ⟨true,some true⟩
abbrev y8:List DV:=[zD,zD,.val (.int .i64 0),zD]
def JE (ru rl:List DV) (w:Int) (qs:List Int):List DV:=[.sl ru none ⟨false,none⟩,.sl rl none ⟨false,none⟩,.val (.int .i64 w),Hl (oL qs)]
def sH (x1 y:Cx) (w3:World) (k1 k3 t:Nat) (ru rl:List DV) (w:Int) (qs:List Int):Cx :=
 ⟨w3,y.μ,y.κ,fun b o=>x1.Fz b o∨(b=y.μ t∧o<qs.length),((y.S.map DY).set k1 (.cells y8)).set k3 (.cells (JE ru rl w qs))⟩
theorem Qm {x z:Cx} {v:Value} (h:RV x zD v):RV z zD v:=by
 cases h with
 | @sl _ _ _ A cap s vs h1 h2 h3 h4 h5 h6 h7=>exact .sl (s:=s) (vs:=vs) ⟨by simp,by simp[flat]⟩ (by simp[flat]) h3 h4 h5 h6 (fun t h=>(nomatch h))
theorem iH (l:List Int):(Go.Tv.rowsOf l).length=l.length:=by simp[Go.Tv.rowsOf]
structure iA (x0 x1 y:Cx) (w3:World) (k1 k3 t:Nat) (ru rl:List DV) (w:Int) (qs:List Int) (cur:Array Value) (v0 v1:Value):Prop where
 h0:x0.S=[]
 Zk:bZ x0 x1
 R1:Rel x1
 M1:bZ x1 y
 Ry:Rel y
 y6:∃ l,x1.S[k3]? = some (.cells l)
 rT:∃ l,x1.S[k1]? = some (.cells l)
 hne:k1≠k3
 hy3:∃ f,y.S[k3]? = some (.cells [.val v0,.val v1,.val (.int .i64 w),.sl (Go.Tv.rowsOf qs) (some t) f])
 Uk:y.S[k1]? = some (.cells y8)
 Uj:y.S[t]? = some (.tail 3 1 (qs.length*1))
 hnt:¬ Live x1.S t
 rU:∃ tk f,RV x1 (.sl ru tk f) v0
 rL:∃ tk f,RV x1 (.sl rl tk f) v1
 GX:y.w.heap[y.μ t]? = some (.cells cur 3 (0,0))
 gos:w3.os=y.w.os
 acr:w3.output=y.w.output
 gsz:y.w.heap.size≤w3.heap.size
 acv:∀ k,k<y.w.heap.size→k≠y.μ t→w3.heap[k]? = y.w.heap[k]?
 YX:w3.heap[y.μ t]? = some (.cells (Sort.putCells (Value.int .i64) 0 (oL qs).toArray cur) 3 (0,0))
 hsz:qs.length≤cur.size
variable {k1 k3 t:Nat} {ru rl:List DV} {w:Int} {qs:List Int} {cur:Array Value} {v0 v1:Value}
theorem yB (l:List Int):(oL l).length=l.length:=List.length_mergeSort ..
theorem iP {S:ax} {i:Nat} {b:DB} (h:S[i]? = some b) (hb:b ≠ .none):Live S i:=⟨b,h,hb⟩
theorem iA.new (h:iA x0 x1 y w3 k1 k3 t ru rl w qs cur v0 v1):x1.w.heap.size≤y.μ t:=by
 rcases h.M1.live t (iP h.Uj (by simp)) with h1 | h1
 ·exact absurd h1.1 h.hnt
 ·exact h1
theorem iA.old (h:iA x0 x1 y w3 k1 k3 t ru rl w qs cur v0 v1) {b:Nat} (hb:b<y.w.heap.size) (hg:b≠y.μ t):w3.heap[b]? = y.w.heap[b]? := h.acv b hb hg
theorem rH {x:Cx} (hR:Rel x) {b o:Nat} (h:x.Fz b o):b<x.w.heap.size:=by
 obtain⟨v,hv⟩:=hR.x7 b o h
 exact World.block_lt_of_cell? _ ⟨b,o,none⟩ hv
theorem iA.cell (h:iA x0 x1 y w3 k1 k3 t ru rl w qs cur v0 v1) {b o:Nat} (hF:x1.Fz b o):w3.cell? ⟨b,o,none⟩=x1.w.cell? ⟨b,o,none⟩:=by
 have h1:=rH h.R1 hF
 have h2:=h.new
 rw[← (h.M1.fz b o hF).2]
 exact cell_of_block (h.old (cH h1 h.M1.size) (by omega)) o
theorem iA.get (h:iA x0 x1 y w3 k1 k3 t ru rl w qs cur v0 v1) (i:Nat):(sH x1 y w3 k1 k3 t ru rl w qs).S[i]? = if i=k3 then some (.cells (JE ru rl w qs)) else if i=k1 then some (.cells y8) else (y.S[i]?).map DY:=by
 obtain⟨f,h3⟩:=h.hy3
 have l3:=(aJ.1 h3).1
 have l1:=(aJ.1 h.Uk).1
 show (((y.S.map DY).set k1 _).set k3 _)[i]? = _
 rw[aQ,aQ]
 by_cases e:i=k3
 ·subst e; simp[l3]
 ·rw[if_neg (Ne.symm e),if_neg e]
  by_cases e1:i=k1
  ·subst e1; simp[l1]
  ·rw[if_neg (Ne.symm e1),if_neg e1,eE]
theorem kG {o:Option DB} {b:DB} (h:o.map DY=some b) (hb:b ≠ .none):o=some .defer∧b = .defer:=by
 cases o with
 | none=>cases h
 | some c=>cases c<;>simp only[Option.map_some,DY,aB] at h<;>subst h<;>first | exact⟨rfl,rfl⟩ | exact absurd rfl hb
theorem iA.live (h:iA x0 x1 y w3 k1 k3 t ru rl w qs cur v0 v1) {i:Nat} (hi:Live (sH x1 y w3 k1 k3 t ru rl w qs).S i):Live y.S i∧i≠t:=by
 obtain⟨f,h3⟩:=h.hy3
 obtain⟨b,h1,h2⟩:=hi
 rw[h.get] at h1
 split at h1
 ·rename_i e; subst e
  exact⟨iP h3 (by simp),by rintro rfl; rw[h.Uj] at h3; cases h3⟩
 ·split at h1
  ·rename_i e; subst e
   exact⟨iP h.Uk (by simp),by rintro rfl; have h5:=h.Uk; rw[h.Uj] at h5; cases h5⟩
  ·obtain⟨e1,e2⟩:=kG h1 h2
   exact⟨iP e1 (by simp),by rintro rfl; rw[h.Uj] at e1; cases e1⟩
theorem iA.mono (h:iA x0 x1 y w3 k1 k3 t ru rl w qs cur v0 v1):bZ x0 (sH x1 y w3 k1 k3 t ru rl w qs):=by
 have My:=h.Zk.trans h.M1
 have uD:=h.new
 have hs:=h.Zk.size
 have abc:∀ i,¬ Live x0.S i:=fun i ⟨b,hb,_⟩=>by rw[h.h0] at hb; simp at hb
 refine⟨aS My.size h.gsz,⟨h.gos.trans My.env.1,h.acr.trans My.env.2⟩,fun b o hF => ?_,fun b o hF => ?_,fun b hb hn => ?_,by rw[h.h0]; exact gh _,fun i l hl => ?_,fun i b hl _ => ?_,fun i e s n hl => ?_,fun i hi => ?_,fun i e s m z hl=>by rw[h.h0] at hl; simp at hl⟩
 ·have h1:=h.Zk.fz b o hF
  exact⟨.inl h1.1,(h.cell h1.1).trans h1.2⟩
 ·rcases hF with hF | ⟨rfl,-⟩
  ·exact h.Zk.Lc b o hF
  ·exact .inr (.inl (aS hs uD))
 ·rw[← My.old b hb hn]
  exact h.old (cH hb My.size) (by omega)
 ·rw[h.h0] at hl; simp at hl
 ·rw[h.h0] at hl; simp at hl
 ·rw[h.h0] at hl; simp at hl
 ·rcases My.live i (h.live hi).1 with h1 | h1
  ·exact absurd h1.1 (abc i)
  ·exact .inr h1
theorem H6 (l:List Int) (j:Nat) (c:DV) (h:(flat (Go.Tv.rowsOf l))[j]? = some c):c = .val (.int .i64 (l.getD j 0))∧j<l.length:=by
 rw[tf,Go.Tv.rowsOf,eE,ai] at h
 obtain⟨n,h1,rfl⟩:=h
 exact⟨by rw[aN,h1]; rfl,(aJ.1 h1).1⟩
theorem iA.rv (h:iA x0 x1 y w3 k1 k3 t ru rl w qs cur v0 v1) {r:List DV} {tk:Option Nat} {f:SF} {v:Value} (hv:RV x1 (.sl r tk f) v):RV (sH x1 y w3 k1 k3 t ru rl w qs) (.sl r none ⟨false,none⟩) v :=
 RV.pure_mono (x:=x1) (y:=sH x1 y w3 k1 k3 t ru rl w qs) (fun b o hF=>⟨Or.inl hF,h.cell hF⟩) (Fp hv) rfl
theorem iA.row (h:iA x0 x1 y w3 k1 k3 t ru rl w qs cur v0 v1) {f:SF} {v:Value} (hv:RV y (.sl (Go.Tv.rowsOf qs) (some t) f) v):RV (sH x1 y w3 k1 k3 t ru rl w qs) (Hl (oL qs)) v:=by
 cases hv with
 | @sl _ _ _ A cap s vs h1 h2 h3 h4 h5 h6 h7 =>
  obtain⟨e,s',n,k1',k2,k3',k4⟩:=h7 t rfl
  rw[h.Uj] at k1'
  cases k1'
  obtain⟨rfl,rfl⟩:=k4 (by rw[iH])
  have hl:(Go.Tv.rowsOf (oL qs)).length=(Go.Tv.rowsOf qs).length:=by rw[iH,iH,yB]
  rw[← hl]
  refine .sl (s:=1) (vs:=fun j => .int .i64 ((oL qs).getD j 0)) ⟨fun r hr => ?_,fun j c hj => ?_⟩ (fun j c hj => ?_) (by rw[hl]; exact h3) ⟨fun h=>(nomatch h),fun b h=>(nomatch h)⟩ h5 h6 (fun t h=>(nomatch h))
  ·simp only[Go.Tv.rowsOf,cR] at hr
   obtain⟨m,-,rfl⟩:=hr
   rfl
  ·obtain⟨rfl,wB⟩:=H6 _ _ _ hj
   clear hj
   rw[yB] at wB
   refine⟨rfl,y.μ t,0,rfl,.inr ⟨rfl,by omega⟩,?_⟩
   have hs:=h.hsz
   show w3.cell? ⟨y.μ t,0+j,none⟩=_
   simp only[World.cell?,h.YX,gy,Option.isSome_none,aF,if_false]
   simp[Sort.putCells,show j<cur.size by omega,yB,wB,aN]
  ·obtain⟨rfl,-⟩:=H6 _ _ _ hj
   exact .val rfl
theorem iA.rel (h:iA x0 x1 y w3 k1 k3 t ru rl w qs cur v0 v1):Rel (sH x1 y w3 k1 k3 t ru rl w qs):=by
 have uD:=h.new
 obtain⟨f3,h3⟩:=h.hy3
 have hlt:∀ {b:Nat} {o:Obj},y.w.heap[b]? = some o→b<y.w.heap.size:=fun h=>(aR.1 h).1
 have ZP:∀ i,Live y.S i→i≠t→y.μ i≠y.μ t:=fun i hi hne e=>hne (h.Ry.inj i t hi (iP h.Uj (by simp)) e)
 have n3:=ZP k3 (iP h3 (by simp)) (by rintro rfl; rw[h.Uj] at h3; cases h3)
 have n1:=ZP k1 (iP h.Uk (by simp)) (by rintro rfl; have h5:=h.Uk; rw[h.Uj] at h5; cases h5)
 have abW:∀ k,(∃ l,x1.S[k]? = some (.cells l))→∀ o,¬ x1.Fz (y.μ k) o:=fun k ⟨l,hl⟩ o hF=>by
  have:=(h.M1.cells k l hl).1
  rw[this] at hF
  exact h.R1.sep k ⟨l,hl⟩ o hF
 refine⟨fun i m hm => ?_,fun i e s n hm => ?_,fun i b hm hb => ?_,fun i j hi hj he=>h.Ry.inj i j (h.live hi).1 (h.live hj).1 he,fun b o hF => ?_,fun i ⟨m,hm⟩ o hF => ?_,fun i e s n hm => ?_,fun i e s m z hm => ?_⟩
 ·rw[h.get] at hm
  split at hm
  ·rename_i e
   have e2:JE ru rl w qs=m:=by simpa using hm
   subst e2
   subst e
   obtain⟨arr,e,q1,q2,q3⟩:=h.Ry.cells i _ h3
   obtain⟨tU,fU,rU⟩:=h.rU
   obtain⟨tL,fL,rL⟩:=h.rL
   have a0:arr.getD 0 undef=v0:=mS (q3 0 _ rfl)
   have a1:arr.getD 1 undef=v1:=mS (q3 1 _ rfl)
   have a2:arr.getD 2 undef = .int .i64 w:=mS (q3 2 _ rfl)
   refine⟨arr,e,(h.old (hlt q1) n3).trans q1,q2,fun j c hc => ?_⟩
   match j,hc with
   | 0,hc=>cases hc; rw[a0]; exact h.rv rU
   | 1,hc=>cases hc; rw[a1]; exact h.rv rL
   | 2,hc=>cases hc; rw[a2]; exact .val rfl
   | 3,hc=>cases hc; exact h.row (q3 3 _ rfl)
   | j+4,hc=>simp[JE] at hc
  ·split at hm
   ·rename_i e
    have e2:y8=m:=by simpa using hm
    subst e2
    subst e
    obtain⟨arr,e,q1,q2,q3⟩:=h.Ry.cells i _ h.Uk
    refine⟨arr,e,(h.old (hlt q1) n1).trans q1,q2,fun j c hc => ?_⟩
    match j,hc with
    | 0,hc=>cases hc; exact Qm (q3 0 _ rfl)
    | 1,hc=>cases hc; exact Qm (q3 1 _ rfl)
    | 2,hc=>cases hc; rw[mS (q3 2 _ rfl)]; exact .val rfl
    | 3,hc=>cases hc; exact Qm (q3 3 _ rfl)
    | j+4,hc=>simp at hc
   ·exact absurd (kG hm (by simp)).2 (by simp)
 ·rw[h.get] at hm
  split at hm
  ·cases hm
  ·split at hm
   ·cases hm
   ·exact absurd (kG hm (by simp)).2 (by simp)
 ·rw[h.get] at hm
  split at hm
  ·cases hm; cases hb
  ·split at hm
   ·cases hm; cases hb
   ·obtain⟨e1,rfl⟩:=kG hm (by rintro rfl; cases hb)
    obtain⟨o,q1,q2⟩:=h.Ry.eR i _ e1 rfl
    have hne:=ZP i (iP e1 (by simp)) (by rintro rfl; rw[h.Uj] at e1; cases e1)
    refine⟨o,(h.old (hlt q1) hne).trans q1,?_⟩
    cases o<;>first | exact q2.elim | trivial
 ·rcases hF with hF | ⟨rfl,ho⟩
  ·obtain⟨v,hv⟩:=h.R1.x7 b o hF
   exact⟨v,(h.cell hF).trans hv⟩
  ·have hs:=h.hsz
   have:o<(Sort.putCells (Value.int .i64) 0 (oL qs).toArray cur).size:=by simp[Sort.putCells]; omega
   refine⟨(Sort.putCells (Value.int .i64) 0 (oL qs).toArray cur)[o],?_⟩
   show w3.cell? ⟨y.μ t,o,none⟩=_
   simp only[World.cell?,h.YX,Option.isSome_none,aF,if_false]
   exact bW this
 ·rw[h.get] at hm
  split at hm
  ·rename_i e; subst e
   rcases hF with hF | ⟨e,-⟩
   ·exact abW _ h.y6 o hF
   ·exact n3 e
  ·split at hm
   ·rename_i e; subst e
    rcases hF with hF | ⟨e,-⟩
    ·exact abW _ h.rT o hF
    ·exact n1 e
   ·exact absurd (kG hm (by simp)).2 (by simp)
 ·rw[h.get] at hm
  split at hm
  ·cases hm
  ·split at hm
   ·cases hm
   ·exact absurd (kG hm (by simp)).2 (by simp)
 ·rw[h.get] at hm
  split at hm
  ·cases hm
  ·split at hm
   ·cases hm
   ·exact absurd (kG hm (by simp)).2 (by simp)
end Go.Tv
end
