/- ab9 -/
import Derived.Test.YtedcgbkilmlbhaaGreatPk34
import Derived.Test.YtedcgbkilmlbhaaGreatPk05
import Derived.Test.YtedcgbkilmlbhaaGreatRows
import Derived.Conc.LeavingOf
import Derived.ProofKit
import Derived.Test.YtedcgbkilmlbhaaGreatPk11
import Derived.Test.YtedcgbkilmlbhaaGreatPk10
import Derived.Test.YtedcgbkilmlbhaaGreatPk14
section
namespace Go.Tv
open Go Go.Di Go.Conc Go.Co Go.Proofs
theorem D7:uS zD where
 other:=fun f a h1 h2 h3 h4=>by
  have:mj f a=none:=by
   unfold mj
   split
   ·exact absurd rfl h1
   ·exact absurd rfl h2
   ·exact absurd rfl h4
   ·rfl
  simp[zD,more,Ne.symm h3,this]
 fit:=by simp[zD,more,DV.Fo,bb]
def rowsOf (HP:List Int):List DV:=HP.map fun n => .val (.int .i64 n)
theorem Av:∀ HP:List Int,ek (CR cv) cv.agg HP (rowsOf HP)
 | []=>trivial
 | n::l=>⟨⟨rfl,fun l h=>by cases h⟩,Av l⟩
def aef (W:World) (b o n:Nat):Cx:={ w:=W,μ:=fun _=>0,κ:=fun _=>0,Fz:=fun b' j=>b'=b∧o≤j∧j<o+n,S:=[] }
end Go.Tv
end
section
namespace Go.Tv
open Go Go.Di Go.Conc Go.Co Go.Proofs
open Go.ChangeShapes Go.WideShapes Go.ChangeAt Go.RowKit
theorem Tryz.own:ownKnob Tryz.prog.godebug=none:=by kernel_rfl
theorem Tryz.laidOut:laidOutB Tryz.prog=true:=by kernel_rfl
theorem Tryz.Yh:Tryz.prog.underlying 4=some .bool:=by kernel_rfl
theorem GN {W w':World} (h:qP W w') (may:MemPlace→Prop):W.keptBut w' may:=by
 refine⟨h.os,h.output,fun i hi => ?_⟩
 rw[h.block i hi]
 split<;>simp_all
theorem IF {W w':World} (h:qP W w') {p:MemPlace} (hp:p.block<W.heap.size):W.sameAt w' p:=by
 cases p with
 | cell b o=>exact World.cell?_of_block (w:=W) (h.block b hp)
 | map b=>exact h.block b hp
end Go.Tv
end
section
namespace Go.Tv
open Go Go.Di Go.Conc Go.Co Go.Proofs
open Go.ChangeShapes Go.WideShapes Go.ChangeAt Go.RowKit
def oT (W:World):Cx:={ w:=W,μ:=fun _=>0,κ:=fun _=>0,Fz:=fun b o=>∃ v,W.cell? ⟨b,o,none⟩=some v,S:=[] }
theorem Mb (W:World):Rel (oT W) where
 cells:=fun id l hl=>by simp[oT] at hl
 en:=fun id e s n hl=>by simp[oT] at hl
 eB:=fun id b hl=>by simp[oT] at hl
 inj:=fun i j hi=>absurd hi (fU i)
 yP:=fun b j h=>h
 sep:=fun id ⟨l,hl⟩=>by simp[oT] at hl
 ox:=fun id e s n hl=>by simp[oT] at hl
 ops:=fun id e s l z hl=>by simp[oT] at hl
section
variable (P:Program)
def uU:TT→TypeId ⊕ (List Field×Nat)→Prop
 | .int k,.inl t=>P.underlying t=some (.int k)∧P.cellsOf t=1
 | .bool,.inl t=>P.underlying t=some .bool∧P.cellsOf t=1
 | .str,.inl t=>P.underlying t=some .string∧P.cellsOf t=1
 | .sl a,.inl t=>P.cellsOf t=1∧∃ e,P.underlying t=some (.slice e)∧P.cellsOf e=a.size∧uU a (.inl e)
 | .pair a b,.inl t=>∃ fs f r,P.underlying t=some (.struct fs)∧fs.toList=f::r∧f.offset=0∧P.cellsOf t=a.size+b.size∧P.cellsOf f.type=a.size∧uU a (.inl f.type)∧uU b (.inr (r,a.size))
 | .unit,.inr x=>x.1=[]
 | .pair a b,.inr x=>∃ f r,x.1=f::r∧f.offset=x.2∧P.cellsOf f.type=a.size∧uU a (.inl f.type)∧uU b (.inr (r,x.2+a.size))
 | _,_=>False
end
section
variable {H:Type} {enc:TypeId×Value→H} {P:Program} {W:World} {base:Nat} {spare:Nat→Bool} {held:Bool}
def CV (W:World) (ds:List DV) (cs:List Value):Prop:=ds.length=cs.length∧∀ j c,ds[j]? = some c→RV (oT W) c (cs.getD j undef)
def nu (a:TT) (ds:List DV):DV:=if a.agg then .agg ds else ds.headD bz
theorem Iv {a:TT} {x:a.den} {ds:List DV} (ha:a.agg=false) (h:CR a x ds):∃ d,ds=[d]∧d.cells=[d]∧∀ l,d ≠ .agg l:=by
 cases a with
 | int k=>simp only[CR] at h; subst h; exact⟨_,rfl,rfl,fun l h=>by cases h⟩
 | bool=>simp only[CR] at h; subst h; exact⟨_,rfl,rfl,fun l h=>by cases h⟩
 | str=>simp only[CR] at h; subst h; exact⟨_,rfl,rfl,fun l h=>by cases h⟩
 | sl t=>simp only[CR] at h; obtain⟨rows,f,rfl,-⟩:=h; exact⟨_,rfl,rfl,fun l h=>by cases h⟩
 | unit=>cases ha
 | pair a b=>cases ha
theorem Aw {a:TT} {x:a.den} {ds:List DV} (h:CR a x ds):(nu a ds).cells=ds∧u9 a.agg (nu a ds):=by
 unfold nu u9
 cases ha:a.agg with
 | true=>exact⟨rfl,ds,rfl⟩
 | false =>
  obtain⟨d,rfl,h1,h2⟩:=Iv ha h
  exact⟨h1,h2⟩
theorem KP {α:Type} {Q:Nat→α→Prop}:∀ n,(∀ i,i<n→∃ a,Q i a)→∃ l:List α,l.length=n∧∀ i a,l[i]? = some a→Q i a
 | 0,_=>⟨[],rfl,fun i a h=>by simp at h⟩
 | n+1,h=>by
  obtain⟨l,h1,h2⟩:=KP n fun i hi=>h i (by omega)
  obtain⟨a,ha⟩:=h n (by omega)
  refine⟨l++[a],by simp[h1],fun i b hb => ?_⟩
  by_cases hi:i<l.length
  ·rw[eG hi] at hb; exact h2 i b hb
  ·rw[gr (by omega)] at hb
   have:i-l.length=0:=by
    by_cases e:i-l.length=0
    ·exact e
    ·rw[fE (by simp; omega)] at hb; cases hb
   rw[this] at hb
   simp only[List.getElem?_cons_zero,az] at hb
   subst hb
   rw[show i=n by omega]; exact ha
theorem Kj {a:TT}:∀ (l:List (a.den×List DV)),(∀ p∈l,CR a p.1 p.2)→ek (CR a) a.agg (l.map (·.1)) (l.map fun p=>nu a p.2)
 | [],_=>by simp only[fB,ek]
 | p::l,h=>by
  simp only[bT,ek]
  have h1:=Aw (h p (by simp))
  exact⟨⟨by rw[h1.1]; exact h p (by simp),h1.2⟩,Kj l fun q hq=>h q (by simp[hq])⟩
theorem Gs:∀ (T:TT) {t:TypeId},uU P T (.inl t)→0<T.size
 | .int _,_,_=>Nat.one_pos
 | .bool,_,_=>Nat.one_pos
 | .str,_,_=>Nat.one_pos
 | .sl _,_,_=>Nat.one_pos
 | .pair a _,_,h=>by
  obtain⟨_,_,_,-,-,-,-,-,h,-⟩:=h
  exact Nat.add_pos_left (Gs a h) _
 | .unit,_,h=>h.elim
theorem LU {ad:Addr} {n:Nat} {cs:List Value} (h:W.cells? base (ad.add 0) n=some cs) (hn:0<n):ad.spot=none:=by
 have h1:=(World.cells?_some h).2.2 0 hn
 have h2:(ad.add 0).add 0=ad:=rfl
 rw[h2] at h1
 have hl:=(World.cells?_some h).2.1
 rw[bK (by omega:0<cs.length)] at h1
 cases hs:ad.spot with
 | none=>rfl
 | some x =>
  rw[World.cell?] at h1
  split at h1
  ·rw[hs] at h1; cases h1
  ·cases h1
theorem GI {ad:Addr} (h:ad.spot=none) (i:Nat):ad.add i=⟨ad.block,ad.off+i,none⟩:=by
 obtain⟨b,o,s⟩:=ad
 simp only at h
 subst h
 unfold Addr.add
 split
 ·rename_i e; subst e; rfl
 ·rfl
theorem y6 (wP:∀ b,spare b=true):∀ (T:TT),
  (∀ fuel t (cs:List Value) y,uU P T (.inl t)→DataW.trod enc P W base spare held fuel t cs=some y→∃ (x:T.den) (ds:List DV),CR T x ds∧cs.length=T.size∧CV W ds cs) ∧
  (∀ n (fs:List Field) (off:Nat) (cs:List Value),uU P T (.inr (fs,off))→(∀ f∈fs,∃ y,DataW.trod enc P W base spare held n f.type ((cs.drop f.offset).take (P.cellsOf f.type))=some y)→off+T.size=cs.length→∃ (x:T.den) (ds:List DV),CR T x ds∧CV W ds (cs.drop off))
 | .int k=>by
  refine⟨fun fuel t cs y ht h => ?_,fun n fs off cs ht=>ht.elim⟩
  obtain⟨n,rfl,-,-⟩:=DataW.trod_int ht.1 h
  refine⟨n,[.val (.int k n)],rfl,rfl,rfl,fun j c hj => ?_⟩
  cases j with
  | zero=>cases hj; exact .val rfl
  | succ j=>simp at hj
 | .bool=>by
  refine⟨fun fuel t cs y ht h => ?_,fun n fs off cs ht=>ht.elim⟩
  obtain⟨n,rfl,-⟩:=DataW.trod_bool ht.1 h
  refine⟨n,[.val (.bool n)],rfl,rfl,rfl,fun j c hj => ?_⟩
  cases j with
  | zero=>cases hj; exact .val rfl
  | succ j=>simp at hj
 | .str=>by
  refine⟨fun fuel t cs y ht h => ?_,fun n fs off cs ht=>ht.elim⟩
  obtain⟨n,rfl,-,-⟩:=DataW.trod_string ht.1 h
  refine⟨n,[.val (.string n)],rfl,rfl,rfl,fun j c hj => ?_⟩
  cases j with
  | zero=>cases hj; exact .val rfl
  | succ j=>simp at hj
 | .unit=>by
  refine⟨fun fuel t cs y ht=>ht.elim,fun n fs off cs ht _ hl=>⟨(),[],rfl,?_,fun j c hj=>by simp at hj⟩⟩
  simp only[TT.size] at hl
  simp; omega
 | .pair a b=>by
  have key:∀ n (f:Field) r (off:Nat) (cs:List Value),P.cellsOf f.type=a.size→uU P a (.inl f.type)→uU P b (.inr (r,off+a.size))→f.offset=off→(∀ g∈f::r,∃ y,DataW.trod enc P W base spare held n g.type ((cs.drop g.offset).take (P.cellsOf g.type))=some y) →
    off+(a.size+b.size)=cs.length→∃ (x:(TT.pair a b).den) (ds:List DV),CR (.pair a b) x ds∧CV W ds (cs.drop off):=by
   intro n f r off cs h1 h2 h3 h4 h5 h7
   obtain⟨y,hy⟩:=h5 f (by simp)
   obtain⟨x1,d1,k1,k2,k3⟩:=(y6 wP a).1 n f.type _ y h2 hy
   obtain⟨x2,d2,m1,m2⟩:=(y6 wP b).2 n r (off+a.size) cs h3 (fun g hg=>h5 g (by simp[hg])) (by omega)
   rw[h4,h1] at k3
   refine⟨(x1,x2),d1++d2,⟨d1,d2,rfl,k1,m1⟩,?_,fun j c hj => ?_⟩
   ·have:=k3.1
    have:=m2.1
    simp only[bU,gq,List.length_drop] at *
    omega
   ·have e1:=lT k1
    by_cases hj1:j<d1.length
    ·rw[eG hj1] at hj
     have:=k3.2 j c hj
     rw[aL,mL,if_pos (by omega)] at this
     rwa [aL]
    ·rw[gr (by omega)] at hj
     have:=m2.2 _ c hj
     rw[aL,pW] at this ⊢
     rwa [show off+j=off+a.size+(j-d1.length) by omega]
  refine⟨fun fuel t cs y ht h => ?_,fun n fs off cs ht h5 hl => ?_⟩
  ·obtain⟨fs,f,r,t1,t2,t3,t4,t5,t6,t7⟩:=ht
   obtain⟨xs,n,-,-,hc,hx,hf⟩:=DataW.trod_struct t1 h
   obtain⟨x,ds,q1,q2⟩:=key n f r 0 cs t5 t6 (by rw[gL]; exact t7) t3 (fun g hg=>by
    obtain⟨i,hi⟩:=List.getElem?_of_mem hg
    rw[← t2,gN] at hi
    have:=hf i g hi
    have hlt:i<xs.length:=by rw[hx]; exact(aN.1 hi).1
    exact⟨xs[i],by rw[this]; simp[hlt]⟩) (by omega)
   exact⟨x,ds,q1,by simp only[TT.size]; omega,by simpa using q2⟩
  ·obtain⟨f,r,t1,t2,t3,t4,t5⟩:=ht
   simp only at t1 t2 t5
   subst t1
   exact key n f r off cs t3 t4 t5 t2 h5 (by simpa [TT.size] using hl)
 | .sl a=>by
  refine⟨fun fuel t cs y ht h => ?_,fun n fs off cs ht=>ht.elim⟩
  obtain⟨t1,e,t2,t3,t4⟩:=ht
  have hsz:=Gs a t4
  rcases DataW.trod_slice t2 h with ⟨rfl,-⟩ | ⟨ad,len,cap,elems,rest,n,-,rfl,-,hb,hlc,hcm,hel,bC,acT,-⟩
  ·refine⟨[],[.sl [] none ⟨false,none⟩],⟨[],_,rfl,by simp only[ek]⟩,rfl,rfl,fun j c hj => ?_⟩
   cases j with
   | zero =>
    cases hj
    exact .sl (s:=0) (vs:=fun _=>undef) ⟨fun r hr=>by simp at hr,fun j c hj=>by simp[flat] at hj⟩ (fun j c hj=>by simp[flat] at hj) (ai 0) ⟨fun h=>(nomatch h),fun b h=>(nomatch h)⟩ (fun _=>rfl) (fun ad h _=>(nomatch h)) (fun t h=>(nomatch h))
   | succ j=>simp at hj
  ·have xS:0<cap→ad.spot=none:=fun hc=>by
    obtain⟨wq,Nc⟩:=acT (wP _)
    have key:∃ iU,W.cells? base (ad.add 0) a.size=some iU:=by
     by_cases hl:0<len
     ·have:=bC 0 hl
      rw[show elems[0]? = some elems[0] from bK (by omega),ko,t3,Nat.zero_mul] at this
      obtain⟨iU,h1,-⟩:=this
      exact⟨iU,h1⟩
     ·have:=Nc 0 (by omega)
      rw[show rest[0]? = some rest[0] from bK (by omega),ko,t3,show (len+0)*a.size=0 by rw[show len+0=0 by omega,Nat.zero_mul]] at this
      obtain⟨iU,h1,-⟩:=this
      exact⟨iU,h1⟩
    obtain⟨iU,h1⟩:=key
    exact LU h1 hsz
   obtain⟨l,hl,hQ⟩:=KP (Q:=fun i (p:a.den×List DV)=>CR a p.1 p.2∧∃ iU,W.cells? base (ad.add (i*a.size)) a.size=some iU∧CV W p.2 iU) len (fun i hi=>by
    have:=bC i hi
    rw[show elems[i]? = some elems[i] from bK (by omega),ko,t3] at this
    obtain⟨iU,h1,h2⟩:=this
    obtain⟨x,ds,q1,q2,q3⟩:=(y6 wP a).1 n e iU _ t4 h2
    exact⟨(x,ds),q1,iU,h1,q3⟩)
   have hCR:∀ p∈l,CR a p.1 p.2:=fun p hp=>by
    obtain⟨i,hi⟩:=List.getElem?_of_mem hp
    exact(hQ i p hi).1
   refine⟨l.map (·.1),[.sl (l.map fun p=>nu a p.2) none ⟨false,none⟩],⟨_,_,rfl,Kj l hCR⟩,rfl,rfl,fun j c hj => ?_⟩
   cases j with
   | succ j=>simp at hj
   | zero =>
   cases hj
   have RM:(l.map fun p=>nu a p.2).length=len:=by rw[gp,hl]
   have sQ:∀ r∈l.map fun p=>nu a p.2,r.cells.length=a.size:=fun r hr=>by
    obtain⟨p,hp,rfl⟩:=eF.1 hr
    rw[(Aw (hCR p hp)).1]; exact lT (hCR p hp)
   have each:∀ j c,(flat (l.map fun p=>nu a p.2))[j]? = some c→c.bS=true∧∃ v,W.cell? ⟨ad.block,ad.off+j,none⟩=some v∧RV (oT W) c v:=by
    intro j c hj
    have hlt:=(aJ.1 hj).1
    rw[Go.Di.gB sQ,RM] at hlt
    have hs0:=hsz
    have xS:=xS (cI (Nat.pos_of_ne_zero fun e=>by rw[e] at hlt; simp at hlt) hlc)
    have hi:j / a.size<len:=(Nat.div_lt_iff_lt_mul hs0).2 hlt
    have hm:j % a.size<a.size:=Nat.mod_lt _ hs0
    have hp:l[j / a.size]? = some l[j / a.size]:=bK (by omega)
    have hr:(l.map fun p=>nu a p.2)[j / a.size]? = some (nu a (l[j / a.size]'(by omega)).2):=by simp[fQ,hp]
    have hf:=vL sQ hr hm
    rw[Nat.div_add_mod' j a.size] at hf
    rw[hf,(Aw (hCR _ (mJ (by omega)))).1] at hj
    obtain⟨q1,iU,q2,q3⟩:=hQ _ _ hp
    have hc:=World.cells?_some q2
    have hv:=q3.2 _ c hj
    obtain⟨v',hk⟩:∃ v',iU[j % a.size]? = some v':=⟨_,bK (by rw[hc.2.1]; exact hm)⟩
    have h3:=hc.2.2 (j % a.size) hm
    rw[hk,GI xS,GI rfl] at h3
    have V0:=pU q1
    rw[bh] at V0
    rw[aL,hk] at hv
    refine⟨V0 c (dL hj),v',?_,hv⟩
    rw[← h3]
    congr 2
    have:=Nat.div_add_mod' j a.size
    simp only; omega
   rw[List.getD_cons_zero,← RM]
   refine .sl (s:=a.size) (vs:=fun j=>(W.cell? ⟨ad.block,ad.off+j,none⟩).getD undef) ⟨sQ,fun j c hj => ?_⟩ (fun j c hj => ?_) (by rw[RM]; exact hlc) ⟨fun h=>(nomatch h),fun b h=>(nomatch h)⟩ (fun h=>(nomatch h)) (fun ad' h hc=>by cases h; exact xS hc) (fun t h=>(nomatch h))
   ·obtain⟨h1,v,h2,h3⟩:=each j c hj
    refine⟨h1,ad.block,ad.off,?_,⟨v,h2⟩,?_⟩
    ·obtain⟨b,o,s⟩:=ad
     have hlt:=(aJ.1 hj).1
     rw[Go.Di.gB sQ,RM] at hlt
     have xS:=xS (cI (Nat.pos_of_ne_zero fun e=>by rw[e] at hlt; simp at hlt) hlc)
     simp only at xS
     subst xS
     rfl
    show W.cell? _=_
    simp only[h2,Option.getD_some]
   ·obtain⟨h1,v,h2,h3⟩:=each j c hj
    simp only[h2,Option.getD_some]; exact h3
def Sz (T:TT) (x:T.den):TV:=if T.agg then .agg (T.cells x) else (T.cells x).headD .unk
theorem aa6 {ι:lW} {S:av} {T:TT} {x:T.den} {ds:List DV} (h:CR T x ds):RT ι S (Sz T x) (nu T ds):=by
 have h1:=nM (ι:=ι) (S:=S) h
 unfold Sz nu
 cases ha:T.agg with
 | true=>simp only[if_true,RT]; exact h1
 | false =>
  obtain⟨d,rfl,-,-⟩:=Iv ha h
  cases hc:T.cells x with
  | nil=>rw[hc] at h1; simp only[dg] at h1
  | cons a l=>rw[hc] at h1; obtain⟨d',m',e,h2,h3⟩:=ak h1; cases e; exact h2
theorem Zi {r:Reach} {T:TT} {t:TypeId} {v:Value} {d:DataW H} {p:List MemPlace} (wP:∀ b,spare b=true) (hT:uU P T (.inl t)) (jr:Value.okWide P W r base t v) (h:DataW.Trod enc P W 0 spare held t v d p) :
  ∃ x ds,CR T x ds∧RV (oT W) (nu T ds) v:=by
 obtain⟨fuel,hf⟩:=h
 obtain⟨x,ds,h1,h2,h3⟩:=(y6 wP T).1 fuel t _ _ hT hf
 refine⟨x,ds,h1,?_⟩
 unfold nu
 cases ha:T.agg with
 | true =>
  have:∃ cs,v = .agg cs:=by
   cases T with
   | pair a b =>
    obtain⟨fs,f,r,t1,-⟩:=hT
    simp only[Value.okWide,t1] at jr
    obtain⟨cs,hv,-⟩:=jr
    exact⟨cs,hv⟩
   | unit=>exact hT.elim
   | _=>cases ha
  obtain⟨cs,rfl⟩:=this
  simp only[Value.cells] at h3
  refine .agg (by rw[h3.1]; simp) fun j c hj => ?_
  have:=h3.2 j c hj
  rwa [aL,gN,← aV] at this
 | false =>
  obtain⟨d,rfl,-,-⟩:=Iv ha h1
  have:v.cells.toList=[v]:=by
   cases v with
   | agg cs =>
    exfalso
    have:∀ (s:TypeDesc),P.underlying t=some s→(∀ fs,s ≠ .struct fs)→(∀ n e,s ≠ .array n e)→False:=by
     intro s hs Fa hs2
     unfold Value.okWide at jr
     rw[hs] at jr
     split at jr
     ·rename_i e; cases e; exact Fa _ rfl
     ·rename_i e; cases e; exact hs2 _ _ rfl
     ·unfold Cell.okWide at jr; split at jr<;>simp_all [Cell.ok]
    cases T with
    | int k=>exact this _ hT.1 (fun _ h=>by cases h) (fun _ _ h=>by cases h)
    | bool=>exact this _ hT.1 (fun _ h=>by cases h) (fun _ _ h=>by cases h)
    | str=>exact this _ hT.1 (fun _ h=>by cases h) (fun _ _ h=>by cases h)
    | sl a=>obtain⟨-,e,h,-⟩:=hT; exact this _ h (fun _ h=>by cases h) (fun _ _ h=>by cases h)
    | _=>cases ha
   | _=>rfl
  have h4:=h3.2 0 d rfl
  rw[this] at h4
  exact h4
end
end Go.Tv
end
section
namespace Go.Tv
open Go Go.Di Go.Conc Go.Co Go.Proofs
open Go.ChangeShapes Go.WideShapes Go.ChangeAt Go.RowKit
def TVs:List TT→List TV→Prop
 | [],[]=>True
 | T::Ts,v::vs=>(∃ x,v=Sz T x)∧TVs Ts vs
 | _,_=>False
def OV (P:Program):List TT→List TypeId→Prop
 | [],[]=>True
 | T::Ts,t::ts=>uU P T (.inl t)∧OV P Ts ts
 | _,_=>False
section
variable {H:Type} {enc:TypeId×Value→H} {P:Program} {W W':World} {base:Nat} {spare:Nat→Bool} {held:Bool}
theorem K4 {r:Reach}:∀ {Ts:List TT} {ts:List TypeId} {vs:List Value} {ds:List (DataW H)} {p:List MemPlace},(∀ b,spare b=true)→OV P Ts ts→(∀ (j:Nat) t v,ts[j]? = some t→vs[j]? = some v→Value.okWide P W r base t v) →
  DataW.TrodAll enc P W 0 spare held ts vs ds p→ds.length=ts.length∧∃ Hp RU,TVs Ts Hp∧dg ej [] Hp RU∧RU.length=vs.length∧∀ j c,RU[j]? = some c→RV (oT W) c (vs.getD j undef)
 | [],[],[],[],_,_,_,_,_=>⟨rfl,[],[],trivial,cz,rfl,fun j c h=>by simp at h⟩
 | T::Ts,t::ts,v::vs,d::ds,p,hsp,hT,jr,h=>by
  obtain⟨p1,q1,h1,h2,-⟩:=h
  obtain⟨x,dv,k1,k2⟩:=Zi hsp hT.1 (jr 0 t v rfl rfl) h1
  obtain⟨e,Hp,RU,m1,m2,m3,m4⟩:=K4 hsp hT.2 (fun j t v h1 h2=>jr (j+1) t v (by simpa using h1) (by simpa using h2)) h2
  refine⟨by simp[e],Sz T x::Hp,nu T dv::RU,⟨⟨x,rfl⟩,m1⟩,aY (aa6 k1) m2,by simp[m3],fun j c hj => ?_⟩
  cases j with
  | zero=>cases hj; exact k2
  | succ j=>exact m4 j c (by simpa using hj)
 | [],_::_,_,_,_,_,hT,_,_=>hT.elim
 | _::_,[],_,_,_,_,hT,_,_=>hT.elim
 | _::_,_::_,[],_,_,_,_,_,h=>by simp[DataW.TrodAll] at h
 | _::_,_::_,_::_,[],_,_,_,_,h=>by simp[DataW.TrodAll] at h
 | [],[],_::_,_,_,_,_,_,h=>by simp[DataW.TrodAll] at h
 | [],[],[],_::_,_,_,_,_,h=>by simp[DataW.TrodAll] at h
theorem Dd (hl:laidOutB P=true) (hst:qP W W'):∀ {ts:List TypeId} {vs:List Value} {ds:List (DataW H)} {p:List MemPlace},(∀ t∈ts,P.readableRec t=true∧t<P.types.size)→(∀ x∈p,x.block<W.heap.size) →
  DataW.TrodAll enc P W 0 (fun _=>true) true ts vs ds p→DataW.TrodAll enc P W' 0 (fun b=>decide (b<W.heap.size)) true ts vs ds p
 | [],[],[],_,_,_,h=>h
 | t::ts,v::vs,d::ds,p,hr,hp,h=>by
  obtain⟨p1,q1,h1,h2,rfl⟩:=h
  exact⟨p1,q1,WideElems.Trod_stays hl (hr t (by simp)).1 (hr t (by simp)).2 h1 (fun x hx=>IF hst (hp x (by simp[hx]))) fun x hx=>by simpa using hp x (by simp[hx]),Dd hl hst (fun t h=>hr t (by simp[h])) (fun x hx=>hp x (by simp[hx])) h2,rfl⟩
 | [],_::_,_,_,_,_,h=>by simp[DataW.TrodAll] at h
 | [],[],_::_,_,_,_,h=>by simp[DataW.TrodAll] at h
 | _::_,[],_,_,_,_,h=>by simp[DataW.TrodAll] at h
 | _::_,_::_,[],_,_,_,h=>by simp[DataW.TrodAll] at h
end
theorem MI {bF:bP} (Xm:∀ aa,qO Tryz.prog aa bF) (tkt:uS bF) {f:FuncId} {n:Nat} (hf:f≠60∧f≠133∧f≠12∧f≠43∧f≠52) (hi:Tryz.prog.inits.idxOf? f=none) {Hp:List TV} (hs:qR (Fh bF (n+1)) f Hp (fun v=>v=iy true))
  {W:World} {RU:List DV} {vals:Array Value} (hr:dg ej [] Hp RU) (hv:gD (oT W) RU vals) :
  ∃ N last o w' t',runNT Tryz.prog (N+1) (solo (G (Frame.enter Tryz.prog f vals .normal) []) W) #[]=(.ended o w',t')∧runN Tryz.prog N (solo (G (Frame.enter Tryz.prog f vals .normal) []) W) = .next last ∧
   step Tryz.prog last = .ended o w'∧Conc.Good Tryz.prog (fun v w=>v = .bool true∧qP W w) last o w' t':=by
 obtain⟨d,v,h1,h2,h3,h4,rfl⟩:=hs RU hr
 have hd:d = .val (.bool true):=by
  cases d<;>simp[RT] at h3
  rw[h3]
 subst hd
 refine Jb ?_ ?_
 ·exact⟨kP _ _ _ _,fun f hf=>(nomatch hf),fun h=>h.elim,fun d h=>(nomatch h)⟩
 ·exact PU (x:=oT W) jS CN Vw Xm (tkt.other f _ hf.1 hf.2.1 hf.2.2.1 hf.2.2.2.1 hf.2.2.2.2) hi h1 (Mb W) rfl hv
set_option maxRecDepth 100000 in
theorem acw {bF:bP} (Xm:∀ aa,qO Tryz.prog aa bF) (tkt:uS bF) {f:FuncId} {fn:Func} {ts:List TypeId} {Ts:List TT} (NF:Tryz.prog.funcs[f]? = some fn) (Xv:fn.params.toList=ts) (hTs:OV Tryz.prog Ts ts) (Ve:∀ t∈ts,Tryz.prog.readableRec t=true∧t<Tryz.prog.types.size) (Xr:fn.resultTypes=#[4]) {s:ChangeSpec} (VY:s.vars=[])
  (abr:∀ (H:Type) (ds:List (DataW H)),ds.length=ts.length→s.fn H ds={ results:=[.lit (.bool true)],args:=ds }) {conds:List PathCond} {fresh handsOn:Bool}
  (hf:f≠60∧f≠133∧f≠12∧f≠43∧f≠52) (hi:Tryz.prog.inits.idxOf? f=none) {n:Nat} (hs:∀ Hp,TVs Ts Hp→qR (Fh bF (n+1)) f Hp (fun v=>v=iy true))
  {os:Os} (started:os.Started) {H:Type} {enc:TypeId×Value→H}
  (witness:∃ (w:World) (tape:Tape) (i:Input),w.os=os∧(w.forCall tape i).Shaped Tryz.checked.prog∧i.vars=[]∧Input.okWide Tryz.checked.prog (w.forCall tape i) .any w.heap.size f i ∧
   s.pre6 enc Tryz.checked.prog fn conds false (w.forCall tape i).memory i.args∧({}:Assume).holds Tryz.checked.prog (lone (Frame.enter Tryz.checked.prog f i.args .normal) [] (w.forCall tape i))) :
  ReturnsInLeavingWide {} Tryz.checked os f .any (s.pre6 enc Tryz.prog fn conds false) (s.post enc Tryz.prog fn false fresh handsOn false):=by
 refine returnsInLeavingWide_of_change_sized (C:=Tryz.checked) Tryz.own started NF witness ?_
 intro W base args ds gs before abq hW _ _ _
 have acM:∀ (j:Nat) t v,ts[j]? = some t→args.toList[j]? = some v→Value.okWide Tryz.prog W .any base t v:=fun j t v h1 h2=>abq j t v (by rw[← Xv] at h1; simpa using h1) (by simpa using h2)
 have hW':=hW
 obtain⟨p,q,hA0,hV,rfl,_,_⟩:=hW
 have hA:DataW.TrodAll enc Tryz.prog W 0 (fun _=>true) true fn.params.toList args.toList ds p:=hA0
 rw[Xv] at hA
 rw[VY] at hV
 obtain⟨rfl,rfl⟩:=trodVars_none hV
 simp only[eU] at hW'
 have hlt:∀ x∈p,x.block<W.heap.size:=fun x hx=>by simpa using hW'.lt x hx
 obtain⟨hdl,Hp,RU,h1,h2,h3,h4⟩:=K4 (fun _=>rfl) hTs acM hA
 obtain⟨M,last,o,w',t',k1,k2,k3,k4⟩:=MI Xm tkt (vals:=args) hf hi (hs Hp h1) h2 ⟨by rw[h3]; simp,fun j c hj=>by
  have:=h4 j c hj
  rwa [aL,gN,← aV] at this⟩
 refine⟨M,last,o,w',t',k1,k2,k3,k4.mono fun v hF => ?_⟩
 obtain⟨rfl,hst⟩:=hF
 have es:s.fn H (ds++[])={ results:=[.lit (.bool true)],args:=ds }:=by rw[eU]; exact abr H ds hdl
 refine⟨_,_,_,[],p,[],hW',?_,?_,by rw[es,VY]; rfl,GN hst _,fun h=>by cases h⟩
 ·rw[es,Xr]; exact trodAll_mk1 (shut_bool Tryz.Yh _)
 ·rw[es,Xv]; exact Dd Tryz.laidOut hst Ve hlt hA
end Go.Tv
end
section
namespace Go.Tv
open Go Go.Di Go.Conc Go.Co Go.Proofs
theorem Wi {x:Int} (h:0≤x∧x≤3):x=0∨x=1∨x=2∨x=3:=by omega
variable {aa:Machine→Trace→Prop} {x:Cx}
theorem sF:∀ {l:List Int} {rows:List DV},ek (CR cv) cv.agg l rows→rows=Go.Tv.rowsOf l
 | [],[],_=>rfl
 | [],_::_,h=>h.elim
 | _::_,[],h=>h.elim
 | n::l,r::rows,h=>by
  obtain⟨⟨h1,h2⟩,h3⟩:=h
  rw[sF h3]
  have h1:r.cells=[.val (.int .i64 n)]:=h1
  have:r = .val (.int .i64 n):=by
   cases r<;>simp only[DV.cells] at h1<;>first | (cases h1; rfl) | (cases h1; done) | exact(h2 rfl _ rfl).elim | skip
   all_goals exact(h2 _ rfl).elim
  rw[this]; rfl
theorem aa4 {ι:lW} {S:av} {t:TT} {l:List t.den} {ap:Ap} {d:DV} (h:RT ι S (.sl t l ap) d):∃ rows tok f,d = .sl rows tok f∧ek (CR t) t.agg l rows∧s4 ι S rows.length tok f ap:=by
 cases d<;>simp only[RT] at h
 exact⟨_,_,_,rfl,h⟩
theorem aa3 {ι:lW} {S:av} {v:Value} {d:DV} (h:RT ι S (.val v) d):d = .val v:=by
 cases d<;>simp only[RT] at h
 rw[h]
theorem ze:∀ l:List Int,xR (Go.Tv.rowsOf l)=some l
 | []=>rfl
 | n::l=>by
  have:=ze l
  simp only[Go.Tv.rowsOf,bT,xR] at this ⊢
  rw[this]; rfl
theorem Tx:Oc zD where
 rev:=fun l d hl h=>by
  cases d<;>simp only[RT] at h
  rename_i rows tok f
  rw[sF h.1]
  refine⟨.sl (Go.Tv.rowsOf l.reverse) none ⟨false,none⟩,?_,rfl,by simp only[RT]; exact⟨Av _,trivial⟩⟩
  have e:mj 133 [.sl (Go.Tv.rowsOf l) tok f]=some (.sl (Go.Tv.rowsOf l.reverse) none ⟨false,none⟩):=by
   simp only[mj,SG,ze,if_pos hl]; rfl
  simp[zD,more,e]
theorem J7 (la ub:List Int) (s:Int):∀ k,zu la ub s k=lM (dF la ub s k)
 | 0=>rfl
 | k+1=>by
  have ih:=J7 la ub s k
  rw[qZ,ih,dF,Hy]
  by_cases h:0≤(k:Int)+s∧(k:Int)+s<la.length
  ·rw[if_pos h,if_neg (by omega)]
   have e:lM (dF la ub s k++[ub.getD k 0+la.getD ((k:Int)+s).toNat 0])=Lc (lM (dF la ub s k)) (ub.getD k 0+la.getD ((k:Int)+s).toNat 0):=by
    simp[lM,List.foldl_append]
   rw[e]
   generalize lM (dF la ub s k)=st
   generalize ub.getD k 0+la.getD ((k:Int)+s).toNat 0=v
   obtain⟨lo,hi,m⟩:=st
   simp only[Lc]
   by_cases h0:m=0
   ·simp[h0]
   ·simp only[h0,if_false]
  ·rw[if_neg h,if_pos (by omega)]
theorem Ri (la ub:List Int) (w:Int):Go.Co.N6 la ub w=gy la ub w:=by
 funext s
 simp only[Go.Co.N6,gy,s9,J7,Bool.decide_and]
theorem GO (la ub:List Int) (w:Int):mu la ub w=pI la ub w (ub.length+la.length+1):=by
 rw[mu,M4,pI,Ri]
def B3 (u l:List Int) (w:Int) (q:List Int):Wk:=⟨q,w,fun i=>([u,l.reverse,u.reverse,l]:List (List Int)).getD i [],fun i=>([l,u.reverse,l.reverse,u]:List (List Int)).getD i []⟩
theorem Vu {u l q:List Int} {w:Int} {d:DV} (h:RT ej [] (Zn u l w q) d):R6 d=some (B3 u l w q):=by
 cases d<;>simp only[Zn,RT] at h
 obtain⟨a0,m,rfl,k0,h⟩:=ak h
 obtain⟨a1,m,rfl,k1,h⟩:=ak h
 obtain⟨a2,m,rfl,k2,h⟩:=ak h
 obtain⟨a3,m,rfl,k3,h⟩:=ak h
 obtain⟨a4,m,rfl,k4,h⟩:=ak h
 obtain⟨a5,m,rfl,k5,h⟩:=ak h
 obtain⟨a6,m,rfl,k6,h⟩:=ak h
 obtain⟨a7,m,rfl,k7,h⟩:=ak h
 obtain⟨a8,m,rfl,k8,h⟩:=ak h
 obtain⟨a9,m,rfl,k9,h⟩:=ak h
 obtain⟨a10,m,rfl,k10,h⟩:=ak h
 obtain⟨a11,m,rfl,k11,h⟩:=ak h
 cases aW h
 cases aa3 k2
 have key:∀ {l:List Int} {d:DV},RT ej [] (.sl cv l .no) d→Ln d=some l:=fun {l d} hd=>by
  obtain⟨r,t,f,rfl,hr,-⟩:=aa4 hd
  rw[sF hr]
  exact ze l
 simp only[R6,Cf,key k3,key k4,key k5,key k6,key k7,key k8,key k9,key k10,key k11]
 rfl
theorem DW {l:List Int} (h:l.length≤1000) (h1:∀ x∈l,0≤x∧x≤9):BO l=true:=by
 simp only[BO,aG,bI,bh]
 exact⟨h,h1⟩
theorem K2:∀ {l:List Int},l.Pairwise (· < ·)→HW l=true
 | [],_=>rfl
 | a::l,h=>by
  rw[List.pairwise_cons] at h
  simp only[HW,aG,bh,bI]
  exact⟨h.1,K2 h.2⟩
theorem O2 {u l q:List Int} {w:Int} (h:Ok u l w q):Zo (B3 u l w q)=true:=by
 have h1:=h.n8
 have h2:=h.len
 have sp:=xJ h
 have hu:=DW sp.1 h.hu
 have hl:=DW sp.2.1 h.hl
 have hur:BO u.reverse=true:=DW (by simp; omega) fun x hx=>h.hu x (by simpa using hx)
 have hlr:BO l.reverse=true:=DW (by simp; omega) fun x hx=>h.hl x (by simpa using hx)
 have h4:(List.range 4).all (fun i=>BO ((B3 u l w q).up i)&&BO ((B3 u l w q).lo i))=true:=by
  simp[fN,B3,hu,hl,hur,hlr]
 have hw0:=h.w0
 have hw2:=h.w2
 have e1:(B3 u l w q).aZ.all (fun x=>decide (0≤x)&&decide (x≤3))=true:=by
  simp only[bh,aG,bI]
  exact h.B5
 unfold Zo
 rw[h4,e1,show HW (B3 u l w q).aZ=true from K2 h.WY,fM (show (B3 u l w q).aZ.length≤1000 from sp.2.2),fM (show 0≤(B3 u l w q).cq from hw0),fM (show (B3 u l w q).cq≤1000 by show w≤1000; omega)]
 rfl
theorem IK {ua la qa ub lb qb:List Int} {wa wb:Int} (ha:Ok ua la wa qa) (hb:Ok ub lb wb qb):dm (B3 ua la wa qa) (B3 ub lb wb qb)=(bp ua la qa ub lb qb (wa+wb)).map fun x=>(x.1,x.2.1,x.2.2.1):=by
 have h3:=ha.len
 have h3':=hb.len
 unfold dm bp
 rw[List.map_flatMap]
 have PE:∀ {α β:Type} {l:List α} {f g:α→List β},(∀ x∈l,f x=g x)→l.flatMap f=l.flatMap g:=fun {α β l f g} h=>by
  induction l with
  | nil=>rfl
  | cons x l ih=>rw[fP,fP,h x (by simp),ih fun y hy=>h y (by simp[hy])]
 refine PE fun x hx => ?_
 rw[List.map_flatMap]
 refine PE fun y hy => ?_
 rw[List.map_map]
 have ex:(B3 ua la wa qa).lo x.toNat=bk x ua la∧(bk x ua la).length=ua.length:=by
  rcases Wi (ha.B5 x hx) with rfl | rfl | rfl | rfl<;>simp[B3,bk,h3]
 have ey:(B3 ub lb wb qb).up y.toNat=aX y ub lb∧(aX y ub lb).length=ub.length:=by
  rcases Wi (hb.B5 y hy) with rfl | rfl | rfl | rfl<;>simp[B3,aX,h3']
 rw[fI,ex.1,ey.1,GO,ex.2,ey.2]
 rfl
theorem Ki:∀ l:List (Int×Int×Int×Unit),ek (CR jQ) jQ.agg l ((l.map fun x=>(x.1,x.2.1,x.2.2.1)).map Z2)
 | []=>trivial
 | (x,y,s,_)::l=>⟨⟨⟨_,_,rfl,rfl,_,_,rfl,rfl,_,_,rfl,rfl,rfl⟩,⟨_,rfl⟩⟩,Ki l⟩
theorem Tw:XN zD where
 VA:=fun ua la qa ub lb qb wa wb d1 d2 ha hb h1 h2=>by
  refine⟨.sl ((dm (B3 ua la wa qa) (B3 ub lb wb qb)).map Z2) none ⟨false,none⟩,?_,rfl,?_⟩
  ·have e:mj 60 [d1,d2]=some (.sl ((dm (B3 ua la wa qa) (B3 ub lb wb qb)).map Z2) none ⟨false,none⟩):=by
    simp only[mj,DJ,Vu h1,Vu h2,O2 ha,O2 hb,gm,if_true]
   simp[zD,more,e]
  ·simp only[RT]
   rw[IK ha hb]
   exact⟨Ki _,trivial⟩
end Go.Tv
end
section
namespace Go.Tv
open Go Go.Di Go.Conc Go.Co Go.Proofs
theorem Tu:Ob zD where
 dup:=fun l d hl h=>by
  cases d<;>simp only[RT] at h
  rename_i rows tok f
  rw[sF h.1]
  refine⟨.sl (Go.Tv.rowsOf l) none ⟨false,none⟩,?_,rfl,by simp only[RT]; exact⟨Av _,trivial⟩⟩
  have e:mj 43 [.sl (Go.Tv.rowsOf l) tok f]=some (.sl (Go.Tv.rowsOf l) none ⟨false,none⟩):=by
   simp only[mj,SX,ze,if_pos hl]; rfl
  simp[zD,more,e]
end Go.Tv
end
section
namespace Go.Tv
open Go Go.Di Go.Proofs
abbrev KR:List TT:=[.sl aK,aK,cv,cv,bG]
set_option maxRecDepth 100000 in
theorem I6 (n:Nat) (Hp:List TV) (h:TVs KR Hp):qR (Fh zD (n+11)) 5 Hp (fun v=>v=iy true):=by
 match Hp,h with
 | [_,_,_,_,_],⟨⟨l,rfl⟩,⟨⟨u,lo,w,q,_⟩,rfl⟩,⟨a,rfl⟩,⟨b,rfl⟩,⟨HP,rfl⟩,_⟩ =>
  have ok:=acB D7 Tx Tw Tu
  exact(((kL D7 ok (by decide) Tryz.func5 rfl v5 (T':=P6) (eM ok)).2 n).I 5 [.sl aK l .no,RF u lo w q,bg a,bg b,.sl cv HP .no] [] (.res (iy true) [] []) rfl trivial).mono fun v hv=>hv.1
end Go.Tv
namespace Go.Proofs.YtedcgbkilmlbhaaGreat
open Go Go.Di Go.Tv Go.Conc Go.Co Go.Proofs
open Go.ChangeShapes Go.WideShapes Go.ChangeAt Go.RowKit
set_option maxRecDepth 100000 in
theorem CX:uU Tryz.prog aK (.inl 25):=by
 have h3:Tryz.prog.underlying 3=some (.int .i64)∧Tryz.prog.cellsOf 3=1:=⟨by kernel_rfl,by kernel_rfl⟩
 have h22:uU Tryz.prog bG (.inl 23):=⟨by kernel_rfl,3,by kernel_rfl,by kernel_rfl,h3⟩
 exact⟨_,_,_,Tryz.underlying25,rfl,rfl,by kernel_rfl,by kernel_rfl,h22,_,_,rfl,rfl,by kernel_rfl,h22,_,_,rfl,rfl,by kernel_rfl,h3,_,_,rfl,rfl,by kernel_rfl,h22,rfl⟩
set_option maxRecDepth 100000 in
theorem yK (os:Os) (started:os.Started) (H:Type) (enc:TypeId×Value→H) :
  ReturnsInLeavingWide {} Tryz.checked os 5 .any (Rows.cutLeastSpec.pre6 enc Tryz.prog Tryz.f5 Rows.cutLeastRow.domain false) (Rows.cutLeastSpec.post enc Tryz.prog Tryz.f5 false true false false) :=
 acw (fun _=>TF) D7 Tryz.func5 (ts:=[22,25,3,3,23]) (Ts:=KR) (by kernel_rfl) ⟨⟨by kernel_rfl,25,by kernel_rfl,by kernel_rfl,CX⟩,CX,⟨by kernel_rfl,by kernel_rfl⟩,⟨by kernel_rfl,by kernel_rfl⟩,⟨by kernel_rfl,3,by kernel_rfl,by kernel_rfl,by kernel_rfl,by kernel_rfl⟩,trivial⟩ (by decide +kernel) (by kernel_rfl) rfl
  (fun _ ds h=>by match ds,h with | [_,_,_,_,_],_=>rfl) (by decide) (by kernel_rfl) (n:=10) (I6 0) started
  (ChangeSpec.witness6 (enc:=enc) (C:=Tryz.checked) false ⟨#[],#[.slice none 0 0,.agg #[.slice none 0 0,.slice none 0 0,.int .i64 0,.slice none 0 0],.int .i64 0,.int .i64 0,.slice none 0 0],[]⟩ 9 (by kernel_rfl) (by kernel_rfl) (by kernel_rfl) (by kernel_rfl))
set_option maxRecDepth 100000 in
theorem cutLeast_holds:Rows.CutLeastSaid :=
 OpenClaim.holds_of_wide_leaving 5 Tryz.f5 rfl rfl rfl rfl rfl rfl rfl ⟨rfl,rfl,rfl,rfl,rfl⟩ rfl rfl rfl rfl rfl (by kernel_rfl) Tryz.func5 (by kernel_rfl)
  (of_decide_eq_true (by kernel_rfl)) (by unfold Func.isWrapper; first | (rw[if_pos (by decide +kernel)]; kernel_rfl) | (rw[if_neg (by decide +kernel)]; exact⟨rfl,rfl⟩))
  (fun os started H enc _=>yK os started H enc)
#print axioms cutLeast_holds
end Go.Proofs.YtedcgbkilmlbhaaGreat
end
