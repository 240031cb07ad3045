/- CutFits: for any two pieces with lists of at most 20, any shift and any numbers, the law returns true and changes nothing. -/
import Derived.Test.YtoccmmopffbbfaaPk31
import Derived.Test.YtoccmmopffbbfaaPk05
import Derived.Test.YtoccmmopffbbfaaRows
import Derived.Conc.LeavingOf
import Derived.ProofKit
import Derived.Test.YtoccmmopffbbfaaPk10
section
namespace Go.Tv
open Go Go.Di Go.Conc Go.Co Go.Proofs
theorem tk_tabF:TabK tabF where
 other:=fun f a h1 h2 h3 h4=>by
  have:tab1 f a=none:=by
   unfold tab1
   split
   ·exact absurd rfl h1
   ·exact absurd rfl h2
   ·exact absurd rfl h4
   ·rfl
  simp[tabF,more,Ne.symm h3,this]
 fit:=by simp[tabF,more,DV.eqbs,bb]
def rowsOf (nums:List Int):List DV:=nums.map fun n => .val (.int .i64 n)
theorem rowsR_of:∀ nums:List Int,RowsR (CR I64) I64.agg nums (rowsOf nums)
 | []=>trivial
 | n::l=>⟨⟨rfl,fun l h=>by cases h⟩,rowsR_of l⟩
def cxOf (W:World) (b o n:Nat):Cx:={ w:=W,μ:=fun _=>0,κ:=fun _=>0,Fz:=fun b' j=>b'=b∧o≤j∧j<o+n,S:=[] }
end Go.Tv
end
section
namespace Go.Tv
open Go Go.Di Go.Conc Go.Co Go.Proofs
open Go.ChangeShapes Go.WideShapes Go.ChangeAt Go.RowKit
theorem Try.own:ownKnob Try.prog.godebug=none:=by kernel_rfl
theorem Try.laidOut:laidOutB Try.prog=true:=by kernel_rfl
theorem Try.under4:Try.prog.underlying 4=some .bool:=by kernel_rfl
theorem stays_frame {W w':World} (h:Stays W w') (may:MemPlace→Prop):W.keptBut w' may:=by
 refine⟨h.os,h.output,fun i hi => ?_⟩
 rw[h.block i hi]
 split<;>simp_all
theorem stays_same {W w':World} (h:Stays W w') {p:MemPlace} (hp:p.block<W.heap.size):W.sameAt w' p:=by
 cases p with
 | cell b o=>exact World.cell?_of_block (w:=W) (h.block b hp)
 | map b=>exact h.block b hp
end Go.Tv
end
section
namespace Go.Tv
open Go Go.Di Go.Conc Go.Co Go.Proofs
open Go.ChangeShapes Go.WideShapes Go.ChangeAt Go.RowKit
def cxAll (W:World):Cx:={ w:=W,μ:=fun _=>0,κ:=fun _=>0,Fz:=fun b o=>∃ v,W.cell? ⟨b,o,none⟩=some v,S:=[] }
theorem rel_cxAll (W:World):Rel (cxAll W) where
 cells:=fun id l hl=>by simp[cxAll] at hl
 tails:=fun id e s n hl=>by simp[cxAll] at hl
 objs:=fun id b hl=>by simp[cxAll] at hl
 inj:=fun i j hi=>absurd hi (not_live_nil i)
 frz:=fun b j h=>h
 sep:=fun id ⟨l,hl⟩=>by simp[cxAll] at hl
 sept:=fun id e s n hl=>by simp[cxAll] at hl
def TT.hasSl:TT→Bool
 | .sl _=>true
 | .pair a b=>a.hasSl||b.hasSl
 | _=>false
def TT.nest:TT→Bool
 | .sl a=>a.hasSl
 | .pair a b=>a.nest||b.nest
 | _=>false
theorem nest_has:∀ {T:TT},T.nest=true→T.hasSl=true
 | .sl _,_=>rfl
 | .pair a b,h=>by
  simp only[TT.nest,Bool.or_eq_true] at h
  simp only[TT.hasSl,Bool.or_eq_true]
  exact h.imp nest_has nest_has
 | .int _,h=>by cases h
 | .bool,h=>by cases h
 | .str,h=>by cases h
 | .unit,h=>by cases h
def Spotless (v:Value):Prop:=∀ ad n c,v = .slice (some ad) n c→ad.spot=none
def SpotW (W:World):Prop:=∀ ad v,W.cell? ad=some v→Spotless v
section
variable (P:Program)
def HasT:TT→TypeId ⊕ (List Field×Nat)→Prop
 | .int k,.inl t=>P.underlying t=some (.int k)∧P.cellsOf t=1
 | .bool,.inl t=>P.underlying t=some .bool∧P.cellsOf t=1
 | .str,.inl t=>P.underlying t=some .string∧P.cellsOf t=1
 | .sl a,.inl t=>P.cellsOf t=1∧∃ e,P.underlying t=some (.slice e)∧P.cellsOf e=a.size∧HasT a (.inl e)
 | .pair a b,.inl t=>∃ fs f r,P.underlying t=some (.struct fs)∧fs.toList=f::r∧f.offset=0∧P.cellsOf t=a.size+b.size∧P.cellsOf f.type=a.size∧HasT a (.inl f.type)∧HasT b (.inr (r,a.size))
 | .unit,.inr x=>x.1=[]
 | .pair a b,.inr x=>∃ f r,x.1=f::r∧f.offset=x.2∧P.cellsOf f.type=a.size∧HasT a (.inl f.type)∧HasT b (.inr (r,x.2+a.size))
 | _,_=>False
end
section
variable {H:Type} {enc:TypeId×Value→H} {P:Program} {W:World} {base:Nat} {spare:Nat→Bool} {held:Bool}
def CV (W:World) (ds:List DV) (cs:List Value):Prop:=ds.length=cs.length∧∀ j c,ds[j]? = some c→RV (cxAll W) c (cs.getD j undef)
def rowMk (a:TT) (ds:List DV):DV:=if a.agg then .agg ds else ds.headD dundef
theorem cr_one {a:TT} {x:a.den} {ds:List DV} (ha:a.agg=false) (h:CR a x ds):∃ d,ds=[d]∧d.cells=[d]∧∀ l,d ≠ .agg l:=by
 cases a with
 | int k=>simp only[CR] at h; subst h; exact⟨_,rfl,rfl,fun l h=>by cases h⟩
 | bool=>simp only[CR] at h; subst h; exact⟨_,rfl,rfl,fun l h=>by cases h⟩
 | str=>simp only[CR] at h; subst h; exact⟨_,rfl,rfl,fun l h=>by cases h⟩
 | sl t=>simp only[CR] at h; obtain⟨rows,f,rfl,-⟩:=h; exact⟨_,rfl,rfl,fun l h=>by cases h⟩
 | unit=>cases ha
 | pair a b=>cases ha
theorem rowMk_ok {a:TT} {x:a.den} {ds:List DV} (h:CR a x ds):(rowMk a ds).cells=ds∧RowOK a.agg (rowMk a ds):=by
 unfold rowMk RowOK
 cases ha:a.agg with
 | true=>exact⟨rfl,ds,rfl⟩
 | false =>
  obtain⟨d,rfl,h1,h2⟩:=cr_one ha h
  exact⟨h1,h2⟩
theorem list_of {α:Type} {Q:Nat→α→Prop}:∀ n,(∀ i,i<n→∃ a,Q i a)→∃ l:List α,l.length=n∧∀ i a,l[i]? = some a→Q i a
 | 0,_=>⟨[],rfl,fun i a h=>by simp at h⟩
 | n+1,h=>by
  obtain⟨l,h1,h2⟩:=list_of n fun i hi=>h i (by omega)
  obtain⟨a,ha⟩:=h n (by omega)
  refine⟨l++[a],by simp[h1],fun i b hb => ?_⟩
  by_cases hi:i<l.length
  ·rw[List.getElem?_append_left hi] at hb; exact h2 i b hb
  ·rw[List.getElem?_append_right (by omega)] at hb
   have:i-l.length=0:=by
    by_cases e:i-l.length=0
    ·exact e
    ·rw[List.getElem?_eq_none (by simp; omega)] at hb; cases hb
   rw[this] at hb
   simp only[List.getElem?_cons_zero,Option.some.injEq] at hb
   subst hb
   rw[show i=n by omega]; exact ha
theorem rows_of {a:TT}:∀ (l:List (a.den×List DV)),(∀ p∈l,CR a p.1 p.2)→RowsR (CR a) a.agg (l.map (·.1)) (l.map fun p=>rowMk a p.2)
 | [],_=>by simp only[List.map_nil,RowsR]
 | p::l,h=>by
  simp only[List.map_cons,RowsR]
  have h1:=rowMk_ok (h p (by simp))
  exact⟨⟨by rw[h1.1]; exact h p (by simp),h1.2⟩,rows_of l fun q hq=>h q (by simp[hq])⟩
theorem add_spot {ad:Addr} (h:ad.spot=none) (i:Nat):ad.add i=⟨ad.block,ad.off+i,none⟩:=by
 obtain⟨b,o,s⟩:=ad
 simp only at h
 subst h
 unfold Addr.add
 split
 ·rename_i e; subst e; rfl
 ·rfl
theorem read_ok:∀ (T:TT),(T.nest=true→SpotW W) →
  (∀ fuel t (cs:List Value) y,HasT P T (.inl t)→DataW.trod enc P W base spare held fuel t cs=some y→(T.hasSl=true→∀ v∈cs,Spotless v)→∃ (x:T.den) (ds:List DV),CR T x ds∧cs.length=T.size∧CV W ds cs) ∧
  (∀ n (fs:List Field) (off:Nat) (cs:List Value),HasT P T (.inr (fs,off))→(∀ f∈fs,∃ y,DataW.trod enc P W base spare held n f.type ((cs.drop f.offset).take (P.cellsOf f.type))=some y)→(T.hasSl=true→∀ v∈cs,Spotless v)→off+T.size=cs.length→∃ (x:T.den) (ds:List DV),CR T x ds∧CV W ds (cs.drop off))
 | .int k,_=>by
  refine⟨fun fuel t cs y ht h _ => ?_,fun n fs off cs ht=>ht.elim⟩
  obtain⟨n,rfl,-,-⟩:=DataW.trod_int ht.1 h
  refine⟨n,[.val (.int k n)],rfl,rfl,rfl,fun j c hj => ?_⟩
  cases j with
  | zero=>cases hj; exact .val rfl
  | succ j=>simp at hj
 | .bool,_=>by
  refine⟨fun fuel t cs y ht h _ => ?_,fun n fs off cs ht=>ht.elim⟩
  obtain⟨n,rfl,-⟩:=DataW.trod_bool ht.1 h
  refine⟨n,[.val (.bool n)],rfl,rfl,rfl,fun j c hj => ?_⟩
  cases j with
  | zero=>cases hj; exact .val rfl
  | succ j=>simp at hj
 | .str,_=>by
  refine⟨fun fuel t cs y ht h _ => ?_,fun n fs off cs ht=>ht.elim⟩
  obtain⟨n,rfl,-,-⟩:=DataW.trod_string ht.1 h
  refine⟨n,[.val (.string n)],rfl,rfl,rfl,fun j c hj => ?_⟩
  cases j with
  | zero=>cases hj; exact .val rfl
  | succ j=>simp at hj
 | .unit,_=>by
  refine⟨fun fuel t cs y ht=>ht.elim,fun n fs off cs ht _ _ hl=>⟨(),[],rfl,?_,fun j c hj=>by simp at hj⟩⟩
  simp only[TT.size] at hl
  simp; omega
 | .pair a b,hW=>by
  have hWa:a.nest=true→SpotW W:=fun h=>hW (by simp[TT.nest,h])
  have hWb:b.nest=true→SpotW W:=fun h=>hW (by simp[TT.nest,h])
  have key:∀ n (f:Field) r (off:Nat) (cs:List Value),P.cellsOf f.type=a.size→HasT P a (.inl f.type)→HasT P b (.inr (r,off+a.size))→f.offset=off→(∀ g∈f::r,∃ y,DataW.trod enc P W base spare held n g.type ((cs.drop g.offset).take (P.cellsOf g.type))=some y) →
    ((TT.pair a b).hasSl=true→∀ v∈cs,Spotless v)→off+(a.size+b.size)=cs.length→∃ (x:(TT.pair a b).den) (ds:List DV),CR (.pair a b) x ds∧CV W ds (cs.drop off):=by
   intro n f r off cs h1 h2 h3 h4 h5 h6 h7
   obtain⟨y,hy⟩:=h5 f (by simp)
   obtain⟨x1,d1,k1,k2,k3⟩:=(read_ok a hWa).1 n f.type _ y h2 hy fun hs v hv=>h6 (by simp[TT.hasSl,hs]) v (List.mem_of_mem_drop (List.mem_of_mem_take hv))
   obtain⟨x2,d2,m1,m2⟩:=(read_ok b hWb).2 n r (off+a.size) cs h3 (fun g hg=>h5 g (by simp[hg])) (fun hs v hv=>h6 (by simp[TT.hasSl,hs]) v hv) (by omega)
   rw[h4,h1] at k3
   refine⟨(x1,x2),d1++d2,⟨d1,d2,rfl,k1,m1⟩,?_,fun j c hj => ?_⟩
   ·have:=k3.1
    have:=m2.1
    simp only[List.length_append,List.length_take,List.length_drop] at *
    omega
   ·have e1:=cr_len k1
    by_cases hj1:j<d1.length
    ·rw[List.getElem?_append_left hj1] at hj
     have:=k3.2 j c hj
     rw[List.getD_eq_getElem?_getD,List.getElem?_take,if_pos (by omega)] at this
     rwa [List.getD_eq_getElem?_getD]
    ·rw[List.getElem?_append_right (by omega)] at hj
     have:=m2.2 _ c hj
     rw[List.getD_eq_getElem?_getD,List.getElem?_drop] at this ⊢
     rwa [show off+j=off+a.size+(j-d1.length) by omega]
  refine⟨fun fuel t cs y ht h hs => ?_,fun n fs off cs ht h5 hs hl => ?_⟩
  ·obtain⟨fs,f,r,t1,t2,t3,t4,t5,t6,t7⟩:=ht
   obtain⟨xs,n,-,-,hc,hx,hf⟩:=DataW.trod_struct t1 h
   obtain⟨x,ds,q1,q2⟩:=key n f r 0 cs t5 t6 (by rw[Nat.zero_add]; exact t7) t3 (fun g hg=>by
    obtain⟨i,hi⟩:=List.getElem?_of_mem hg
    rw[← t2,Array.getElem?_toList] at hi
    have:=hf i g hi
    have hlt:i<xs.length:=by rw[hx]; exact(Array.getElem?_eq_some_iff.1 hi).1
    exact⟨xs[i],by rw[this]; simp[hlt]⟩) hs (by omega)
   exact⟨x,ds,q1,by simp only[TT.size]; omega,by simpa using q2⟩
  ·obtain⟨f,r,t1,t2,t3,t4,t5⟩:=ht
   simp only at t1 t2 t5
   subst t1
   exact key n f r off cs t3 t4 t5 t2 h5 hs (by simpa [TT.size] using hl)
 | .sl a,hW=>by
  refine⟨fun fuel t cs y ht h hs => ?_,fun n fs off cs ht=>ht.elim⟩
  obtain⟨t1,e,t2,t3,t4⟩:=ht
  have hWa:a.nest=true→SpotW W:=fun h=>hW (nest_has h)
  have hsp:=hs rfl
  rcases DataW.trod_slice t2 h with ⟨rfl,-⟩ | ⟨ad,len,cap,elems,rest,n,-,rfl,-,hb,hlc,hcm,hel,hget,-,-⟩
  ·refine⟨[],[.sl [] none ⟨false,none⟩],⟨[],_,rfl,by simp only[RowsR]⟩,rfl,rfl,fun j c hj => ?_⟩
   cases j with
   | zero =>
    cases hj
    exact .sl (s:=0) (vs:=fun _=>undef) ⟨fun r hr=>by simp at hr,fun j c hj=>by simp[flat] at hj⟩ (fun j c hj=>by simp[flat] at hj) (Nat.le_refl 0) ⟨fun h=>(nomatch h),fun b h=>(nomatch h)⟩ (fun _=>rfl) (fun ad h=>(nomatch h)) (fun t h=>(nomatch h))
   | succ j=>simp at hj
  ·have hspot:ad.spot=none:=hsp _ (List.mem_singleton.2 rfl) ad len cap rfl
   obtain⟨l,hl,hQ⟩:=list_of (Q:=fun i (p:a.den×List DV)=>CR a p.1 p.2∧∃ cs',W.cells? base (ad.add (i*a.size)) a.size=some cs'∧CV W p.2 cs') len (fun i hi=>by
    have:=hget i hi
    rw[show elems[i]? = some elems[i] from List.getElem?_eq_getElem (by omega),Option.bind_eq_some_iff,t3] at this
    obtain⟨cs',h1,h2⟩:=this
    obtain⟨x,ds,q1,q2,q3⟩:=(read_ok a hWa).1 n e cs' _ t4 h2 fun ha v hv=>by
     obtain⟨j,hj⟩:=List.getElem?_of_mem hv
     have hc:=World.cells?_some h1
     exact hW ha _ v ((hc.2.2 j (by have:=(List.getElem?_eq_some_iff.1 hj).1; omega)).trans hj)
    exact⟨(x,ds),q1,cs',h1,q3⟩)
   have hCR:∀ p∈l,CR a p.1 p.2:=fun p hp=>by
    obtain⟨i,hi⟩:=List.getElem?_of_mem hp
    exact(hQ i p hi).1
   refine⟨l.map (·.1),[.sl (l.map fun p=>rowMk a p.2) none ⟨false,none⟩],⟨_,_,rfl,rows_of l hCR⟩,rfl,rfl,fun j c hj => ?_⟩
   cases j with
   | succ j=>simp at hj
   | zero =>
   cases hj
   have hrl:(l.map fun p=>rowMk a p.2).length=len:=by rw[List.length_map,hl]
   have hcl:∀ r∈l.map fun p=>rowMk a p.2,r.cells.length=a.size:=fun r hr=>by
    obtain⟨p,hp,rfl⟩:=List.mem_map.1 hr
    rw[(rowMk_ok (hCR p hp)).1]; exact cr_len (hCR p hp)
   have each:∀ j c,(flat (l.map fun p=>rowMk a p.2))[j]? = some c→c.pure1=true∧∃ v,W.cell? ⟨ad.block,ad.off+j,none⟩=some v∧RV (cxAll W) c v:=by
    intro j c hj
    have hlt:=(List.getElem?_eq_some_iff.1 hj).1
    rw[flat_len hcl,hrl] at hlt
    have hs0:0<a.size:=Nat.pos_of_ne_zero fun e=>by rw[e] at hlt; simp at hlt
    have hi:j / a.size<len:=(Nat.div_lt_iff_lt_mul hs0).2 hlt
    have hm:j % a.size<a.size:=Nat.mod_lt _ hs0
    have hp:l[j / a.size]? = some l[j / a.size]:=List.getElem?_eq_getElem (by omega)
    have hr:(l.map fun p=>rowMk a p.2)[j / a.size]? = some (rowMk a (l[j / a.size]'(by omega)).2):=by simp[List.getElem?_map,hp]
    have hf:=flat_get hcl hr hm
    rw[Nat.div_add_mod' j a.size] at hf
    rw[hf,(rowMk_ok (hCR _ (List.getElem_mem (by omega)))).1] at hj
    obtain⟨q1,cs',q2,q3⟩:=hQ _ _ hp
    have hc:=World.cells?_some q2
    have hv:=q3.2 _ c hj
    obtain⟨v',hk⟩:∃ v',cs'[j % a.size]? = some v':=⟨_,List.getElem?_eq_getElem (by rw[hc.2.1]; exact hm)⟩
    have h3:=hc.2.2 (j % a.size) hm
    rw[hk,add_spot hspot,add_spot rfl] at h3
    have hpure:=cr_pure q1
    rw[List.all_eq_true] at hpure
    rw[List.getD_eq_getElem?_getD,hk] at hv
    refine⟨hpure c (List.mem_of_getElem? hj),v',?_,hv⟩
    rw[← h3]
    congr 2
    have:=Nat.div_add_mod' j a.size
    simp only; omega
   rw[List.getD_cons_zero,← hrl]
   refine .sl (s:=a.size) (vs:=fun j=>(W.cell? ⟨ad.block,ad.off+j,none⟩).getD undef) ⟨hcl,fun j c hj => ?_⟩ (fun j c hj => ?_) (by rw[hrl]; exact hlc) ⟨fun h=>(nomatch h),fun b h=>(nomatch h)⟩ (fun h=>(nomatch h)) (fun ad' h=>by cases h; exact hspot) (fun t h=>(nomatch h))
   ·obtain⟨h1,v,h2,h3⟩:=each j c hj
    refine⟨h1,ad.block,ad.off,?_,⟨v,h2⟩,?_⟩
    ·obtain⟨b,o,s⟩:=ad
     simp only at hspot
     subst hspot
     rfl
    show W.cell? _=_
    simp only[h2,Option.getD_some]
   ·obtain⟨h1,v,h2,h3⟩:=each j c hj
    simp only[h2,Option.getD_some]; exact h3
def tvOf (T:TT) (x:T.den):TV:=if T.agg then .agg (T.cells x) else (T.cells x).headD .unk
theorem rt_mk {ι:Ids} {S:Store} {T:TT} {x:T.den} {ds:List DV} (h:CR T x ds):RT ι S (tvOf T x) (rowMk T ds):=by
 have h1:=cr_cells (ι:=ι) (S:=S) h
 unfold tvOf rowMk
 cases ha:T.agg with
 | true=>simp only[if_true,RT]; exact h1
 | false =>
  obtain⟨d,rfl,-,-⟩:=cr_one ha h
  cases hc:T.cells x with
  | nil=>rw[hc] at h1; simp only[RTl] at h1
  | cons a l=>rw[hc] at h1; obtain⟨d',m',e,h2,h3⟩:=rtl_cases h1; cases e; exact h2
theorem okWide_cells {r:Reach} {u:TypeId} {v:Value} (h:Cell.okWide P W r base u v):Spotless v:=by
 rintro ad n c rfl
 unfold Cell.okWide at h
 split at h<;>first | (rename_i e; cases e; done) | skip
 unfold Cell.ok at h
 split at h<;>simp_all [World.has]
theorem okWide_spot {r:Reach} {t:TypeId} {v:Value} (h:Value.okWide P W r base t v):∀ u∈v.cells.toList,Spotless u:=by
 unfold Value.okWide at h
 split at h
 ·obtain⟨cs,rfl,-,ts,-,-,hr⟩:=h
  intro u hu
  obtain⟨i,hi⟩:=List.getElem?_of_mem hu
  obtain⟨u',-,h2⟩:=hr i u (by simpa [Value.cells] using hi)
  exact okWide_cells h2
 ·obtain⟨cs,rfl,-,ts,-,-,hr⟩:=h
  intro u hu
  obtain⟨i,hi⟩:=List.getElem?_of_mem hu
  obtain⟨u',-,h2⟩:=hr i u (by simpa [Value.cells] using hi)
  exact okWide_cells h2
 ·intro u hu
  have hs:=okWide_cells h
  cases v with
  | agg cs=>unfold Cell.okWide at h; split at h<;>simp_all [Cell.ok]
  | _=>simp only[Value.cells,List.mem_singleton] at hu; rw[hu]; exact hs
theorem arg_ok {r:Reach} {T:TT} {t:TypeId} {v:Value} {d:DataW H} {p:List MemPlace} (hT:HasT P T (.inl t)) (hn:T.nest=true→SpotW W) (hok:Value.okWide P W r base t v) (h:DataW.Trod enc P W 0 spare held t v d p) :
  ∃ x ds,CR T x ds∧RV (cxAll W) (rowMk T ds) v:=by
 obtain⟨fuel,hf⟩:=h
 obtain⟨x,ds,h1,h2,h3⟩:=(read_ok T hn).1 fuel t _ _ hT hf fun _=>okWide_spot hok
 refine⟨x,ds,h1,?_⟩
 unfold rowMk
 cases ha:T.agg with
 | true =>
  have:∃ cs,v = .agg cs:=by
   cases T with
   | pair a b =>
    obtain⟨fs,f,r,t1,-⟩:=hT
    simp only[Value.okWide,t1] at hok
    obtain⟨cs,hv,-⟩:=hok
    exact⟨cs,hv⟩
   | unit=>exact hT.elim
   | _=>cases ha
  obtain⟨cs,rfl⟩:=this
  simp only[Value.cells] at h3
  refine .agg (by rw[h3.1]; simp) fun j c hj => ?_
  have:=h3.2 j c hj
  rwa [List.getD_eq_getElem?_getD,Array.getElem?_toList,← Array.getD_eq_getD_getElem?] at this
 | false =>
  obtain⟨d,rfl,-,-⟩:=cr_one ha h1
  have:v.cells.toList=[v]:=by
   cases v with
   | agg cs =>
    exfalso
    have:∀ (s:TypeDesc),P.underlying t=some s→(∀ fs,s ≠ .struct fs)→(∀ n e,s ≠ .array n e)→False:=by
     intro s hs hs1 hs2
     unfold Value.okWide at hok
     rw[hs] at hok
     split at hok
     ·rename_i e; cases e; exact hs1 _ rfl
     ·rename_i e; cases e; exact hs2 _ _ rfl
     ·unfold Cell.okWide at hok; split at hok<;>simp_all [Cell.ok]
    cases T with
    | int k=>exact this _ hT.1 (fun _ h=>by cases h) (fun _ _ h=>by cases h)
    | bool=>exact this _ hT.1 (fun _ h=>by cases h) (fun _ _ h=>by cases h)
    | str=>exact this _ hT.1 (fun _ h=>by cases h) (fun _ _ h=>by cases h)
    | sl a=>obtain⟨-,e,h,-⟩:=hT; exact this _ h (fun _ h=>by cases h) (fun _ _ h=>by cases h)
    | _=>cases ha
   | _=>rfl
  have h4:=h3.2 0 d rfl
  rw[this] at h4
  exact h4
end
end Go.Tv
end
section
namespace Go.Tv
open Go Go.Di Go.Conc Go.Co Go.Proofs
open Go.ChangeShapes Go.WideShapes Go.ChangeAt Go.RowKit
def TVs:List TT→List TV→Prop
 | [],[]=>True
 | T::Ts,v::vs=>(∃ x,v=tvOf T x)∧TVs Ts vs
 | _,_=>False
def HasTs (P:Program):List TT→List TypeId→Prop
 | [],[]=>True
 | T::Ts,t::ts=>HasT P T (.inl t)∧HasTs P Ts ts
 | _,_=>False
section
variable {H:Type} {enc:TypeId×Value→H} {P:Program} {W W':World} {base:Nat} {spare:Nat→Bool} {held:Bool}
theorem args_ok {r:Reach}:∀ {Ts:List TT} {ts:List TypeId} {vs:List Value} {ds:List (DataW H)} {p:List MemPlace},HasTs P Ts ts→(∀ T∈Ts,T.nest=true→SpotW W)→(∀ (j:Nat) t v,ts[j]? = some t→vs[j]? = some v→Value.okWide P W r base t v) →
  DataW.TrodAll enc P W 0 spare held ts vs ds p→ds.length=ts.length∧∃ tvs dvs,TVs Ts tvs∧RTl noIds [] tvs dvs∧dvs.length=vs.length∧∀ j c,dvs[j]? = some c→RV (cxAll W) c (vs.getD j undef)
 | [],[],[],[],_,_,_,_,_=>⟨rfl,[],[],trivial,rtl_nil,rfl,fun j c h=>by simp at h⟩
 | T::Ts,t::ts,v::vs,d::ds,p,hT,hn,hok,h=>by
  obtain⟨p1,q1,h1,h2,-⟩:=h
  obtain⟨x,dv,k1,k2⟩:=arg_ok hT.1 (hn T (by simp)) (hok 0 t v rfl rfl) h1
  obtain⟨e,tvs,dvs,m1,m2,m3,m4⟩:=args_ok hT.2 (fun T h=>hn T (by simp[h])) (fun j t v h1 h2=>hok (j+1) t v (by simpa using h1) (by simpa using h2)) h2
  refine⟨by simp[e],tvOf T x::tvs,rowMk T dv::dvs,⟨⟨x,rfl⟩,m1⟩,rtl_cons (rt_mk k1) m2,by simp[m3],fun j c hj => ?_⟩
  cases j with
  | zero=>cases hj; exact k2
  | succ j=>exact m4 j c (by simpa using hj)
 | [],_::_,_,_,_,hT,_,_,_=>hT.elim
 | _::_,[],_,_,_,hT,_,_,_=>hT.elim
 | _::_,_::_,[],_,_,_,_,_,h=>by simp[DataW.TrodAll] at h
 | _::_,_::_,_::_,[],_,_,_,_,h=>by simp[DataW.TrodAll] at h
 | [],[],_::_,_,_,_,_,_,h=>by simp[DataW.TrodAll] at h
 | [],[],[],_::_,_,_,_,_,h=>by simp[DataW.TrodAll] at h
theorem all_stays (hl:laidOutB P=true) (hst:Stays W W'):∀ {ts:List TypeId} {vs:List Value} {ds:List (DataW H)} {p:List MemPlace},(∀ t∈ts,P.readableRec t=true∧t<P.types.size)→(∀ x∈p,x.block<W.heap.size) →
  DataW.TrodAll enc P W 0 (fun _=>true) true ts vs ds p→DataW.TrodAll enc P W' 0 (fun b=>decide (b<W.heap.size)) true ts vs ds p
 | [],[],[],_,_,_,h=>h
 | t::ts,v::vs,d::ds,p,hr,hp,h=>by
  obtain⟨p1,q1,h1,h2,rfl⟩:=h
  exact⟨p1,q1,WideElems.Trod_stays hl (hr t (by simp)).1 (hr t (by simp)).2 h1 (fun x hx=>stays_same hst (hp x (by simp[hx]))) fun x hx=>by simpa using hp x (by simp[hx]),all_stays hl hst (fun t h=>hr t (by simp[h])) (fun x hx=>hp x (by simp[hx])) h2,rfl⟩
 | [],_::_,_,_,_,_,h=>by simp[DataW.TrodAll] at h
 | [],[],_::_,_,_,_,h=>by simp[DataW.TrodAll] at h
 | _::_,[],_,_,_,_,h=>by simp[DataW.TrodAll] at h
 | _::_,_::_,[],_,_,_,h=>by simp[DataW.TrodAll] at h
end
theorem law_runsG {f:FuncId} {n:Nat} (hf:f≠51∧f≠110∧f≠17∧f≠58) (hi:Try.prog.inits.idxOf? f=none) {tvs:List TV} (hs:ISpec (isoT tabF (n+1)) f tvs (fun v=>v=bval true))
  {W:World} {dvs:List DV} {vals:Array Value} (hr:RTl noIds [] tvs dvs) (hv:RVs (cxAll W) dvs vals) :
  ∃ N last o w' t',runNT Try.prog (N+1) (solo (G (Frame.enter Try.prog f vals .normal) []) W) #[]=(.ended o w',t')∧runN Try.prog N (solo (G (Frame.enter Try.prog f vals .normal) []) W) = .next last ∧
   step Try.prog last = .ended o w'∧Conc.Good Try.prog (fun v w=>v = .bool true∧Stays W w) last o w' t':=by
 obtain⟨d,v,h1,h2,h3,h4,rfl⟩:=hs dvs hr
 have hd:d = .val (.bool true):=by
  cases d<;>simp[RT] at h3
  rw[h3]
 subst hd
 refine good_of_km ?_ ?_
 ·exact⟨okF_enter _ _ _ _,fun f hf=>(nomatch hf),fun h=>h.elim,fun d h=>(nomatch h)⟩
 ·exact top_bool (x:=cxAll W) plain_try mixed_try (ty_ok _) (fun _=>tabF_ok) (tk_tabF.other f _ hf.1 hf.2.1 hf.2.2.1 hf.2.2.2) hi h1 (rel_cxAll W) rfl hv
set_option maxRecDepth 100000 in
theorem rowG {f:FuncId} {fn:Func} {ts:List TypeId} {Ts:List TT} (hfn:Try.prog.funcs[f]? = some fn) (hpar:fn.params.toList=ts) (hTs:HasTs Try.prog Ts ts) (hn:Ts.all (fun T => !T.nest)=true) (hrd:∀ t∈ts,Try.prog.readableRec t=true∧t<Try.prog.types.size) (hres:fn.resultTypes=#[4]) {s:ChangeSpec} (hvars:s.vars=[])
  (hspec:∀ (H:Type) (ds:List (DataW H)),ds.length=ts.length→s.fn H ds={ results:=[.lit (.bool true)],args:=ds }) {conds:List PathCond} {fresh handsOn:Bool}
  (hf:f≠51∧f≠110∧f≠17∧f≠58) (hi:Try.prog.inits.idxOf? f=none) {n:Nat} (hs:∀ tvs,TVs Ts tvs→ISpec (isoT tabF (n+1)) f tvs (fun v=>v=bval true))
  {os:Os} (started:os.Started) {H:Type} {enc:TypeId×Value→H}
  (witness:∃ (w:World) (tape:Tape) (i:Input),w.os=os∧(w.forCall tape i).Shaped Try.checked.prog∧i.vars=[]∧Input.okWide Try.checked.prog (w.forCall tape i) .any w.heap.size f i ∧
   s.pre6 enc Try.checked.prog fn conds false (w.forCall tape i).memory i.args∧({}:Assume).holds Try.checked.prog (lone (Frame.enter Try.checked.prog f i.args .normal) [] (w.forCall tape i))) :
  ReturnsInLeavingWide {} Try.checked os f .any (s.pre6 enc Try.prog fn conds false) (s.post enc Try.prog fn false fresh handsOn false):=by
 refine returnsInLeavingWide_of_change_sized (C:=Try.checked) Try.own started hfn witness ?_
 intro W base args ds gs before hval0 hW _ _ _
 have hval:∀ (j:Nat) t v,ts[j]? = some t→args.toList[j]? = some v→Value.okWide Try.prog W .any base t v:=fun j t v h1 h2=>hval0 j t v (by rw[← hpar] at h1; simpa using h1) (by simpa using h2)
 have hW':=hW
 obtain⟨p,q,hA0,hV,rfl,_,_⟩:=hW
 have hA:DataW.TrodAll enc Try.prog W 0 (fun _=>true) true fn.params.toList args.toList ds p:=hA0
 rw[hpar] at hA
 rw[hvars] at hV
 obtain⟨rfl,rfl⟩:=trodVars_none hV
 simp only[List.append_nil] at hW'
 have hlt:∀ x∈p,x.block<W.heap.size:=fun x hx=>by simpa using hW'.lt x hx
 obtain⟨hdl,tvs,dvs,h1,h2,h3,h4⟩:=args_ok hTs (fun T hT h=>by have:=List.all_eq_true.1 hn T hT; rw[h] at this; cases this) hval hA
 obtain⟨M,last,o,w',t',k1,k2,k3,k4⟩:=law_runsG (vals:=args) hf hi (hs tvs h1) h2 ⟨by rw[h3]; simp,fun j c hj=>by
  have:=h4 j c hj
  rwa [List.getD_eq_getElem?_getD,Array.getElem?_toList,← Array.getD_eq_getD_getElem?] at this⟩
 refine⟨M,last,o,w',t',k1,k2,k3,k4.mono fun v hF => ?_⟩
 obtain⟨rfl,hst⟩:=hF
 have es:s.fn H (ds++[])={ results:=[.lit (.bool true)],args:=ds }:=by rw[List.append_nil]; exact hspec H ds hdl
 refine⟨_,_,_,[],p,[],hW',?_,?_,by rw[es,hvars]; rfl,stays_frame hst _,fun h=>by cases h⟩
 ·rw[es,hres]; exact trodAll_mk1 (shut_bool Try.under4 _)
 ·rw[es,hpar]; exact all_stays Try.laidOut hst hrd hlt hA
end Go.Tv
end
section
namespace Go.Tv
open Go Go.Di Go.Proofs
theorem ints_rows:∀ {l:List Int} {rows:List DV},RowsR (CR I64) I64.agg l rows→rows=Go.Tv.rowsOf l
 | [],[],_=>rfl
 | [],_::_,h=>h.elim
 | _::_,[],h=>h.elim
 | n::l,r::rows,h=>by
  obtain⟨⟨h1,h2⟩,h3⟩:=h
  rw[ints_rows h3]
  have h1:r.cells=[.val (.int .i64 n)]:=h1
  have:r = .val (.int .i64 n):=by
   cases r<;>simp only[DV.cells] at h1<;>first | (cases h1; rfl) | (cases h1; done) | exact(h2 rfl _ rfl).elim | skip
   all_goals exact(h2 _ rfl).elim
  rw[this]; rfl
theorem ints_of:∀ l:List Int,intsD (Go.Tv.rowsOf l)=some l
 | []=>rfl
 | n::l=>by
  have:=ints_of l
  simp only[Go.Tv.rowsOf,List.map_cons,intsD] at this ⊢
  rw[this]; rfl
theorem tu_tabF:TabU tabF where
 dup:=fun l d hl h=>by
  cases d<;>simp only[RT] at h
  rename_i rows tok f
  rw[ints_rows h.1]
  refine⟨.sl (Go.Tv.rowsOf l) none ⟨false,none⟩,?_,rfl,by simp only[RT]; exact⟨rowsR_of _,trivial⟩⟩
  have e:tab1 58 [.sl (Go.Tv.rowsOf l) tok f]=some (.sl (Go.Tv.rowsOf l) none ⟨false,none⟩):=by
   simp only[tab1,dupD,ints_of,if_pos hl]; rfl
  simp[tabF,more,e]
abbrev fitsT:List TT:=[PieceT,PieceT,I64,IntsT]
set_option maxRecDepth 100000 in
theorem fits_spec (n:Nat) (tvs:List TV) (h:TVs fitsT tvs):ISpec (isoT tabF (n+9)) 4 tvs (fun v=>v=bval true):=by
 match tvs,h with
 | [_,_,_,_],⟨⟨⟨u,l,w,q,_⟩,rfl⟩,⟨⟨u2,l2,w2,q2,_⟩,rfl⟩,⟨s,rfl⟩,⟨nums,rfl⟩,_⟩ =>
  exact(((mkI tk_tabF (fok9 tk_tabF tu_tabF) (by decide) Try.func4 rfl v4 (T':=F9) (tok_up (fok9 tk_tabF tu_tabF))).2 n).I 4 [pcV u l w q,pcV u2 l2 w2 q2,ival s,.sl I64 nums .no] [] (.res (bval true) [] []) rfl trivial).mono fun v hv=>hv.1
end Go.Tv
namespace Go.Proofs.Ytoccmmopffbbfaa
open Go Go.Di Go.Tv Go.Conc Go.Co Go.Proofs
open Go.ChangeShapes Go.WideShapes Go.ChangeAt Go.RowKit
set_option maxRecDepth 100000 in
theorem has_piece:HasT Try.prog PieceT (.inl 26):=by
 have h3:Try.prog.underlying 3=some (.int .i64)∧Try.prog.cellsOf 3=1:=⟨by kernel_rfl,by kernel_rfl⟩
 have h22:HasT Try.prog IntsT (.inl 22):=⟨by kernel_rfl,3,by kernel_rfl,by kernel_rfl,h3⟩
 exact⟨_,_,_,Try.underlying26,rfl,rfl,by kernel_rfl,by kernel_rfl,h22,_,_,rfl,rfl,by kernel_rfl,h22,_,_,rfl,rfl,by kernel_rfl,h3,_,_,rfl,rfl,by kernel_rfl,h22,rfl⟩
set_option maxRecDepth 100000 in
theorem cutFits_lifted (os:Os) (started:os.Started) (H:Type) (enc:TypeId×Value→H) :
  ReturnsInLeavingWide {} Try.checked os 4 .any (Rows.cutFitsSpec.pre6 enc Try.prog Try.f4 Rows.cutFitsRow.domain false) (Rows.cutFitsSpec.post enc Try.prog Try.f4 false true false false) :=
 rowG Try.func4 (ts:=[26,26,3,22]) (Ts:=fitsT) (by kernel_rfl) ⟨has_piece,has_piece,⟨by kernel_rfl,by kernel_rfl⟩,⟨by kernel_rfl,3,by kernel_rfl,by kernel_rfl,by kernel_rfl,by kernel_rfl⟩,trivial⟩ rfl (by decide +kernel) (by kernel_rfl) rfl
  (fun _ ds h=>by match ds,h with | [_,_,_,_],_=>rfl) (by decide) (by kernel_rfl) (n:=8) (fits_spec 0) started
  (ChangeSpec.witness6 (enc:=enc) (C:=Try.checked) false ⟨#[],#[.agg #[.slice none 0 0,.slice none 0 0,.int .i64 0,.slice none 0 0],.agg #[.slice none 0 0,.slice none 0 0,.int .i64 0,.slice none 0 0],.int .i64 0,.slice none 0 0],[]⟩ 8 (by kernel_rfl) (by kernel_rfl) (by kernel_rfl) (by kernel_rfl))
set_option maxRecDepth 100000 in
theorem cutFits_holds:Rows.CutFitsSaid :=
 OpenClaim.holds_of_wide_leaving 4 Try.f4 rfl rfl rfl rfl rfl rfl rfl ⟨rfl,rfl,rfl,rfl,rfl⟩ rfl rfl rfl rfl rfl (by kernel_rfl) Try.func4 (by kernel_rfl)
  (of_decide_eq_true (by kernel_rfl)) (by unfold Func.isWrapper; first | (rw[if_pos (by decide +kernel)]; kernel_rfl) | (rw[if_neg (by decide +kernel)]; exact⟨rfl,rfl⟩))
  (fun os started H enc _=>cutFits_lifted os started H enc)
#print axioms cutFits_holds
end Go.Proofs.Ytoccmmopffbbfaa
end
