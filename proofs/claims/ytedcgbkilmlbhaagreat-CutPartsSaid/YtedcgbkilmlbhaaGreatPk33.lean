/- ab3 -/
import Derived.Test.YtedcgbkilmlbhaaGreatPk32
import Derived.Test.YtedcgbkilmlbhaaGreatPk05
import Derived.Test.YtedcgbkilmlbhaaGreatRows
import Derived.Conc.LeavingOf
import Derived.ProofKit
import Derived.Test.YtedcgbkilmlbhaaGreatPk11
import Derived.Test.YtedcgbkilmlbhaaGreatPk12
section
namespace Go.Tv
open Go Go.Di Go.Conc Go.Co Go.Proofs
theorem DU:yQ Dq where
 other:=fun f a h1 h2 h3 h4=>by
  have:mZ f a=none:=by
   unfold mZ
   split
   ·exact absurd rfl h1
   ·exact absurd rfl h2
   ·exact absurd rfl h4
   ·rfl
  simp[Dq,more,Ne.symm h3,this]
 fit:=by simp[Dq,more,DV.E5,bb]
def rowsOf (HB:List Int):List DV:=HB.map fun n => .val (.int .i64 n)
theorem Aq:∀ HB:List Int,dW (CR bZ) bZ.agg HB (rowsOf HB)
 | []=>trivial
 | n::l=>⟨⟨rfl,fun l h=>by cases h⟩,Aq l⟩
def adK (W:World) (b o n:Nat):Cx:={ w:=W,μ:=fun _=>0,κ:=fun _=>0,Fz:=fun b' j=>b'=b∧o≤j∧j<o+n,S:=[] }
end Go.Tv
end
section
namespace Go.Tv
open Go Go.Di Go.Conc Go.Co Go.Proofs
open Go.ChangeShapes Go.WideShapes Go.ChangeAt Go.RowKit
theorem Tryz.own:ownKnob Tryz.prog.godebug=none:=by kernel_rfl
theorem Tryz.laidOut:laidOutB Tryz.prog=true:=by kernel_rfl
theorem Tryz.XH:Tryz.prog.underlying 4=some .bool:=by kernel_rfl
theorem GG {W w':World} (h:qL W w') (may:MemPlace→Prop):W.keptBut w' may:=by
 refine⟨h.os,h.output,fun i hi => ?_⟩
 rw[h.block i hi]
 split<;>simp_all
theorem It {W w':World} (h:qL W w') {p:MemPlace} (hp:p.block<W.heap.size):W.sameAt w' p:=by
 cases p with
 | cell b o=>exact World.cell?_of_block (w:=W) (h.block b hp)
 | map b=>exact h.block b hp
end Go.Tv
end
section
namespace Go.Tv
open Go Go.Di Go.Conc Go.Co Go.Proofs
open Go.ChangeShapes Go.WideShapes Go.ChangeAt Go.RowKit
def ow (W:World):Cx:={ w:=W,μ:=fun _=>0,κ:=fun _=>0,Fz:=fun b o=>∃ v,W.cell? ⟨b,o,none⟩=some v,S:=[] }
theorem LP (W:World):Rel (ow W) where
 cells:=fun id l hl=>by simp[ow] at hl
 dz:=fun id e s n hl=>by simp[ow] at hl
 dD:=fun id b hl=>by simp[ow] at hl
 inj:=fun i j hi=>absurd hi (fB i)
 xH:=fun b j h=>h
 sep:=fun id ⟨l,hl⟩=>by simp[ow] at hl
 ng:=fun id e s n hl=>by simp[ow] at hl
 ops:=fun id e s l z hl=>by simp[ow] at hl
section
variable (P:Program)
def tG:TT→TypeId ⊕ (List Field×Nat)→Prop
 | .int k,.inl t=>P.underlying t=some (.int k)∧P.cellsOf t=1
 | .bool,.inl t=>P.underlying t=some .bool∧P.cellsOf t=1
 | .str,.inl t=>P.underlying t=some .string∧P.cellsOf t=1
 | .sl a,.inl t=>P.cellsOf t=1∧∃ e,P.underlying t=some (.slice e)∧P.cellsOf e=a.size∧tG a (.inl e)
 | .pair a b,.inl t=>∃ fs f r,P.underlying t=some (.struct fs)∧fs.toList=f::r∧f.offset=0∧P.cellsOf t=a.size+b.size∧P.cellsOf f.type=a.size∧tG a (.inl f.type)∧tG b (.inr (r,a.size))
 | .unit,.inr x=>x.1=[]
 | .pair a b,.inr x=>∃ f r,x.1=f::r∧f.offset=x.2∧P.cellsOf f.type=a.size∧tG a (.inl f.type)∧tG b (.inr (r,x.2+a.size))
 | _,_=>False
end
section
variable {H:Type} {enc:TypeId×Value→H} {P:Program} {W:World} {base:Nat} {spare:Nat→Bool} {held:Bool}
def CV (W:World) (ds:List DV) (cs:List Value):Prop:=ds.length=cs.length∧∀ j c,ds[j]? = some c→RV (ow W) c (cs.getD j undef)
def mI (a:TT) (ds:List DV):DV:=if a.agg then .agg ds else ds.headD aX
theorem Ii {a:TT} {x:a.den} {ds:List DV} (ha:a.agg=false) (h:CR a x ds):∃ d,ds=[d]∧d.cells=[d]∧∀ l,d ≠ .agg l:=by
 cases a with
 | int k=>simp only[CR] at h; subst h; exact⟨_,rfl,rfl,fun l h=>by cases h⟩
 | bool=>simp only[CR] at h; subst h; exact⟨_,rfl,rfl,fun l h=>by cases h⟩
 | str=>simp only[CR] at h; subst h; exact⟨_,rfl,rfl,fun l h=>by cases h⟩
 | sl t=>simp only[CR] at h; obtain⟨rows,f,rfl,-⟩:=h; exact⟨_,rfl,rfl,fun l h=>by cases h⟩
 | unit=>cases ha
 | pair a b=>cases ha
theorem Ar {a:TT} {x:a.den} {ds:List DV} (h:CR a x ds):(mI a ds).cells=ds∧s6 a.agg (mI a ds):=by
 unfold mI s6
 cases ha:a.agg with
 | true=>exact⟨rfl,ds,rfl⟩
 | false =>
  obtain⟨d,rfl,h1,h2⟩:=Ii ha h
  exact⟨h1,h2⟩
theorem Kq {α:Type} {Q:Nat→α→Prop}:∀ n,(∀ i,i<n→∃ a,Q i a)→∃ l:List α,l.length=n∧∀ i a,l[i]? = some a→Q i a
 | 0,_=>⟨[],rfl,fun i a h=>by simp at h⟩
 | n+1,h=>by
  obtain⟨l,h1,h2⟩:=Kq n fun i hi=>h i (by omega)
  obtain⟨a,ha⟩:=h n (by omega)
  refine⟨l++[a],by simp[h1],fun i b hb => ?_⟩
  by_cases hi:i<l.length
  ·rw[ep hi] at hb; exact h2 i b hb
  ·rw[fQ (by omega)] at hb
   have:i-l.length=0:=by
    by_cases e:i-l.length=0
    ·exact e
    ·rw[eS (by simp; omega)] at hb; cases hb
   rw[this] at hb
   simp only[List.getElem?_cons_zero,az] at hb
   subst hb
   rw[show i=n by omega]; exact ha
theorem JZ {a:TT}:∀ (l:List (a.den×List DV)),(∀ p∈l,CR a p.1 p.2)→dW (CR a) a.agg (l.map (·.1)) (l.map fun p=>mI a p.2)
 | [],_=>by simp only[ek,dW]
 | p::l,h=>by
  simp only[bD,dW]
  have h1:=Ar (h p (by simp))
  exact⟨⟨by rw[h1.1]; exact h p (by simp),h1.2⟩,JZ l fun q hq=>h q (by simp[hq])⟩
theorem Gg:∀ (T:TT) {t:TypeId},tG P T (.inl t)→0<T.size
 | .int _,_,_=>Nat.one_pos
 | .bool,_,_=>Nat.one_pos
 | .str,_,_=>Nat.one_pos
 | .sl _,_,_=>Nat.one_pos
 | .pair a _,_,h=>by
  obtain⟨_,_,_,-,-,-,-,-,h,-⟩:=h
  exact Nat.add_pos_left (Gg a h) _
 | .unit,_,h=>h.elim
theorem LD {ad:Addr} {n:Nat} {cs:List Value} (h:W.cells? base (ad.add 0) n=some cs) (hn:0<n):ad.spot=none:=by
 have h1:=(World.cells?_some h).2.2 0 hn
 have h2:(ad.add 0).add 0=ad:=rfl
 rw[h2] at h1
 have hl:=(World.cells?_some h).2.1
 rw[bV (by omega:0<cs.length)] at h1
 cases hs:ad.spot with
 | none=>rfl
 | some x =>
  rw[World.cell?] at h1
  split at h1
  ·rw[hs] at h1; cases h1
  ·cases h1
theorem GA {ad:Addr} (h:ad.spot=none) (i:Nat):ad.add i=⟨ad.block,ad.off+i,none⟩:=by
 obtain⟨b,o,s⟩:=ad
 simp only at h
 subst h
 unfold Addr.add
 split
 ·rename_i e; subst e; rfl
 ·rfl
theorem zf (wI:∀ b,spare b=true):∀ (T:TT),
  (∀ fuel t (cs:List Value) y,tG P T (.inl t)→DataW.trod enc P W base spare held fuel t cs=some y→∃ (x:T.den) (ds:List DV),CR T x ds∧cs.length=T.size∧CV W ds cs) ∧
  (∀ n (fs:List Field) (off:Nat) (cs:List Value),tG P T (.inr (fs,off))→(∀ f∈fs,∃ y,DataW.trod enc P W base spare held n f.type ((cs.drop f.offset).take (P.cellsOf f.type))=some y)→off+T.size=cs.length→∃ (x:T.den) (ds:List DV),CR T x ds∧CV W ds (cs.drop off))
 | .int k=>by
  refine⟨fun fuel t cs y ht h => ?_,fun n fs off cs ht=>ht.elim⟩
  obtain⟨n,rfl,-,-⟩:=DataW.trod_int ht.1 h
  refine⟨n,[.val (.int k n)],rfl,rfl,rfl,fun j c hj => ?_⟩
  cases j with
  | zero=>cases hj; exact .val rfl
  | succ j=>simp at hj
 | .bool=>by
  refine⟨fun fuel t cs y ht h => ?_,fun n fs off cs ht=>ht.elim⟩
  obtain⟨n,rfl,-⟩:=DataW.trod_bool ht.1 h
  refine⟨n,[.val (.bool n)],rfl,rfl,rfl,fun j c hj => ?_⟩
  cases j with
  | zero=>cases hj; exact .val rfl
  | succ j=>simp at hj
 | .str=>by
  refine⟨fun fuel t cs y ht h => ?_,fun n fs off cs ht=>ht.elim⟩
  obtain⟨n,rfl,-,-⟩:=DataW.trod_string ht.1 h
  refine⟨n,[.val (.string n)],rfl,rfl,rfl,fun j c hj => ?_⟩
  cases j with
  | zero=>cases hj; exact .val rfl
  | succ j=>simp at hj
 | .unit=>by
  refine⟨fun fuel t cs y ht=>ht.elim,fun n fs off cs ht _ hl=>⟨(),[],rfl,?_,fun j c hj=>by simp at hj⟩⟩
  simp only[TT.size] at hl
  simp; omega
 | .pair a b=>by
  have key:∀ n (f:Field) r (off:Nat) (cs:List Value),P.cellsOf f.type=a.size→tG P a (.inl f.type)→tG P b (.inr (r,off+a.size))→f.offset=off→(∀ g∈f::r,∃ y,DataW.trod enc P W base spare held n g.type ((cs.drop g.offset).take (P.cellsOf g.type))=some y) →
    off+(a.size+b.size)=cs.length→∃ (x:(TT.pair a b).den) (ds:List DV),CR (.pair a b) x ds∧CV W ds (cs.drop off):=by
   intro n f r off cs h1 h2 h3 h4 h5 h7
   obtain⟨y,hy⟩:=h5 f (by simp)
   obtain⟨x1,d1,k1,k2,k3⟩:=(zf wI a).1 n f.type _ y h2 hy
   obtain⟨x2,d2,m1,m2⟩:=(zf wI b).2 n r (off+a.size) cs h3 (fun g hg=>h5 g (by simp[hg])) (by omega)
   rw[h4,h1] at k3
   refine⟨(x1,x2),d1++d2,⟨d1,d2,rfl,k1,m1⟩,?_,fun j c hj => ?_⟩
   ·have:=k3.1
    have:=m2.1
    simp only[cO,lY,List.length_drop] at *
    omega
   ·have e1:=lB k1
    by_cases hj1:j<d1.length
    ·rw[ep hj1] at hj
     have:=k3.2 j c hj
     rw[aO,mb,if_pos (by omega)] at this
     rwa [aO]
    ·rw[fQ (by omega)] at hj
     have:=m2.2 _ c hj
     rw[aO,pK] at this ⊢
     rwa [show off+j=off+a.size+(j-d1.length) by omega]
  refine⟨fun fuel t cs y ht h => ?_,fun n fs off cs ht h5 hl => ?_⟩
  ·obtain⟨fs,f,r,t1,t2,t3,t4,t5,t6,t7⟩:=ht
   obtain⟨xs,n,-,-,hc,hx,hf⟩:=DataW.trod_struct t1 h
   obtain⟨x,ds,q1,q2⟩:=key n f r 0 cs t5 t6 (by rw[gQ]; exact t7) t3 (fun g hg=>by
    obtain⟨i,hi⟩:=List.getElem?_of_mem hg
    rw[← t2,gy] at hi
    have:=hf i g hi
    have hlt:i<xs.length:=by rw[hx]; exact(aG.1 hi).1
    exact⟨xs[i],by rw[this]; simp[hlt]⟩) (by omega)
   exact⟨x,ds,q1,by simp only[TT.size]; omega,by simpa using q2⟩
  ·obtain⟨f,r,t1,t2,t3,t4,t5⟩:=ht
   simp only at t1 t2 t5
   subst t1
   exact key n f r off cs t3 t4 t5 t2 h5 (by simpa [TT.size] using hl)
 | .sl a=>by
  refine⟨fun fuel t cs y ht h => ?_,fun n fs off cs ht=>ht.elim⟩
  obtain⟨t1,e,t2,t3,t4⟩:=ht
  have hsz:=Gg a t4
  rcases DataW.trod_slice t2 h with ⟨rfl,-⟩ | ⟨ad,len,cap,elems,rest,n,-,rfl,-,hb,hlc,hcm,hel,bh,acH,-⟩
  ·refine⟨[],[.sl [] none ⟨false,none⟩],⟨[],_,rfl,by simp only[dW]⟩,rfl,rfl,fun j c hj => ?_⟩
   cases j with
   | zero =>
    cases hj
    exact .sl (s:=0) (vs:=fun _=>undef) ⟨fun r hr=>by simp at hr,fun j c hj=>by simp[flat] at hj⟩ (fun j c hj=>by simp[flat] at hj) (ai 0) ⟨fun h=>(nomatch h),fun b h=>(nomatch h)⟩ (fun _=>rfl) (fun ad h _=>(nomatch h)) (fun t h=>(nomatch h))
   | succ j=>simp at hj
  ·have xT:0<cap→ad.spot=none:=fun hc=>by
    obtain⟨wh,MP⟩:=acH (wI _)
    have key:∃ iB,W.cells? base (ad.add 0) a.size=some iB:=by
     by_cases hl:0<len
     ·have:=bh 0 hl
      rw[show elems[0]? = some elems[0] from bV (by omega),jS,t3,Nat.zero_mul] at this
      obtain⟨iB,h1,-⟩:=this
      exact⟨iB,h1⟩
     ·have:=MP 0 (by omega)
      rw[show rest[0]? = some rest[0] from bV (by omega),jS,t3,show (len+0)*a.size=0 by rw[show len+0=0 by omega,Nat.zero_mul]] at this
      obtain⟨iB,h1,-⟩:=this
      exact⟨iB,h1⟩
    obtain⟨iB,h1⟩:=key
    exact LD h1 hsz
   obtain⟨l,hl,hQ⟩:=Kq (Q:=fun i (p:a.den×List DV)=>CR a p.1 p.2∧∃ iB,W.cells? base (ad.add (i*a.size)) a.size=some iB∧CV W p.2 iB) len (fun i hi=>by
    have:=bh i hi
    rw[show elems[i]? = some elems[i] from bV (by omega),jS,t3] at this
    obtain⟨iB,h1,h2⟩:=this
    obtain⟨x,ds,q1,q2,q3⟩:=(zf wI a).1 n e iB _ t4 h2
    exact⟨(x,ds),q1,iB,h1,q3⟩)
   have hCR:∀ p∈l,CR a p.1 p.2:=fun p hp=>by
    obtain⟨i,hi⟩:=List.getElem?_of_mem hp
    exact(hQ i p hi).1
   refine⟨l.map (·.1),[.sl (l.map fun p=>mI a p.2) none ⟨false,none⟩],⟨_,_,rfl,JZ l hCR⟩,rfl,rfl,fun j c hj => ?_⟩
   cases j with
   | succ j=>simp at hj
   | zero =>
   cases hj
   have Nh:(l.map fun p=>mI a p.2).length=len:=by rw[jh,hl]
   have qC:∀ r∈l.map fun p=>mI a p.2,r.cells.length=a.size:=fun r hr=>by
    obtain⟨p,hp,rfl⟩:=fN.1 hr
    rw[(Ar (hCR p hp)).1]; exact lB (hCR p hp)
   have each:∀ j c,(flat (l.map fun p=>mI a p.2))[j]? = some c→c.bF=true∧∃ v,W.cell? ⟨ad.block,ad.off+j,none⟩=some v∧RV (ow W) c v:=by
    intro j c hj
    have hlt:=(aJ.1 hj).1
    rw[Go.Di.fW qC,Nh] at hlt
    have hs0:=hsz
    have xT:=xT (cz (Nat.pos_of_ne_zero fun e=>by rw[e] at hlt; simp at hlt) hlc)
    have hi:j / a.size<len:=(Nat.div_lt_iff_lt_mul hs0).2 hlt
    have hm:j % a.size<a.size:=Nat.mod_lt _ hs0
    have hp:l[j / a.size]? = some l[j / a.size]:=bV (by omega)
    have hr:(l.map fun p=>mI a p.2)[j / a.size]? = some (mI a (l[j / a.size]'(by omega)).2):=by simp[en,hp]
    have hf:=vG qC hr hm
    rw[Nat.div_add_mod' j a.size] at hf
    rw[hf,(Ar (hCR _ (pI (by omega)))).1] at hj
    obtain⟨q1,iB,q2,q3⟩:=hQ _ _ hp
    have hc:=World.cells?_some q2
    have hv:=q3.2 _ c hj
    obtain⟨v',hk⟩:∃ v',iB[j % a.size]? = some v':=⟨_,bV (by rw[hc.2.1]; exact hm)⟩
    have h3:=hc.2.2 (j % a.size) hm
    rw[hk,GA xT,GA rfl] at h3
    have Vt:=pG q1
    rw[aW] at Vt
    rw[aO,hk] at hv
    refine⟨Vt c (cW hj),v',?_,hv⟩
    rw[← h3]
    congr 2
    have:=Nat.div_add_mod' j a.size
    simp only; omega
   rw[List.getD_cons_zero,← Nh]
   refine .sl (s:=a.size) (vs:=fun j=>(W.cell? ⟨ad.block,ad.off+j,none⟩).getD undef) ⟨qC,fun j c hj => ?_⟩ (fun j c hj => ?_) (by rw[Nh]; exact hlc) ⟨fun h=>(nomatch h),fun b h=>(nomatch h)⟩ (fun h=>(nomatch h)) (fun Z2 h hc=>by cases h; exact xT hc) (fun t h=>(nomatch h))
   ·obtain⟨h1,v,h2,h3⟩:=each j c hj
    refine⟨h1,ad.block,ad.off,?_,⟨v,h2⟩,?_⟩
    ·obtain⟨b,o,s⟩:=ad
     have hlt:=(aJ.1 hj).1
     rw[Go.Di.fW qC,Nh] at hlt
     have xT:=xT (cz (Nat.pos_of_ne_zero fun e=>by rw[e] at hlt; simp at hlt) hlc)
     simp only at xT
     subst xT
     rfl
    show W.cell? _=_
    simp only[h2,Option.getD_some]
   ·obtain⟨h1,v,h2,h3⟩:=each j c hj
    simp only[h2,Option.getD_some]; exact h3
def RG (T:TT) (x:T.den):TV:=if T.agg then .agg (T.cells x) else (T.cells x).headD .unk
theorem aa1 {ι:lK} {S:ak} {T:TT} {x:T.den} {ds:List DV} (h:CR T x ds):RT ι S (RG T x) (mI T ds):=by
 have h1:=mX (ι:=ι) (S:=S) h
 unfold RG mI
 cases ha:T.agg with
 | true=>simp only[if_true,RT]; exact h1
 | false =>
  obtain⟨d,rfl,-,-⟩:=Ii ha h
  cases hc:T.cells x with
  | nil=>rw[hc] at h1; simp only[cQ] at h1
  | cons a l=>rw[hc] at h1; obtain⟨d',m',e,h2,h3⟩:=ax h1; cases e; exact h2
theorem YF {r:Reach} {T:TT} {t:TypeId} {v:Value} {d:DataW H} {p:List MemPlace} (wI:∀ b,spare b=true) (hT:tG P T (.inl t)) (jY:Value.okWide P W r base t v) (h:DataW.Trod enc P W 0 spare held t v d p) :
  ∃ x ds,CR T x ds∧RV (ow W) (mI T ds) v:=by
 obtain⟨fuel,hf⟩:=h
 obtain⟨x,ds,h1,h2,h3⟩:=(zf wI T).1 fuel t _ _ hT hf
 refine⟨x,ds,h1,?_⟩
 unfold mI
 cases ha:T.agg with
 | true =>
  have:∃ cs,v = .agg cs:=by
   cases T with
   | pair a b =>
    obtain⟨fs,f,r,t1,-⟩:=hT
    simp only[Value.okWide,t1] at jY
    obtain⟨cs,hv,-⟩:=jY
    exact⟨cs,hv⟩
   | unit=>exact hT.elim
   | _=>cases ha
  obtain⟨cs,rfl⟩:=this
  simp only[Value.cells] at h3
  refine .agg (by rw[h3.1]; simp) fun j c hj => ?_
  have:=h3.2 j c hj
  rwa [aO,gy,← aT] at this
 | false =>
  obtain⟨d,rfl,-,-⟩:=Ii ha h1
  have:v.cells.toList=[v]:=by
   cases v with
   | agg cs =>
    exfalso
    have:∀ (s:TypeDesc),P.underlying t=some s→(∀ fs,s ≠ .struct fs)→(∀ n e,s ≠ .array n e)→False:=by
     intro s hs ES hs2
     unfold Value.okWide at jY
     rw[hs] at jY
     split at jY
     ·rename_i e; cases e; exact ES _ rfl
     ·rename_i e; cases e; exact hs2 _ _ rfl
     ·unfold Cell.okWide at jY; split at jY<;>simp_all [Cell.ok]
    cases T with
    | int k=>exact this _ hT.1 (fun _ h=>by cases h) (fun _ _ h=>by cases h)
    | bool=>exact this _ hT.1 (fun _ h=>by cases h) (fun _ _ h=>by cases h)
    | str=>exact this _ hT.1 (fun _ h=>by cases h) (fun _ _ h=>by cases h)
    | sl a=>obtain⟨-,e,h,-⟩:=hT; exact this _ h (fun _ h=>by cases h) (fun _ _ h=>by cases h)
    | _=>cases ha
   | _=>rfl
  have h4:=h3.2 0 d rfl
  rw[this] at h4
  exact h4
end
end Go.Tv
end
section
namespace Go.Tv
open Go Go.Di Go.Conc Go.Co Go.Proofs
open Go.ChangeShapes Go.WideShapes Go.ChangeAt Go.RowKit
def TVs:List TT→List TV→Prop
 | [],[]=>True
 | T::Ts,v::vs=>(∃ x,v=RG T x)∧TVs Ts vs
 | _,_=>False
def OC (P:Program):List TT→List TypeId→Prop
 | [],[]=>True
 | T::Ts,t::ts=>tG P T (.inl t)∧OC P Ts ts
 | _,_=>False
section
variable {H:Type} {enc:TypeId×Value→H} {P:Program} {W W':World} {base:Nat} {spare:Nat→Bool} {held:Bool}
theorem KR {r:Reach}:∀ {Ts:List TT} {ts:List TypeId} {vs:List Value} {ds:List (DataW H)} {p:List MemPlace},(∀ b,spare b=true)→OC P Ts ts→(∀ (j:Nat) t v,ts[j]? = some t→vs[j]? = some v→Value.okWide P W r base t v) →
  DataW.TrodAll enc P W 0 spare held ts vs ds p→ds.length=ts.length∧∃ G9 Q6,TVs Ts G9∧cQ eB [] G9 Q6∧Q6.length=vs.length∧∀ j c,Q6[j]? = some c→RV (ow W) c (vs.getD j undef)
 | [],[],[],[],_,_,_,_,_=>⟨rfl,[],[],trivial,bS,rfl,fun j c h=>by simp at h⟩
 | T::Ts,t::ts,v::vs,d::ds,p,hsp,hT,jY,h=>by
  obtain⟨p1,q1,h1,h2,-⟩:=h
  obtain⟨x,dv,k1,k2⟩:=YF hsp hT.1 (jY 0 t v rfl rfl) h1
  obtain⟨e,G9,Q6,m1,m2,m3,m4⟩:=KR hsp hT.2 (fun j t v h1 h2=>jY (j+1) t v (by simpa using h1) (by simpa using h2)) h2
  refine⟨by simp[e],RG T x::G9,mI T dv::Q6,⟨⟨x,rfl⟩,m1⟩,aV (aa1 k1) m2,by simp[m3],fun j c hj => ?_⟩
  cases j with
  | zero=>cases hj; exact k2
  | succ j=>exact m4 j c (by simpa using hj)
 | [],_::_,_,_,_,_,hT,_,_=>hT.elim
 | _::_,[],_,_,_,_,hT,_,_=>hT.elim
 | _::_,_::_,[],_,_,_,_,_,h=>by simp[DataW.TrodAll] at h
 | _::_,_::_,_::_,[],_,_,_,_,h=>by simp[DataW.TrodAll] at h
 | [],[],_::_,_,_,_,_,_,h=>by simp[DataW.TrodAll] at h
 | [],[],[],_::_,_,_,_,_,h=>by simp[DataW.TrodAll] at h
theorem Db (hl:laidOutB P=true) (hst:qL W W'):∀ {ts:List TypeId} {vs:List Value} {ds:List (DataW H)} {p:List MemPlace},(∀ t∈ts,P.readableRec t=true∧t<P.types.size)→(∀ x∈p,x.block<W.heap.size) →
  DataW.TrodAll enc P W 0 (fun _=>true) true ts vs ds p→DataW.TrodAll enc P W' 0 (fun b=>decide (b<W.heap.size)) true ts vs ds p
 | [],[],[],_,_,_,h=>h
 | t::ts,v::vs,d::ds,p,hr,hp,h=>by
  obtain⟨p1,q1,h1,h2,rfl⟩:=h
  exact⟨p1,q1,WideElems.Trod_stays hl (hr t (by simp)).1 (hr t (by simp)).2 h1 (fun x hx=>It hst (hp x (by simp[hx]))) fun x hx=>by simpa using hp x (by simp[hx]),Db hl hst (fun t h=>hr t (by simp[h])) (fun x hx=>hp x (by simp[hx])) h2,rfl⟩
 | [],_::_,_,_,_,_,h=>by simp[DataW.TrodAll] at h
 | [],[],_::_,_,_,_,h=>by simp[DataW.TrodAll] at h
 | _::_,[],_,_,_,_,h=>by simp[DataW.TrodAll] at h
 | _::_,_::_,[],_,_,_,h=>by simp[DataW.TrodAll] at h
end
theorem Mr {bC:bM} (WJ:∀ aa,qK Tryz.prog aa bC) (tkt:yQ bC) {f:FuncId} {n:Nat} (hf:f≠60∧f≠133∧f≠12∧f≠43∧f≠52) (hi:Tryz.prog.inits.idxOf? f=none) {G9:List TV} (hs:qN (E1 bC (n+1)) f G9 (fun v=>v=o6 true))
  {W:World} {Q6:List DV} {vals:Array Value} (hr:cQ eB [] G9 Q6) (hv:fR (ow W) Q6 vals) :
  ∃ N last o w' t',runNT Tryz.prog (N+1) (solo (G (Frame.enter Tryz.prog f vals .normal) []) W) #[]=(.ended o w',t')∧runN Tryz.prog N (solo (G (Frame.enter Tryz.prog f vals .normal) []) W) = .next last ∧
   step Tryz.prog last = .ended o w'∧Conc.Good Tryz.prog (fun v w=>v = .bool true∧qL W w) last o w' t':=by
 obtain⟨d,v,h1,h2,h3,h4,rfl⟩:=hs Q6 hr
 have hd:d = .val (.bool true):=by
  cases d<;>simp[RT] at h3
  rw[h3]
 subst hd
 refine IX ?_ ?_
 ·exact⟨ki _ _ _ _,fun f hf=>(nomatch hf),fun h=>h.elim,fun d h=>(nomatch h)⟩
 ·exact Pn (x:=ow W) jx CJ U5 WJ (tkt.other f _ hf.1 hf.2.1 hf.2.2.1 hf.2.2.2.1 hf.2.2.2.2) hi h1 (LP W) rfl hv
set_option maxRecDepth 100000 in
theorem acm {bC:bM} (WJ:∀ aa,qK Tryz.prog aa bC) (tkt:yQ bC) {f:FuncId} {fn:Func} {ts:List TypeId} {Ts:List TT} (Nr:Tryz.prog.funcs[f]? = some fn) (WW:fn.params.toList=ts) (hTs:OC Tryz.prog Ts ts) (UH:∀ t∈ts,Tryz.prog.readableRec t=true∧t<Tryz.prog.types.size) (WR:fn.resultTypes=#[4]) {s:ChangeSpec} (Vr:s.vars=[])
  (abl:∀ (H:Type) (ds:List (DataW H)),ds.length=ts.length→s.fn H ds={ results:=[.lit (.bool true)],args:=ds }) {conds:List PathCond} {fresh handsOn:Bool}
  (hf:f≠60∧f≠133∧f≠12∧f≠43∧f≠52) (hi:Tryz.prog.inits.idxOf? f=none) {n:Nat} (hs:∀ G9,TVs Ts G9→qN (E1 bC (n+1)) f G9 (fun v=>v=o6 true))
  {os:Os} (started:os.Started) {H:Type} {enc:TypeId×Value→H}
  (witness:∃ (w:World) (tape:Tape) (i:Input),w.os=os∧(w.forCall tape i).Shaped Tryz.checked.prog∧i.vars=[]∧Input.okWide Tryz.checked.prog (w.forCall tape i) .any w.heap.size f i ∧
   s.pre6 enc Tryz.checked.prog fn conds false (w.forCall tape i).memory i.args∧({}:Assume).holds Tryz.checked.prog (lone (Frame.enter Tryz.checked.prog f i.args .normal) [] (w.forCall tape i))) :
  ReturnsInLeavingWide {} Tryz.checked os f .any (s.pre6 enc Tryz.prog fn conds false) (s.post enc Tryz.prog fn false fresh handsOn false):=by
 refine returnsInLeavingWide_of_change_sized (C:=Tryz.checked) Tryz.own started Nr witness ?_
 intro W base args ds gs before abk hW _ _ _
 have acA:∀ (j:Nat) t v,ts[j]? = some t→args.toList[j]? = some v→Value.okWide Tryz.prog W .any base t v:=fun j t v h1 h2=>abk j t v (by rw[← WW] at h1; simpa using h1) (by simpa using h2)
 have hW':=hW
 obtain⟨p,q,hA0,hV,rfl,_,_⟩:=hW
 have hA:DataW.TrodAll enc Tryz.prog W 0 (fun _=>true) true fn.params.toList args.toList ds p:=hA0
 rw[WW] at hA
 rw[Vr] at hV
 obtain⟨rfl,rfl⟩:=trodVars_none hV
 simp only[gu] at hW'
 have hlt:∀ x∈p,x.block<W.heap.size:=fun x hx=>by simpa using hW'.lt x hx
 obtain⟨hdl,G9,Q6,h1,h2,h3,h4⟩:=KR (fun _=>rfl) hTs acA hA
 obtain⟨M,last,o,w',t',k1,k2,k3,k4⟩:=Mr WJ tkt (vals:=args) hf hi (hs G9 h1) h2 ⟨by rw[h3]; simp,fun j c hj=>by
  have:=h4 j c hj
  rwa [aO,gy,← aT] at this⟩
 refine⟨M,last,o,w',t',k1,k2,k3,k4.mono fun v hF => ?_⟩
 obtain⟨rfl,hst⟩:=hF
 have es:s.fn H (ds++[])={ results:=[.lit (.bool true)],args:=ds }:=by rw[gu]; exact abl H ds hdl
 refine⟨_,_,_,[],p,[],hW',?_,?_,by rw[es,Vr]; rfl,GG hst _,fun h=>by cases h⟩
 ·rw[es,WR]; exact trodAll_mk1 (shut_bool Tryz.XH _)
 ·rw[es,WW]; exact Db Tryz.laidOut hst UH hlt hA
end Go.Tv
end
section
namespace Go.Tv
open Go Go.Di Go.Conc Go.Co Go.Proofs
variable {aa:Machine→Trace→Prop} {x:Cx}
theorem xx:∀ {l:List Int} {rows:List DV},dW (CR bZ) bZ.agg l rows→rows=Go.Tv.rowsOf l
 | [],[],_=>rfl
 | [],_::_,h=>h.elim
 | _::_,[],h=>h.elim
 | n::l,r::rows,h=>by
  obtain⟨⟨h1,h2⟩,h3⟩:=h
  rw[xx h3]
  have h1:r.cells=[.val (.int .i64 n)]:=h1
  have:r = .val (.int .i64 n):=by
   cases r<;>simp only[DV.cells] at h1<;>first | (cases h1; rfl) | (cases h1; done) | exact(h2 rfl _ rfl).elim | skip
   all_goals exact(h2 _ rfl).elim
  rw[this]; rfl
theorem Eg:∀ l:List Int,xS (Go.Tv.rowsOf l)=some l
 | []=>rfl
 | n::l=>by
  have:=Eg l
  simp only[Go.Tv.rowsOf,bD,xS] at this ⊢
  rw[this]; rfl
theorem SO:Sv Dq where
 rev:=fun l d hl h=>by
  cases d<;>simp only[RT] at h
  rename_i rows tok f
  rw[xx h.1]
  refine⟨.sl (Go.Tv.rowsOf l.reverse) none ⟨false,none⟩,?_,rfl,by simp only[RT]; exact⟨Aq _,trivial⟩⟩
  have e:mZ 133 [.sl (Go.Tv.rowsOf l) tok f]=some (.sl (Go.Tv.rowsOf l.reverse) none ⟨false,none⟩):=by
   simp only[mZ,RM,Eg,if_pos hl]; rfl
  simp[Dq,more,e]
theorem SN:Su Dq where
 dup:=fun l d hl h=>by
  cases d<;>simp only[RT] at h
  rename_i rows tok f
  rw[xx h.1]
  refine⟨.sl (Go.Tv.rowsOf l) none ⟨false,none⟩,?_,rfl,by simp only[RT]; exact⟨Aq _,trivial⟩⟩
  have e:mZ 43 [.sl (Go.Tv.rowsOf l) tok f]=some (.sl (Go.Tv.rowsOf l) none ⟨false,none⟩):=by
   simp only[mZ,Sf,Eg,if_pos hl]; rfl
  simp[Dq,more,e]
end Go.Tv
end
section
namespace Go.Tv
open Go Go.Di Go.Proofs
abbrev J8:List TT:=[fD,fD,cE,cE]
set_option maxRecDepth 100000 in
theorem II (n:Nat) (G9:List TV) (h:TVs J8 G9):qN (E1 Dq (n+10)) 6 G9 (fun v=>v=o6 true):=by
 match G9,h with
 | [_,_,_,_],⟨⟨⟨u,lo,w,q,_⟩,rfl⟩,⟨⟨u2,Rk,w2,q2,_⟩,rfl⟩,⟨c,rfl⟩,⟨HB,rfl⟩,_⟩ =>
  have ok:=acn DU SO SN
  exact(((rF DU ok (by decide) Tryz.func6 rfl v6 (T':=R6) (ia ok)).2 n).I 6 [M9 u lo w q,M9 u2 Rk w2 q2,.sl bZ c .no,.sl bZ HB .no] [] (.res (o6 true) [] []) rfl trivial).mono fun v hv=>hv.1
end Go.Tv
namespace Go.Proofs.YtedcgbkilmlbhaaGreat
open Go Go.Di Go.Tv Go.Conc Go.Co Go.Proofs
open Go.ChangeShapes Go.WideShapes Go.ChangeAt Go.RowKit
set_option maxRecDepth 100000 in
theorem CU:tG Tryz.prog fD (.inl 25):=by
 have h3:Tryz.prog.underlying 3=some (.int .i64)∧Tryz.prog.cellsOf 3=1:=⟨by kernel_rfl,by kernel_rfl⟩
 have h22:tG Tryz.prog cE (.inl 23):=⟨by kernel_rfl,3,by kernel_rfl,by kernel_rfl,h3⟩
 exact⟨_,_,_,Tryz.underlying25,rfl,rfl,by kernel_rfl,by kernel_rfl,h22,_,_,rfl,rfl,by kernel_rfl,h22,_,_,rfl,rfl,by kernel_rfl,h3,_,_,rfl,rfl,by kernel_rfl,h22,rfl⟩
set_option maxRecDepth 100000 in
theorem Gh:tG Tryz.prog cE (.inl 23):=⟨by kernel_rfl,3,by kernel_rfl,by kernel_rfl,by kernel_rfl,by kernel_rfl⟩
set_option maxRecDepth 100000 in
theorem yU (os:Os) (started:os.Started) (H:Type) (enc:TypeId×Value→H) :
  ReturnsInLeavingWide {} Tryz.checked os 6 .any (Rows.cutPartsSpec.pre6 enc Tryz.prog Tryz.f6 Rows.cutPartsRow.domain false) (Rows.cutPartsSpec.post enc Tryz.prog Tryz.f6 false true false false) :=
 acm (fun _=>SU) DU Tryz.func6 (ts:=[25,25,23,23]) (Ts:=J8) (by kernel_rfl) ⟨CU,CU,Gh,Gh,trivial⟩ (by decide +kernel) (by kernel_rfl) rfl
  (fun _ ds h=>by match ds,h with | [_,_,_,_],_=>rfl) (by decide) (by kernel_rfl) (n:=9) (II 0) started
  (ChangeSpec.witness6 (enc:=enc) (C:=Tryz.checked) false ⟨#[],#[.agg #[.slice none 0 0,.slice none 0 0,.int .i64 0,.slice none 0 0],.agg #[.slice none 0 0,.slice none 0 0,.int .i64 0,.slice none 0 0],.slice none 0 0,.slice none 0 0],[]⟩ 9 (by kernel_rfl) (by kernel_rfl) (by kernel_rfl) (by kernel_rfl))
set_option maxRecDepth 100000 in
theorem cutParts_holds:Rows.CutPartsSaid :=
 OpenClaim.holds_of_wide_leaving 6 Tryz.f6 rfl rfl rfl rfl rfl rfl rfl ⟨rfl,rfl,rfl,rfl,rfl⟩ rfl rfl rfl rfl rfl (by kernel_rfl) Tryz.func6 (by kernel_rfl)
  (of_decide_eq_true (by kernel_rfl)) (by unfold Func.isWrapper; first | (rw[if_pos (by decide +kernel)]; kernel_rfl) | (rw[if_neg (by decide +kernel)]; exact⟨rfl,rfl⟩))
  (fun os started H enc _=>yU os started H enc)
#print axioms cutParts_holds
end Go.Proofs.YtedcgbkilmlbhaaGreat
end
