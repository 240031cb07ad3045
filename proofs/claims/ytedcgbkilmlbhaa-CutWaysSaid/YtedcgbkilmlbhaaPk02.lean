import Derived.Test.YtedcgbkilmlbhaaPk01
section
namespace Go.Tv
open Go Go.Di
variable {P:Program} {ty:Tys} {tt:TypeId→Option TT} {ι:Ids} {S:Store} {te:List TV} {env:List DV} {tS:List TB} {iso:IsoF} {call:CallF} {yf:YldF} {o:Oper} {nid:Nat} {v:TV} {c:Prop}
def CellsR (ι:Ids) (S:Store) (tS:List TB):Prop:=∀ k l,tS[k]? = some (.cells l)→∃ k' ds,ι k=some k'∧S[k']? = some (.cells ds)∧RTl ι S l ds
theorem load_ok (hE:RTl ι S te env) (hP:CellsR ι S tS) {t:TypeId} {a:Operand} (ho:o.op = .load t a) (h:pureT P ty tt te tS o=some (v,c)):∃ d,stepOp P ty iso call yf (evD env) o S nid=some (d,S)∧RT ι S v d:=by
 simp only[pureT,ho] at h
 split at h
 ·rename_i td id off h1 h2
  split at h
  ·rename_i l h3
   simp only[Option.map_eq_some_iff,Prod.mk.injEq] at h
   obtain⟨w,h4,rfl,-⟩:=h
   obtain⟨d,k1,k2⟩:=evT_ok hE h2
   obtain⟨id',ds,k3,k4,k5⟩:=hP _ _ h3
   cases d<;>simp only[RT] at k2
   obtain⟨k6,rfl⟩:=k2
   rw[k3] at k6
   cases k6
   obtain⟨r,k7,k8⟩:=partT_ok k5 h4
   exact⟨r,by simp only[stepOp,ho,k1,loadD,h1,k4,k7,Option.map_some],retype_ok k8⟩
  ·cases h
 ·rename_i td e l i off h1 h2
  simp only[Option.map_eq_some_iff,Prod.mk.injEq] at h
  obtain⟨w,h4,rfl,-⟩:=h
  obtain⟨d,k1,k2⟩:=evT_ok hE h2
  cases d<;>simp only[RT] at k2
  obtain⟨k3,rfl,rfl,k4⟩:=k2
  obtain⟨r,m1,m2,-⟩:=rows_get k3 (List.getElem?_eq_getElem k4)
  rename_i j j'
  have hg:l.getD j e.dft=l[j]:=by simp[List.getD_eq_getElem?_getD,k4]
  rw[hg] at h4
  obtain⟨r',m3,m4⟩:=partT_ok (cr_cells (ι:=ι) (S:=S) m2) h4
  exact⟨r',by simp only[stepOp,ho,k1,loadD,h1,m1,m3,Option.map_some],retype_ok m4⟩
 ·cases h
def ElemR (t:TT):Nat→List (Nat×DV)→List t.den→Prop
 | _,[],[]=>True
 | i,(j,d)::qs,x::l=>(j=i∧CR t x d.strip.cells)∧ElemR t (i+1) qs l
 | _,_,_=>False
theorem strip_cells {v:TV} {d:DV} (hk:v.cellsB=true) (h:RT ι S v d):d.strip.cells=d.cells.map DV.strip1:=by
 cases v<;>cases d<;>simp only[RT] at h<;>first | (cases hk; done) | rfl
theorem known_of {v:TV} (hk:v.cellsB=true):v.known=true:=by cases v<;>first | rfl | cases hk
theorem elems_ok {t:TT}:∀ {ps:List (Nat×TV)} {qs:List (Nat×DV)} {i:Nat} {l:List t.den},PartsR ι S ps qs→elemsT t i ps=some l→ElemR t i qs l∧l.length=ps.length
 | [],[],i,l,_,h=>by cases h; exact⟨trivial,rfl⟩
 | (j,v)::ps,(j',d)::qs,i,l,hp,h=>by
  obtain⟨⟨rfl,hv⟩,hp⟩:=hp
  simp only[elemsT] at h
  split at h
  ·rename_i hc
   simp only[Bool.and_eq_true,beq_iff_eq] at hc
   obtain⟨rfl,hk⟩:=hc
   split at h
   ·rename_i x l' h1 h2
    cases h
    obtain⟨cs,m',e1,e2,e3⟩:=of_cr h1 (rt_cells (known_of hk) hv)
    rw[rtl_nil' e3,List.append_nil] at e1
    obtain⟨k1,k2⟩:=elems_ok hp h2
    exact⟨⟨⟨rfl,by rw[strip_cells hk hv,e1]; exact e2⟩,k1⟩,by simp[k2]⟩
   ·cases h
  ·cases h
def cellsE (qs:List (Nat×DV)):List DV:=qs.flatMap fun q=>q.2.strip.cells
theorem fill_elems {t:TT} {s:Nat} (hs:t.size=s):∀ {qs:List (Nat×DV)} {i:Nat} {l:List t.den} {pre post:List DV},ElemR t i qs l→pre.length=i*s→post.length=qs.length*s →
  fillD (fun i=>some (i*s,s)) (pre++post) (qs.map fun(i,v)=>(i,v.strip))=some (pre++cellsE qs)
 | [],i,[],pre,post,_,hp,hq=>by
  have:post=[]:=List.eq_nil_of_length_eq_zero (by simpa using hq)
  subst this
  simp[fillD,cellsE]
 | (j,d)::qs,i,x::l,pre,post,h,hp,hq=>by
  obtain⟨⟨rfl,hc⟩,h⟩:=h
  have hl:d.strip.cells.length=s:=(cr_len hc).trans hs
  have hq':post.length=qs.length*s+s:=by rw[hq,List.length_cons,Nat.add_mul,Nat.one_mul]
  have hput:putR (pre++post) (j*s) d.strip.cells=some ((pre++d.strip.cells)++post.drop s):=by
   unfold putR
   rw[if_pos (by rw[List.length_append,hp,hl]; omega),hl,← hp,List.take_left' rfl,List.drop_append,List.drop_eq_nil_of_le (by omega)]
   simp
  simp only[List.map_cons,fillD,hl,if_true,hput]
  rw[fill_elems hs h (by rw[List.length_append,hp,hl,Nat.add_mul,Nat.one_mul]) (by rw[List.length_drop,hq']; omega)]
  simp[cellsE]
theorem row_one {t:TT} {x:t.den} {cs:List DV} (h:CR t x cs) (ha:t.agg=false):CR t x (cs.getD 0 dundef).cells∧RowOK t.agg (cs.getD 0 dundef):=by
 cases t with
 | unit | pair=>cases ha
 | sl t =>
  simp only[CR] at h
  obtain⟨rows,f,rfl,h⟩:=h
  exact⟨by simp only[CR,List.getD_cons_zero,DV.cells]; exact⟨rows,f,rfl,h⟩,by simp[RowOK,TT.agg]⟩
 | _ =>
  simp only[CR] at h
  subst h
  exact⟨by simp only[CR,List.getD_cons_zero,DV.cells],by simp[RowOK,TT.agg]⟩
theorem rowsOf_cons {s:Nat} {agg:Bool} {c r:List DV} {n:Nat} (hc:c.length=s):rowsOf s agg (c++r) (n+1)=(if agg then .agg c else (c++r).getD 0 dundef)::rowsOf s agg r n:=by
 unfold rowsOf
 rw[List.range_succ_eq_map,List.map_cons,List.map_map]
 congr 1
 ·unfold rowOf
  split
  ·rw[Nat.zero_mul,List.drop_zero,List.take_left' hc]
  ·rw[Nat.zero_mul]
 ·refine List.map_congr_left fun i _ => ?_
  simp only[Function.comp,rowOf,Nat.succ_eq_add_one,Nat.add_mul,Nat.one_mul]
  rw[Nat.add_comm (i*s) s,← hc,List.drop_append,List.drop_eq_nil_of_le (Nat.le_add_right _ _),Nat.add_sub_cancel_left,List.nil_append,List.getD_eq_getElem?_getD,List.getD_eq_getElem?_getD,List.getElem?_append_right (Nat.le_add_right _ _),Nat.add_sub_cancel_left]
theorem rows_elems {t:TT} {s:Nat} (hs:t.size=s) (h1:t.agg=true∨s=1):∀ {qs:List (Nat×DV)} {i:Nat} {l:List t.den},ElemR t i qs l→RowsR (CR t) t.agg l (rowsOf s t.agg (cellsE qs) l.length)
 | [],_,[],_=>by simp[rowsOf,RowsR]
 | (j,d)::qs,i,x::l,h=>by
  obtain⟨⟨rfl,hc⟩,h⟩:=h
  have hl:d.strip.cells.length=s:=(cr_len hc).trans hs
  have e:cellsE ((j,d)::qs)=d.strip.cells++cellsE qs:=by simp[cellsE]
  rw[e,List.length_cons,rowsOf_cons hl]
  refine⟨?_,rows_elems hs h1 h⟩
  cases ha:t.agg with
  | true=>exact⟨hc,by simp[RowOK]⟩
  | false =>
   have:=row_one hc ha
   rw[ha] at this
   have h2:0<d.strip.cells.length:=by rw[hl]; rcases h1 with h1 | h1<;>first | (rw[ha] at h1; cases h1; done) | omega
   have e2:(d.strip.cells++cellsE qs).getD 0 dundef=d.strip.cells.getD 0 dundef:=by
    simp only[List.getD_eq_getElem?_getD,List.getElem?_append_left h2]
   simp only[Bool.false_eq_true,if_false]
   rw[e2]
   exact this
theorem pure_elems {t:TT}:∀ {qs:List (Nat×DV)} {i:Nat} {l:List t.den},ElemR t i qs l→(cellsE qs).all DV.pure1=true
 | [],_,[],_=>rfl
 | (j,d)::qs,i,x::l,h=>by
  obtain⟨⟨rfl,hc⟩,h⟩:=h
  have e:cellsE ((j,d)::qs)=d.strip.cells++cellsE qs:=by simp[cellsE]
  rw[e,List.all_append,cr_pure hc,pure_elems h]; rfl
theorem parts_len:∀ {ps:List (Nat×TV)} {qs:List (Nat×DV)},PartsR ι S ps qs→qs.length=ps.length
 | [],[],_=>rfl
 | _::ps,_::qs,h=>by simp[parts_len h.2]
theorem buildSlice_ok (hE:RTl ι S te env) {t:TypeId} {n:Nat} {ps:Array (Nat×Operand)} (ho:o.op = .buildSlice t n ps) (h:pureT P ty tt te tS o=some (v,c)):∃ d,stepOp P ty iso call yf (evD env) o S nid=some (d,S)∧RT ι S v d:=by
 simp only[pureT,ho] at h
 split at h
 ·rename_i e s by_ agg sz z0 l k h1 h2 h3
  split at h
  ·rename_i k0 sz' z h4
   split at h
   ·rename_i hc
    simp only[Bool.and_eq_true,beq_iff_eq,Bool.or_eq_true,decide_eq_true_eq] at hc
    obtain⟨⟨⟨⟨⟨⟨c1,c2⟩,c3⟩,c4⟩,c5⟩,c6⟩,c7⟩:=hc
    simp only[Option.map_eq_some_iff,Prod.mk.injEq] at h
    obtain⟨w,h5,rfl,-⟩:=h
    obtain⟨ds,k1,k2⟩:=partsT_ok hE h2
    obtain⟨k3,k4⟩:=elems_ok k2 h5
    have hlen:ds.length=n:=by rw[parts_len k2,c3]
    have hrep:((List.replicate n z).flatten).length=ds.length*s:=by
     rw[hlen,List.length_flatten,List.map_replicate,c4,List.sum_replicate_nat]
    have hf:=fill_elems (pre:=[]) (post:=(List.replicate n z).flatten) c5 k3 (by simp) hrep
    rw[List.nil_append,List.nil_append] at hf
    have hn:w.length=n:=by rw[k4,c3]
    have hr:=rows_elems c5 (by rw[c6]; exact c7) k3
    rw[c6,hn] at hr
    have c7':(agg||s==1)=true:=by simpa using c7
    refine⟨.sl (rowsOf s agg (cellsE ds) n) none ⟨true,some false⟩,?_,?_⟩
    ·simp only[stepOp,ho,h1,k1,h4,decide_eq_true c1,decide_eq_true c2,Bool.and_self,if_true,hf,pure_elems k3,c7']
    ·simp only[RT,ApOK,and_self,and_true]
     rw[c6]
     exact hr
   ·cases h
  ·cases h
 ·cases h
theorem slice_ok (hE:RTl ι S te env) {t:TypeId} {x:Operand} {lo hi mx:Option Operand} (ho:o.op = .slice t x lo hi mx) (h:pureT P ty tt te tS o=some (v,c)) (hc:c):∃ d,stepOp P ty iso call yf (evD env) o S nid=some (d,S)∧RT ι S v d:=by
 have hb:∀ {y:Option Operand} {b:Option Int},boundT te y=some b→(y=none∧b=none)∨∃ z n,y=some z∧b=some n∧intOf (evD env) z=some n:=by
  intro y b hy
  cases y with
  | none=>cases hy; exact .inl ⟨rfl,rfl⟩
  | some z =>
   simp only[boundT,Option.map_eq_some_iff] at hy
   obtain⟨n,h1,rfl⟩:=hy
   exact .inr ⟨z,n,rfl,rfl,intT_ok hE h1⟩
 simp only[pureT,ho] at h
 split at h
 ·rename_i e s by_ agg sz z0 k l ap lo' hi' mx' h1 h2 h3 h4 h5
  split at h
  ·rename_i hs
   simp only[beq_iff_eq] at hs
   simp only[Option.map_eq_some_iff] at h2
   obtain⟨u,h6,h7⟩:=h2
   obtain⟨d,k1,k2⟩:=evT_ok hE h6
   have k3:=retype_ok (tt:=tt) (t:=t) k2
   rw[h7] at k3
   cases d<;>simp only[RT] at k3
   rename_i rows tok f
   obtain⟨k3,k4⟩:=k3
   have hlen:=rows_len k3
   have hall:(rows.all fun r=>decide (r.cells.length=s))=true:=List.all_eq_true.2 fun r hr=>decide_eq_true ((rows_cells k3 r hr).trans hs)
   simp only[Option.some.injEq] at h
   rcases hb h3 with ⟨rfl,rfl⟩ | ⟨zl,nl,rfl,rfl,el⟩<;>rcases hb h4 with ⟨rfl,rfl⟩ | ⟨zh,nh,rfl,rfl,eh⟩<;>rcases hb h5 with ⟨rfl,rfl⟩ | ⟨zm,nm,rfl,rfl,em⟩ <;>
    simp only[sliceT,Prod.mk.injEq] at h<;>obtain⟨rfl,rfl⟩:=h
   ·exact⟨_,by simp only[stepOp,ho,h1,k1,hall,boundD,Nat.zero_le,sliceD,if_true,Bool.not_true,Bool.false_eq_true,if_false,Option.isNone,Option.isSome,Bool.and_false,Option.map_none,Option.map_some]; rfl,by simp only[RT,ApOK,and_true,List.drop_zero,List.take_length]; exact k3⟩
   ·exact hc.elim
   ·have a1:0≤nh∧nh.toNat≤rows.length:=⟨hc.1,by rw[hlen]; omega⟩
    exact⟨_,by simp only[stepOp,ho,h1,k1,hall,boundD,eh,a1,Nat.zero_le,sliceD,if_true,Bool.not_true,Bool.false_eq_true,if_false,Option.isNone,Option.isSome,Bool.and_false,Option.map_none,Option.map_some,and_self]; rfl,by simp only[RT,ApOK,and_true,List.drop_zero]; exact rows_take _ k3⟩
   ·obtain⟨b1,rfl,b2⟩:=hc
    have a1:0≤nh∧nh.toNat≤rows.length:=⟨b1,by rw[hlen]; omega⟩
    exact⟨_,by simp only[stepOp,ho,h1,k1,hall,boundD,eh,em,a1,Nat.zero_le,sliceD,if_true,Bool.not_true,Bool.false_eq_true,if_false,Option.isNone,Option.isSome,Bool.and_true,Option.map_some,and_self,Nat.le_refl]; rfl,by simp only[RT,ApOK,and_true,List.drop_zero,beq_self_eq_true]; exact rows_take _ k3⟩
   ·have a1:0≤nl∧nl.toNat≤rows.length:=⟨hc.1,by rw[hlen]; omega⟩
    exact⟨_,by simp only[stepOp,ho,h1,k1,hall,boundD,el,a1,sliceD,if_true,Bool.not_true,Bool.false_eq_true,if_false,Option.isNone,Option.isSome,Bool.and_false,Option.map_none,Option.map_some,and_self]; rfl,by simp only[RT,ApOK,and_true,List.take_length]; exact rows_drop _ k3⟩
   ·exact hc.elim
   ·have a1:0≤nh∧nh.toNat≤rows.length:=⟨by omega,by rw[hlen]; omega⟩
    have a2:0≤nl∧nl.toNat≤nh.toNat:=⟨hc.1,by omega⟩
    exact⟨_,by simp only[stepOp,ho,h1,k1,hall,boundD,eh,el,a1,a2,sliceD,if_true,Bool.not_true,Bool.false_eq_true,if_false,Option.isNone,Option.isSome,Bool.and_false,Option.map_none,Option.map_some,and_self]; rfl,by simp only[RT,ApOK,and_true]; exact rows_drop _ (rows_take _ k3)⟩
   ·obtain⟨b0,b1,rfl,b2⟩:=hc
    have a1:0≤nh∧nh.toNat≤rows.length:=⟨by omega,by rw[hlen]; omega⟩
    have a2:0≤nl∧nl.toNat≤nh.toNat:=⟨b0,by omega⟩
    exact⟨_,by simp only[stepOp,ho,h1,k1,hall,boundD,eh,el,em,a1,a2,sliceD,if_true,Bool.not_true,Bool.false_eq_true,if_false,Option.isNone,Option.isSome,Bool.and_true,Option.map_some,and_self,Nat.le_refl]; rfl,by simp only[RT,ApOK,and_true,beq_self_eq_true]; exact rows_drop _ (rows_take _ k3)⟩
  ·cases h
 ·cases h
theorem pureT_ok (hE:RTl ι S te env) (hP:CellsR ι S tS) (h:pureT P ty tt te tS o=some (v,c)) (hc:c):∃ d,stepOp P ty iso call yf (evD env) o S nid=some (d,S)∧RT ι S v d:=by
 cases ho:o.op with
 | load t a=>exact load_ok hE hP ho h
 | buildSlice t n ps=>exact buildSlice_ok hE ho h
 | slice t x lo hi mx=>exact slice_ok hE ho h hc
 | move x | assign x =>
  simp only[pureT,ho,Option.map_eq_some_iff,Prod.mk.injEq] at h
  obtain⟨u,h1,rfl,-⟩:=h
  obtain⟨d,k1,k2⟩:=evT_ok hE h1
  exact⟨d,by simp only[stepOp,ho,k1,Option.map_some],retype_ok k2⟩
 | pick a b d =>
  simp only[pureT,ho] at h
  split at h
  ·rename_i t h1
   simp only[Option.map_eq_some_iff,Prod.mk.injEq] at h
   obtain⟨u,h2,rfl,-⟩:=h
   obtain⟨e,k1,k2⟩:=evT_ok hE h1
   cases e<;>simp only[RT] at k2
   subst k2
   obtain⟨e,k3,k4⟩:=pick2_ok (fun v h=>evT_ok hE h) (fun v h=>evT_ok hE h) h2
   exact⟨e,by simp only[stepOp,ho,k1,k3,Option.map_some],k4⟩
  ·cases h
 | build t ps =>
  simp only[pureT,ho] at h
  split at h
  ·rename_i fs sz z l h1 h2
   simp only[Option.map_eq_some_iff,Prod.mk.injEq] at h
   obtain⟨cs,h3,rfl,-⟩:=h
   obtain⟨ds,k1,k2⟩:=partsT_ok hE h2
   obtain⟨r,k3,k4⟩:=fillT_ok k2 (rtl_of1 _) h3
   exact⟨.agg r,by simp only[stepOp,ho,h1,k1,k3,Option.map_some],by simp only[RT]; exact k4⟩
  ·rename_i n s agg sz z l h1 h2
   simp only[Option.map_eq_some_iff,Prod.mk.injEq] at h
   obtain⟨cs,h3,rfl,-⟩:=h
   obtain⟨ds,k1,k2⟩:=partsT_ok hE h2
   obtain⟨r,k3,k4⟩:=fillT_ok k2 (rtl_of1 _) h3
   exact⟨.agg r,by simp only[stepOp,ho,h1,k1,k3,Option.map_some],by simp only[RT]; exact k4⟩
  ·cases h
 | nilCheck x =>
  simp only[pureT,ho] at h
  split at h
  ·rename_i id off h1
   cases h
   obtain⟨d,k1,k2⟩:=evT_ok hE h1
   cases d<;>simp only[RT] at k2
   exact⟨_,by simp only[stepOp,ho,k1]; rfl,by simp only[RT]; exact k2⟩
  ·cases h
 | binOp op t x y u =>
  simp only[pureT,ho] at h
  split at h
  ·rename_i a b h1 h2
   simp only[Option.map_eq_some_iff,Prod.mk.injEq] at h
   obtain⟨w,h3,rfl,-⟩:=h
   obtain⟨d,k1,k2⟩:=valT_ok (ι:=ι) (S:=S) h3
   exact⟨d,by simp only[stepOp,ho,valOf_ok hE h1,valOf_ok hE h2,k1,Option.map_some],k2⟩
  ·cases h
 | unOp op t x =>
  simp only[pureT,ho] at h
  split at h
  ·rename_i a h1
   simp only[Option.map_eq_some_iff,Prod.mk.injEq] at h
   obtain⟨w,h3,rfl,-⟩:=h
   obtain⟨d,k1,k2⟩:=valT_ok (ι:=ι) (S:=S) h3
   exact⟨d,by simp only[stepOp,ho,valOf_ok hE h1,k1,Option.map_some],k2⟩
  ·cases h
 | convert s t x =>
  simp only[pureT,ho] at h
  split at h
  ·rename_i a h1
   simp only[Option.map_eq_some_iff,Prod.mk.injEq] at h
   obtain⟨w,h3,rfl,-⟩:=h
   obtain⟨d,k1,k2⟩:=valT_ok (ι:=ι) (S:=S) h3
   exact⟨d,by simp only[stepOp,ho,valOf_ok hE h1,k1,Option.map_some],k2⟩
  ·cases h
 | makeFunc f fs cs =>
  cases f with
  | func f =>
   simp only[pureT,ho] at h
   split at h
   ·rename_i a b h1 h2
    cases h
    obtain⟨d,k1,k2⟩:=evsT_ok hE h1
    obtain⟨e,k3,k4⟩:=evsT_ok hE h2
    exact⟨_,by simp only[stepOp,ho,k1,k3]; rfl,by simp only[RT]; exact⟨trivial,k2,k4⟩⟩
   ·cases h
  | _=>simp only[pureT,ho] at h; cases h
 | fieldAddr t x f =>
  simp only[pureT,ho] at h
  split at h
  ·rename_i fs sz z id off h1 h2
   split at h
   ·rename_i oo s ag h3
    split at h
    ·rename_i h4
     cases h
     obtain⟨d,k1,k2⟩:=evT_ok hE h2
     cases d<;>simp only[RT] at k2
     obtain⟨k3,rfl⟩:=k2
     exact⟨_,by simp only[stepOp,ho,h1,k1,h3,h4,if_true]; rfl,by simp only[RT]; exact⟨k3,trivial⟩⟩
    ·cases h
   ·cases h
  ·rename_i fs sz z k l i off h1 h2
   split at h
   ·rename_i oo s ag h3
    split at h
    ·rename_i h4
     cases h
     obtain⟨d,k1,k2⟩:=evT_ok hE h2
     cases d<;>simp only[RT] at k2
     obtain⟨k3,rfl,rfl,k4⟩:=k2
     exact⟨_,by simp only[stepOp,ho,h1,k1,h3,h4,if_true]; rfl,by simp only[RT]; exact⟨k3,trivial,trivial,k4⟩⟩
    ·cases h
   ·cases h
  ·cases h
 | field t x f =>
  simp only[pureT,ho] at h
  split at h
  ·rename_i fs sz z l h1 h2
   split at h
   ·rename_i off s ag h3
    simp only[Option.map_eq_some_iff,Prod.mk.injEq] at h
    obtain⟨w,h4,rfl,-⟩:=h
    obtain⟨d,k1,k2⟩:=evT_ok hE h2
    cases d<;>simp only[RT] at k2
    obtain⟨r,k3,k4⟩:=partT_ok k2 h4
    exact⟨r,by simp only[stepOp,ho,h1,k1,h3,k3,Option.map_some],k4⟩
   ·cases h
  ·cases h
 | indexAddr t x i =>
  simp only[pureT,ho] at h
  split at h
  ·rename_i e s by_ ag sz z k l ap n h1 h2 h3
   split at h
   ·rename_i hs
    simp only[beq_iff_eq] at hs
    cases h
    simp only[Option.map_eq_some_iff] at h2
    obtain⟨u,h6,h7⟩:=h2
    obtain⟨d,k1,k2⟩:=evT_ok hE h6
    have k3:=retype_ok (tt:=tt) (t:=t) k2
    rw[h7] at k3
    cases d<;>simp only[RT] at k3
    obtain⟨k3,-⟩:=k3
    have hlt:n.toNat<l.length:=by omega
    obtain⟨r,m1,m2,-⟩:=rows_get k3 (List.getElem?_eq_getElem hlt)
    exact⟨_,by simp only[stepOp,ho,h1,k1,intT_ok hE h3,hc.1,if_true,m1,(cr_len m2).trans hs]; rfl,by simp only[RT]; exact⟨k3,trivial,trivial,hlt⟩⟩
   ·cases h
  ·rename_i k s ag sz z id off n h1 h2 h3
   split at h
   ·rename_i h4
    cases h
    simp only[Option.map_eq_some_iff] at h2
    obtain⟨u,h6,h7⟩:=h2
    obtain⟨d,k1,k2⟩:=evT_ok hE h6
    have k3:=retype_ok (tt:=tt) (t:=t) k2
    rw[h7] at k3
    cases d<;>simp only[RT] at k3
    obtain⟨k5,rfl⟩:=k3
    exact⟨_,by simp only[stepOp,ho,h1,k1,intT_ok hE h3,h4,and_self,if_true]; rfl,by simp only[RT]; exact⟨k5,trivial⟩⟩
   ·cases h
  ·rename_i k s ag sz z e l j off n h1 h2 h3
   split at h
   ·rename_i h4
    cases h
    simp only[Option.map_eq_some_iff] at h2
    obtain⟨u,h6,h7⟩:=h2
    obtain⟨d,k1,k2⟩:=evT_ok hE h6
    have k3:=retype_ok (tt:=tt) (t:=t) k2
    rw[h7] at k3
    cases d<;>simp only[RT] at k3
    obtain⟨k5,rfl,rfl,k6⟩:=k3
    exact⟨_,by simp only[stepOp,ho,h1,k1,intT_ok hE h3,h4,and_self,if_true]; rfl,by simp only[RT]; exact⟨k5,trivial,trivial,k6⟩⟩
   ·cases h
  ·cases h
 | index t x i =>
  simp only[pureT,ho] at h
  split at h
  ·rename_i k s ag sz z l n h1 h2 h3
   split at h
   ·rename_i h5
    simp only[Option.map_eq_some_iff,Prod.mk.injEq] at h
    obtain⟨w,h4,rfl,-⟩:=h
    obtain⟨d,k1,k2⟩:=evT_ok hE h2
    cases d<;>simp only[RT] at k2
    obtain⟨r,k3,k4⟩:=partT_ok k2 h4
    exact⟨r,by simp only[stepOp,ho,h1,k1,intT_ok hE h3,h5,and_self,if_true,k3,Option.map_some],k4⟩
   ·cases h
  ·cases h
 | extract t i =>
  simp only[pureT,ho] at h
  split at h
  ·rename_i l h1
   simp only[Option.map_eq_some_iff,Prod.mk.injEq] at h
   obtain⟨w,h4,rfl,-⟩:=h
   obtain⟨d,k1,k2⟩:=evT_ok hE h1
   cases d<;>simp only[RT] at k2
   obtain⟨r,k3,k4⟩:=rtl_get k2 h4
   exact⟨r,by simp only[stepOp,ho,k1,k3,Option.map_some],retype_ok k4⟩
  ·cases h
 | call cl =>
  obtain⟨callee,args,argTypes⟩:=cl
  cases callee with
  | builtin b =>
   simp only[pureT,ho] at h
   split at h
   ·rename_i x t ha ht
    split at h
    ·rename_i e s by_ ag sz z k l ap h1 h2
     cases h
     simp only[Option.map_eq_some_iff] at h2
     obtain⟨u,h6,h7⟩:=h2
     obtain⟨d,k1,k2⟩:=evT_ok hE h6
     have k3:=retype_ok (tt:=tt) (t:=t) k2
     rw[h7] at k3
     cases d<;>simp only[RT] at k3
     exact⟨_,by simp only[stepOp,ho,ha,ht,h1,k1]; rfl,by simp only[RT]; rw[rows_len k3.1]⟩
    ·rename_i n s ag sz z h1
     cases h
     exact⟨_,by simp only[stepOp,ho,ha,ht,h1]; rfl,by simp only[RT]⟩
    ·rename_i w h2 hn2
     simp only[Option.map_eq_some_iff,Prod.mk.injEq] at h h2
     obtain⟨r,h4,rfl,-⟩:=h
     obtain⟨u,h6,h7⟩:=h2
     obtain⟨d,k1,k2⟩:=evT_ok hE h6
     have k3:=retype_ok (tt:=tt) (t:=t) k2
     rw[h7] at k3
     cases d<;>simp only[RT] at k3
     subst k3
     obtain⟨d,k5,k6⟩:=valT_ok (ι:=ι) (S:=S) h4
     exact⟨d,by simp only[stepOp,ho,ha,ht,k1,k5,Option.map_some],k6⟩
    ·cases h
   ·split at h
    ·rename_i vs h1
     simp only[Option.map_eq_some_iff,Prod.mk.injEq] at h
     obtain⟨r,h4,rfl,-⟩:=h
     simp only[Option.bind_eq_some_iff] at h1
     obtain⟨us,h5,h6⟩:=h1
     obtain⟨ds,k1,k2⟩:=evsT_ok hE h5
     obtain⟨d,k5,k6⟩:=valT_ok (ι:=ι) (S:=S) h4
     exact⟨d,by simp only[stepOp,ho,k1,Option.bind_some,toValsT_ok k2 h6,k5,Option.map_some],k6⟩
    ·cases h
   ·split at h
    ·rename_i vs h1
     simp only[Option.map_eq_some_iff,Prod.mk.injEq] at h
     obtain⟨r,h4,rfl,-⟩:=h
     simp only[Option.bind_eq_some_iff] at h1
     obtain⟨us,h5,h6⟩:=h1
     obtain⟨ds,k1,k2⟩:=evsT_ok hE h5
     obtain⟨d,k5,k6⟩:=valT_ok (ι:=ι) (S:=S) h4
     exact⟨d,by simp only[stepOp,ho,k1,Option.bind_some,toValsT_ok k2 h6,k5,Option.map_some],k6⟩
    ·cases h
   ·cases h
  | _=>simp only[pureT,ho] at h; cases h
 | _=>simp only[pureT,ho] at h; cases h
end Go.Tv
end
section
namespace Go.Tv
open Go Go.Di
mutual
def clr (g:Nat):TV→TV
 | .sl t l (.lab k)=>if k=g then .sl t l .no else .sl t l (.lab k)
 | .ptr id off=>if id=g then .unk else .ptr id off
 | .mp id=>if id=g then .unk else .mp id
 | .agg l => .agg (clrL g l)
 | .tup l => .tup (clrL g l)
 | .fn f a b => .fn f (clrL g a) (clrL g b)
 | v=>v
def clrL (g:Nat):List TV→List TV
 | []=>[]
 | a::l=>clr g a::clrL g l
end
def clrB (g:Nat):TB→TB
 | .cells l => .cells (clrL g l)
 | b=>b
def setT (tS:List TB) (i:Nat) (b:TB):List TB:=if i<tS.length then tS.set i b else tS++[b]
def oneT:TV→Bool
 | .val v => !(v matches .tuple _)
 | .unk | .agg _ | .tup _=>false
 | _=>true
def freshB {α β:Type} (l:List α) (m:List β):Bool :=
 match l with
 | []=>true
 | _::_=>match m with
  | []=>false
  | _::_=>true
structure TR where
 v:TV
 te:List TV
 tS:List TB
 foot:List Nat
 c:Prop
section
variable (P:Program) (ty:Tys) (tt:TypeId→Option TT)
def readsT (te:List TV) (o:Oper):List Nat :=
 match o.op with
 | .load _ a=>match evT te a with
  | some (.ptr id _)=>[id]
  | _=>[]
 | _=>[]
def stepT (te:List TV) (tS:List TB) (o:Oper) (nT:Nat):Option TR :=
 match o.op with
 | .alloc e=>match ty e with
  | some ⟨_,_,some z⟩=>some ⟨.ptr nT 0,te,setT tS nT (.cells (z.map ofDV1)),[nT],True⟩
  | _=>none
 | .box _ x=>match evT te x with
  | some d=>if d.known then some ⟨.ptr nT 0,te,setT tS nT (.cells d.cells),[nT],True⟩ else none
  | none=>none
 | .store t a x=>match ty t,evT te a,(evT te x).map (retype tt t) with
  | some d,some (.ptr id off),some v=>match tS[id]? with
   | some (.cells l)=>if v.known&&v.cells.length==d.size&&v.cells.all oneT then (putT l off v.cells).map fun l'=>⟨.unk,te,tS.set id (.cells l'),[id],True⟩ else none
   | _=>none
  | _,_,_=>none
 | .call { callee := .builtin .append,args,argTypes }=>match args.toList,argTypes.toList with
  | [x,y],[t,u]=>if t=u then match ty t,(evT te x).map (retype tt t),(evT te y).map (retype tt t) with
   | some ⟨.slice e s by_ _,_,_⟩,some (.sl k l ap),some (.sl k' m _)=>match ty e with
    | some ⟨_,_,some _⟩=>if h:k'=k then
     if decide (0<s)&&decide (by_≤100000)&&k.size==s then match ap with
      | .no=>none
      | .full=>if freshB l m then some ⟨.sl k (l++(h▸m)) (.lab nT),te,setT tS nT (.own e s),[nT],l.length+m.length≤1000000000⟩ else none
      | .lab g=>match tS[g]? with
       | some (.own e' s')=>if e'==e&&s'==s then some ⟨.sl k (l++(h▸m)) (.lab g),clrL g te,tS.map (clrB g),[g,nT],l.length+m.length≤1000000000⟩ else none
       | _=>none
     else none
     else none
    | _=>none
   | _,_,_=>none
   else none
  | _,_=>none
 | _=>(pureT P ty tt te tS o).map fun r=>⟨r.1,te,tS,readsT te o,r.2⟩
end
def footD (ρ:Operand→Option DV) (o:Oper) (nid:Nat):List Nat :=
 match o.op with
 | .alloc _ | .box .. => [nid]
 | .store _ a _=>match ρ a with
  | some (.ptr id _)=>[id]
  | _=>[]
 | .load _ a=>match ρ a with
  | some (.ptr id _)=>[id]
  | _=>[]
 | .call { callee := .builtin .append,args,.. }=>match (args[0]?).bind ρ with
  | some (.sl _ (some t) _)=>[t,nid]
  | _=>[nid]
 | _=>[]
def valsT:(t:TT)→t.den→List Value
 | .int k,n=>[.int k n]
 | .bool,b=>[.bool b]
 | .str,s=>[.string s]
 | .unit,_=>[]
 | .pair a b,x=>valsT a x.1++valsT b x.2
 | .sl _,_=>[]
def keyM (t:TT) (x:t.den):Value := .agg (valsT t x).toArray
def entM (t:TT) (l:List t.den):List (Value×Value):=l.map fun x=>(keyM t x,.bool true)
structure RelT (ι:Ids) (te:List TV) (tS:List TB) (env:List DV) (S:Store):Prop where
 env:RTl ι S te env
 cells:CellsR ι S tS
 own:∀ k e s,tS[k]? = some (.own e s)→∀ t,ι k=some t→∃ n,S[t]? = some (.tail e s n)
 dom:∀ k k',ι k=some k'→∃ b,tS[k]? = some b∧b ≠ .none
 inj:∀ i j k',ι i=some k'→ι j=some k'→i=j
 mp:∀ k kt l,tS[k]? = some (.map kt l)→∀ t,ι k=some t→S[t]? = some (.map (entM kt l))
def WOK (ι:Ids) (w:Ids):Prop:=∀ k k',ι k=some k'→w k'=some k
section
variable {P:Program} {ty:Tys} {tt:TypeId→Option TT} {ι ι' w:Ids} {S S':Store} {te:List TV} {env:List DV} {tS:List TB} {iso:IsoF} {call:CallF} {yf:YldF} {o:Oper} {nid nT:Nat} {r:TR}
def Keeps (ι:Ids) (S:Store) (ι':Ids) (S':Store) (bad:Nat→Prop):Prop:=∀ k k',¬ bad k→ι k=some k'→ι' k=some k'∧∀ e s n,S[k']? = some (.tail e s n)→S'[k']? = some (.tail e s n)
theorem ap_keep {n:Nat} {tok:Option Nat} {f:SF} {ap:Ap} {bad:Nat→Prop} (h:Keeps ι S ι' S' bad) (hb:∀ g,ap = .lab g→¬ bad g) (k:ApOK ι S n tok f ap):ApOK ι' S' n tok f ap:=by
 cases ap with
 | no=>trivial
 | full=>exact k
 | lab g =>
  refine k.imp id fun⟨t,e,s,h1,h2,h3⟩ => ?_
  obtain⟨h4,h5⟩:=h g t (hb g rfl) h1
  exact⟨t,e,s,h4,h2,h5 _ _ _ h3⟩
mutual
theorem rt_mono (h:Keeps ι S ι' S' fun _=>False):∀ (v:TV) (d:DV),RT ι S v d→RT ι' S' v d
 | .unk,_,_=>by simp only[RT]
 | .val _,d,k=>by cases d<;>simp only[RT] at k ⊢; exact k
 | .nils,d,k=>by cases d<;>simp only[RT] at k ⊢; exact k
 | .agg l,d,k=>by cases d<;>simp only[RT] at k ⊢; exact rtl_mono h l _ k
 | .tup l,d,k=>by cases d<;>simp only[RT] at k ⊢; exact rtl_mono h l _ k
 | .sl t l ap,d,k=>by cases d<;>simp only[RT] at k ⊢; exact⟨k.1,ap_keep h (fun _ _=>id) k.2⟩
 | .ptr id off,d,k=>by cases d<;>simp only[RT] at k ⊢; exact⟨(h _ _ (fun e=>e) k.1).1,k.2⟩
 | .eptr t l i off,d,k=>by cases d<;>simp only[RT] at k ⊢; exact k
 | .mp id,d,k=>by cases d<;>simp only[RT] at k ⊢; exact(h _ _ (fun e=>e) k).1
 | .fn f a b,d,k=>by cases d<;>simp only[RT] at k ⊢; exact⟨k.1,rtl_mono h a _ k.2.1,rtl_mono h b _ k.2.2⟩
theorem rtl_mono (h:Keeps ι S ι' S' fun _=>False):∀ (l:List TV) (m:List DV),RTl ι S l m→RTl ι' S' l m
 | [],m,k=>by rw[rtl_nil' k]; exact rtl_nil
 | a::l,m,k=>by
  obtain⟨d,m',rfl,h1,h2⟩:=rtl_cases k
  exact rtl_cons (rt_mono h a d h1) (rtl_mono h l m' h2)
end
mutual
theorem rt_clr {g:Nat} (h:Keeps ι S ι' S' fun k=>k=g):∀ (v:TV) (d:DV),RT ι S v d→RT ι' S' (clr g v) d
 | .unk,_,_=>by simp only[clr,RT]
 | .val _,d,k=>by cases d<;>simp only[RT,clr] at k ⊢; exact k
 | .nils,d,k=>by cases d<;>simp only[RT,clr] at k ⊢; exact k
 | .agg l,d,k=>by cases d<;>simp only[RT,clr] at k ⊢; exact rtl_clr h l _ k
 | .tup l,d,k=>by cases d<;>simp only[RT,clr] at k ⊢; exact rtl_clr h l _ k
 | .sl t l .no,d,k=>by cases d<;>simp only[RT,clr] at k ⊢; exact⟨k.1,trivial⟩
 | .sl t l .full,d,k=>by cases d<;>simp only[RT,clr] at k ⊢; exact k
 | .sl t l (.lab j),d,k=>by
  cases d<;>simp only[RT] at k
  simp only[clr]
  split
  ·simp only[RT]; exact⟨k.1,trivial⟩
  ·rename_i hj
   simp only[RT]; exact⟨k.1,ap_keep h (fun g' e=>by cases e; exact hj) k.2⟩
 | .ptr id off,d,k=>by
  cases d<;>simp only[RT] at k
  simp only[clr]
  split
  ·simp only[RT]
  ·rename_i hj
   simp only[RT]; exact⟨(h _ _ hj k.1).1,k.2⟩
 | .eptr t l i off,d,k=>by cases d<;>simp only[RT,clr] at k ⊢; exact k
 | .mp id,d,k=>by
  cases d<;>simp only[RT] at k
  simp only[clr]
  split
  ·simp only[RT]
  ·rename_i hj
   simp only[RT]; exact(h _ _ hj k).1
 | .fn f a b,d,k=>by cases d<;>simp only[RT,clr] at k ⊢; exact⟨k.1,rtl_clr h a _ k.2.1,rtl_clr h b _ k.2.2⟩
theorem rtl_clr {g:Nat} (h:Keeps ι S ι' S' fun k=>k=g):∀ (l:List TV) (m:List DV),RTl ι S l m→RTl ι' S' (clrL g l) m
 | [],m,k=>by rw[rtl_nil' k]; simp only[clrL]; exact rtl_nil
 | a::l,m,k=>by
  obtain⟨d,m',rfl,h1,h2⟩:=rtl_cases k
  simp only[clrL]
  exact rtl_cons (rt_clr h a d h1) (rtl_clr h l m' h2)
end
def NewT (tS:List TB) (nT:Nat):Prop:=tS[nT]? = some .none∨nT=tS.length
def NewD (S:Store) (nid:Nat):Prop:=S[nid]? = some .none∨nid=S.length
theorem setT_get {b:TB} (h:NewT tS nT) (j:Nat):(setT tS nT b)[j]? = if j=nT then some b else tS[j]? := by
 unfold setT
 rcases h with h | h
 ·have hlt:=(List.getElem?_eq_some_iff.1 h).1
  rw[if_pos hlt,List.getElem?_set]
  by_cases e:nT=j
  ·subst e; rw[if_pos rfl,if_pos hlt,if_pos rfl]
  ·rw[if_neg e,if_neg (Ne.symm e)]
 ·subst h
  rw[if_neg (Nat.lt_irrefl _),List.getElem?_append]
  by_cases e:j=tS.length
  ·subst e; rw[if_neg (Nat.lt_irrefl _),if_pos rfl]; simp
  ·rw[if_neg e]
   split
   ·rfl
   ·rw[List.getElem?_eq_none (by simp; omega),List.getElem?_eq_none (by omega)]
theorem setS_get {b:DB} (h:NewD S nid) (j:Nat):(setS S nid b)[j]? = if j=nid then some b else S[j]? := by
 unfold setS
 rcases h with h | h
 ·have hlt:=(List.getElem?_eq_some_iff.1 h).1
  rw[if_pos hlt,List.getElem?_set]
  by_cases e:nid=j
  ·subst e; rw[if_pos rfl,if_pos hlt,if_pos rfl]
  ·rw[if_neg e,if_neg (Ne.symm e)]
 ·subst h
  rw[if_neg (Nat.lt_irrefl _),List.getElem?_append]
  by_cases e:j=S.length
  ·subst e; rw[if_neg (Nat.lt_irrefl _),if_pos rfl]; simp
  ·rw[if_neg e]
   split
   ·rfl
   ·rw[List.getElem?_eq_none (by simp; omega),List.getElem?_eq_none (by omega)]
def upd (ι:Ids) (k k':Nat):Ids:=fun j=>if j=k then some k' else ι j
theorem RelT.live (h:RelT ι te tS env S) {k k':Nat} (hk:ι k=some k'):∃ b,S[k']? = some b∧b ≠ .none:=by
 obtain⟨b,h1,h2⟩:=h.dom k k' hk
 cases b with
 | none=>exact(h2 rfl).elim
 | cells l =>
  obtain⟨k'',ds,h3,h4,-⟩:=h.cells k l h1
  rw[hk] at h3
  cases h3
  exact⟨_,h4,fun e=>by cases e⟩
 | own e s =>
  obtain⟨n,h3⟩:=h.own k e s h1 k' hk
  exact⟨_,h3,fun e=>by cases e⟩
 | map kt l=>exact⟨_,h.mp k kt l h1 k' hk,fun e=>by cases e⟩
theorem RelT.ne_new (h:RelT ι te tS env S) (hn:NewD S nid) {k k':Nat} (hk:ι k=some k'):k'≠nid:=by
 rintro rfl
 obtain⟨b,h1,h2⟩:=h.live hk
 rcases hn with hn | hn
 ·rw[hn] at h1; cases h1; exact h2 rfl
 ·have:=(List.getElem?_eq_some_iff.1 h1).1; omega
theorem RelT.new (h:RelT ι te tS env S) (hn:NewT tS nT):ι nT=none:=by
 cases hk:ι nT with
 | none=>rfl
 | some k' =>
  obtain⟨b,h1,h2⟩:=h.dom _ _ hk
  rcases hn with hn | hn
  ·rw[hn] at h1; cases h1; exact(h2 rfl).elim
  ·have:=(List.getElem?_eq_some_iff.1 h1).1; omega
theorem keeps_new (h:RelT ι te tS env S) (hT:NewT tS nT) (hn:NewD S nid) (b:DB):Keeps ι S (upd ι nT nid) (setS S nid b) fun _=>False:=by
 intro k k' _ hk
 have h1:k≠nT:=by rintro rfl; rw[h.new hT] at hk; cases hk
 refine⟨by simp only[upd,h1,if_false]; exact hk,fun e s n hs => ?_⟩
 rw[setS_get hn,if_neg (h.ne_new hn hk)]
 exact hs
theorem wok_new (h:RelT ι te tS env S) (hn:NewD S nid) (hT:NewT tS nT) (hw:WOK ι w):WOK (upd ι nT nid) (upd w nid nT):=by
 intro k k' hk
 unfold upd at hk ⊢
 split at hk
 ·rename_i e
  subst e
  cases hk
  simp
 ·rw[if_neg (h.ne_new hn hk)]
  exact hw k k' hk
theorem rel_cells_new (h:RelT ι te tS env S) (hT:NewT tS nT) (hn:NewD S nid) {ts:List TV} {ds:List DV} (hc:RTl ι S ts ds):RelT (upd ι nT nid) te (setT tS nT (.cells ts)) env (setS S nid (.cells ds)):=by
 have K:=keeps_new h hT hn (.cells ds)
 refine⟨rtl_mono K _ _ h.env,fun k l hk => ?_,fun k e s hk t ht => ?_,fun k k' hk => ?_,fun i j k' hi hj => ?_,fun k kt l hk t ht => ?_⟩
 ·rw[setT_get hT] at hk
  split at hk
  ·rename_i e
   subst e
   cases hk
   exact⟨nid,ds,by simp[upd],by rw[setS_get hn,if_pos rfl],rtl_mono K _ _ hc⟩
  ·rename_i e
   obtain⟨k',ds',h1,h2,h3⟩:=h.cells k l hk
   exact⟨k',ds',by simp only[upd,e,if_false]; exact h1,by rw[setS_get hn,if_neg (h.ne_new hn h1)]; exact h2,rtl_mono K _ _ h3⟩
 ·rw[setT_get hT] at hk
  split at hk
  ·cases hk
  ·rename_i e'
   simp only[upd,e',if_false] at ht
   obtain⟨n,h1⟩:=h.own k e s hk t ht
   exact⟨n,by rw[setS_get hn,if_neg (h.ne_new hn ht)]; exact h1⟩
 ·rw[setT_get hT]
  split
  ·exact⟨_,rfl,fun e=>by cases e⟩
  ·rename_i e
   simp only[upd,e,if_false] at hk
   exact h.dom k k' hk
 ·unfold upd at hi hj
  split at hi<;>split at hj
  ·omega
  ·cases hi; exact(h.ne_new hn hj rfl).elim
  ·cases hj; exact(h.ne_new hn hi rfl).elim
  ·exact h.inj i j k' hi hj
 ·rw[setT_get hT] at hk
  split at hk
  ·cases hk
  ·rename_i e'
   simp only[upd,e',if_false] at ht
   rw[setS_get hn,if_neg (h.ne_new hn ht)]
   exact h.mp k kt l hk t ht
def Lv (S:Store) (i:Nat):Prop:=∃ b,S[i]? = some b∧b ≠ .none
structure Fr (B:List Nat) (ι:Ids) (S:Store) (ι':Ids) (S':Store):Prop where
 rest:∀ k',Lv S k'→(∀ k,ι k≠some k')→S'[k']? = S[k']?
 ours:∀ k k',ι' k=some k'→(∃ j,ι j=some k')∨¬ Lv S k'
 base:∀ k,k∈B→ι' k=ι k
def BOK (B:List Nat) (tS:List TB):Prop:=∀ k,k∈B→∃ l,tS[k]? = some (.cells l)
theorem Fr.refl (B:List Nat) (ι:Ids) (S:Store):Fr B ι S ι S:=⟨fun _ _ _=>rfl,fun k _ h => .inl ⟨k,h⟩,fun _ _=>rfl⟩
theorem Fr.trans {B:List Nat} {ι'':Ids} {S'':Store} (h:Fr B ι S ι' S') (k:Fr B ι' S' ι'' S''):Fr B ι S ι'' S'' where
 rest:=fun k' hl hn=>by
  have h1:=h.rest k' hl hn
  have hl':Lv S' k':=by obtain⟨b,h2,h3⟩:=hl; exact⟨b,h1.trans h2,h3⟩
  refine(k.rest k' hl' fun j hj => ?_).trans h1
  rcases h.ours j k' hj with ⟨i,h2⟩ | h2
  ·exact hn i h2
  ·exact h2 hl
 ours:=fun j k' hj=>by
  rcases k.ours j k' hj with ⟨i,h1⟩ | h1
  ·exact h.ours i k' h1
  ·by_cases hl:Lv S k'
   ·by_cases hn:∃ j,ι j=some k'
    ·exact .inl hn
    ·refine(h1 ?_).elim
     obtain⟨b,h2,h3⟩:=hl
     exact⟨b,(h.rest k' ⟨b,h2,h3⟩ fun i hi=>hn ⟨i,hi⟩).trans h2,h3⟩
   ·exact .inr hl
 base:=fun j hj=>(k.base j hj).trans (h.base j hj)
theorem not_live_new (hn:NewD S nid):¬ Lv S nid:=by
 rintro⟨b,h1,h2⟩
 rcases hn with hn | hn
 ·rw[hn] at h1; cases h1; exact h2 rfl
 ·have:=(List.getElem?_eq_some_iff.1 h1).1; omega
theorem fr_upd {B:List Nat} {g:Nat} {b:DB} (hn:NewD S nid) (hg:g ∉ B):Fr B ι S (upd ι g nid) (setS S nid b) where
 rest:=fun k' hl _=>by
  rw[setS_get hn,if_neg]
  rintro rfl
  exact not_live_new hn hl
 ours:=fun k k' hk=>by
  unfold upd at hk
  split at hk
  ·cases hk; exact .inr (not_live_new hn)
  ·exact .inl ⟨k,hk⟩
 base:=fun k hk=>by unfold upd; rw[if_neg (fun e:k=g=>hg (e▸hk))]
theorem fr_set {B:List Nat} {k0 id:Nat} {b:DB} (hk:ι k0=some id):Fr B ι S ι (S.set id b) where
 rest:=fun k' _ hn=>by
  rw[List.getElem?_set,if_neg]
  rintro rfl
  exact hn k0 hk
 ours:=fun k _ h => .inl ⟨k,h⟩
 base:=fun _ _=>rfl
theorem bok_new {B:List Nat} (hB:BOK B tS) (hT:NewT tS nT):nT ∉ B:=by
 intro hlt
 obtain⟨l,h1⟩:=hB _ hlt
 rcases hT with hT | hT
 ·rw[hT] at h1; cases h1
 ·have:=(List.getElem?_eq_some_iff.1 h1).1; omega
theorem bok_setT {B:List Nat} {b:TB} (hB:BOK B tS) (hT:NewT tS nT):BOK B (setT tS nT b):=by
 intro k hk
 have:=bok_new hB hT
 rw[setT_get hT,if_neg (fun e:k=nT=>this (e▸hk))]
 exact hB k hk
theorem bok_own {B:List Nat} {g e s:Nat} (hB:BOK B tS) (h:tS[g]? = some (.own e s)):g ∉ B:=by
 intro hlt
 obtain⟨l,h1⟩:=hB _ hlt
 rw[h] at h1; cases h1
def Nn (i:Nat) (S S':Store):Prop:=S.length≤S'.length∧∀ j,j≠i→S[j]? = some .none→S'[j]? = some .none
theorem nn_refl (i:Nat) (S:Store):Nn i S S:=⟨Nat.le_refl _,fun _ _ h=>h⟩
theorem nn_setS {b:DB} (hn:NewD S nid):Nn nid S (setS S nid b):=by
 refine⟨?_,fun j hj h=>by rw[setS_get hn,if_neg hj]; exact h⟩
 unfold setS
 split<;>simp
theorem nn_set {i id:Nat} {b b':DB} (h:S[id]? = some b) (hb:b ≠ .none):Nn i S (S.set id b'):=by
 refine⟨by simp,fun j _ hj => ?_⟩
 rw[List.getElem?_set,if_neg]
 ·exact hj
 ·rintro rfl
  rw[h] at hj
  cases hj
  exact hb rfl
end
end Go.Tv
end
