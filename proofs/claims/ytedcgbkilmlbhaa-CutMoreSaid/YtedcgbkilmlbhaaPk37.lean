import Derived.Test.YtedcgbkilmlbhaaPk36
import Derived.WalkKit
import Derived.Deep.LoopGhost
import Derived.Ground.SlgnProg
import Derived.Shelf.Lay
import Derived.Shelf.SlicesG.Clone
import Derived.Shelf.SlicesG.Reverse
import Derived.Lib.OwnBridge
import Derived.OwnWalk
set_option maxHeartbeats 1000000
set_option maxRecDepth 100000
section
namespace Go.Proofs
open Go.Shelf Go.RowKit Go.Lib Go.Sort
def Try.Jv:Go.Shelf.Ren:=⟨λ|41=>95|n=>n,λ|22=>22|23=>3|4=>4|n=>n,λ|n=>n⟩
theorem Try.Eh:Go.Proofs.SlLaysN.n41 Try.prog Try.Jv:={
 mixed:=by kernel_rfl
 f41:=⟨Try.f95.name,by decide,Try.func95.trans (congrArg some (by kernel_rfl))⟩
 t4:=Try.underlying4
 a4:=Try.isAgg4
 z4:=Try.sizeOf4
 v4:=Try.zeroValue4
 t22:=Try.underlying22
 a22:=Try.isAgg22
 z22:=Try.sizeOf22
 v22:=Try.zeroValue22
 t23:=Try.underlying3
 a23:=Try.isAgg3
 z23:=Try.sizeOf3
 v23:=Try.zeroValue3
 i23:=by kernel_rfl}
def Try.E8:Go.Shelf.Ren:=⟨λ|35=>96|n=>n,λ|22=>22|23=>3|3=>3|4=>4|0=>0|n=>n,λ|n=>n⟩
theorem Try.xU:Go.Proofs.SlLaysN.n35 Try.prog Try.E8:={
 mixed:=by kernel_rfl
 f35:=⟨Try.f96.name,by decide,Try.func96.trans (congrArg some (by kernel_rfl))⟩
 t0:=Try.underlying0
 a0:=Try.isAgg0
 z0:=Try.sizeOf0
 v0:=Try.zeroValue0
 t3:=Try.underlying3
 a3:=Try.isAgg3
 z3:=Try.sizeOf3
 v3:=Try.zeroValue3
 t4:=Try.underlying4
 a4:=Try.isAgg4
 z4:=Try.sizeOf4
 v4:=Try.zeroValue4
 t22:=Try.underlying22
 a22:=Try.isAgg22
 z22:=Try.sizeOf22
 v22:=Try.zeroValue22
 t23:=Try.underlying3
 a23:=Try.isAgg3
 z23:=Try.sizeOf3
 v23:=Try.zeroValue3}
theorem Try.Z3 (b off n c:Nat)(zs:List Int)(w:World)(hz:n<=zs.length)(Zc:n*8<=140737488355328)(hc:∀j,j<zs.length->w.cell? ⟨b,off+j,none⟩=some (.int .i64 (zs.getD j 0))):
  Calls Try.prog 83 #[.slice (some ⟨b,off,none⟩) n c] w λe w'=>∃v',e=.returned v'/\w'.ownsRow w.heap.size 3 1 v' n ((zs.take n).reverse.map (Value.int .i64))/\Below w.heap.size w w':=by
 have Nl:=AnyG.slices_Clone_int Try.Eh b off n c zs w hz Zc hc;clear hc
 go_enter Try.func83,Try.ntmps83
 go_wp2_with (first
  |(go_at_call 95;refine Nl.mono ?_;rintro e w1 ⟨v1,rfl,fN,Te,Dh⟩;obtain⟨g,cap,rfl,hbg,_,_,hcm,hlen,hH⟩:=Lib.holds_of_ownsRow fN Te;have afp:=AnyG.slices_Reverse_int Try.xU g 0 cap (zs.take n) w1 hH (by unfold maxLen at hcm;omega);rw[hlen]at afp;have X:Aside (w1.ownsRow w.heap.size 3 1 (.slice (some ⟨g,0,none⟩) n cap) n ((zs.take n).map (Value.int .i64))/\Below w.heap.size w w1/\w.heap.size<=g):=⟨fN,Dh,hbg⟩;clear fN Dh hH Te)
  |(go_at_call 96;refine afp.mono ?_;rintro e w2 ⟨rfl,q,rfl⟩))
 go_ret
 have hy:(zs.take n).reverse.length=n:=by simpa using hlen
 have h1:=Lib.ownsRow_putRow (q:=q) (ys:=(zs.take n).reverse) X.out.1 hy (ak n);rw[List.take_of_length_le (Nat.le_of_eq hy)]at h1;exact⟨_,rfl,by simpa [List.map_reverse,List.map_take]using h1,Lib.below_putRow X.out.2.1 X.out.2.2⟩
theorem Try.rev_zero (a:Addr)(c:Nat)(w:World):
  Calls Try.prog 83 #[.slice (some a) 0 c] w λe w'=>∃v',e=.returned v'/\w'.ownsRow w.heap.size 3 1 v' 0 []/\Below w.heap.size w w':=by
 have Nl:=AnyG.slices_Clone_int_zero Try.Eh a c w
 go_enter Try.func83,Try.ntmps83
 go_wp2_with (first
  |(go_at_call 95;refine Nl.mono ?_;rintro e w1 ⟨v1,rfl,fN,Te,Dh⟩;obtain⟨g,cap,rfl,_,_,_,_,_,_⟩:=Lib.holds_of_ownsRow (enc:=Value.int .i64) (zs:=[]) fN Te;have X:Aside (w1.ownsRow w.heap.size 3 1 (.slice (some ⟨g,0,none⟩) 0 cap) 0 []/\Below w.heap.size w w1):=⟨fN,Dh⟩;clear fN Dh Te)
  |(go_at_call 96;refine(AnyG.slices_Reverse_int_empty Try.xU _ _ _).mono ?_;rintro e w2 ⟨rfl,rfl⟩))
 go_ret
 exact⟨_,rfl,X.out.1,X.out.2⟩
theorem Try.Z2 (n c:Nat)(w:World):
  Calls Try.prog 83 #[.slice none n c] w λe w'=>e=.returned (.slice none 0 0)/\w'=w:=by
 go_enter Try.func83,Try.ntmps83
 go_wp2_with (first
  |(go_at_call 95;refine(AnyG.slices_Clone_int_nil Try.Eh n c _).mono ?_;rintro e w' ⟨rfl,rfl⟩)
  |(go_at_call 96;refine(AnyG.slices_Reverse_int_empty Try.xU none 0 _).mono ?_;rintro e w' ⟨rfl,rfl⟩))
 go_ret
 exact⟨rfl,rfl⟩
end Go.Proofs
namespace Go.Di
open Go Go.Conc Go.Co Go.Proofs
variable {P:Program} {aa:Machine->Trace->Prop} {x:Cx}
theorem Ca{g:FuncId}{vals:Array Value}{fn:Func}{c:Code}{R:Value->World->Prop}(hP:Plain P)(hf:P.funcs[g]? =some fn)(hb:fn.body=some c)(lZ:∀τ,Calls P g vals (x.w.re τ 0) λe w'=>∃v,e=.returned v/\R v w')
  {Post:Cx->Value->Prop} (hq:∀v w',R v w'->∀τ d,∃y:Cx,y.w=w'.re τ d/\Post y v):fJ P aa x g vals Post:=by
 refine⟨⟨fn,c,hf,hb⟩,λfr cs hc=>PZ hP λ_ τ=>?_⟩;obtain⟨e,w',fr',⟨v,rfl,hR⟩,Nk,Tj,lz⟩:=lZ τ (fr::cs);obtain⟨n,hn⟩:=Steps.trans Nk (Steps.one (step_leave_returned lz));refine⟨n,_,w',hn,rfl,rfl,λτ d=>?_⟩;obtain⟨y,hy,hp⟩:=hq v w' hR τ d;have:=hc y v hp;rw[hy]at this;exact this
def YW:DV->Option DV
 |.sl rows _ _=>match Bx rows with
  |some l=>if l.length<=1000000 then some (.sl (l.reverse.map λn=>.val (.int .i64 n)) none ⟨false,none⟩)else none
  |none=>none
 |_=>none
theorem G8(l:List Value):flat (l.map DV.val)=l.map DV.val:=by
 induction l with
 |nil=>rfl
 |cons m l ih=>simp only[flat,bn,cT]at ih⊢;rw[ih];rfl
theorem Rt{a d:DV}(h:YW a=some d){vals:Array Value}(hR:Rel x)(ha:ia x [a] vals):fJ Try.prog aa x 83 vals λy u=>y.S=x.S/\Rel y/\bV x y/\RV y d u:=by
 unfold YW at h;split at h
 .rename_i rows tok f;split at h
  .rename_i l hl;split at h
   .rename_i hlen;cases h;obtain⟨h1,h2,h3⟩:=we hl;obtain⟨hsz,bg⟩:=ha;have e:vals=#[vals.getD 0 undef]:=by
     obtain⟨l⟩:=vals
     match l,hsz with
     |[u],_=>rfl
    have hv:=bg 0 _ rfl;generalize vals.getD 0 undef=u at e hv;subst e;cases hv with
    |@sl _ _ _ A cap s vs hv hr k1 k2 k3 k4 k5=>
     have lZ:∀τ,Calls Try.prog 83 #[.slice A rows.length cap] (x.w.re τ 0) λe w'=>∃v,e=.returned v/\(x.w.heap.size<=w'.heap.size/\(w'.os=x.w.os/\w'.output=x.w.output)/\(∀b,b<x.w.heap.size->w'.heap[b]? =x.w.heap[b]?)/\w'.ownsRow x.w.heap.size 3 1 v l.length (l.reverse.map (Value.int .i64))):=by
      intro τ;cases A with
      |none=>
       have h0:rows.length=0:=by have:=k3 rfl;omega
       have hl0:l=[]:=eS (by omega);subst hl0;refine(Try.Z2 rows.length cap (x.w.re τ 0)).mono ?_;rintro e w' ⟨rfl,rfl⟩;exact⟨_,rfl,ak _,⟨rfl,rfl⟩,λ_ _=>rfl,World.ownsRow_nil _ _ _ _⟩
      |some ad=>
       have hz:rows.length=l.length:=h1.symm;by_cases h0:l.length=0;· have hl0:l=[]:=eS h0;subst hl0;rw[hz];refine(Try.rev_zero ad cap (x.w.re τ 0)).mono ?_;rintro e w' ⟨v,rfl,ho,hb⟩;exact⟨_,rfl,hb.size,⟨hb.os,hb.output⟩,hb.block,ho⟩
       have hs:=k4 ad rfl (by omega);obtain⟨b,o,sp⟩:=ad;simp only at hs;subst hs;rw[hz];refine(Try.Z3 b o l.length cap l (x.w.re τ 0) (ak _) (by omega) λj hj=>?_).mono ?_
       .have hc:(flat rows)[j]? =some (.val (.int .i64 (l.getD j 0))):=by rw[h3];refine h2 j _ ?_;simp[aP,hj]
        obtain⟨-,b',o',q1,q2,q3⟩:=hv.2 j _ hc;cases q1;have:=hr j _ hc;generalize vs j=u at*;cases this with
        |val _=>exact q3
       rintro e w' ⟨v,rfl,ho,hb⟩;rw[iH]at ho;exact⟨_,rfl,hb.size,⟨hb.os,hb.output⟩,hb.block,ho⟩
     refine Ca lK Try.func83 rfl lZ λv w' hp τ d=>?_;obtain⟨p1,p2,p3,p4⟩:x.w.heap.size<=(w'.re τ d).heap.size/\((w'.re τ d).os=x.w.os/\(w'.re τ d).output=x.w.output)/\(∀b,b<x.w.heap.size->(w'.re τ d).heap[b]? =x.w.heap[b]?)/\(w'.re τ d).ownsRow x.w.heap.size 3 1 v l.length (l.reverse.map (Value.int .i64)):=hp;refine⟨x.Bt (w'.re τ d) v (l.length*1),rfl,rfl,AY hR p1 p2 p3 p4,s6 hR p1 p2 p3 p4,DY (by simp) (λr hr=>?_) ?_ (λu hu=>?_) p4⟩;· simp only[dM]at hr;obtain⟨m,-,rfl⟩:=hr;rfl
     .have:=G8 (l.reverse.map (Value.int .i64));simpa only[qF,Function.comp_def]using this
     simp only[dM]at hu;obtain⟨m,-,rfl⟩:=hu;exact⟨rfl,rfl⟩
   cases h
  cases h
 cases h
end Go.Di
end
section
namespace Go.Proofs
open Go.RowKit
theorem aaU{l:List Int}{k:Nat}(hk:k<l.length):((l.take k).map (Value.int .i64)++List.replicate (l.length-k) (Value.int .i64 0)).set k (.int .i64 (l.getD k 0))=(l.take (k+1)).map (Value.int .i64)++List.replicate (l.length-(k+1)) (.int .i64 0):=by
 have e:((l.take k).map (Value.int .i64)).length=k:=by rw[List.length_map,List.length_take];omega
 rw[List.set_append_right _ _ (by omega),e,Nat.sub_self,show l.length-k=(l.length-(k+1))+1 by omega,zb,List.set_cons_zero,List.take_add_one,dY,jm];congr 1;simp[aP,hk]
theorem Try.abb {w:World}{a:Addr}{v:Value}(h:w.cell? a=some v):a.block<w.heap.size:=by
 by_cases hb:a.block<w.heap.size;.exact hb
 simp[World.cell?,mD (y8 hb)]at h
theorem Try.aaV (A:Option Addr)(cap:Nat)(l:List Int)(w:World)(hl:l.length<=1000)(hR:l≠[]->∃b off,A=some ⟨b,off,none⟩/\∀j,j<l.length->w.cell? ⟨b,off+j,none⟩=some (.int .i64 (l.getD j 0))):
  Calls Try.prog 67 #[.slice A l.length cap] w λe w'=>e=.returned (.slice (some ⟨w.heap.size,0,none⟩) l.length l.length)/\w'.ownsRow w.heap.size 3 1 (.slice (some ⟨w.heap.size,0,none⟩) l.length l.length) l.length (l.map (Value.int .i64))/\Below w.heap.size w w':=by
 obtain⟨i0,hi,JG,SE,hz2⟩:=info_parts Co.Uw;have mP:=Lib.hid hR;clear hR;have hm:l.length<=maxLen:=by unfold maxLen;omega
 go_enter Try.func67,Try.ntmps67
 go_wp2_with (first|(at_make;go_loud (refine wpList_make_full _ rfl _ _ 22 rfl w.heap.size 3 i0 (.int .i64 0) 1 Try.underlying22 hi JG SE _ _ _ _ l.length rfl rfl rfl rfl (by rw[hz2];omega) hm (ak _) ?_)))
 intro w1 fN UC
 go_wp2
 go_loopw [4] (λi wr=>∃k:Nat,k<=l.length/\i=.int .i64 (k:Int)/\wr.ownsRow w.heap.size 3 1 (.slice (some ⟨w.heap.size,0,none⟩) l.length l.length) l.length ((l.take k).map (Value.int .i64)++List.replicate (l.length-k) (.int .i64 0))/\Below w.heap.size w wr) (λi _=>l.length-(intOf i).toNat)
 .refine⟨0,kT _,rfl,?_,(Below.refl _ _).grown UC (ak _) (λg h=>by cases h)⟩;rw[toList_madeCells_one]at fN;simpa using fN
 obtain⟨k,hk,rfl,xw,Dh⟩:=hrel;by_cases hkn:k<l.length
 .obtain⟨b,off,rfl,hc⟩:=mP.out (λe=>by subst e;simp at hkn);have jh:wr.cell? ⟨b,off+k,none⟩=some (.int .i64 (l.getD k 0)):=(Dh.cell (p:=⟨b,off+k,none⟩) (Try.abb (hc k hkn))).trans (hc k hkn);have Mr:=xw.frozenAt k;have ud:wr.cell? ⟨w.heap.size,k,none⟩=some (.int .i64 0):=by rw[xw.cellAt k (by omega),iI (by rw[List.length_map,List.length_take];omega),nK,if_pos (by rw[List.length_map,List.length_take];omega)]
  have st:=Lib.hid (xw.stored k (.int .i64 (l.getD k 0)));have o8:=Lib.hid Dh;clear xw Dh hc fN UC
  go_wp2
  refine⟨⟨k+1,by omega,by go_num,?_,?_⟩,by simp[intOf];omega⟩;.have:=st.out.1;rw[aaU hkn]at this;simpa [aP,hkn]using this
  exact o8.out.setCell (ak _) _
 clear fN UC;rw[show k=l.length by omega,iH,Nat.sub_self,List.replicate_zero,dZ]at xw;have st:=Lib.hid xw;have o8:=Lib.hid Dh;clear xw Dh
 go_wp2
 go_ret
 exact⟨rfl,st.out,o8.out⟩
end Go.Proofs
namespace Go.Di
open Go Go.Conc Go.Co Go.Proofs
variable {P:Program} {aa:Machine->Trace->Prop} {x:Cx}
def Zh:DV->Option DV
 |.sl rows _ _=>match Bx rows with
  |some l=>if l.length<=1000 then some (.sl (l.map λn=>.val (.int .i64 n)) none ⟨false,none⟩)else none
  |none=>none
 |_=>none
theorem Sn{a d:DV}(h:Zh a=some d){vals:Array Value}(hR:Rel x)(ha:ia x [a] vals):fJ Try.prog aa x 67 vals λy u=>y.S=x.S/\Rel y/\bV x y/\RV y d u:=by
 unfold Zh at h;split at h
 .rename_i rows tok f;split at h
  .rename_i l hl;split at h
   .rename_i hlen;cases h;obtain⟨h1,h2,h3⟩:=we hl;obtain⟨hsz,bg⟩:=ha;have e:vals=#[vals.getD 0 undef]:=by
     obtain⟨l⟩:=vals
     match l,hsz with
     |[u],_=>rfl
    have hv:=bg 0 _ rfl;generalize vals.getD 0 undef=u at e hv;subst e;cases hv with
    |@sl _ _ _ A cap s vs hv hr k1 k2 k3 k4 k5=>
     have lZ:∀τ,Calls Try.prog 67 #[.slice A rows.length cap] (x.w.re τ 0) λe w'=>∃v,e=.returned v/\(x.w.heap.size<=w'.heap.size/\(w'.os=x.w.os/\w'.output=x.w.output)/\(∀b,b<x.w.heap.size->w'.heap[b]? =x.w.heap[b]?)/\w'.ownsRow x.w.heap.size 3 1 v l.length (l.map (Value.int .i64))):=by
      intro τ;have hz:rows.length=l.length:=h1.symm;rw[hz];refine(Try.aaV A cap l (x.w.re τ 0) hlen λhne=>?_).mono ?_
      .have FF:0<l.length:=List.length_pos_iff.2 hne;have hc:∀j,j<l.length->(flat rows)[j]? =some (.val (.int .i64 (l.getD j 0))):=λj hj=>by rw[h3];refine h2 j _ ?_;simp[aP,hj]
       obtain⟨-,b,o,q1,-,-⟩:=hv.2 0 _ (hc 0 FF);refine⟨b,o,q1,λj hj=>?_⟩;obtain⟨-,b',o',q2,q3,q4⟩:=hv.2 j _ (hc j hj);rw[q1]at q2;cases q2;have:=hr j _ (hc j hj);generalize vs j=u at*;cases this with
       |val _=>exact q4
      rintro e w' ⟨rfl,ho,hb⟩;exact⟨_,rfl,hb.size,⟨hb.os,hb.output⟩,hb.block,ho⟩
     refine Ca lK Try.func67 rfl lZ λv w' hp τ d=>?_;obtain⟨p1,p2,p3,p4⟩:x.w.heap.size<=(w'.re τ d).heap.size/\((w'.re τ d).os=x.w.os/\(w'.re τ d).output=x.w.output)/\(∀b,b<x.w.heap.size->(w'.re τ d).heap[b]? =x.w.heap[b]?)/\(w'.re τ d).ownsRow x.w.heap.size 3 1 v l.length (l.map (Value.int .i64)):=hp;refine⟨x.Bt (w'.re τ d) v (l.length*1),rfl,rfl,AY hR p1 p2 p3 p4,s6 hR p1 p2 p3 p4,DY (by simp) (λr hr=>?_) ?_ (λu hu=>?_) p4⟩;.simp only[dM]at hr;obtain⟨m,-,rfl⟩:=hr;rfl
     .have:=G8 (l.map (Value.int .i64));simpa only[qF,Function.comp_def]using this
     simp only[dM]at hu;obtain⟨m,-,rfl⟩:=hu;exact⟨rfl,rfl⟩
   cases h
  cases h
 cases h
end Go.Di
end
