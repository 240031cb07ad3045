import Derived.Test.YtedcgbkilmlbhaaPk33
import Derived.WalkKit
import Derived.Deep.LoopGhost
import Derived.Ground.SlgnProg
import Derived.Shelf.Lay
import Derived.Shelf.SlicesG.Clone
import Derived.Shelf.SlicesG.Reverse
import Derived.Lib.OwnBridge
import Derived.OwnWalk
section
namespace Go.Proofs
open Go.Shelf Go.RowKit Go.Lib Go.Sort
def Try.CS:Go.Shelf.Ren:=⟨fun | 41=>95 | n=>n,fun | 22=>22 | 23=>3 | 4=>4 | n=>n,fun | n=>n⟩
theorem Try.yj:Go.Proofs.SlLaysN.n41 Try.prog Try.CS:={
  mixed:=by kernel_rfl
  f41:=⟨Try.f95.name,by decide,Try.func95.trans (congrArg some (by kernel_rfl))⟩
  t4:=Try.underlying4
  a4:=Try.isAgg4
  z4:=Try.sizeOf4
  v4:=Try.zeroValue4
  t22:=Try.underlying22
  a22:=Try.isAgg22
  z22:=Try.sizeOf22
  v22:=Try.zeroValue22
  t23:=Try.underlying3
  a23:=Try.isAgg3
  z23:=Try.sizeOf3
  v23:=Try.zeroValue3
  i23:=by kernel_rfl }
def Try.ze:Go.Shelf.Ren:=⟨fun | 35=>96 | n=>n,fun | 22=>22 | 23=>3 | 3=>3 | 4=>4 | 0=>0 | n=>n,fun | n=>n⟩
theorem Try.rN:Go.Proofs.SlLaysN.n35 Try.prog Try.ze:={
  mixed:=by kernel_rfl
  f35:=⟨Try.f96.name,by decide,Try.func96.trans (congrArg some (by kernel_rfl))⟩
  t0:=Try.underlying0
  a0:=Try.isAgg0
  z0:=Try.sizeOf0
  v0:=Try.zeroValue0
  t3:=Try.underlying3
  a3:=Try.isAgg3
  z3:=Try.sizeOf3
  v3:=Try.zeroValue3
  t4:=Try.underlying4
  a4:=Try.isAgg4
  z4:=Try.sizeOf4
  v4:=Try.zeroValue4
  t22:=Try.underlying22
  a22:=Try.isAgg22
  z22:=Try.sizeOf22
  v22:=Try.zeroValue22
  t23:=Try.underlying3
  a23:=Try.isAgg3
  z23:=Try.sizeOf3
  v23:=Try.zeroValue3 }
set_option maxHeartbeats 1000000 in
theorem Try.QW (b off n c:Nat) (zs:List Int) (w:World) (hz:n≤zs.length) (P8:n*8≤140737488355328) (hc:∀ j,j<zs.length→w.cell? ⟨b,off+j,none⟩=some (.int .i64 (zs.getD j 0))) :
    Calls Try.prog 83 #[.slice (some ⟨b,off,none⟩) n c] w fun e w'=>∃ v',e = .returned v'∧w'.ownsRow w.heap.size 3 1 v' n ((zs.take n).reverse.map (Value.int .i64))∧Below w.heap.size w w':=by
  have F9:=AnyG.slices_Clone_int Try.yj b off n c zs w hz P8 hc
  clear hc
  go_enter Try.func83,Try.ntmps83
  go_wp2_with (first
    | (go_at_call 95; refine F9.mono ?_; rintro e w1 ⟨v1,rfl,dm,Sg,xo⟩
       obtain⟨g,cap,rfl,hbg,_,_,hcm,hlen,hH⟩:=Lib.holds_of_ownsRow dm Sg
       have YC:=AnyG.slices_Reverse_int Try.rN g 0 cap (zs.take n) w1 hH (by unfold maxLen at hcm; omega)
       rw[hlen] at YC
       have X:Aside (w1.ownsRow w.heap.size 3 1 (.slice (some ⟨g,0,none⟩) n cap) n ((zs.take n).map (Value.int .i64))∧Below w.heap.size w w1∧w.heap.size≤g):=⟨dm,xo,hbg⟩
       clear dm xo hH Sg)
    | (go_at_call 96; refine YC.mono ?_; rintro e w2 ⟨rfl,q,rfl⟩))
  go_ret
  have hy:(zs.take n).reverse.length=n:=by simpa using hlen
  have h1:=Lib.ownsRow_putRow (q:=q) (ys:=(zs.take n).reverse) X.out.1 hy (Nat.le_refl n)
  rw[List.take_of_length_le (Nat.le_of_eq hy)] at h1
  exact⟨_,rfl,by simpa [List.map_reverse,List.map_take] using h1,Lib.below_putRow X.out.2.1 X.out.2.2⟩
theorem Try.rev_zero (a:Addr) (c:Nat) (w:World) :
    Calls Try.prog 83 #[.slice (some a) 0 c] w fun e w'=>∃ v',e = .returned v'∧w'.ownsRow w.heap.size 3 1 v' 0 []∧Below w.heap.size w w':=by
  have F9:=AnyG.slices_Clone_int_zero Try.yj a c w
  go_enter Try.func83,Try.ntmps83
  go_wp2_with (first
    | (go_at_call 95; refine F9.mono ?_; rintro e w1 ⟨v1,rfl,dm,Sg,xo⟩
       obtain⟨g,cap,rfl,_,_,_,_,_,_⟩:=Lib.holds_of_ownsRow (enc:=Value.int .i64) (zs:=[]) dm Sg
       have X:Aside (w1.ownsRow w.heap.size 3 1 (.slice (some ⟨g,0,none⟩) 0 cap) 0 []∧Below w.heap.size w w1):=⟨dm,xo⟩
       clear dm xo Sg)
    | (go_at_call 96; refine(AnyG.slices_Reverse_int_empty Try.rN _ _ _).mono ?_; rintro e w2 ⟨rfl,rfl⟩))
  go_ret
  exact⟨_,rfl,X.out.1,X.out.2⟩
theorem Try.QV (n c:Nat) (w:World) :
    Calls Try.prog 83 #[.slice none n c] w fun e w'=>e = .returned (.slice none 0 0)∧w'=w:=by
  go_enter Try.func83,Try.ntmps83
  go_wp2_with (first
    | (go_at_call 95; refine(AnyG.slices_Clone_int_nil Try.yj n c _).mono ?_; rintro e w' ⟨rfl,rfl⟩)
    | (go_at_call 96; refine(AnyG.slices_Reverse_int_empty Try.rN none 0 _).mono ?_; rintro e w' ⟨rfl,rfl⟩))
  go_ret
  exact⟨rfl,rfl⟩
end Go.Proofs
namespace Go.Di
open Go Go.Conc Go.Co Go.Proofs
variable {P:Program} {af:Machine→Trace→Prop} {x:Cx}
theorem vT {g:FuncId} {vals:Array Value} {fn:Func} {c:Code} {R:Value→World→Prop} (hP:Plain P) (hf:P.funcs[g]? = some fn) (hb:fn.body=some c) (kI:∀ τ,Calls P g vals (x.w.re τ 0) fun e w'=>∃ v,e = .returned v∧R v w')
    {Post:Cx→Value→Prop} (hq:∀ v w',R v w'→∀ τ d,∃ y:Cx,y.w=w'.re τ d∧Post y v):dh P af x g vals Post:=by
  refine⟨⟨fn,c,hf,hb⟩,fun fr cs hc=>IC hP fun _ τ => ?_⟩
  obtain⟨e,w',fr',⟨v,rfl,hR⟩,F8,K9,gU⟩:=kI τ (fr::cs)
  obtain⟨n,hn⟩:=Steps.trans F8 (Steps.one (step_leave_returned gU))
  refine⟨n,_,w',hn,rfl,rfl,fun τ d => ?_⟩
  obtain⟨y,hy,hp⟩:=hq v w' hR τ d
  have:=hc y v hp
  rw[hy] at this
  exact this
def PU:DV→Option DV
  | .sl rows _ _=>match vh rows with
    | some l=>if l.length≤1000000 then some (.sl (l.reverse.map fun n => .val (.int .i64 n)) none ⟨false,none⟩) else none
    | none=>none
  | _=>none
theorem A9 (l:List Value):flat (l.map DV.val)=l.map DV.val:=by
  induction l with
  | nil=>rfl
  | cons m l ih =>
    simp only[flat,List.map_cons,List.flatMap_cons] at ih ⊢
    rw[ih]
    rfl
theorem JH {a d:DV} (h:PU a=some d) {vals:Array Value} (hR:Rel x) (ha:eR x [a] vals):dh Try.prog af x 83 vals fun y u=>y.S=x.S∧Rel y∧bI x y∧RV y d u:=by
  unfold PU at h
  split at h
  · rename_i rows tok f
    split at h
    · rename_i l hl
      split at h
      · rename_i hlen
        cases h
        obtain⟨h1,h2,h3⟩:=pX hl
        obtain⟨hsz,aU⟩:=ha
        have e:vals=#[vals.getD 0 undef]:=by
          obtain⟨l⟩:=vals
          match l,hsz with
          | [u],_=>rfl
        have hv:=aU 0 _ rfl
        generalize vals.getD 0 undef=u at e hv
        subst e
        cases hv with
        | @sl _ _ _ A cap s vs hv hr k1 k2 k3 k4 k5 =>
          have kI:∀ τ,Calls Try.prog 83 #[.slice A rows.length cap] (x.w.re τ 0) fun e w'=>∃ v,e = .returned v∧(x.w.heap.size≤w'.heap.size∧(w'.os=x.w.os∧w'.output=x.w.output)∧(∀ b,b<x.w.heap.size→w'.heap[b]? = x.w.heap[b]?)∧w'.ownsRow x.w.heap.size 3 1 v l.length (l.reverse.map (Value.int .i64))):=by
            intro τ
            cases A with
            | none =>
              have h0:rows.length=0:=by have:=k3 rfl; omega
              have Uc:l=[]:=List.eq_nil_of_length_eq_zero (by omega)
              subst Uc
              refine(Try.QV rows.length cap (x.w.re τ 0)).mono ?_
              rintro e w' ⟨rfl,rfl⟩
              exact⟨_,rfl,Nat.le_refl _,⟨rfl,rfl⟩,fun _ _=>rfl,World.ownsRow_nil _ _ _ _⟩
            | some ad =>
              have hz:rows.length=l.length:=h1.symm
              by_cases h0:l.length=0
              · have Uc:l=[]:=List.eq_nil_of_length_eq_zero h0
                subst Uc
                rw[hz]
                refine(Try.rev_zero ad cap (x.w.re τ 0)).mono ?_
                rintro e w' ⟨v,rfl,ho,hb⟩
                exact⟨_,rfl,hb.size,⟨hb.os,hb.output⟩,hb.block,ho⟩
              · have hs:=k4 ad rfl
                obtain⟨b,o,sp⟩:=ad
                simp only at hs
                subst hs
                rw[hz]
                refine(Try.QW b o l.length cap l (x.w.re τ 0) (Nat.le_refl _) (by omega) fun j hj => ?_).mono ?_
                · have hc:(flat rows)[j]? = some (.val (.int .i64 (l.getD j 0))):=by
                    rw[h3]
                    refine h2 j _ ?_
                    simp[List.getD_eq_getElem?_getD,hj]
                  obtain⟨-,b',o',q1,q2,q3⟩:=hv.2 j _ hc
                  cases q1
                  have:=hr j _ hc
                  generalize vs j=u at *
                  cases this with
                  | val _=>exact q3
                · rintro e w' ⟨v,rfl,ho,hb⟩
                  rw[List.take_length] at ho
                  exact⟨_,rfl,hb.size,⟨hb.os,hb.output⟩,hb.block,ho⟩
          refine vT ia Try.func83 rfl kI fun v w' hp τ d => ?_
          obtain⟨p1,p2,p3,p4⟩:x.w.heap.size≤(w'.re τ d).heap.size∧((w'.re τ d).os=x.w.os∧(w'.re τ d).output=x.w.output)∧(∀ b,b<x.w.heap.size→(w'.re τ d).heap[b]? = x.w.heap[b]?)∧(w'.re τ d).ownsRow x.w.heap.size 3 1 v l.length (l.reverse.map (Value.int .i64)):=hp
          refine⟨x.u6 (w'.re τ d) v (l.length*1),rfl,rfl,uI hR p1 p2 p3 p4,nB hR p1 p2 p3 p4,x5 (by simp) (fun r hr => ?_) ?_ (fun u hu => ?_) p4⟩
          · simp only[List.mem_map] at hr
            obtain⟨m,-,rfl⟩:=hr
            rfl
          · have:=A9 (l.reverse.map (Value.int .i64))
            simpa only [List.map_map,Function.comp_def] using this
          · simp only[List.mem_map] at hu
            obtain⟨m,-,rfl⟩:=hu
            exact⟨rfl,rfl⟩
      · cases h
    · cases h
  · cases h
end Go.Di
end
section
namespace Go.Proofs
open Go.RowKit
theorem RH {l:List Int} {k:Nat} (hk:k<l.length):((l.take k).map (Value.int .i64)++List.replicate (l.length-k) (Value.int .i64 0)).set k (.int .i64 (l.getD k 0))=(l.take (k+1)).map (Value.int .i64)++List.replicate (l.length-(k+1)) (.int .i64 0):=by
 have e:((l.take k).map (Value.int .i64)).length=k:=by rw[List.length_map,List.length_take]; omega
 rw[List.set_append_right _ _ (by omega),e,Nat.sub_self,show l.length-k=(l.length-(k+1))+1 by omega,List.replicate_succ,List.set_cons_zero,List.take_add_one,List.map_append,List.append_assoc]
 congr 1
 simp[List.getD_eq_getElem?_getD,hk]
theorem Try.RS {w:World} {a:Addr} {v:Value} (h:w.cell? a=some v):a.block<w.heap.size:=by
 by_cases hb:a.block<w.heap.size
 ·exact hb
 ·simp[World.cell?,Array.getElem?_eq_none (Nat.le_of_not_lt hb)] at h
set_option maxRecDepth 100000 in
set_option maxHeartbeats 1000000 in
theorem Try.RI (A:Option Addr) (cap:Nat) (l:List Int) (w:World) (hl:l.length≤1000) (hR:l≠[]→∃ b off,A=some ⟨b,off,none⟩∧∀ j,j<l.length→w.cell? ⟨b,off+j,none⟩=some (.int .i64 (l.getD j 0))) :
  Calls Try.prog 67 #[.slice A l.length cap] w fun e w'=>e = .returned (.slice (some ⟨w.heap.size,0,none⟩) l.length l.length)∧w'.ownsRow w.heap.size 3 1 (.slice (some ⟨w.heap.size,0,none⟩) l.length l.length) l.length (l.map (Value.int .i64))∧Below w.heap.size w w':=by
 obtain⟨i0,hi,C4,KH,WO⟩:=info_parts Co.L4
 have jG:=Lib.hid hR
 clear hR
 have hm:l.length≤maxLen:=by unfold maxLen; omega
 go_enter Try.func67,Try.ntmps67
 go_wp2_with (first | (at_make; go_loud (refine wpList_make_full _ rfl _ _ 22 rfl w.heap.size 3 i0 (.int .i64 0) 1 Try.underlying22 hi C4 KH _ _ _ _ l.length rfl rfl rfl rfl (by rw[WO]; omega) hm (Nat.le_refl _) ?_)))
 intro w1 dm Mb
 go_wp2
 go_loopw [4] (fun i wr=>∃ k:Nat,k≤l.length∧i = .int .i64 (k:Int)∧wr.ownsRow w.heap.size 3 1 (.slice (some ⟨w.heap.size,0,none⟩) l.length l.length) l.length ((l.take k).map (Value.int .i64)++List.replicate (l.length-k) (.int .i64 0))∧Below w.heap.size w wr) (fun i _=>l.length-(intOf i).toNat)
 ·refine⟨0,Nat.zero_le _,rfl,?_,(Below.refl _ _).grown Mb (Nat.le_refl _) (fun g h=>by cases h)⟩
  rw[toList_madeCells_one] at dm
  simpa using dm
 ·obtain⟨k,hk,rfl,qU,xo⟩:=hrel
  by_cases Ue:k<l.length
  ·obtain⟨b,off,rfl,hc⟩:=jG.out (fun e=>by subst e; simp at Ue)
   have nQ:wr.cell? ⟨b,off+k,none⟩=some (.int .i64 (l.getD k 0)):=(xo.cell (p:=⟨b,off+k,none⟩) (Try.RS (hc k Ue))).trans (hc k Ue)
   have Fo:=qU.frozenAt k
   have tU:wr.cell? ⟨w.heap.size,k,none⟩=some (.int .i64 0):=by
    rw[qU.cellAt k (by omega),List.getElem?_append_right (by rw[List.length_map,List.length_take]; omega),List.getElem?_replicate,if_pos (by rw[List.length_map,List.length_take]; omega)]
   have st:=Lib.hid (qU.stored k (.int .i64 (l.getD k 0)))
   have j9:=Lib.hid xo
   clear qU xo hc dm Mb
   go_wp2
   refine⟨⟨k+1,by omega,by go_num,?_,?_⟩,by simp[intOf]; omega⟩
   ·have:=st.out.1
    rw[RH Ue] at this
    simpa [List.getD_eq_getElem?_getD,Ue] using this
   ·exact j9.out.setCell (Nat.le_refl _) _
  ·clear dm Mb
   rw[show k=l.length by omega,List.take_length,Nat.sub_self,List.replicate_zero,List.append_nil] at qU
   have st:=Lib.hid qU
   have j9:=Lib.hid xo
   clear qU xo
   go_wp2
   go_ret
   exact⟨rfl,st.out,j9.out⟩
end Go.Proofs
namespace Go.Di
open Go Go.Conc Go.Co Go.Proofs
variable {P:Program} {af:Machine→Trace→Prop} {x:Cx}
def Qc:DV→Option DV
 | .sl rows _ _=>match vh rows with
  | some l=>if l.length≤1000 then some (.sl (l.map fun n => .val (.int .i64 n)) none ⟨false,none⟩) else none
  | none=>none
 | _=>none
theorem Kr {a d:DV} (h:Qc a=some d) {vals:Array Value} (hR:Rel x) (ha:eR x [a] vals):dh Try.prog af x 67 vals fun y u=>y.S=x.S∧Rel y∧bI x y∧RV y d u:=by
 unfold Qc at h
 split at h
 ·rename_i rows tok f
  split at h
  ·rename_i l hl
   split at h
   ·rename_i hlen
    cases h
    obtain⟨h1,h2,h3⟩:=pX hl
    obtain⟨hsz,aU⟩:=ha
    have e:vals=#[vals.getD 0 undef]:=by
     obtain⟨l⟩:=vals
     match l,hsz with
     | [u],_=>rfl
    have hv:=aU 0 _ rfl
    generalize vals.getD 0 undef=u at e hv
    subst e
    cases hv with
    | @sl _ _ _ A cap s vs hv hr k1 k2 k3 k4 k5 =>
     have kI:∀ τ,Calls Try.prog 67 #[.slice A rows.length cap] (x.w.re τ 0) fun e w'=>∃ v,e = .returned v∧(x.w.heap.size≤w'.heap.size∧(w'.os=x.w.os∧w'.output=x.w.output)∧(∀ b,b<x.w.heap.size→w'.heap[b]? = x.w.heap[b]?)∧w'.ownsRow x.w.heap.size 3 1 v l.length (l.map (Value.int .i64))):=by
      intro τ
      have hz:rows.length=l.length:=h1.symm
      rw[hz]
      refine(Try.RI A cap l (x.w.re τ 0) hlen fun hne => ?_).mono ?_
      ·have zT:0<l.length:=List.length_pos_iff.2 hne
       have hc:∀ j,j<l.length→(flat rows)[j]? = some (.val (.int .i64 (l.getD j 0))):=fun j hj=>by
        rw[h3]
        refine h2 j _ ?_
        simp[List.getD_eq_getElem?_getD,hj]
       obtain⟨-,b,o,q1,-,-⟩:=hv.2 0 _ (hc 0 zT)
       refine⟨b,o,q1,fun j hj => ?_⟩
       obtain⟨-,b',o',q2,q3,q4⟩:=hv.2 j _ (hc j hj)
       rw[q1] at q2
       cases q2
       have:=hr j _ (hc j hj)
       generalize vs j=u at *
       cases this with
       | val _=>exact q4
      ·rintro e w' ⟨rfl,ho,hb⟩
       exact⟨_,rfl,hb.size,⟨hb.os,hb.output⟩,hb.block,ho⟩
     refine vT ia Try.func67 rfl kI fun v w' hp τ d => ?_
     obtain⟨p1,p2,p3,p4⟩:x.w.heap.size≤(w'.re τ d).heap.size∧((w'.re τ d).os=x.w.os∧(w'.re τ d).output=x.w.output)∧(∀ b,b<x.w.heap.size→(w'.re τ d).heap[b]? = x.w.heap[b]?)∧(w'.re τ d).ownsRow x.w.heap.size 3 1 v l.length (l.map (Value.int .i64)):=hp
     refine⟨x.u6 (w'.re τ d) v (l.length*1),rfl,rfl,uI hR p1 p2 p3 p4,nB hR p1 p2 p3 p4,x5 (by simp) (fun r hr => ?_) ?_ (fun u hu => ?_) p4⟩
     ·simp only[List.mem_map] at hr
      obtain⟨m,-,rfl⟩:=hr
      rfl
     ·have:=A9 (l.map (Value.int .i64))
      simpa only [List.map_map,Function.comp_def] using this
     ·simp only[List.mem_map] at hu
      obtain⟨m,-,rfl⟩:=hu
      exact⟨rfl,rfl⟩
   ·cases h
  ·cases h
 ·cases h
end Go.Di
end
