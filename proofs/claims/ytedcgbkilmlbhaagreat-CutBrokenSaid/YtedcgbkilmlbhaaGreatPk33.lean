import Derived.Test.YtedcgbkilmlbhaaGreatPk32
import Derived.WalkKit
import Derived.Deep.LoopGhost
import Derived.Ground.SlgnProg
import Derived.Shelf.Lay
import Derived.Shelf.SlicesG.Clone
import Derived.Shelf.SlicesG.Reverse
import Derived.Lib.OwnBridge
import Derived.OwnWalk
section
namespace Go.Proofs
open Go.Shelf Go.RowKit Go.Lib Go.Sort
def Tryz.C9:Go.Shelf.Ren:=⟨fun | 41=>91 | n=>n,fun | 22=>23 | 23=>3 | 4=>4 | n=>n,fun | n=>n⟩
theorem Tryz.yO:Go.Proofs.SlLaysN.n41 Tryz.prog Tryz.C9:={
  mixed:=by kernel_rfl
  f41:=⟨Tryz.f91.name,by decide,Tryz.func91.trans (congrArg some (by kernel_rfl))⟩
  t4:=Tryz.underlying4
  a4:=Tryz.isAgg4
  z4:=Tryz.sizeOf4
  v4:=Tryz.zeroValue4
  t22:=Tryz.underlying23
  a22:=Tryz.isAgg23
  z22:=Tryz.sizeOf23
  v22:=Tryz.zeroValue23
  t23:=Tryz.underlying3
  a23:=Tryz.isAgg3
  z23:=Tryz.sizeOf3
  v23:=Tryz.zeroValue3
  i23:=by kernel_rfl }
def Tryz.zO:Go.Shelf.Ren:=⟨fun | 35=>153 | n=>n,fun | 22=>23 | 23=>3 | 3=>3 | 4=>4 | 0=>0 | n=>n,fun | n=>n⟩
theorem Tryz.sC:Go.Proofs.SlLaysN.n35 Tryz.prog Tryz.zO:={
  mixed:=by kernel_rfl
  f35:=⟨Tryz.f153.name,by decide,Tryz.func153.trans (congrArg some (by kernel_rfl))⟩
  t0:=Tryz.underlying0
  a0:=Tryz.isAgg0
  z0:=Tryz.sizeOf0
  v0:=Tryz.zeroValue0
  t3:=Tryz.underlying3
  a3:=Tryz.isAgg3
  z3:=Tryz.sizeOf3
  v3:=Tryz.zeroValue3
  t4:=Tryz.underlying4
  a4:=Tryz.isAgg4
  z4:=Tryz.sizeOf4
  v4:=Tryz.zeroValue4
  t22:=Tryz.underlying23
  a22:=Tryz.isAgg23
  z22:=Tryz.sizeOf23
  v22:=Tryz.zeroValue23
  t23:=Tryz.underlying3
  a23:=Tryz.isAgg3
  z23:=Tryz.sizeOf3
  v23:=Tryz.zeroValue3 }
set_option maxHeartbeats 1000000 in
theorem Tryz.Rq (b off n c:Nat) (zs:List Int) (w:World) (hz:n≤zs.length) (Qy:n*8≤140737488355328) (hc:∀ j,j<zs.length→w.cell? ⟨b,off+j,none⟩=some (.int .i64 (zs.getD j 0))) :
    Calls Tryz.prog 133 #[.slice (some ⟨b,off,none⟩) n c] w fun e w'=>∃ v',e = .returned v'∧w'.ownsRow w.heap.size 3 1 v' n ((zs.take n).reverse.map (Value.int .i64))∧Below w.heap.size w w':=by
  have Gx:=AnyG.slices_Clone_int Tryz.yO b off n c zs w hz Qy hc
  clear hc
  go_enter Tryz.func133,Tryz.ntmps133
  go_wp2_with (first
    | (go_at_call 91; refine Gx.mono ?_; rintro e w1 ⟨v1,rfl,dD,SX,xQ⟩
       obtain⟨g,cap,rfl,hbg,_,_,hcm,hlen,hH⟩:=Lib.holds_of_ownsRow dD SX
       have Zx:=AnyG.slices_Reverse_int Tryz.sC g 0 cap (zs.take n) w1 hH (by unfold maxLen at hcm; omega)
       rw[hlen] at Zx
       have X:Aside (w1.ownsRow w.heap.size 3 1 (.slice (some ⟨g,0,none⟩) n cap) n ((zs.take n).map (Value.int .i64))∧Below w.heap.size w w1∧w.heap.size≤g):=⟨dD,xQ,hbg⟩
       clear dD xQ hH SX)
    | (go_at_call 153; refine Zx.mono ?_; rintro e w2 ⟨rfl,q,rfl⟩))
  go_ret
  have hy:(zs.take n).reverse.length=n:=by simpa using hlen
  have h1:=Lib.ownsRow_putRow (q:=q) (ys:=(zs.take n).reverse) X.out.1 hy (Nat.le_refl n)
  rw[List.take_of_length_le (Nat.le_of_eq hy)] at h1
  exact⟨_,rfl,by simpa [List.map_reverse,List.map_take] using h1,Lib.below_putRow X.out.2.1 X.out.2.2⟩
theorem Tryz.rev_zero (a:Addr) (c:Nat) (w:World) :
    Calls Tryz.prog 133 #[.slice (some a) 0 c] w fun e w'=>∃ v',e = .returned v'∧w'.ownsRow w.heap.size 3 1 v' 0 []∧Below w.heap.size w w':=by
  have Gx:=AnyG.slices_Clone_int_zero Tryz.yO a c w
  go_enter Tryz.func133,Tryz.ntmps133
  go_wp2_with (first
    | (go_at_call 91; refine Gx.mono ?_; rintro e w1 ⟨v1,rfl,dD,SX,xQ⟩
       obtain⟨g,cap,rfl,_,_,_,_,_,_⟩:=Lib.holds_of_ownsRow (enc:=Value.int .i64) (zs:=[]) dD SX
       have X:Aside (w1.ownsRow w.heap.size 3 1 (.slice (some ⟨g,0,none⟩) 0 cap) 0 []∧Below w.heap.size w w1):=⟨dD,xQ⟩
       clear dD xQ SX)
    | (go_at_call 153; refine(AnyG.slices_Reverse_int_empty Tryz.sC _ _ _).mono ?_; rintro e w2 ⟨rfl,rfl⟩))
  go_ret
  exact⟨_,rfl,X.out.1,X.out.2⟩
theorem Tryz.Rp (n c:Nat) (w:World) :
    Calls Tryz.prog 133 #[.slice none n c] w fun e w'=>e = .returned (.slice none 0 0)∧w'=w:=by
  go_enter Tryz.func133,Tryz.ntmps133
  go_wp2_with (first
    | (go_at_call 91; refine(AnyG.slices_Clone_int_nil Tryz.yO n c _).mono ?_; rintro e w' ⟨rfl,rfl⟩)
    | (go_at_call 153; refine(AnyG.slices_Reverse_int_empty Tryz.sC none 0 _).mono ?_; rintro e w' ⟨rfl,rfl⟩))
  go_ret
  exact⟨rfl,rfl⟩
end Go.Proofs
namespace Go.Di
open Go Go.Conc Go.Co Go.Proofs
variable {P:Program} {af:Machine→Trace→Prop} {x:Cx}
theorem wJ {g:FuncId} {vals:Array Value} {fn:Func} {c:Code} {R:Value→World→Prop} (hP:Plain P) (hf:P.funcs[g]? = some fn) (hb:fn.body=some c) (gh:∀ τ,Calls P g vals (x.w.re τ 0) fun e w'=>∃ v,e = .returned v∧R v w')
    {Post:Cx→Value→Prop} (hq:∀ v w',R v w'→∀ τ d,∃ y:Cx,y.w=w'.re τ d∧Post y v):cT P af x g vals Post:=by
  refine⟨⟨fn,c,hf,hb⟩,fun fr cs hc=>IY hP fun _ τ => ?_⟩
  obtain⟨e,w',fr',⟨v,rfl,hR⟩,Gw,HK,fT⟩:=gh τ (fr::cs)
  obtain⟨n,hn⟩:=Steps.trans Gw (Steps.one (step_leave_returned fT))
  refine⟨n,_,w',hn,rfl,rfl,fun τ d => ?_⟩
  obtain⟨y,hy,hp⟩:=hq v w' hR τ d
  have:=hc y v hp
  rw[hy] at this
  exact this
def Qm:DV→Option DV
  | .sl rows _ _=>match mF rows with
    | some l=>if l.length≤1000000 then some (.sl (l.reverse.map fun n => .val (.int .i64 n)) none ⟨false,none⟩) else none
    | none=>none
  | _=>none
theorem Bv (l:List Value):flat (l.map DV.val)=l.map DV.val:=by
  induction l with
  | nil=>rfl
  | cons m l ih =>
    simp only[flat,List.map_cons,List.flatMap_cons] at ih ⊢
    rw[ih]
    rfl
theorem JW {a d:DV} (h:Qm a=some d) {vals:Array Value} (hR:Rel x) (ha:dR x [a] vals):cT Tryz.prog af x 133 vals fun y u=>y.S=x.S∧Rel y∧bk x y∧RV y d u:=by
  unfold Qm at h
  split at h
  · rename_i rows tok f
    split at h
    · rename_i l hl
      split at h
      · rename_i hlen
        cases h
        obtain⟨h1,h2,h3⟩:=qp hl
        obtain⟨hsz,aQ⟩:=ha
        have e:vals=#[vals.getD 0 undef]:=by
          obtain⟨l⟩:=vals
          match l,hsz with
          | [u],_=>rfl
        have hv:=aQ 0 _ rfl
        generalize vals.getD 0 undef=u at e hv
        subst e
        cases hv with
        | @sl _ _ _ A cap s vs hv hr k1 k2 k3 k4 k5 =>
          have gh:∀ τ,Calls Tryz.prog 133 #[.slice A rows.length cap] (x.w.re τ 0) fun e w'=>∃ v,e = .returned v∧(x.w.heap.size≤w'.heap.size∧(w'.os=x.w.os∧w'.output=x.w.output)∧(∀ b,b<x.w.heap.size→w'.heap[b]? = x.w.heap[b]?)∧w'.ownsRow x.w.heap.size 3 1 v l.length (l.reverse.map (Value.int .i64))):=by
            intro τ
            cases A with
            | none =>
              have h0:rows.length=0:=by have:=k3 rfl; omega
              have UR:l=[]:=List.eq_nil_of_length_eq_zero (by omega)
              subst UR
              refine(Tryz.Rp rows.length cap (x.w.re τ 0)).mono ?_
              rintro e w' ⟨rfl,rfl⟩
              exact⟨_,rfl,Nat.le_refl _,⟨rfl,rfl⟩,fun _ _=>rfl,World.ownsRow_nil _ _ _ _⟩
            | some ad =>
              have hz:rows.length=l.length:=h1.symm
              by_cases h0:l.length=0
              · have UR:l=[]:=List.eq_nil_of_length_eq_zero h0
                subst UR
                rw[hz]
                refine(Tryz.rev_zero ad cap (x.w.re τ 0)).mono ?_
                rintro e w' ⟨v,rfl,ho,hb⟩
                exact⟨_,rfl,hb.size,⟨hb.os,hb.output⟩,hb.block,ho⟩
              · have hs:=k4 ad rfl
                obtain⟨b,o,sp⟩:=ad
                simp only at hs
                subst hs
                rw[hz]
                refine(Tryz.Rq b o l.length cap l (x.w.re τ 0) (Nat.le_refl _) (by omega) fun j hj => ?_).mono ?_
                · have hc:(flat rows)[j]? = some (.val (.int .i64 (l.getD j 0))):=by
                    rw[h3]
                    refine h2 j _ ?_
                    simp[List.getD_eq_getElem?_getD,hj]
                  obtain⟨-,b',o',q1,q2,q3⟩:=hv.2 j _ hc
                  cases q1
                  have:=hr j _ hc
                  generalize vs j=u at *
                  cases this with
                  | val _=>exact q3
                · rintro e w' ⟨v,rfl,ho,hb⟩
                  rw[List.take_length] at ho
                  exact⟨_,rfl,hb.size,⟨hb.os,hb.output⟩,hb.block,ho⟩
          refine wJ eS Tryz.func133 rfl gh fun v w' hp τ d => ?_
          obtain⟨p1,p2,p3,p4⟩:x.w.heap.size≤(w'.re τ d).heap.size∧((w'.re τ d).os=x.w.os∧(w'.re τ d).output=x.w.output)∧(∀ b,b<x.w.heap.size→(w'.re τ d).heap[b]? = x.w.heap[b]?)∧(w'.re τ d).ownsRow x.w.heap.size 3 1 v l.length (l.reverse.map (Value.int .i64)):=hp
          refine⟨x.vM (w'.re τ d) v (l.length*1),rfl,rfl,vn hR p1 p2 p3 p4,nL hR p1 p2 p3 p4,yB (by simp) (fun r hr => ?_) ?_ (fun u hu => ?_) p4⟩
          · simp only[List.mem_map] at hr
            obtain⟨m,-,rfl⟩:=hr
            rfl
          · have:=Bv (l.reverse.map (Value.int .i64))
            simpa only [List.map_map,Function.comp_def] using this
          · simp only[List.mem_map] at hu
            obtain⟨m,-,rfl⟩:=hu
            exact⟨rfl,rfl⟩
      · cases h
    · cases h
  · cases h
end Go.Di
end
section
namespace Go.Proofs
open Go.RowKit
theorem Sf {l:List Int} {k:Nat} (hk:k<l.length):((l.take k).map (Value.int .i64)++List.replicate (l.length-k) (Value.int .i64 0)).set k (.int .i64 (l.getD k 0))=(l.take (k+1)).map (Value.int .i64)++List.replicate (l.length-(k+1)) (.int .i64 0):=by
 have e:((l.take k).map (Value.int .i64)).length=k:=by rw[List.length_map,List.length_take]; omega
 rw[List.set_append_right _ _ (by omega),e,Nat.sub_self,show l.length-k=(l.length-(k+1))+1 by omega,List.replicate_succ,List.set_cons_zero,List.take_add_one,List.map_append,List.append_assoc]
 congr 1
 simp[List.getD_eq_getElem?_getD,hk]
theorem Tryz.Sw {w:World} {a:Addr} {v:Value} (h:w.cell? a=some v):a.block<w.heap.size:=by
 by_cases hb:a.block<w.heap.size
 ·exact hb
 ·simp[World.cell?,Array.getElem?_eq_none (Nat.le_of_not_lt hb)] at h
set_option maxRecDepth 100000 in
set_option maxHeartbeats 1000000 in
theorem Tryz.Sg (A:Option Addr) (cap:Nat) (l:List Int) (w:World) (hl:l.length≤1000) (hR:l≠[]→∃ b off,A=some ⟨b,off,none⟩∧∀ j,j<l.length→w.cell? ⟨b,off+j,none⟩=some (.int .i64 (l.getD j 0))) :
  Calls Tryz.prog 43 #[.slice A l.length cap] w fun e w'=>e = .returned (.slice (some ⟨w.heap.size,0,none⟩) l.length l.length)∧w'.ownsRow w.heap.size 3 1 (.slice (some ⟨w.heap.size,0,none⟩) l.length l.length) l.length (l.map (Value.int .i64))∧Below w.heap.size w w':=by
 obtain⟨i0,hi,Dp,KZ,XL⟩:=info_parts Co.Ms
 have jQ:=Lib.hid hR
 clear hR
 have hm:l.length≤maxLen:=by unfold maxLen; omega
 go_enter Tryz.func43,Tryz.ntmps43
 go_wp2_with (first | (at_make; go_loud (refine wpList_make_full _ rfl _ _ 23 rfl w.heap.size 3 i0 (.int .i64 0) 1 Tryz.underlying23 hi Dp KZ _ _ _ _ l.length rfl rfl rfl rfl (by rw[XL]; omega) hm (Nat.le_refl _) ?_)))
 intro w1 dD Mz
 go_wp2
 go_loopw [4] (fun i wr=>∃ k:Nat,k≤l.length∧i = .int .i64 (k:Int)∧wr.ownsRow w.heap.size 3 1 (.slice (some ⟨w.heap.size,0,none⟩) l.length l.length) l.length ((l.take k).map (Value.int .i64)++List.replicate (l.length-k) (.int .i64 0))∧Below w.heap.size w wr) (fun i _=>l.length-(intOf i).toNat)
 ·refine⟨0,Nat.zero_le _,rfl,?_,(Below.refl _ _).grown Mz (Nat.le_refl _) (fun g h=>by cases h)⟩
  rw[toList_madeCells_one] at dD
  simpa using dD
 ·obtain⟨k,hk,rfl,rF,xQ⟩:=hrel
  by_cases UU:k<l.length
  ·obtain⟨b,off,rfl,hc⟩:=jQ.out (fun e=>by subst e; simp at UU)
   have oc:wr.cell? ⟨b,off+k,none⟩=some (.int .i64 (l.getD k 0)):=(xQ.cell (p:=⟨b,off+k,none⟩) (Tryz.Sw (hc k UU))).trans (hc k UU)
   have FR:=rF.frozenAt k
   have uD:wr.cell? ⟨w.heap.size,k,none⟩=some (.int .i64 0):=by
    rw[rF.cellAt k (by omega),List.getElem?_append_right (by rw[List.length_map,List.length_take]; omega),List.getElem?_replicate,if_pos (by rw[List.length_map,List.length_take]; omega)]
   have st:=Lib.hid (rF.stored k (.int .i64 (l.getD k 0)))
   have jP:=Lib.hid xQ
   clear rF xQ hc dD Mz
   go_wp2
   refine⟨⟨k+1,by omega,by go_num,?_,?_⟩,by simp[intOf]; omega⟩
   ·have:=st.out.1
    rw[Sf UU] at this
    simpa [List.getD_eq_getElem?_getD,UU] using this
   ·exact jP.out.setCell (Nat.le_refl _) _
  ·clear dD Mz
   rw[show k=l.length by omega,List.take_length,Nat.sub_self,List.replicate_zero,List.append_nil] at rF
   have st:=Lib.hid rF
   have jP:=Lib.hid xQ
   clear rF xQ
   go_wp2
   go_ret
   exact⟨rfl,st.out,jP.out⟩
end Go.Proofs
namespace Go.Di
open Go Go.Conc Go.Co Go.Proofs
variable {P:Program} {af:Machine→Trace→Prop} {x:Cx}
def VX:DV→Option DV
 | .sl rows _ _=>match mF rows with
  | some l=>if l.length≤1000 then some (.sl (l.map fun n => .val (.int .i64 n)) none ⟨false,none⟩) else none
  | none=>none
 | _=>none
theorem KI {a d:DV} (h:VX a=some d) {vals:Array Value} (hR:Rel x) (ha:dR x [a] vals):cT Tryz.prog af x 43 vals fun y u=>y.S=x.S∧Rel y∧bk x y∧RV y d u:=by
 unfold VX at h
 split at h
 ·rename_i rows tok f
  split at h
  ·rename_i l hl
   split at h
   ·rename_i hlen
    cases h
    obtain⟨h1,h2,h3⟩:=qp hl
    obtain⟨hsz,aQ⟩:=ha
    have e:vals=#[vals.getD 0 undef]:=by
     obtain⟨l⟩:=vals
     match l,hsz with
     | [u],_=>rfl
    have hv:=aQ 0 _ rfl
    generalize vals.getD 0 undef=u at e hv
    subst e
    cases hv with
    | @sl _ _ _ A cap s vs hv hr k1 k2 k3 k4 k5 =>
     have gh:∀ τ,Calls Tryz.prog 43 #[.slice A rows.length cap] (x.w.re τ 0) fun e w'=>∃ v,e = .returned v∧(x.w.heap.size≤w'.heap.size∧(w'.os=x.w.os∧w'.output=x.w.output)∧(∀ b,b<x.w.heap.size→w'.heap[b]? = x.w.heap[b]?)∧w'.ownsRow x.w.heap.size 3 1 v l.length (l.map (Value.int .i64))):=by
      intro τ
      have hz:rows.length=l.length:=h1.symm
      rw[hz]
      refine(Tryz.Sg A cap l (x.w.re τ 0) hlen fun hne => ?_).mono ?_
      ·have xO:0<l.length:=List.length_pos_iff.2 hne
       have hc:∀ j,j<l.length→(flat rows)[j]? = some (.val (.int .i64 (l.getD j 0))):=fun j hj=>by
        rw[h3]
        refine h2 j _ ?_
        simp[List.getD_eq_getElem?_getD,hj]
       obtain⟨-,b,o,q1,-,-⟩:=hv.2 0 _ (hc 0 xO)
       refine⟨b,o,q1,fun j hj => ?_⟩
       obtain⟨-,b',o',q2,q3,q4⟩:=hv.2 j _ (hc j hj)
       rw[q1] at q2
       cases q2
       have:=hr j _ (hc j hj)
       generalize vs j=u at *
       cases this with
       | val _=>exact q4
      ·rintro e w' ⟨rfl,ho,hb⟩
       exact⟨_,rfl,hb.size,⟨hb.os,hb.output⟩,hb.block,ho⟩
     refine wJ eS Tryz.func43 rfl gh fun v w' hp τ d => ?_
     obtain⟨p1,p2,p3,p4⟩:x.w.heap.size≤(w'.re τ d).heap.size∧((w'.re τ d).os=x.w.os∧(w'.re τ d).output=x.w.output)∧(∀ b,b<x.w.heap.size→(w'.re τ d).heap[b]? = x.w.heap[b]?)∧(w'.re τ d).ownsRow x.w.heap.size 3 1 v l.length (l.map (Value.int .i64)):=hp
     refine⟨x.vM (w'.re τ d) v (l.length*1),rfl,rfl,vn hR p1 p2 p3 p4,nL hR p1 p2 p3 p4,yB (by simp) (fun r hr => ?_) ?_ (fun u hu => ?_) p4⟩
     ·simp only[List.mem_map] at hr
      obtain⟨m,-,rfl⟩:=hr
      rfl
     ·have:=Bv (l.map (Value.int .i64))
      simpa only [List.map_map,Function.comp_def] using this
     ·simp only[List.mem_map] at hu
      obtain⟨m,-,rfl⟩:=hu
      exact⟨rfl,rfl⟩
   ·cases h
  ·cases h
 ·cases h
end Go.Di
end
