import Derived.Test.YtedcgbkilmlbhaaGreatPk31
import Derived.WalkKit
import Derived.Deep.LoopGhost
import Derived.Ground.SlgnProg
import Derived.Shelf.Lay
import Derived.Shelf.SlicesG.Clone
import Derived.Shelf.SlicesG.Reverse
import Derived.Lib.OwnBridge
import Derived.OwnWalk
section
namespace Go.Proofs
open Go.Shelf Go.RowKit Go.Lib Go.Sort
def Tryz.Gv:Go.Shelf.Ren:=⟨fun | 41=>91 | n=>n,fun | 22=>23 | 23=>3 | 4=>4 | n=>n,fun | n=>n⟩
theorem Tryz.B9:Go.Proofs.SlLaysN.n41 Tryz.prog Tryz.Gv:={
  mixed:=by kernel_rfl
  f41:=⟨Tryz.f91.name,by decide,Tryz.func91.trans (congrArg some (by kernel_rfl))⟩
  t4:=Tryz.underlying4
  a4:=Tryz.isAgg4
  z4:=Tryz.sizeOf4
  v4:=Tryz.zeroValue4
  t22:=Tryz.underlying23
  a22:=Tryz.isAgg23
  z22:=Tryz.sizeOf23
  v22:=Tryz.zeroValue23
  t23:=Tryz.underlying3
  a23:=Tryz.isAgg3
  z23:=Tryz.sizeOf3
  v23:=Tryz.zeroValue3
  i23:=by kernel_rfl }
def Tryz.CX:Go.Shelf.Ren:=⟨fun | 35=>153 | n=>n,fun | 22=>23 | 23=>3 | 3=>3 | 4=>4 | 0=>0 | n=>n,fun | n=>n⟩
theorem Tryz.vU:Go.Proofs.SlLaysN.n35 Tryz.prog Tryz.CX:={
  mixed:=by kernel_rfl
  f35:=⟨Tryz.f153.name,by decide,Tryz.func153.trans (congrArg some (by kernel_rfl))⟩
  t0:=Tryz.underlying0
  a0:=Tryz.isAgg0
  z0:=Tryz.sizeOf0
  v0:=Tryz.zeroValue0
  t3:=Tryz.underlying3
  a3:=Tryz.isAgg3
  z3:=Tryz.sizeOf3
  v3:=Tryz.zeroValue3
  t4:=Tryz.underlying4
  a4:=Tryz.isAgg4
  z4:=Tryz.sizeOf4
  v4:=Tryz.zeroValue4
  t22:=Tryz.underlying23
  a22:=Tryz.isAgg23
  z22:=Tryz.sizeOf23
  v22:=Tryz.zeroValue23
  t23:=Tryz.underlying3
  a23:=Tryz.isAgg3
  z23:=Tryz.sizeOf3
  v23:=Tryz.zeroValue3 }
set_option maxHeartbeats 1000000 in
theorem Tryz.Wq (b off n c:Nat) (zs:List Int) (w:World) (hz:n≤zs.length) (Vt:n*8≤140737488355328) (hc:∀ j,j<zs.length→w.cell? ⟨b,off+j,none⟩=some (.int .i64 (zs.getD j 0))) :
    Calls Tryz.prog 133 #[.slice (some ⟨b,off,none⟩) n c] w fun e w'=>∃ v',e = .returned v'∧w'.ownsRow w.heap.size 3 1 v' n ((zs.take n).reverse.map (Value.int .i64))∧Below w.heap.size w w':=by
  have Kb:=AnyG.slices_Clone_int Tryz.B9 b off n c zs w hz Vt hc
  clear hc
  go_enter Tryz.func133,Tryz.ntmps133
  go_wp2_with (first
    | (go_at_call 91; refine Kb.mono ?_; rintro e w1 ⟨v1,rfl,fD,XK,Be⟩
       obtain⟨g,cap,rfl,hbg,_,_,hcm,hlen,hH⟩:=Lib.holds_of_ownsRow fD XK
       have ab8:=AnyG.slices_Reverse_int Tryz.vU g 0 cap (zs.take n) w1 hH (by unfold maxLen at hcm; omega)
       rw[hlen] at ab8
       have X:Aside (w1.ownsRow w.heap.size 3 1 (.slice (some ⟨g,0,none⟩) n cap) n ((zs.take n).map (Value.int .i64))∧Below w.heap.size w w1∧w.heap.size≤g):=⟨fD,Be,hbg⟩
       clear fD Be hH XK)
    | (go_at_call 153; refine ab8.mono ?_; rintro e w2 ⟨rfl,q,rfl⟩))
  go_ret
  have hy:(zs.take n).reverse.length=n:=by simpa using hlen
  have h1:=Lib.ownsRow_putRow (q:=q) (ys:=(zs.take n).reverse) X.out.1 hy (ak n)
  rw[iE (Nat.le_of_eq hy)] at h1
  exact⟨_,rfl,by simpa [List.map_reverse,List.map_take] using h1,Lib.below_putRow X.out.2.1 X.out.2.2⟩
theorem Tryz.rev_zero (a:Addr) (c:Nat) (w:World) :
    Calls Tryz.prog 133 #[.slice (some a) 0 c] w fun e w'=>∃ v',e = .returned v'∧w'.ownsRow w.heap.size 3 1 v' 0 []∧Below w.heap.size w w':=by
  have Kb:=AnyG.slices_Clone_int_zero Tryz.B9 a c w
  go_enter Tryz.func133,Tryz.ntmps133
  go_wp2_with (first
    | (go_at_call 91; refine Kb.mono ?_; rintro e w1 ⟨v1,rfl,fD,XK,Be⟩
       obtain⟨g,cap,rfl,_,_,_,_,_,_⟩:=Lib.holds_of_ownsRow (enc:=Value.int .i64) (zs:=[]) fD XK
       have X:Aside (w1.ownsRow w.heap.size 3 1 (.slice (some ⟨g,0,none⟩) 0 cap) 0 []∧Below w.heap.size w w1):=⟨fD,Be⟩
       clear fD Be XK)
    | (go_at_call 153; refine(AnyG.slices_Reverse_int_empty Tryz.vU _ _ _).mono ?_; rintro e w2 ⟨rfl,rfl⟩))
  go_ret
  exact⟨_,rfl,X.out.1,X.out.2⟩
theorem Tryz.Wp (n c:Nat) (w:World) :
    Calls Tryz.prog 133 #[.slice none n c] w fun e w'=>e = .returned (.slice none 0 0)∧w'=w:=by
  go_enter Tryz.func133,Tryz.ntmps133
  go_wp2_with (first
    | (go_at_call 91; refine(AnyG.slices_Clone_int_nil Tryz.B9 n c _).mono ?_; rintro e w' ⟨rfl,rfl⟩)
    | (go_at_call 153; refine(AnyG.slices_Reverse_int_empty Tryz.vU none 0 _).mono ?_; rintro e w' ⟨rfl,rfl⟩))
  go_ret
  exact⟨rfl,rfl⟩
end Go.Proofs
namespace Go.Di
open Go Go.Conc Go.Co Go.Proofs
variable {P:Program} {af:Machine→Trace→Prop} {x:Cx}
theorem Ac {g:FuncId} {vals:Array Value} {fn:Func} {c:Code} {R:Value→World→Prop} (hP:Plain P) (hf:P.funcs[g]? = some fn) (hb:fn.body=some c) (jk:∀ τ,Calls P g vals (x.w.re τ 0) fun e w'=>∃ v,e = .returned v∧R v w')
    {Post:Cx→Value→Prop} (hq:∀ v w',R v w'→∀ τ d,∃ y:Cx,y.w=w'.re τ d∧Post y v):eH P af x g vals Post:=by
  refine⟨⟨fn,c,hf,hb⟩,fun fr cs hc=>ML hP fun _ τ => ?_⟩
  obtain⟨e,w',fr',⟨v,rfl,hR⟩,Ka,Lj,iU⟩:=jk τ (fr::cs)
  obtain⟨n,hn⟩:=Steps.trans Ka (Steps.one (step_leave_returned iU))
  refine⟨n,_,w',hn,rfl,rfl,fun τ d => ?_⟩
  obtain⟨y,hy,hp⟩:=hq v w' hR τ d
  have:=hc y v hp
  rw[hy] at this
  exact this
def Vh:DV→Option DV
  | .sl rows _ _=>match pV rows with
    | some l=>if l.length≤1000000 then some (.sl (l.reverse.map fun n => .val (.int .i64 n)) none ⟨false,none⟩) else none
    | none=>none
  | _=>none
theorem EB (l:List Value):flat (l.map DV.val)=l.map DV.val:=by
  induction l with
  | nil=>rfl
  | cons m l ih =>
    simp only[flat,bQ,fM] at ih ⊢
    rw[ih]
    rfl
theorem N5 {a d:DV} (h:Vh a=some d) {vals:Array Value} (hR:Rel x) (ha:gn x [a] vals):eH Tryz.prog af x 133 vals fun y u=>y.S=x.S∧Rel y∧bZ x y∧RV y d u:=by
  unfold Vh at h
  split at h
  · rename_i rows tok f
    split at h
    · rename_i l hl
      split at h
      · rename_i hlen
        cases h
        obtain⟨h1,h2,h3⟩:=ug hl
        obtain⟨hsz,bn⟩:=ha
        have e:vals=#[vals.getD 0 undef]:=by
          obtain⟨l⟩:=vals
          match l,hsz with
          | [u],_=>rfl
        have hv:=bn 0 _ rfl
        generalize vals.getD 0 undef=u at e hv
        subst e
        cases hv with
        | @sl _ _ _ A cap s vs hv hr k1 k2 k3 k4 k5 =>
          have jk:∀ τ,Calls Tryz.prog 133 #[.slice A rows.length cap] (x.w.re τ 0) fun e w'=>∃ v,e = .returned v∧(x.w.heap.size≤w'.heap.size∧(w'.os=x.w.os∧w'.output=x.w.output)∧(∀ b,b<x.w.heap.size→w'.heap[b]? = x.w.heap[b]?)∧w'.ownsRow x.w.heap.size 3 1 v l.length (l.reverse.map (Value.int .i64))):=by
            intro τ
            cases A with
            | none =>
              have h0:rows.length=0:=by have:=k3 rfl; omega
              have Y8:l=[]:=eF (by omega)
              subst Y8
              refine(Tryz.Wp rows.length cap (x.w.re τ 0)).mono ?_
              rintro e w' ⟨rfl,rfl⟩
              exact⟨_,rfl,ak _,⟨rfl,rfl⟩,fun _ _=>rfl,World.ownsRow_nil _ _ _ _⟩
            | some ad =>
              have hz:rows.length=l.length:=h1.symm
              by_cases h0:l.length=0
              · have Y8:l=[]:=eF h0
                subst Y8
                rw[hz]
                refine(Tryz.rev_zero ad cap (x.w.re τ 0)).mono ?_
                rintro e w' ⟨v,rfl,ho,hb⟩
                exact⟨_,rfl,hb.size,⟨hb.os,hb.output⟩,hb.block,ho⟩
              · have hs:=k4 ad rfl (by omega)
                obtain⟨b,o,sp⟩:=ad
                simp only at hs
                subst hs
                rw[hz]
                refine(Tryz.Wq b o l.length cap l (x.w.re τ 0) (ak _) (by omega) fun j hj => ?_).mono ?_
                · have hc:(flat rows)[j]? = some (.val (.int .i64 (l.getD j 0))):=by
                    rw[h3]
                    refine h2 j _ ?_
                    simp[aN,hj]
                  obtain⟨-,b',o',q1,q2,q3⟩:=hv.2 j _ hc
                  cases q1
                  have:=hr j _ hc
                  generalize vs j=u at *
                  cases this with
                  | val _=>exact q3
                · rintro e w' ⟨v,rfl,ho,hb⟩
                  rw[fo] at ho
                  exact⟨_,rfl,hb.size,⟨hb.os,hb.output⟩,hb.block,ho⟩
          refine Ac iq Tryz.func133 rfl jk fun v w' hp τ d => ?_
          obtain⟨p1,p2,p3,p4⟩:x.w.heap.size≤(w'.re τ d).heap.size∧((w'.re τ d).os=x.w.os∧(w'.re τ d).output=x.w.output)∧(∀ b,b<x.w.heap.size→(w'.re τ d).heap[b]? = x.w.heap[b]?)∧(w'.re τ d).ownsRow x.w.heap.size 3 1 v l.length (l.reverse.map (Value.int .i64)):=hp
          refine⟨x.zc (w'.re τ d) v (l.length*1),rfl,rfl,yJ hR p1 p2 p3 p4,qW hR p1 p2 p3 p4,BV (by simp) (fun r hr => ?_) ?_ (fun u hu => ?_) p4⟩
          · simp only[cR] at hr
            obtain⟨m,-,rfl⟩:=hr
            rfl
          · have:=EB (l.reverse.map (Value.int .i64))
            simpa only [List.map_map,Function.comp_def] using this
          · simp only[cR] at hu
            obtain⟨m,-,rfl⟩:=hu
            exact⟨rfl,rfl⟩
      · cases h
    · cases h
  · cases h
end Go.Di
end
section
namespace Go.Proofs
open Go.RowKit
theorem Xg {l:List Int} {k:Nat} (hk:k<l.length):((l.take k).map (Value.int .i64)++List.replicate (l.length-k) (Value.int .i64 0)).set k (.int .i64 (l.getD k 0))=(l.take (k+1)).map (Value.int .i64)++List.replicate (l.length-(k+1)) (.int .i64 0):=by
 have e:((l.take k).map (Value.int .i64)).length=k:=by rw[eT,iD]; omega
 rw[List.set_append_right _ _ (by omega),e,Nat.sub_self,show l.length-k=(l.length-(k+1))+1 by omega,List.replicate_succ,List.set_cons_zero,List.take_add_one,gm,gD]
 congr 1
 simp[aN,hk]
theorem Tryz.Xq {w:World} {a:Addr} {v:Value} (h:w.cell? a=some v):a.block<w.heap.size:=by
 by_cases hb:a.block<w.heap.size
 ·exact hb
 ·simp[World.cell?,lp (Nat.le_of_not_lt hb)] at h
set_option maxRecDepth 100000 in
set_option maxHeartbeats 1000000 in
theorem Tryz.Xh (A:Option Addr) (cap:Nat) (l:List Int) (w:World) (hl:l.length≤1000) (hR:l≠[]→∃ b off,A=some ⟨b,off,none⟩∧∀ j,j<l.length→w.cell? ⟨b,off+j,none⟩=some (.int .i64 (l.getD j 0))) :
  Calls Tryz.prog 43 #[.slice A l.length cap] w fun e w'=>e = .returned (.slice (some ⟨w.heap.size,0,none⟩) l.length l.length)∧w'.ownsRow w.heap.size 3 1 (.slice (some ⟨w.heap.size,0,none⟩) l.length l.length) l.length (l.map (Value.int .i64))∧Below w.heap.size w w':=by
 obtain⟨i0,hi,GK,O9,hz2⟩:=info_parts Co.Qz
 have mP:=Lib.hid hR
 clear hR
 have hm:l.length≤maxLen:=by unfold maxLen; omega
 go_enter Tryz.func43,Tryz.ntmps43
 go_wp2_with (first | (at_make; go_loud (refine wpList_make_full _ rfl _ _ 23 rfl w.heap.size 3 i0 (.int .i64 0) 1 Tryz.underlying23 hi GK O9 _ _ _ _ l.length rfl rfl rfl rfl (by rw[hz2]; omega) hm (ak _) ?_)))
 intro w1 fD QE
 go_wp2
 go_loopw [4] (fun i wr=>∃ k:Nat,k≤l.length∧i = .int .i64 (k:Int)∧wr.ownsRow w.heap.size 3 1 (.slice (some ⟨w.heap.size,0,none⟩) l.length l.length) l.length ((l.take k).map (Value.int .i64)++List.replicate (l.length-k) (.int .i64 0))∧Below w.heap.size w wr) (fun i _=>l.length-(intOf i).toNat)
 ·refine⟨0,gh _,rfl,?_,(Below.refl _ _).grown QE (ak _) (fun g h=>by cases h)⟩
  rw[toList_madeCells_one] at fD
  simpa using fD
 ·obtain⟨k,hk,rfl,vu,Be⟩:=hrel
  by_cases Za:k<l.length
  ·obtain⟨b,off,rfl,hc⟩:=mP.out (fun e=>by subst e; simp at Za)
   have uV:wr.cell? ⟨b,off+k,none⟩=some (.int .i64 (l.getD k 0)):=(Be.cell (p:=⟨b,off+k,none⟩) (Tryz.Xq (hc k Za))).trans (hc k Za)
   have Jw:=vu.frozenAt k
   have uw:wr.cell? ⟨w.heap.size,k,none⟩=some (.int .i64 0):=by
    rw[vu.cellAt k (by omega),gF (by rw[eT,iD]; omega),nK,if_pos (by rw[eT,iD]; omega)]
   have st:=Lib.hid (vu.stored k (.int .i64 (l.getD k 0)))
   have nO:=Lib.hid Be
   clear vu Be hc fD QE
   go_wp2
   refine⟨⟨k+1,by omega,by go_num,?_,?_⟩,by simp[intOf]; omega⟩
   ·have:=st.out.1
    rw[Xg Za] at this
    simpa [aN,Za] using this
   ·exact nO.out.setCell (ak _) _
  ·clear fD QE
   rw[show k=l.length by omega,fo,Nat.sub_self,List.replicate_zero,ff] at vu
   have st:=Lib.hid vu
   have nO:=Lib.hid Be
   clear vu Be
   go_wp2
   go_ret
   exact⟨rfl,st.out,nO.out⟩
end Go.Proofs
namespace Go.Di
open Go Go.Conc Go.Co Go.Proofs
variable {P:Program} {af:Machine→Trace→Prop} {x:Cx}
def Vz:DV→Option DV
 | .sl rows _ _=>match pV rows with
  | some l=>if l.length≤1000 then some (.sl (l.map fun n => .val (.int .i64 n)) none ⟨false,none⟩) else none
  | none=>none
 | _=>none
theorem OT {a d:DV} (h:Vz a=some d) {vals:Array Value} (hR:Rel x) (ha:gn x [a] vals):eH Tryz.prog af x 43 vals fun y u=>y.S=x.S∧Rel y∧bZ x y∧RV y d u:=by
 unfold Vz at h
 split at h
 ·rename_i rows tok f
  split at h
  ·rename_i l hl
   split at h
   ·rename_i hlen
    cases h
    obtain⟨h1,h2,h3⟩:=ug hl
    obtain⟨hsz,bn⟩:=ha
    have e:vals=#[vals.getD 0 undef]:=by
     obtain⟨l⟩:=vals
     match l,hsz with
     | [u],_=>rfl
    have hv:=bn 0 _ rfl
    generalize vals.getD 0 undef=u at e hv
    subst e
    cases hv with
    | @sl _ _ _ A cap s vs hv hr k1 k2 k3 k4 k5 =>
     have jk:∀ τ,Calls Tryz.prog 43 #[.slice A rows.length cap] (x.w.re τ 0) fun e w'=>∃ v,e = .returned v∧(x.w.heap.size≤w'.heap.size∧(w'.os=x.w.os∧w'.output=x.w.output)∧(∀ b,b<x.w.heap.size→w'.heap[b]? = x.w.heap[b]?)∧w'.ownsRow x.w.heap.size 3 1 v l.length (l.map (Value.int .i64))):=by
      intro τ
      have hz:rows.length=l.length:=h1.symm
      rw[hz]
      refine(Tryz.Xh A cap l (x.w.re τ 0) hlen fun hne => ?_).mono ?_
      ·have Bb:0<l.length:=List.length_pos_iff.2 hne
       have hc:∀ j,j<l.length→(flat rows)[j]? = some (.val (.int .i64 (l.getD j 0))):=fun j hj=>by
        rw[h3]
        refine h2 j _ ?_
        simp[aN,hj]
       obtain⟨-,b,o,q1,-,-⟩:=hv.2 0 _ (hc 0 Bb)
       refine⟨b,o,q1,fun j hj => ?_⟩
       obtain⟨-,b',o',q2,q3,q4⟩:=hv.2 j _ (hc j hj)
       rw[q1] at q2
       cases q2
       have:=hr j _ (hc j hj)
       generalize vs j=u at *
       cases this with
       | val _=>exact q4
      ·rintro e w' ⟨rfl,ho,hb⟩
       exact⟨_,rfl,hb.size,⟨hb.os,hb.output⟩,hb.block,ho⟩
     refine Ac iq Tryz.func43 rfl jk fun v w' hp τ d => ?_
     obtain⟨p1,p2,p3,p4⟩:x.w.heap.size≤(w'.re τ d).heap.size∧((w'.re τ d).os=x.w.os∧(w'.re τ d).output=x.w.output)∧(∀ b,b<x.w.heap.size→(w'.re τ d).heap[b]? = x.w.heap[b]?)∧(w'.re τ d).ownsRow x.w.heap.size 3 1 v l.length (l.map (Value.int .i64)):=hp
     refine⟨x.zc (w'.re τ d) v (l.length*1),rfl,rfl,yJ hR p1 p2 p3 p4,qW hR p1 p2 p3 p4,BV (by simp) (fun r hr => ?_) ?_ (fun u hu => ?_) p4⟩
     ·simp only[cR] at hr
      obtain⟨m,-,rfl⟩:=hr
      rfl
     ·have:=EB (l.map (Value.int .i64))
      simpa only [List.map_map,Function.comp_def] using this
     ·simp only[cR] at hu
      obtain⟨m,-,rfl⟩:=hu
      exact⟨rfl,rfl⟩
   ·cases h
  ·cases h
 ·cases h
end Go.Di
end
