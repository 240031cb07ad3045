import Derived.Test.YtedcgbkilmlbhaaGreatPk31
import Derived.Shelf.SlSortCmp.WholeK
import Derived.Shelf.SlicesG.Cmp
import Derived.Shelf.Lay
import Derived.Ground.SlsfProg
import Derived.Ground.SlgcProg
import Derived.WalkKit
import Derived.WalkSpells
import Derived.WalkLawsBesides
import Derived.StillTailTactics
import Derived.Deep.QuietTactic
import Derived.BigQuiet
import Derived.Lib.Hide
import Derived.Test.YtedcgbkilmlbhaaGreatPk19
import Derived.Test.YtedcgbkilmlbhaaGreatChecked
import Derived.KernelRfl
import Derived.Test.YtedcgbkilmlbhaaGreatPk24
import Derived.Test.YtedcgbkilmlbhaaGreatPk27
section
namespace Go.Proofs
open Go.Shelf Go.RowKit Go.Lib Go.Sort
def Tryz.CY:Go.Shelf.Ren:=⟨fun | 6=>105 | 15=>128 | 14=>129 | 28=>143 | 29=>144 | 20=>145 | 21=>146 | 22=>147 | 23=>148 | 24=>149 | 25=>150 | 26=>151 | 27=>152 | 46=>159 | 47=>155 | 48=>156 | 49=>160 | 50=>161 | 57=>163 | n=>n,fun | 22=>34 | 24=>79 | 25=>140 | 3=>3 | 39=>87 | 0=>0 | 53=>182 | 55=>83 | 4=>4 | 46=>175 | 45=>174 | 50=>179 | 5=>5 | 9=>9 | 66=>189 | 70=>192 | 76=>196 | 77=>163 | n=>n,fun | n=>n⟩
theorem Tryz.Eo:Go.Proofs.SlLaysF0.n6 Tryz.prog Tryz.CY:={
 mixed:=by kernel_rfl
 f6:=⟨Tryz.f105.name,by decide,Tryz.func105.trans (congrArg some (by kernel_rfl))⟩
 f14:=⟨Tryz.f129.name,by decide,Tryz.func129.trans (congrArg some (by kernel_rfl))⟩
 f15:=Tryz.func128.trans (congrArg some (by kernel_rfl))
 f20:=⟨Tryz.f145.name,by decide,Tryz.func145.trans (congrArg some (by kernel_rfl))⟩
 f21:=⟨Tryz.f146.name,by decide,Tryz.func146.trans (congrArg some (by kernel_rfl))⟩
 f22:=⟨Tryz.f147.name,by decide,Tryz.func147.trans (congrArg some (by kernel_rfl))⟩
 f23:=⟨Tryz.f148.name,by decide,Tryz.func148.trans (congrArg some (by kernel_rfl))⟩
 f24:=⟨Tryz.f149.name,by decide,Tryz.func149.trans (congrArg some (by kernel_rfl))⟩
 f25:=⟨Tryz.f150.name,by decide,Tryz.func150.trans (congrArg some (by kernel_rfl))⟩
 f26:=⟨Tryz.f151.name,by decide,Tryz.func151.trans (congrArg some (by kernel_rfl))⟩
 f27:=⟨Tryz.f152.name,by decide,Tryz.func152.trans (congrArg some (by kernel_rfl))⟩
 f28:=Tryz.func143.trans (congrArg some (by kernel_rfl))
 f29:=Tryz.func144.trans (congrArg some (by kernel_rfl))
 f46:=⟨Tryz.f159.name,by decide,Tryz.func159.trans (congrArg some (by kernel_rfl))⟩
 f47:=Tryz.func155.trans (congrArg some (by kernel_rfl))
 f48:=Tryz.func156.trans (congrArg some (by kernel_rfl))
 f49:=⟨Tryz.f160.name,by decide,Tryz.func160.trans (congrArg some (by kernel_rfl))⟩
 f50:=⟨Tryz.f161.name,by decide,Tryz.func161.trans (congrArg some (by kernel_rfl))⟩
 f57:=⟨Tryz.f163.name,by decide,Tryz.func163.trans (congrArg some (by kernel_rfl))⟩
 t0:=Tryz.underlying0
 a0:=Tryz.isAgg0
 z0:=Tryz.sizeOf0
 v0:=Tryz.zeroValue0
 t3:=Tryz.underlying3
 a3:=Tryz.isAgg3
 z3:=Tryz.sizeOf3
 v3:=Tryz.zeroValue3
 t4:=Tryz.underlying4
 a4:=Tryz.isAgg4
 z4:=Tryz.sizeOf4
 v4:=Tryz.zeroValue4
 t5:=Tryz.underlying5
 a5:=Tryz.isAgg5
 z5:=Tryz.sizeOf5
 v5:=Tryz.zeroValue5
 t9:=Tryz.underlying9
 a9:=Tryz.isAgg9
 z9:=Tryz.sizeOf9
 v9:=Tryz.zeroValue9
 t22:=Tryz.underlying34
 a22:=Tryz.isAgg34
 z22:=Tryz.sizeOf34
 v22:=Tryz.zeroValue34
 t25:=Tryz.underlying140
 a25:=Tryz.isAgg140
 z25:=Tryz.sizeOf140
 v25:=Tryz.zeroValue140
 t39:=Tryz.underlying87
 a39:=Tryz.isAgg87
 z39:=Tryz.sizeOf87
 v39:=Tryz.zeroValue87
 t45:=Tryz.underlying174
 a45:=Tryz.isAgg174
 z45:=Tryz.sizeOf174
 v45:=Tryz.zeroValue174
 t46:=Tryz.underlying175
 a46:=Tryz.isAgg175
 z46:=Tryz.sizeOf175
 v46:=Tryz.zeroValue175
 t50:=Tryz.underlying179
 a50:=Tryz.isAgg179
 z50:=Tryz.sizeOf179
 v50:=Tryz.zeroValue179
 t53:=Tryz.underlying182
 a53:=Tryz.isAgg182
 z53:=Tryz.sizeOf182
 v53:=Tryz.zeroValue182
 t55:=Tryz.underlying83
 a55:=Tryz.isAgg83
 z55:=Tryz.sizeOf83
 v55:=Tryz.zeroValue83
 t66:=Tryz.underlying189
 a66:=Tryz.isAgg189
 z66:=Tryz.sizeOf189
 v66:=Tryz.zeroValue189
 t70:=Tryz.underlying192
 a70:=Tryz.isAgg192
 z70:=Tryz.sizeOf192
 v70:=Tryz.zeroValue192
 t76:=Tryz.underlying196
 a76:=Tryz.isAgg196
 z76:=Tryz.sizeOf196
 v76:=Tryz.zeroValue196
 t77:=Tryz.underlying163
 a77:=Tryz.isAgg163
 z77:=Tryz.sizeOf163
 v77:=Tryz.zeroValue163 }
def Tryz.Hr:Go.Shelf.Ren:=⟨fun | 5=>108 | 7=>130 | n=>n,fun | 22=>3 | 3=>3 | 4=>4 | n=>n,fun | n=>n⟩
theorem Tryz.Xs:Go.Proofs.SlLaysC2.n5 Tryz.prog Tryz.Hr:={
 mixed:=by kernel_rfl
 f5:=⟨Tryz.f108.name,by decide,Tryz.func108.trans (congrArg some (by kernel_rfl))⟩
 f7:=⟨Tryz.f130.name,by decide,Tryz.func130.trans (congrArg some (by kernel_rfl))⟩
 t3:=Tryz.underlying3
 a3:=Tryz.isAgg3
 z3:=Tryz.sizeOf3
 v3:=Tryz.zeroValue3
 t4:=Tryz.underlying4
 a4:=Tryz.isAgg4
 z4:=Tryz.sizeOf4
 v4:=Tryz.zeroValue4
 t22:=Tryz.underlying3
 a22:=Tryz.isAgg3
 z22:=Tryz.sizeOf3
 v22:=Tryz.zeroValue3 }
theorem Tryz.aa1 (x y:Int) (w:World):Calls Tryz.prog 108 #[.int .i64 x,.int .i64 y] w fun e w'=>e = .returned (.int .i64 (Lib.compareInt x y))∧w'=w:=by
 have h:=AnyG.cmp_Compare_int Tryz.Xs x y w
 exact h
def PW (a b c:Int):Int:=if a=0 then if b=0 then c else b else a
set_option maxHeartbeats 1000000 in
theorem Tryz.abk (a b c:Int) (n:Nat) (w:World) (h0:w.cell? ⟨n,0,none⟩=some (.int .i64 a)) (h1:w.cell? ⟨n,1,none⟩=some (.int .i64 b)) (h2:w.cell? ⟨n,2,none⟩=some (.int .i64 c)) :
  Calls Tryz.prog 107 #[.slice (some ⟨n,0,none⟩) 3 3] w fun e w'=>e = .returned (.int .i64 (PW a b c))∧w'=w:=by
 have hr:(a≠0→PW a b c=a)∧(a=0→b≠0→PW a b c=b)∧(a=0→b=0→PW a b c=c):=by
  refine⟨fun h=>if_neg h,fun h h' => ?_,fun h h' => ?_⟩
  ·unfold PW; rw[if_pos h,if_neg h']
  ·unfold PW; rw[if_pos h,if_pos h']
 generalize PW a b c=r at hr ⊢
 go_enter Tryz.func107,Tryz.ntmps107
 go_wp2
 go_loop [5,8] (fun _ i=>∃ k:Nat,k≤3∧i = .int .i64 k∧(1≤k→a=0)∧(2≤k→b=0)∧(3≤k→c=0)) (fun _ i=>3-(intOf i).toNat)
 case atStart=>exact⟨0,by omega,rfl,by omega,by omega,by omega⟩
 case round =>
  obtain⟨k,hk,rfl,ha,hb,hc⟩:=hrel
  have Xm:k=0∨k=1∨k=2∨k=3:=by omega
  rcases Xm with rfl | rfl | rfl | rfl
  ·clear ha hb hc
   by_cases hz:a=0
   ·subst hz
    go_wp2
    go_round
    case rel=>exact⟨1,by omega,by go_num,by simp,by omega,by omega⟩
    case measure=>simp[intOf]
   ·have UI:=hr.1 hz
    clear hr
    subst UI
    go_wp2
    go_ret
    exact⟨rfl,rfl⟩
  ·have ha:=ha (by omega)
   subst ha
   clear hb hc h0
   by_cases hz:b=0
   ·subst hz
    go_wp2
    go_round
    case rel=>exact⟨2,by omega,by go_num,by simp,by simp,by omega⟩
    case measure=>simp[intOf]
   ·have UI:=hr.2.1 rfl hz
    clear hr
    subst UI
    go_wp2
    go_ret
    exact⟨rfl,rfl⟩
  ·have ha:=ha (by omega)
   have hb:=hb (by omega)
   subst ha
   subst hb
   clear hc h0 h1
   by_cases hz:c=0
   ·subst hz
    go_wp2
    go_round
    case rel=>exact⟨3,by omega,by go_num,by simp,by simp,by simp⟩
    case measure=>simp[intOf]
   ·have UI:=hr.2.2 rfl rfl
    clear hr
    subst UI
    go_wp2
    go_ret
    exact⟨rfl,rfl⟩
  ·have ha:=ha (by omega)
   have hb:=hb (by omega)
   have hc:=hc (by omega)
   have UI:=hr.2.2 ha hb
   subst ha
   subst hb
   subst hc
   clear hr h0 h1 h2
   subst UI
   go_wp2
   go_ret
   exact⟨rfl,rfl⟩
def tu (x y:Int×Int×Int):Int:=PW (Lib.compareInt x.1 y.1) (Lib.compareInt x.2.1 y.2.1) (Lib.compareInt x.2.2 y.2.2)
set_option maxRecDepth 100000 in
set_option maxHeartbeats 1000000 in
theorem Tryz.KP (x y:Int×Int×Int) (W:World):Calls Tryz.prog 106 #[.agg #[.int .i64 x.1,.int .i64 x.2.1,.int .i64 x.2.2],.agg #[.int .i64 y.1,.int .i64 y.2.1,.int .i64 y.2.2]] W fun e w'=>e = .returned (.int .i64 (tu x y))∧∃ q os',w'=grow (W.drewN q) os':=by
 obtain⟨x1,x2,x3⟩:=x
 obtain⟨y1,y2,y3⟩:=y
 have Qx:=Tryz.aa1
 unfold tu
 simp only
 have hA:=Qx x1 y1
 have hB:=Qx x2 y2
 have hC:=Qx x3 y3
 clear Qx
 generalize Lib.compareInt x1 y1=A at *
 generalize Lib.compareInt x2 y2=B at *
 generalize Lib.compareInt x3 y3=C at *
 go_enter Tryz.func106,Tryz.ntmps106
 go_wp2
 refine wp_region_still_tail 15 (by kernel_rfl) (by kernel_rfl) ?_
 simp only[List.take_succ_cons,List.take_zero,List.drop_succ_cons,List.drop_zero]
 have a1:((W.alloc (.cells #[.int .i64 x1,.int .i64 x2,.int .i64 x3] 79)).alloc (.cells #[.int .i64 y1,.int .i64 y2,.int .i64 y3] 79)).drew.cell? ⟨W.heap.size,0,none⟩=some (.int .i64 x1):=by
  refine(World.cell?_alloc_lt _ _ _ (by simp)).trans ?_
  rw[World.cell?_alloc_new]; rfl
 have a2:((W.alloc (.cells #[.int .i64 x1,.int .i64 x2,.int .i64 x3] 79)).alloc (.cells #[.int .i64 y1,.int .i64 y2,.int .i64 y3] 79)).drew.cell? ⟨W.heap.size,1,none⟩=some (.int .i64 x2):=by
  refine(World.cell?_alloc_lt _ _ _ (by simp)).trans ?_
  rw[World.cell?_alloc_new]; rfl
 have a3:((W.alloc (.cells #[.int .i64 x1,.int .i64 x2,.int .i64 x3] 79)).alloc (.cells #[.int .i64 y1,.int .i64 y2,.int .i64 y3] 79)).drew.cell? ⟨W.heap.size,2,none⟩=some (.int .i64 x3):=by
  refine(World.cell?_alloc_lt _ _ _ (by simp)).trans ?_
  rw[World.cell?_alloc_new]; rfl
 have b1:((W.alloc (.cells #[.int .i64 x1,.int .i64 x2,.int .i64 x3] 79)).alloc (.cells #[.int .i64 y1,.int .i64 y2,.int .i64 y3] 79)).drew.cell? ⟨W.heap.size+1,0,none⟩=some (.int .i64 y1):=by
  have h:=World.cell?_alloc_new (W.alloc (.cells #[.int .i64 x1,.int .i64 x2,.int .i64 x3] 79)) #[.int .i64 y1,.int .i64 y2,.int .i64 y3] 79 0
  rw[show (W.alloc (.cells #[.int .i64 x1,.int .i64 x2,.int .i64 x3] 79)).heap.size=W.heap.size+1 by simp] at h
  exact h.trans rfl
 have b2:((W.alloc (.cells #[.int .i64 x1,.int .i64 x2,.int .i64 x3] 79)).alloc (.cells #[.int .i64 y1,.int .i64 y2,.int .i64 y3] 79)).drew.cell? ⟨W.heap.size+1,1,none⟩=some (.int .i64 y2):=by
  have h:=World.cell?_alloc_new (W.alloc (.cells #[.int .i64 x1,.int .i64 x2,.int .i64 x3] 79)) #[.int .i64 y1,.int .i64 y2,.int .i64 y3] 79 1
  rw[show (W.alloc (.cells #[.int .i64 x1,.int .i64 x2,.int .i64 x3] 79)).heap.size=W.heap.size+1 by simp] at h
  exact h.trans rfl
 have b3:((W.alloc (.cells #[.int .i64 x1,.int .i64 x2,.int .i64 x3] 79)).alloc (.cells #[.int .i64 y1,.int .i64 y2,.int .i64 y3] 79)).drew.cell? ⟨W.heap.size+1,2,none⟩=some (.int .i64 y3):=by
  have h:=World.cell?_alloc_new (W.alloc (.cells #[.int .i64 x1,.int .i64 x2,.int .i64 x3] 79)) #[.int .i64 y1,.int .i64 y2,.int .i64 y3] 79 2
  rw[show (W.alloc (.cells #[.int .i64 x1,.int .i64 x2,.int .i64 x3] 79)).heap.size=W.heap.size+1 by simp] at h
  exact h.trans rfl
 have hg:((W.alloc (.cells #[.int .i64 x1,.int .i64 x2,.int .i64 x3] 79)).alloc (.cells #[.int .i64 y1,.int .i64 y2,.int .i64 y3] 79)).drew=grow (W.drewN 1) (#[.cells #[.int .i64 x1,.int .i64 x2,.int .i64 x3] 79]++#[.cells #[.int .i64 y1,.int .i64 y2,.int .i64 y3] 79]):=by
  rw[alloc_eq_grow,alloc_eq_grow,grow_grow]; rfl
 change wpStill _ _ ((W.alloc (.cells #[.int .i64 x1,.int .i64 x2,.int .i64 x3] 79)).alloc (.cells #[.int .i64 y1,.int .i64 y2,.int .i64 y3] 79)).drew (fun a'=>wpList _ _ _ _ a' ((W.alloc (.cells #[.int .i64 x1,.int .i64 x2,.int .i64 x3] 79)).alloc (.cells #[.int .i64 y1,.int .i64 y2,.int .i64 y3] 79)).drew) _ _
 generalize ((W.alloc (.cells #[.int .i64 x1,.int .i64 x2,.int .i64 x3] 79)).alloc (.cells #[.int .i64 y1,.int .i64 y2,.int .i64 y3] 79)).drew=W2 at *
 have HG:=Lib.hid hg
 clear hg
 repeat still_step
 still_call (hA _)
 repeat still_step
 still_call (hB _)
 repeat still_step
 still_call (hC _)
 repeat still_step
 refine wpStill_nil ?_
 clear a1 a2 a3 b1 b2 b3 hA hB hC
 have c0:(W2.alloc (.cells #[.int .i64 A,.int .i64 B,.int .i64 C] 3)).cell? ⟨W2.heap.size,0,none⟩=some (.int .i64 A):=by rw[World.cell?_alloc_new]; rfl
 have c1:(W2.alloc (.cells #[.int .i64 A,.int .i64 B,.int .i64 C] 3)).cell? ⟨W2.heap.size,1,none⟩=some (.int .i64 B):=by rw[World.cell?_alloc_new]; rfl
 have c2:(W2.alloc (.cells #[.int .i64 A,.int .i64 B,.int .i64 C] 3)).cell? ⟨W2.heap.size,2,none⟩=some (.int .i64 C):=by rw[World.cell?_alloc_new]; rfl
 have hor:=Tryz.abk A B C W2.heap.size _ c0 c1 c2
 clear c0 c1 c2
 go_wp2_with (go_at_call 107; refine hor.mono ?_; rintro e w' ⟨rfl,rfl⟩)
 go_ret
 have rG:∃ q os',W2.alloc (.cells #[.int .i64 A,.int .i64 B,.int .i64 C] 3)=grow (W.drewN q) os' :=
  ⟨1,(#[.cells #[.int .i64 x1,.int .i64 x2,.int .i64 x3] 79]++#[.cells #[.int .i64 y1,.int .i64 y2,.int .i64 y3] 79])++#[.cells #[.int .i64 A,.int .i64 B,.int .i64 C] 3],by rw[alloc_eq_grow,HG.out,grow_grow]⟩
 exact⟨rfl,rG⟩
end Go.Proofs
end
section
namespace Go.Co
open Go Go.Conc Go.Proofs Go.Sort Go.Shelf
def KW (x y:Sm):Prop:=x.1<y.1∨(x.1=y.1∧(x.2.1<y.2.1∨(x.2.1=y.2.1∧x.2.2<y.2.2)))
theorem vA (x y:Int):(x<y∧Lib.compareInt x y = -1)∨(x=y∧Lib.compareInt x y=0)∨(y<x∧Lib.compareInt x y=1):=by
 unfold Lib.compareInt
 by_cases h1:x<y
 ·exact .inl ⟨h1,by rw[if_pos h1]⟩
 ·by_cases h2:y<x
  ·exact .inr (.inr ⟨h2,by rw[if_neg h1,if_pos h2]⟩)
  ·exact .inr (.inl ⟨by omega,by rw[if_neg h1,if_neg h2]⟩)
theorem lt_iff (x y:Sm):ltOf tu x y=true↔KW x y:=by
 obtain⟨x1,x2,x3⟩:=x
 obtain⟨y1,y2,y3⟩:=y
 unfold ltOf tu PW KW
 simp only[decide_eq_true_eq]
 rcases vA x1 y1 with ⟨h1,e1⟩ | ⟨h1,e1⟩ | ⟨h1,e1⟩<;>rcases vA x2 y2 with ⟨h2,e2⟩ | ⟨h2,e2⟩ | ⟨h2,e2⟩<;>rcases vA x3 y3 with ⟨h3,e3⟩ | ⟨h3,e3⟩ | ⟨h3,e3⟩<;>simp[e1,e2,e3]<;>omega
theorem yM (x y:Sm):ltOf tu x y=false↔¬ KW x y:=by
 rw[← lt_iff]; simp
theorem Z6:SWO (ltOf tu) where
 irrefl x:=by rw[yM]; unfold KW; omega
 trans x y z h1 h2:=by rw[lt_iff] at *; unfold KW at *; omega
 ntrans x y z h1 h2:=by rw[yM] at *; unfold KW at *; omega
theorem JL {d:Array Sm} {R:List Sm} (hp:d.toList.Perm R) (hs:SortedIn (ltOf tu) 0 d.size d) (hR:R.Pairwise KW):d.toList=R:=by
 refine List.Perm.eq_of_pairwise (le:=fun x y=>¬ KW y x) (fun a b _ _ h1 h2 => ?_) ?_ (hR.imp fun {a b} h => ?_) hp
 ·obtain⟨a1,a2,a3⟩:=a
  obtain⟨b1,b2,b3⟩:=b
  unfold KW at h1 h2
  simp only at h1 h2
  have e1:a1=b1:=by omega
  have e2:a2=b2:=by omega
  have e3:a3=b3:=by omega
  rw[e1,e2,e3]
 ·rw[List.pairwise_iff_getElem]
  intro i j hi hj HI
  have h:=hs i j (Nat.zero_le _) HI (by simpa using hj)
  rw[yM] at h
  simp only[Array.length_toList] at hi hj
  rw[getElem!_pos d i hi,getElem!_pos d j hj] at h
  simpa using h
 ·unfold KW at *; omega
def PK (l:List Int):Prop:=l.Pairwise (· < ·)
theorem GM (low up:List Int) (bH:Int):PK (nG low up bH):=by
 unfold PK nG Lp
 refine List.Pairwise.filter _ ?_
 rw[List.pairwise_map]
 exact List.pairwise_lt_range.imp fun {a b} h=>by omega
theorem JQ {da db:Wk} (ha:PK da.aR) (hb:PK db.aR):(cW da db).Pairwise KW:=by
 unfold cW
 rw[List.pairwise_flatMap]
 refine⟨fun x _ => ?_,ha.imp fun {x x'} h => ?_⟩
 ·rw[List.pairwise_flatMap]
  refine⟨fun y _ => ?_,hb.imp fun {y y'} h => ?_⟩
  ·rw[List.pairwise_map]
   exact(GM _ _ _).imp fun {s s'} h => .inr ⟨rfl,.inr ⟨rfl,h⟩⟩
  ·intro m hm m' FH
   obtain⟨s,_,rfl⟩:=List.mem_map.1 hm
   obtain⟨s',_,rfl⟩:=List.mem_map.1 FH
   exact .inr ⟨rfl,.inl h⟩
 ·intro m hm m' FH
  obtain⟨y,_,hm⟩:=List.mem_flatMap.1 hm
  obtain⟨y',_,FH⟩:=List.mem_flatMap.1 FH
  obtain⟨s,_,rfl⟩:=List.mem_map.1 hm
  obtain⟨s',_,rfl⟩:=List.mem_map.1 FH
  exact .inl h
theorem Bz (d:Array Sm):(flatK nj 3 d).toList=d.toList.flatMap nj:=by
 apply List.ext_getElem?
 intro t
 have hlen:(d.toList.flatMap nj).length=d.size*3:=by rw[CA]; simp
 by_cases ht:t<d.size*3
 ·have h1:=get_flatK nj 3 d t ht
  rw[getElem!_pos _ t (by simpa using ht)] at h1
  rw[Array.getElem?_toList,Array.getElem?_eq_getElem (by simpa using ht),h1]
  have key:∀ (l:List Sm) (t:Nat),t<l.length*3→(l.flatMap nj)[t]? = some ((nj (l[t / 3]!))[t % 3]!):=by
   intro l
   induction l with
   | nil=>intro t h; simp at h
   | cons m l ih =>
    intro t h
    rw[List.flatMap_cons]
    by_cases h3:t<3
    ·have e0:t / 3=0:=by omega
     have e1:t % 3=t:=by omega
     rw[e0,e1,List.getElem?_append_left (by simpa [nj] using h3)]
     have:t=0∨t=1∨t=2:=by omega
     rcases this with rfl | rfl | rfl<;>rfl
    ·obtain⟨s,rfl⟩:∃ s,t=s+3:=⟨t-3,by omega⟩
     have e0:(s+3) / 3=s / 3+1:=by omega
     have e1:(s+3) % 3=s % 3:=by omega
     rw[e0,e1,List.getElem?_append_right (by simp[nj])]
     have:=ih s (by simp at h; omega)
     simpa [nj] using this
  rw[key d.toList t (by simpa using ht)]
  congr 3
  have hd:t / 3<d.size:=by omega
  rw[getElem!_pos d _ hd,getElem!_pos d.toList _ (by simpa using hd)]
  simp
 ·rw[List.getElem?_eq_none (by simp; omega),List.getElem?_eq_none (by omega)]
theorem G8 {w:World} {g:Nat} {cur:Array Value} {e:TypeId} {d:Array Sm} (hb:w.heap[g]? = some (.cells cur e (0,0))) (ht:cur.toList.take (d.size*3)=d.toList.flatMap nj):HoldsK nj 3 w g 0 d:=by
 intro j hj
 rw[size_flatK] at hj
 refine⟨?_,by simp[World.frozen?,hb]⟩
 have h1:(cur.toList.take (d.size*3))[j]? = (flatK nj 3 d).toList[j]? := by rw[ht,Bz]
 rw[List.getElem?_take_of_lt hj] at h1
 simp only[World.cell?,hb,Nat.zero_add]
 simp only[Option.isSome_none,Bool.false_eq_true,if_false]
 rw[← Array.getElem?_toList,h1,Array.getElem?_toList,Array.getElem?_eq_getElem (by simpa using hj),getElem!_pos _ j (by simpa using hj)]
 rfl
theorem KE {w:World} {g n:Nat} {os:Array Obj} {cur:Array Value} {e:TypeId} {fr:Nat×Nat} (d:Array Sm) (hb:w.heap[g]? = some (.cells cur e fr)) :
  (sortWorldK nj 3 w g 0 n d os).heap[g]? = some (.cells (putCells id 0 (flatK nj 3 d) cur) e fr):=by
 have hg:g<w.heap.size:=(Array.getElem?_eq_some_iff.1 hb).1
 unfold sortWorldK putRowK
 rw[heap_grow_old _ _ (by simpa using hg)]
 simp[putRow,mapBlock,Sort.ahead,Array.getElem?_modify,hb,onCells]
theorem Db {w:World} {g n:Nat} {os:Array Obj} (d:Array Sm):w.grownBy (sortWorldK nj 3 w g 0 n d os) (some g):=by
 unfold sortWorldK putRowK
 refine⟨rfl,rfl,rfl,by simp,fun k hk hne => ?_⟩
 rw[heap_grow_old _ _ (by simpa using hk)]
 have:g≠k:=fun e=>hne (by rw[e])
 simp[putRow,mapBlock,Sort.ahead,Array.getElem?_modify,this]
theorem C4 {w:World} {base g cap n:Nat} {e:TypeId} {os:Array Obj} {cur:Array Value} {d:Array Sm} (x6:base≤g) (hb:w.heap[g]? = some (.cells cur e (0,0)))
  (h1:d.size≤cap) (h2:cap≤maxLen) (h3:cur.size=cap*3) :
  (sortWorldK nj 3 w g 0 n d os).ownsRow base e 3 (.slice (some ⟨g,0,none⟩) d.size cap) d.size (d.toList.flatMap nj):=by
 refine⟨by rw[CA]; simp,.inr ⟨g,cap,_,rfl,x6,KE d hb,h1,h2,by simp[putCells,h3],?_⟩⟩
 rw[← Bz]
 apply List.ext_getElem?
 intro j
 by_cases hj:j<d.size*3
 ·rw[List.getElem?_take_of_lt hj,Array.getElem?_toList,Array.getElem?_toList]
  have hc:j<cur.size:=by omega
  simp[putCells,hj,hc]
 ·rw[List.getElem?_take_eq_none (by omega),List.getElem?_eq_none (by simp; omega)]
end Go.Co
end
section
namespace Go.Co
open Go Go.Proofs
open Go.Extern.RuntimeError
variable {P:Program}
theorem t_described (v:Value):T1 P (described v):=by
 unfold described
 (repeat' first | exact TC.out | (with_reducible refine aB ?_ (fun _ => ?_)) | (with_reducible refine gl ?_ ?_) | split | dsimp only)
theorem t_text (s:String):T1 P (text s):=aK trivial
theorem t_pkgpathOf (i:TypeInfo):T1 P (pkgpathOf i):=by
 unfold pkgpathOf
 (repeat' first | exact TC.out | (with_reducible refine aB ?_ (fun _ => ?_)) | (with_reducible refine gl ?_ ?_) | split | dsimp only)
theorem t_boundsError (args:Array Value):T1 P (boundsError args):=by
 unfold boundsError
 rcases args with ⟨_ | ⟨x,_ | ⟨y,l⟩⟩⟩
 ·exact ax _
 rotate_left
 ·exact ax _
 cases x<;>try exact ax _
 rename_i cs
 rcases cs with ⟨_ | ⟨a,_ | ⟨b,_ | ⟨c,_ | ⟨d,_ | ⟨e,l⟩⟩⟩⟩⟩⟩<;>try exact ax _
 cases a<;>try exact ax _
 cases b<;>try exact ax _
 cases c<;>try exact ax _
 cases d<;>try exact ax _
 rename_i k x k1 y signed k2 code
 show T1 P (match (if (signed&&decide (x<0))=true then boundsNegErrorFmts else boundsErrorFmts)[code.toNat]? with
  | some fmt => text ("runtime error: " ++ (fmt.replace "%x" (toString (if signed = true then x else IntKind.u64.wrap x))).replace "%y" (toString y))
  | none => stuck "boundsError: no such code")
 split
 ·exact t_text _
 ·exact ax _
theorem t_nothing (args:Array Value):T1 P (nothing args):=aK trivial
theorem t_unhashable (args:Array Value):T1 P (unhashableTypeError args):=by
 unfold unhashableTypeError
 rcases args with ⟨_ | ⟨x,_ | ⟨y,l⟩⟩⟩
 ·exact ax _
 rotate_left
 ·exact ax _
 cases x<;>try exact ax _
 rename_i cs
 rcases cs with ⟨_ | ⟨a,_ | ⟨b,l⟩⟩⟩<;>try exact ax _
 refine(?_:T1 P (described a >>= _))
 refine aB (t_described a) fun o => ?_
 cases o with
 | none=>exact TC.out
 | some t=>exact t_text _
theorem t_typeAssertion (args:Array Value):T1 P (typeAssertionError args):=by
 unfold typeAssertionError
 (repeat' first | exact TC.out | exact t_text _ | exact t_described _ | exact t_pkgpathOf _ | (with_reducible refine aB ?_ (fun _ => ?_)) | (with_reducible refine gl ?_ ?_) | split | dsimp only)
theorem fd0:Extern.find Tryz.f0=none:=by kernel_rfl
theorem fd1:Extern.find Tryz.f1=none:=by kernel_rfl
theorem aaZ:Extern.find Tryz.f164=some boundsError:=by kernel_rfl
theorem aaY:Extern.find Tryz.f165=some nothing:=by kernel_rfl
theorem aaX : Extern.find Tryz.f166 = some (fun args => do pure (.string ("runtime error: ".toUTF8 ++ (← asString (args.getD 0 (.tuple #[])))))) := by kernel_rfl
theorem aaW:Extern.find Tryz.f167=some nothing:=by kernel_rfl
theorem aaV:Extern.find Tryz.f168=some (fun args=>do pure (.string (← asString (args.getD 0 (.tuple #[]))))):=by kernel_rfl
theorem aaU:Extern.find Tryz.f169=some nothing:=by kernel_rfl
theorem aaT : Extern.find Tryz.f170 = some (fun args => do pure (.string ("runtime error: ".toUTF8 ++ (← asString ((← asAgg (args.getD 0 (.tuple #[]))).getD 0 (.tuple #[])))))) := by kernel_rfl
theorem aaS:Extern.find Tryz.f171=some nothing:=by kernel_rfl
theorem aaR:Extern.find Tryz.f172=some typeAssertionError:=by kernel_rfl
theorem aaQ:Extern.find Tryz.f173=some nothing:=by kernel_rfl
theorem aaP : Extern.find Tryz.f174 = some (fun _ => text "runtime error: panic called with nil argument") := by kernel_rfl
theorem aaO:Extern.find Tryz.f175=some nothing:=by kernel_rfl
theorem aaN:Extern.find Tryz.f176=none:=by kernel_rfl
theorem aaM:Extern.find Tryz.f177=some unhashableTypeError:=by kernel_rfl
theorem aaL:Extern.find Tryz.f178=some nothing:=by kernel_rfl
theorem aaK:Extern.find Tryz.f179=none:=by kernel_rfl
theorem aaJ:Extern.find Tryz.f180=some (fun args=>do pure (strVal (Extern.Rtype.kindName (← asInt (args.getD 0 (.tuple #[]))).toNat))):=by kernel_rfl
theorem XA:(Tryz.prog.funcs.toList.zipIdx.all fun(f,i) => !f.body.isNone||i==0||i==1||(decide (164≤i)&&decide (i≤180)))=true:=by kernel_rfl
theorem Z7:Tryz.prog.funcs.size=181:=by kernel_rfl
theorem aam:(Tryz.prog.funcs.toList.all fun f => !f.body.isNone||(Extern.findNext f).isNone)=true:=by kernel_rfl
theorem names : (Tryz.prog.funcs.toList.all fun f => !(f.name == "runtime.NumGoroutine")) = true := by kernel_rfl
theorem aao:(Tryz.prog.funcs.toList.all fun f => !f.norace)=true:=by kernel_rfl
theorem vq {f:FuncId} {fn:Func} (h:Tryz.prog.funcs[f]? = some fn):fn∈Tryz.prog.funcs.toList:=by
 obtain⟨hlt,rfl⟩:=Array.getElem?_eq_some_iff.1 h
 exact Array.getElem_mem_toList hlt
theorem WX (f:Nat) (h:f=0∨f=1∨(164≤f∧f≤180)):f=0∨f=1∨f=164∨f=165∨f=166∨f=167∨f=168∨f=169∨f=170∨f=171∨f=172∨f=173∨f=174∨f=175∨f=176∨f=177∨f=178∨f=179∨f=180:=by omega
theorem eS:Plain Tryz.prog where
 count f fn h:=by
  have:=List.all_eq_true.1 names fn (vq h)
  simpa using this
 quiet f:=by
  cases h:Tryz.prog.funcs[f]? with
  | none=>rfl
  | some fn =>
   have:=List.all_eq_true.1 aao fn (vq h)
   simpa using this
 next f fn h hb:=by
  have:=List.all_eq_true.1 aam fn (vq h)
  simpa [hb] using this
 find f fn e h hb he args:=by
  have hlt:f<181:=by rw[← Z7]; exact(Array.getElem?_eq_some_iff.1 h).1
  have hz:(fn,f)∈Tryz.prog.funcs.toList.zipIdx:=by
   rw[List.mem_zipIdx_iff_getElem?]
   simpa using h
  have h1:=List.all_eq_true.1 XA _ hz
  have h2:f=0∨f=1∨(164≤f∧f≤180):=by
   simp only[hb,Bool.not_true,Bool.false_or,Bool.or_eq_true,Bool.and_eq_true,beq_iff_eq,decide_eq_true_eq] at h1
   rcases h1 with (h1 | h1) | h1
   ·exact .inl h1
   ·exact .inr (.inl h1)
   ·exact .inr (.inr h1)
  have pick:∀ {i:Nat} {g:Func},f=i→Tryz.prog.funcs[i]? = some g→fn=g:=fun hi hg=>by subst hi; rw[hg] at h; exact(Option.some.inj h).symm
  have Xv:f=0∨f=1∨f=164∨f=165∨f=166∨f=167∨f=168∨f=169∨f=170∨f=171∨f=172∨f=173∨f=174∨f=175∨f=176∨f=177∨f=178∨f=179∨f=180:=WX f h2
  rcases Xv with hi | hi | hi | hi | hi | hi | hi | hi | hi | hi | hi | hi | hi | hi | hi | hi | hi | hi | hi
  ·rw[pick hi Tryz.func0] at he
   rw[fd0] at he; cases he
  ·rw[pick hi Tryz.func1] at he
   rw[fd1] at he; cases he
  ·rw[pick hi Tryz.func164] at he
   rw[aaZ] at he; cases he; exact t_boundsError _
  ·rw[pick hi Tryz.func165] at he
   rw[aaY] at he; cases he; exact t_nothing _
  ·rw[pick hi Tryz.func166] at he
   rw[aaX] at he; cases he
   (repeat' first | exact TC.out | (with_reducible refine aB ?_ (fun _ => ?_)) | (with_reducible refine gl ?_ ?_) | split | dsimp only)
  ·rw[pick hi Tryz.func167] at he
   rw[aaW] at he; cases he; exact t_nothing _
  ·rw[pick hi Tryz.func168] at he
   rw[aaV] at he; cases he
   (repeat' first | exact TC.out | (with_reducible refine aB ?_ (fun _ => ?_)) | (with_reducible refine gl ?_ ?_) | split | dsimp only)
  ·rw[pick hi Tryz.func169] at he
   rw[aaU] at he; cases he; exact t_nothing _
  ·rw[pick hi Tryz.func170] at he
   rw[aaT] at he; cases he
   (repeat' first | exact TC.out | (with_reducible refine aB ?_ (fun _ => ?_)) | (with_reducible refine gl ?_ ?_) | split | dsimp only)
  ·rw[pick hi Tryz.func171] at he
   rw[aaS] at he; cases he; exact t_nothing _
  ·rw[pick hi Tryz.func172] at he
   rw[aaR] at he; cases he; exact t_typeAssertion _
  ·rw[pick hi Tryz.func173] at he
   rw[aaQ] at he; cases he; exact t_nothing _
  ·rw[pick hi Tryz.func174] at he
   rw[aaP] at he; cases he; exact t_text _
  ·rw[pick hi Tryz.func175] at he
   rw[aaO] at he; cases he; exact t_nothing _
  ·rw[pick hi Tryz.func176] at he
   rw[aaN] at he; cases he
  ·rw[pick hi Tryz.func177] at he
   rw[aaM] at he; cases he; exact t_unhashable _
  ·rw[pick hi Tryz.func178] at he
   rw[aaL] at he; cases he; exact t_nothing _
  ·rw[pick hi Tryz.func179] at he
   rw[aaK] at he; cases he
  ·rw[pick hi Tryz.func180] at he
   rw[aaJ] at he; cases he
   (repeat' first | exact TC.out | (with_reducible refine aB ?_ (fun _ => ?_)) | (with_reducible refine gl ?_ ?_) | split | dsimp only)
end Go.Co
end
section
namespace Go.Proofs
open Go.Shelf Go.RowKit Go.Lib Go.Sort
set_option maxHeartbeats 400000 in
theorem Tryz.G6 (v:Value) (w:World):Calls Tryz.prog 145 #[.slice none 0 0,.int .i64 0,.int .i64 0,v] w fun e w'=>e = .returned (.tuple #[])∧w'=w:=by
 go_enter Tryz.func145,Tryz.ntmps145
 go_wp2
 go_loop [8] (fun i=>i = .int .i64 1) (fun _=>0)
 case atStart=>rfl
 case round =>
  subst hrel
  go_wp2
  go_end0
  exact⟨rfl,rfl⟩
set_option maxRecDepth 100000 in
set_option maxHeartbeats 1000000 in
theorem Tryz.GY (l:Int) (v:Value) (w:World):Calls Tryz.prog 129 #[.slice none 0 0,.int .i64 0,.int .i64 0,.int .i64 l,v] w fun e w'=>e = .returned (.tuple #[])∧w'=w:=by
 have hi:=Tryz.G6 v
 go_enter Tryz.func129,Tryz.ntmps129
 go_wp2
 go_loop [1,2] (fun a b=>a = .int .i64 0∧b = .int .i64 0) (fun _ _=>0)
 case atStart=>exact⟨rfl,rfl⟩
 case round =>
  obtain⟨rfl,rfl⟩:=hrel
  go_wp2_with (go_at_call 145; refine(hi _).mono ?_; rintro e w' ⟨rfl,rfl⟩)
  exact⟨rfl,.tuple #[],results_none (by rfl) _ _ _,rfl,rfl⟩
theorem Tryz.OM (w:World):Calls Tryz.prog 128 #[.int .u64 0] w fun e w'=>e = .returned (.int .i64 (Lib.bitLen 0:Nat))∧w'=w:=by
 have h:=Any.bits_Len (SlLaysF0.n15.bits (P:=Tryz.prog) { Tryz.Eo with }) (0:Int) w (by omega) (by omega)
 exact h
set_option maxHeartbeats 1000000 in
theorem Tryz.GK (v:Value) (w:World):Calls Tryz.prog 105 #[.slice none 0 0,v] w fun e w'=>e = .returned (.tuple #[])∧w'=w:=by
 have hl:=Tryz.OM
 have hp:=fun l=>Tryz.GY l v
 go_enter Tryz.func105,Tryz.ntmps105
 go_wp2_with (first | (go_at_call 128; refine(hl _).mono ?_; rintro e w' ⟨rfl,rfl⟩) | (go_at_call 129; refine(hp _ _).mono ?_; rintro e w' ⟨rfl,rfl⟩))
 go_end0
 exact⟨rfl,rfl⟩
end Go.Proofs
end
section
namespace Go.Proofs
open Go.Shelf Go.RowKit Go.Lib Go.Sort Go.Co
theorem Tryz.WG (g cap:Nat) (d:Array Sm) (w:World) (hH:HoldsK nj 3 w g 0 d) (hg:g<w.heap.size) (hsz:d.size<4611686018427387904) :
  Calls Tryz.prog 105 #[.slice (some ⟨g,0,none⟩) d.size cap,.func (.func 106) #[] #[]] w fun e w'=>e = .returned (.tuple #[])∧∃ d' n os,PermIn 0 d.size d d'∧SortedIn (ltOf tu) 0 d.size d'∧w'=sortWorldK nj 3 w g 0 n d' os:=by
 have eg:∀ args w,(callFunc 106 args).run Tryz.prog w = .ok (.enter 106 args) w:=enters_of Tryz.func106 (by kernel_rfl) rfl
 exact AnyQ.slices_SortFunc Tryz.Eo 3 Tryz.isAgg79 Tryz.sizeOf79 nj (fun _=>rfl) (fun x v hv=>by simp[nj] at hv; rcases hv with rfl | rfl | rfl<;>rfl) tu Z6 106 #[] g 0 cap d w eg (fun _ _ _ _ x y=>Tryz.KP x y _) hH hg hsz
end Go.Proofs
namespace Go.Co
open Go Go.Conc Go.Proofs Go.Sort Go.Shelf
variable {P:Program} {af:Machine→Trace→Prop} {γ:So} {w:World}
theorem yP {Γ:Type} {main:Bool} {K:Γ→Goroutine→World→Prop} {Rl:Γ→World→World→Prop} {St:Γ→World→Γ→World→Array Event→Prop} {fn:FuncId} {Q:Γ→Exit→Act→World→Prop} {a:Act} {ops:Array Oper} {i:Nat} {rest:List Nat} {o:Oper} (C:KC P main K Rl St) {γ:Γ} {v:Value} (ho:ops[i]? = some o) (hw:Region.wanted o (yielded ops a.tmps)=true) (hrun:∀ w,(execOp a.eval o).run P w = .ok (.value v) w) (sM:∀ w,(execOp a.eval o).events P w #[]=#[])
  (h:KO K fn γ ops rest Q (a.put o.dst v) w):KO K fn γ ops (i::rest) Q a w :=
 tK C ho hw fun w₁ r=>by rw[hrun w₁]; exact⟨γ,by rw[listed_nil (sM w₁)]; exact C.idle _ _,CL C r h⟩
def vC (A:Nat→Prop) (B0:Nat) (w0:World) (R:List Sm) (out:Value) (w:World):Prop:=Old A B0 w0 w∧w.ownsRow B0 79 3 out R.length (R.flatMap nj)
theorem yA {A:Nat→Prop} {B0:Nat} {w0:World} {R got:List Sm} {out:Value} (hR:R.Pairwise KW) (hlen:R.length≤4294967296) (hA:∀ b,A b→b<B0) (hO:Old A B0 w0 w) (hp:got.Perm R) (rF:w.ownsRow B0 79 3 out got.length (got.flatMap nj)) :
  Calls Tryz.prog 105 #[out,.func (.func 106) #[] #[]] w fun e w'=>∃ v,e = .returned v∧vC A B0 w0 R out w':=by
 have hl:=hp.length_eq
 rcases rF.2 with ⟨rfl,h0⟩ | ⟨g,cap,cur,rfl,hb,hg,hn,hc,jW,ht⟩
 ·have abK:got=[]:=List.eq_nil_of_length_eq_zero h0
  have hRn:R=[]:=List.eq_nil_of_length_eq_zero (by omega)
  subst abK
  subst hRn
  exact(Tryz.GK _ w).mono fun e w' ⟨he,hw⟩=>⟨_,he,by subst hw; exact⟨hO,rF⟩⟩
 ·have hlt:g<w.heap.size:=(Array.getElem?_eq_some_iff.1 hg).1
  have hH:HoldsK nj 3 w g 0 got.toArray:=G8 hg (by simpa using ht)
  have h:=Tryz.WG g cap got.toArray w hH hlt (by simp; omega)
  simp only[List.size_toArray] at h
  refine h.mono ?_
  rintro e w' ⟨he,d',n,os,hpm,hs,rfl⟩
  obtain⟨hsz,-,hpm⟩:=hpm
  have hsz':d'.size=got.length:=by simpa using hsz
  have hd:d'.toList=R:=by
   refine JL ?_ (by rw[hsz']; exact hs) hR
   have h1:(d'.extract 0 got.length)=d':=by rw[← hsz']; simp
   have h2:(got.toArray.extract 0 got.length)=got.toArray:=by simp
   rw[h1,h2] at hpm
   exact hpm.trans hp
  have UX:=Db (w:=w) (g:=g) (n:=n) (os:=os) d'
  refine⟨_,he,⟨fun b jP => ?_,Nat.le_trans hO.2.1 UX.size,UX.os.trans hO.2.2.1,UX.output.trans hO.2.2.2⟩,?_⟩
  ·have:=hA b jP
   exact(UX.block b (Nat.lt_of_lt_of_le this hO.2.1) (fun e=>by cases e; omega)).trans (hO.1 b jP)
  ·have:=C4 (n:=n) (os:=os) (d:=d') hb hg (by omega) hc jW
   rw[hsz',hd] at this
   rw[← hl]
   exact this
set_option maxRecDepth 100000 in
theorem Ra {da db:Wk} (qB:da.ok) (vI:db.ok) (YQ:PK da.aR) (lX:PK db.aR):Nv af (cW da db):=by
 intro A B0 w0 γ' a' w' hE
 obtain⟨-,-,hS,got,out,hp,rF,u,rfl⟩:=hE
 have C:=tN (af:=af) eS
 unfold MH
 show KJ _ _ _ (.seq (.region _ _ false) (.seq (.region _ _ false) .ret)) _ _ _
 refine aN C (av C ?_)
 simp only[List.size_toArray,List.length_cons,List.length_nil,Nat.reduceAdd,Nat.zero_add,List.range,List.range.loop]
 refine yP C (v := ?v1) rfl (by rfl) (fun w=>run_eq_of fun K hK => ?r1) (fun w => ?e1) ?h1
 case r1=>go_simp; exact hK
 case e1=>simp[go_sem]
 try walk_nrm
 refine RN eS (R:=fun _ w=>vC A B0 w0 (cW da db) out w) rfl (by rfl) rfl Tryz.func105 rfl (fun τ => ?_) (fun v w2 hR τ d => ?_)
 ·simp only[List.map_toArray,List.map_cons,List.map_nil]
  have hO:Old A B0 w0 (w'.re τ 0):=⟨hS.blk,hS.size,hS.env.1,hS.env.2⟩
  exact yA (JQ YQ lX) (ze qB vI) hS.lt hO hp rF
 ·have jQ:vC A B0 w0 (cW da db) out (w2.re τ d):=hR
  generalize w2.re τ d=w3 at *
  try walk_nrm
  refine aH C ?_
  co_then
  refine aN C (av C ?_)
  simp only[List.size_toArray,List.length_cons,List.length_nil,Nat.reduceAdd,Nat.zero_add,List.range,List.range.loop]
  refine yP C (v := ?v2) rfl (by rfl) (fun w=>run_eq_of fun K hK => ?r2) (fun w => ?e2) ?h2
  case r2=>go_simp; exact hK
  case e2=>simp[go_sem]
  try walk_nrm
  refine yP C (v := ?v3) rfl (by rfl) (fun w=>run_eq_of fun K hK => ?r3) (fun w => ?e3) ?h3
  case r3=>go_simp; exact hK
  case e3=>simp[go_sem]
  try walk_nrm
  refine aH C ?_
  co_then
  refine yh C ?_
  exact⟨rfl,rfl,jQ.1,jQ.2⟩
theorem Rj {ca cb:Array Value} {da db:Wk} (qB:da.ok) (vI:db.ok) (YQ:PK da.aR) (lX:PK db.aR) (Yt:qR γ w ca da) (Ys:qR γ w cb db) :
  tC (Jx Tryz.prog af) Tryz.prog (.bad,γ) 60 #[.agg ca,.agg cb] w fun γ' v w'=>γ'.1 = .bad∧Kept γ w γ'.2 w'∧iL γ'.2 w' w.heap.size 79 3 v (cW da db).length ((cW da db).flatMap nj) :=
 Fh eS qB vI Yt Ys (Ra qB vI YQ lX)
end Go.Co
end
section
namespace Go.Di
open Go Go.Conc Go.Co Go.Proofs
variable {P:Program} {af:Machine→Trace→Prop} {x:Cx}
theorem Fy {g:FuncId} {vals:Array Value} {Post':Value→World→Prop} (hP:Plain P) (h:tC (eY P af) P () g vals x.w (fun _=>Post')) {Post:Cx→Value→Prop} (hq:∀ v w',Post' v w'→∃ y:Cx,y.w=w'∧Post y v):cT P af x g vals Post:=by
 obtain⟨sN,c,hf,-,HZ,hwp⟩:=h
 refine⟨⟨sN,c,hf,HZ⟩,fun fr cs hc => ?_⟩
 have C:=tN (af:=af) hP
 rw[enter_at vals hf HZ]
 have fT:∀ (a':Act) (w':World) (todo:List Item),(a'.defers=[]∧∃ v,ResultsC P sN a'.tmps v∧Post' v w') →
   eY P af () (G { (base g).at a' todo with mode := .returning } (fr::cs)) w':=by
  rintro a' w' todo ⟨hd,v,hr,hp⟩
  obtain⟨y,rfl,hy⟩:=hq v w' hp
  refine C.go (fun w₁ => ?_) (hc y v hy)
  rw[stepG_leave (b:=base g) rfl hd hf (hr w₁).1 (hr w₁).2]
 refine hwp (base g) [] _ rfl (by simp[base]) fun γ' e a' w' q => ?_
 cases e with
 | normal=>exact C.go (fun _=>stepG_end) (fT a' w' [] q)
 | ret=>exact fun todo=>fT a' w' todo q
 | exit id=>exact q.elim
 | goto l=>exact q.elim
 | panic ch=>exact q.elim
 | outgrown=>exact q.elim
def BX (v:Value) (n:Nat) (b o:Nat):Prop:=v.ownBlock=some b∧o<n
def Cx.vM (x:Cx) (w':World) (v:Value) (n:Nat):Cx:={ x with w:=w',Fz:=fun b o=>x.Fz b o∨BX v n b o }
section
variable {w':World} {v:Value} {e:TypeId} {s n:Nat} {xs:List Value}
theorem nL (hR:Rel x) (hs:x.w.heap.size≤w'.heap.size) (he:w'.os=x.w.os∧w'.output=x.w.output) (ho:∀ b,b<x.w.heap.size→w'.heap[b]? = x.w.heap[b]?) (hr:w'.ownsRow x.w.heap.size e s v n xs):bk x (x.vM w' v (n*s)) where
 size:=hs
 env:=he
 fz:=fun b o h=>⟨.inl h,by
  obtain⟨u,hu⟩:=hR.uI b o h
  exact cell_of_block (ho b (World.block_lt_of_cell? _ ⟨b,o,none⟩ hu)) o⟩
 Hx:=fun b o h=>h.imp id fun h => .inl (hr.lt b h.1).1
 old:=fun b hb _=>ho b hb
 len:=Nat.le_refl _
 cells:=fun id l h=>⟨rfl,l,h⟩
 c9:=fun id b h hb=>⟨rfl,⟨b,h,dw hb⟩,fun hd=>by
  obtain⟨o,h1,-⟩:=hR.c9 id b h hb
  exact ho _ (Array.getElem?_eq_some_iff.1 h1).1⟩
 cN:=fun t e s n h=>⟨n,h,Nat.le_refl _,fun _=>⟨rfl,rfl⟩⟩
 live:=fun i h => .inl ⟨h,rfl⟩
 ops:=fun _ _ _ l z h=>⟨l,z,h,Nat.le_refl _,fun e=>⟨rfl,e⟩,fun _=>⟨rfl,rfl⟩⟩
theorem vn (hR:Rel x) (hs:x.w.heap.size≤w'.heap.size) (he:w'.os=x.w.os∧w'.output=x.w.output) (ho:∀ b,b<x.w.heap.size→w'.heap[b]? = x.w.heap[b]?) (hr:w'.ownsRow x.w.heap.size e s v n xs):Rel (x.vM w' v (n*s)):=by
 have M:=nL hR hs he ho hr
 have hlt:∀ {b:Nat} {o:Obj},x.w.heap[b]? = some o→b<x.w.heap.size:=fun h=>(Array.getElem?_eq_some_iff.1 h).1
 have qF:∀ b o,BX v (n*s) b o→x.w.heap.size≤b:=fun b o h=>(hr.lt b h.1).1
 refine⟨fun id l hl => ?_,fun id e' s' n' hl => ?_,fun id b hl hb => ?_,hR.inj,fun b o h => ?_,fun id hl o h => ?_,fun id e' s' n' hl o h => ?_,fun id e' s' l z hl => ?_⟩
 ·obtain⟨arr,e',h1,h2,h3⟩:=hR.cells id l hl
  exact⟨arr,e',(ho _ (hlt h1)).trans h1,h2,fun j c hc=>(h3 j c hc).mono M⟩
 ·obtain⟨arr,h1,h2⟩:=hR.cN id e' s' n' hl
  exact⟨arr,(ho _ (hlt h1)).trans h1,h2⟩
 ·obtain⟨o,h1,h2⟩:=hR.c9 id b hl hb
  exact⟨o,(ho _ (hlt h1)).trans h1,h2.mono M⟩
 ·rcases h with h | h
  ·obtain⟨u,hu⟩:=hR.uI b o h
   exact⟨u,((M.fz b o h).2).trans hu⟩
  ·obtain⟨hv,hon⟩:=h
   rcases hr.2 with ⟨rfl,-⟩ | ⟨g,cap,cur,rfl,hb,hg,hn,hc,jW,ht⟩
   ·simp[Value.ownBlock] at hv
   ·simp only[Value.ownBlock,Option.some.injEq] at hv
    subst hv
    have:o<cur.size:=by rw[jW]; exact Nat.lt_of_lt_of_le hon (Nat.mul_le_mul_right _ hn)
    exact⟨cur[o],by simp only[World.cell?,Cx.vM,hg]; exact Array.getElem?_eq_getElem this⟩
 ·rcases h with h | h
  ·exact hR.sep id hl o h
  ·obtain⟨l,hl⟩:=hl
   obtain⟨arr,e',h1,-⟩:=hR.cells id l hl
   have:=qF _ _ h
   have:=hlt h1
   show False
   change x.w.heap.size≤x.μ id at *
   omega
 ·rcases h with h | h
  ·exact hR.lF id e' s' n' hl o h
  ·obtain⟨arr,h1,-⟩:=hR.cN id e' s' n' hl
   have h3:=qF _ _ h
   have h4:=hlt h1
   change x.w.heap.size≤x.μ id at h3
   omega
 ·obtain⟨arr,h1,h2,h3,h4,h5,h6,h7⟩:=hR.ops id e' s' l z hl
  refine⟨arr,(ho _ (hlt h1)).trans h1,h2,h3,h4,fun j c hc=>⟨(h5 j c hc).1,(h5 j c hc).2.mono M⟩,fun hz j hj => .inl (h6 hz j hj),fun hz o h => ?_⟩
  rcases h with h | h
  ·exact h7 hz o h
  ·have h3:=qF _ _ h
   have h4:=hlt h1
   change x.w.heap.size≤x.μ id at h3
   omega
theorem yB {rows:List DV} (hn:rows.length=n) (kS:∀ r∈rows,r.cells.length=s) (sV:flat rows=xs.map .val) (vF:∀ u∈xs,uQ u=true∧(DV.val u).bt=true) (hr:w'.ownsRow x.w.heap.size e s v n xs):RV (x.vM w' v (n*s)) (.sl rows none ⟨false,none⟩) v:=by
 have hlen:=hr.1
 have oc:∀ (j:Nat) (c:DV),(flat rows)[j]? = some c→∃ u,xs[j]? = some u∧c=DV.val u∧uQ u=true∧c.bt=true:=by
  intro j c hc
  rw[sV,List.getElem?_map,Option.map_eq_some_iff] at hc
  obtain⟨u,h1,rfl⟩:=hc
  have:=vF u (List.mem_of_getElem? h1)
  exact⟨u,h1,rfl,this.1,this.2⟩
 subst hn
 rcases hr.2 with ⟨rfl,h0⟩ | ⟨g,cap,cur,rfl,hb,hg,hn,hc,jW,ht⟩
 ·have XR:rows=[]:=List.eq_nil_of_length_eq_zero h0
  subst XR
  exact RV.sl (rows:=[]) (A:=none) (cap:=0) (s:=0) (vs:=fun _=>undef) ⟨by simp,by simp[flat]⟩ (by simp[flat]) (Nat.le_refl _) ⟨fun _=>rfl,fun b h=>nomatch h⟩ (fun _=>rfl) (fun _ h=>by cases h) (fun t ht=>by cases ht)
 ·have aQ:∀ j u,xs[j]? = some u→cur[j]? = some u∧j<rows.length*s:=by
   intro j u hu
   rw[← ht,List.getElem?_take] at hu
   split at hu
   ·exact⟨by simpa using hu,‹_›⟩
   ·cases hu
  refine RV.sl (s:=s) (vs:=fun j=>xs.getD j undef) ⟨kS,fun j c HO => ?_⟩ (fun j c HO => ?_) hn ⟨by simp,fun b h=>nomatch h⟩ (by simp) (fun ad h=>by cases h; rfl) (fun t ht=>nomatch ht)
  ·obtain⟨u,h1,rfl,h2,h3⟩:=oc j c HO
   obtain⟨h4,h5⟩:=aQ j u h1
   refine⟨h3,g,0,rfl,.inr ⟨rfl,by omega⟩,?_⟩
   simp[World.cell?,Cx.vM,hg,h4,List.getD_eq_getElem?_getD,h1]
  ·obtain⟨u,h1,rfl,h2,h3⟩:=oc j c HO
   simp only[List.getD_eq_getElem?_getD,h1,Option.getD_some]
   exact .val h2
end
def mF:List DV→Option (List Int)
 | []=>some []
 | .val (.int .i64 n)::l=>(mF l).map (n::·)
 | _=>none
def LP:DV→Option (List Int)
 | .sl rows _ _=>mF rows
 | _=>none
def DM:List DV→Option (List (List Int))
 | []=>some []
 | d::l=>match LP d,DM l with
  | some r,some rs=>some (r::rs)
  | _,_=>none
def Uy:DV→Option Wk
 | .agg [_,_,.val (.int .i64 bH),l,u0,l0,u1,l1,u2,l2,u3,l3]=>match LP l,DM [u0,u1,u2,u3],DM [l0,l1,l2,l3] with
  | some l,some us,some ls=>some ⟨l,bH,fun i=>us.getD i [],fun i=>ls.getD i []⟩
  | _,_,_=>none
 | _=>none
def Qs (l:List Int):Bool:=decide (l.length≤1000)&&l.all fun x=>decide (0≤x)&&decide (x≤9)
def QG:List Int→Bool
 | []=>true
 | a::l=>l.all (fun b=>decide (a<b))&&QG l
def wkB (d:Wk):Bool:=decide (d.aR.length≤1000)&&d.aR.all (fun x=>decide (0≤x)&&decide (x≤3))&&decide (0≤d.bH)&&decide (d.bH≤1000) &&
 (List.range 4).all (fun i=>Qs (d.up i)&&Qs (d.lo i))&&QG d.aR
def smD (m:Sm):DV := .agg [.val (.int .i64 m.1),.val (.int .i64 m.2.1),.val (.int .i64 m.2.2)]
def Gf (a b:DV):Option DV:=match Uy a,Uy b with
 | some da,some db=>if wkB da&&wkB db then some (.sl ((cW da db).map smD) none ⟨false,none⟩) else none
 | _,_=>none
theorem I1 {l:List Int} (h:Qs l=true):PJ l:=by
 simp only[Qs,Bool.and_eq_true,decide_eq_true_eq,List.all_eq_true] at h
 exact⟨h.1,fun i x hx=>h.2 x (List.mem_of_getElem? hx)⟩
theorem I6:∀ {l:List Int},QG l=true→PK l
 | [],_=>List.Pairwise.nil
 | a::l,h=>by
  simp only[QG,Bool.and_eq_true,List.all_eq_true,decide_eq_true_eq] at h
  exact List.Pairwise.cons h.1 (I6 h.2)
theorem mR:∀ {l:List DV} {r:List (List Int)},DM l=some r→r.length=l.length∧∀ i:Nat,∀ d,l[i]? = some d→LP d=some (r.getD i [])
 | [],r,h=>by cases h; simp
 | d::l,r,h=>by
  simp only[DM] at h
  split at h
  ·rename_i r1 rs h1 h2
   cases h
   obtain⟨h3,h4⟩:=mR h2
   refine⟨by simp[h3],fun i d' hd => ?_⟩
   cases i with
   | zero=>simp at hd; subst hd; simpa using h1
   | succ i=>simp at hd; simpa using h4 i d' hd
  ·cases h
theorem qp:∀ {l:List DV} {r:List Int},mF l=some r→r.length=l.length∧(∀ (i:Nat) (n:Int),r[i]? = some n→l[i]? = some (.val (.int .i64 n)))∧flat l=l
 | [],r,h=>by cases h; simp[flat]
 | .val (.int .i64 n)::l,r,h=>by
  simp only[mF,Option.map_eq_some_iff] at h
  obtain⟨r',h1,rfl⟩:=h
  obtain⟨h2,h3,h4⟩:=qp h1
  refine⟨by simp[h2],fun i m hm => ?_,?_⟩
  ·cases i with
   | zero=>simp at hm; subst hm; rfl
   | succ i=>simp at hm; simpa using h3 i m hm
  ·simp only[flat,List.flatMap_cons,DV.cells] at h4 ⊢
   rw[h4]
   rfl
def Vk (w:World):So:=(fun b=>b<w.heap.size,fun _=>False)
theorem nA {d:DV} {r:List Int} {v:Value} (hd:LP d=some r) (h:RV x d v):uF (Vk x.w) x.w v r:=by
 unfold LP at hd
 split at hd
 ·rename_i rows tok f
  obtain⟨h1,h2,h3⟩:=qp hd
  cases h with
  | @sl _ _ _ A cap s vs hv hr k1 k2 k3 k4 k5 =>
   refine⟨A,cap,by rw[h1],fun i n hn => ?_⟩
   have hc:(flat rows)[i]? = some (.val (.int .i64 n)):=by rw[h3]; exact h2 i n hn
   obtain⟨-,b,o,q1,q2,q3⟩:=hv.2 i _ hc
   have:=hr i _ hc
   generalize vs i=u at *
   cases this with
   | val _ =>
    refine⟨_,q1,?_⟩
    rw[fJ]
    exact⟨.inl (World.block_lt_of_cell? _ ⟨b,o+i,none⟩ q3),q3⟩
 ·cases hd
theorem MR {d:DV} {k:Wk} {v:Value} (hd:Uy d=some k) (h:RV x d v):∃ ca,v = .agg ca∧qR (Vk x.w) x.w ca k:=by
 unfold Uy at hd
 split at hd
 ·rename_i c0 c1 bH l u0 l0 u1 l1 u2 l2 u3 l3
  split at hd
  ·rename_i lr us ls h1 h2 h3
   cases hd
   cases h with
   | @agg _ ca hsz hc =>
    refine⟨ca,rfl,?_⟩
    have aQ:∀ (j:Nat) d,([c0,c1,.val (.int .i64 bH),l,u0,l0,u1,l1,u2,l2,u3,l3]:List DV)[j]? = some d→∃ u,ca[j]? = some u∧RV x d u:=by
     intro j d hj
     have hlt:j<ca.size:=by rw[hsz]; exact(List.getElem?_eq_some_iff.1 hj).1
     have:=hc j d hj
     simp only[Array.getD_eq_getD_getElem?,Array.getElem?_eq_getElem hlt,Option.getD_some] at this
     exact⟨ca[j],Array.getElem?_eq_getElem hlt,this⟩
    obtain⟨-,hu⟩:=mR h2
    obtain⟨-,hl⟩:=mR h3
    refine⟨?_,?_,fun i hi => ?_,fun i hi => ?_⟩
    ·obtain⟨u,q1,q2⟩:=aQ 2 _ rfl
     cases q2
     exact q1
    ·obtain⟨u,q1,q2⟩:=aQ 3 _ rfl
     exact⟨u,q1,nA h1 q2⟩
    ·have:i=0∨i=1∨i=2∨i=3:=by omega
     rcases this with rfl | rfl | rfl | rfl
     ·obtain⟨u,q1,q2⟩:=aQ 4 _ rfl; exact⟨u,q1,nA (hu 0 _ rfl) q2⟩
     ·obtain⟨u,q1,q2⟩:=aQ 6 _ rfl; exact⟨u,q1,nA (hu 1 _ rfl) q2⟩
     ·obtain⟨u,q1,q2⟩:=aQ 8 _ rfl; exact⟨u,q1,nA (hu 2 _ rfl) q2⟩
     ·obtain⟨u,q1,q2⟩:=aQ 10 _ rfl; exact⟨u,q1,nA (hu 3 _ rfl) q2⟩
    ·have:i=0∨i=1∨i=2∨i=3:=by omega
     rcases this with rfl | rfl | rfl | rfl
     ·obtain⟨u,q1,q2⟩:=aQ 5 _ rfl; exact⟨u,q1,nA (hl 0 _ rfl) q2⟩
     ·obtain⟨u,q1,q2⟩:=aQ 7 _ rfl; exact⟨u,q1,nA (hl 1 _ rfl) q2⟩
     ·obtain⟨u,q1,q2⟩:=aQ 9 _ rfl; exact⟨u,q1,nA (hl 2 _ rfl) q2⟩
     ·obtain⟨u,q1,q2⟩:=aQ 11 _ rfl; exact⟨u,q1,nA (hl 3 _ rfl) q2⟩
  ·cases hd
 ·cases hd
theorem QY {d:DV} {k:Wk} (hd:Uy d=some k):∀ i,4≤i→k.up i=[]∧k.lo i=[]:=by
 unfold Uy at hd
 split at hd
 ·split at hd
  ·rename_i lr us ls h1 h2 h3
   cases hd
   have h4:=(mR h2).1
   have h5:=(mR h3).1
   simp only[List.length_cons,List.length_nil] at h4 h5
   intro i hi
   simp only[List.getD_eq_getElem?_getD]
   rw[List.getElem?_eq_none (by omega),List.getElem?_eq_none (by omega)]
   exact⟨rfl,rfl⟩
  ·cases hd
 ·cases hd
theorem MS {d:DV} {k:Wk} (hd:Uy d=some k) (h:wkB k=true):k.ok∧PK k.aR:=by
 simp only[wkB,Bool.and_eq_true,decide_eq_true_eq,List.all_eq_true] at h
 obtain⟨⟨⟨⟨⟨h1,h2⟩,h3⟩,h4⟩,h5⟩,h6⟩:=h
 have far:=QY hd
 refine⟨⟨h1,fun i x hx=>h2 x (List.mem_of_getElem? hx),⟨h3,h4⟩,fun i => ?_,fun i => ?_⟩,I6 h6⟩
 ·rcases Nat.lt_or_ge i 4 with hi | hi
  ·exact I1 (h5 i (by simpa using hi)).1
  ·rw[(far i hi).1]; exact⟨by simp,by simp⟩
 ·rcases Nat.lt_or_ge i 4 with hi | hi
  ·exact I1 (h5 i (by simpa using hi)).2
  ·rw[(far i hi).2]; exact⟨by simp,by simp⟩
theorem OY (l:List Sm):flat (l.map smD)=(l.flatMap nj).map .val:=by
 induction l with
 | nil=>rfl
 | cons m l ih =>
  simp only[flat,List.map_cons,List.flatMap_cons,List.map_append] at ih ⊢
  rw[ih]
  rfl
theorem Fg {a b d:DV} (h:Gf a b=some d) {vals:Array Value} (hR:Rel x) (ha:dR x [a,b] vals):cT Tryz.prog af x 60 vals fun y u=>y.S=x.S∧Rel y∧bk x y∧RV y d u:=by
 unfold Gf at h
 split at h
 ·rename_i da db h1 h2
  split at h
  ·rename_i hb
   cases h
   simp only[Bool.and_eq_true] at hb
   obtain⟨qB,YQ⟩:=MS h1 hb.1
   obtain⟨vI,lX⟩:=MS h2 hb.2
   obtain⟨hsz,aQ⟩:=ha
   have e:vals=#[vals.getD 0 undef,vals.getD 1 undef]:=by
    obtain⟨l⟩:=vals
    match l,hsz with
    | [u,v],_=>rfl
   obtain⟨ca,hca,Yt⟩:=MR h1 (aQ 0 _ rfl)
   obtain⟨cb,hcb,Ys⟩:=MR h2 (aQ 1 _ rfl)
   rw[hca,hcb] at e
   subst e
   have key:=Rj (af:=af) qB vI YQ lX Yt Ys
   refine Fy eS (G5 (Post':=fun v w'=>x.w.heap.size≤w'.heap.size∧(w'.os=x.w.os∧w'.output=x.w.output)∧(∀ b,b<x.w.heap.size→w'.heap[b]? = x.w.heap[b]?)∧w'.ownsRow x.w.heap.size 79 3 v (cW da db).length ((cW da db).flatMap nj)) (fun γ' v w w1 hp _ r => ?_) key) fun v w' hp => ?_
   ·obtain⟨hk,ho⟩:=hp
    refine⟨Nat.le_trans hk.size r.1,⟨r.2.2.2.1.trans hk.env.1,r.2.2.2.2.trans hk.env.2⟩,fun b hb => ?_,(ho.rely r).1⟩
    have dx:(Vk x.w).all b := .inl hb
    exact(r.2.1 b (hk.all dx)).trans (hk.blk b dx hb)
   ·obtain⟨p1,p2,p3,p4⟩:=hp
    refine⟨x.vM w' v ((cW da db).length*3),rfl,rfl,vn hR p1 p2 p3 p4,nL hR p1 p2 p3 p4,yB (by simp) (fun r hr => ?_) (OY _) (fun u hu => ?_) p4⟩
    ·simp only[List.mem_map] at hr
     obtain⟨m,-,rfl⟩:=hr
     rfl
    ·simp only[List.mem_flatMap,nj,List.mem_cons,List.not_mem_nil,or_false] at hu
     obtain⟨m,-,rfl | rfl | rfl⟩:=hu<;>exact⟨rfl,rfl⟩
  ·cases h
 ·cases h
end Go.Di
end
