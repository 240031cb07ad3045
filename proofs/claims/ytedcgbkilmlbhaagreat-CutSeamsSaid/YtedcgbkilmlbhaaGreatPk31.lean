import Derived.Test.YtedcgbkilmlbhaaGreatPk30
import Derived.Shelf.SlSortCmp.WholeK
import Derived.Shelf.SlicesG.Cmp
import Derived.Shelf.Lay
import Derived.Ground.SlsfProg
import Derived.Ground.SlgcProg
import Derived.WalkKit
import Derived.WalkSpells
import Derived.WalkLawsBesides
import Derived.StillTailTactics
import Derived.Deep.QuietTactic
import Derived.BigQuiet
import Derived.Lib.Hide
import Derived.Test.YtedcgbkilmlbhaaGreatPk19
import Derived.Test.YtedcgbkilmlbhaaGreatChecked
import Derived.KernelRfl
import Derived.Test.YtedcgbkilmlbhaaGreatPk24
import Derived.Test.YtedcgbkilmlbhaaGreatPk27
section
namespace Go.Proofs
open Go.Shelf Go.RowKit Go.Lib Go.Sort
def Tryz.Gj:Go.Shelf.Ren:=⟨fun | 6=>105 | 15=>128 | 14=>129 | 28=>143 | 29=>144 | 20=>145 | 21=>146 | 22=>147 | 23=>148 | 24=>149 | 25=>150 | 26=>151 | 27=>152 | 46=>159 | 47=>155 | 48=>156 | 49=>160 | 50=>161 | 57=>163 | n=>n,fun | 22=>34 | 24=>79 | 25=>140 | 3=>3 | 39=>87 | 0=>0 | 53=>182 | 55=>83 | 4=>4 | 46=>175 | 45=>174 | 50=>179 | 5=>5 | 9=>9 | 66=>189 | 70=>192 | 76=>196 | 77=>163 | n=>n,fun | n=>n⟩
theorem Tryz.HS:Go.Proofs.SlLaysF0.n6 Tryz.prog Tryz.Gj:={
 mixed:=by kernel_rfl
 f6:=⟨Tryz.f105.name,by decide,Tryz.func105.trans (congrArg some (by kernel_rfl))⟩
 f14:=⟨Tryz.f129.name,by decide,Tryz.func129.trans (congrArg some (by kernel_rfl))⟩
 f15:=Tryz.func128.trans (congrArg some (by kernel_rfl))
 f20:=⟨Tryz.f145.name,by decide,Tryz.func145.trans (congrArg some (by kernel_rfl))⟩
 f21:=⟨Tryz.f146.name,by decide,Tryz.func146.trans (congrArg some (by kernel_rfl))⟩
 f22:=⟨Tryz.f147.name,by decide,Tryz.func147.trans (congrArg some (by kernel_rfl))⟩
 f23:=⟨Tryz.f148.name,by decide,Tryz.func148.trans (congrArg some (by kernel_rfl))⟩
 f24:=⟨Tryz.f149.name,by decide,Tryz.func149.trans (congrArg some (by kernel_rfl))⟩
 f25:=⟨Tryz.f150.name,by decide,Tryz.func150.trans (congrArg some (by kernel_rfl))⟩
 f26:=⟨Tryz.f151.name,by decide,Tryz.func151.trans (congrArg some (by kernel_rfl))⟩
 f27:=⟨Tryz.f152.name,by decide,Tryz.func152.trans (congrArg some (by kernel_rfl))⟩
 f28:=Tryz.func143.trans (congrArg some (by kernel_rfl))
 f29:=Tryz.func144.trans (congrArg some (by kernel_rfl))
 f46:=⟨Tryz.f159.name,by decide,Tryz.func159.trans (congrArg some (by kernel_rfl))⟩
 f47:=Tryz.func155.trans (congrArg some (by kernel_rfl))
 f48:=Tryz.func156.trans (congrArg some (by kernel_rfl))
 f49:=⟨Tryz.f160.name,by decide,Tryz.func160.trans (congrArg some (by kernel_rfl))⟩
 f50:=⟨Tryz.f161.name,by decide,Tryz.func161.trans (congrArg some (by kernel_rfl))⟩
 f57:=⟨Tryz.f163.name,by decide,Tryz.func163.trans (congrArg some (by kernel_rfl))⟩
 t0:=Tryz.underlying0
 a0:=Tryz.isAgg0
 z0:=Tryz.sizeOf0
 v0:=Tryz.zeroValue0
 t3:=Tryz.underlying3
 a3:=Tryz.isAgg3
 z3:=Tryz.sizeOf3
 v3:=Tryz.zeroValue3
 t4:=Tryz.underlying4
 a4:=Tryz.isAgg4
 z4:=Tryz.sizeOf4
 v4:=Tryz.zeroValue4
 t5:=Tryz.underlying5
 a5:=Tryz.isAgg5
 z5:=Tryz.sizeOf5
 v5:=Tryz.zeroValue5
 t9:=Tryz.underlying9
 a9:=Tryz.isAgg9
 z9:=Tryz.sizeOf9
 v9:=Tryz.zeroValue9
 t22:=Tryz.underlying34
 a22:=Tryz.isAgg34
 z22:=Tryz.sizeOf34
 v22:=Tryz.zeroValue34
 t25:=Tryz.underlying140
 a25:=Tryz.isAgg140
 z25:=Tryz.sizeOf140
 v25:=Tryz.zeroValue140
 t39:=Tryz.underlying87
 a39:=Tryz.isAgg87
 z39:=Tryz.sizeOf87
 v39:=Tryz.zeroValue87
 t45:=Tryz.underlying174
 a45:=Tryz.isAgg174
 z45:=Tryz.sizeOf174
 v45:=Tryz.zeroValue174
 t46:=Tryz.underlying175
 a46:=Tryz.isAgg175
 z46:=Tryz.sizeOf175
 v46:=Tryz.zeroValue175
 t50:=Tryz.underlying179
 a50:=Tryz.isAgg179
 z50:=Tryz.sizeOf179
 v50:=Tryz.zeroValue179
 t53:=Tryz.underlying182
 a53:=Tryz.isAgg182
 z53:=Tryz.sizeOf182
 v53:=Tryz.zeroValue182
 t55:=Tryz.underlying83
 a55:=Tryz.isAgg83
 z55:=Tryz.sizeOf83
 v55:=Tryz.zeroValue83
 t66:=Tryz.underlying189
 a66:=Tryz.isAgg189
 z66:=Tryz.sizeOf189
 v66:=Tryz.zeroValue189
 t70:=Tryz.underlying192
 a70:=Tryz.isAgg192
 z70:=Tryz.sizeOf192
 v70:=Tryz.zeroValue192
 t76:=Tryz.underlying196
 a76:=Tryz.isAgg196
 z76:=Tryz.sizeOf196
 v76:=Tryz.zeroValue196
 t77:=Tryz.underlying163
 a77:=Tryz.isAgg163
 z77:=Tryz.sizeOf163
 v77:=Tryz.zeroValue163 }
def Tryz.K7:Go.Shelf.Ren:=⟨fun | 5=>108 | 7=>130 | n=>n,fun | 22=>3 | 3=>3 | 4=>4 | n=>n,fun | n=>n⟩
theorem Tryz.abw:Go.Proofs.SlLaysC2.n5 Tryz.prog Tryz.K7:={
 mixed:=by kernel_rfl
 f5:=⟨Tryz.f108.name,by decide,Tryz.func108.trans (congrArg some (by kernel_rfl))⟩
 f7:=⟨Tryz.f130.name,by decide,Tryz.func130.trans (congrArg some (by kernel_rfl))⟩
 t3:=Tryz.underlying3
 a3:=Tryz.isAgg3
 z3:=Tryz.sizeOf3
 v3:=Tryz.zeroValue3
 t4:=Tryz.underlying4
 a4:=Tryz.isAgg4
 z4:=Tryz.sizeOf4
 v4:=Tryz.zeroValue4
 t22:=Tryz.underlying3
 a22:=Tryz.isAgg3
 z22:=Tryz.sizeOf3
 v22:=Tryz.zeroValue3 }
theorem Tryz.adT (x y:Int) (w:World):Calls Tryz.prog 108 #[.int .i64 x,.int .i64 y] w fun e w'=>e = .returned (.int .i64 (Lib.compareInt x y))∧w'=w:=by
 have h:=AnyG.cmp_Compare_int Tryz.abw x y w
 exact h
def UN (a b c:Int):Int:=if a=0 then if b=0 then c else b else a
set_option maxHeartbeats 1000000 in
theorem Tryz.aeq (a b c:Int) (n:Nat) (w:World) (h0:w.cell? ⟨n,0,none⟩=some (.int .i64 a)) (h1:w.cell? ⟨n,1,none⟩=some (.int .i64 b)) (h2:w.cell? ⟨n,2,none⟩=some (.int .i64 c)) :
  Calls Tryz.prog 107 #[.slice (some ⟨n,0,none⟩) 3 3] w fun e w'=>e = .returned (.int .i64 (UN a b c))∧w'=w:=by
 have hr:(a≠0→UN a b c=a)∧(a=0→b≠0→UN a b c=b)∧(a=0→b=0→UN a b c=c):=by
  refine⟨fun h=>if_neg h,fun h h' => ?_,fun h h' => ?_⟩
  ·unfold UN; rw[if_pos h,if_neg h']
  ·unfold UN; rw[if_pos h,if_pos h']
 generalize UN a b c=r at hr ⊢
 go_enter Tryz.func107,Tryz.ntmps107
 go_wp2
 go_loop [5,8] (fun _ i=>∃ k:Nat,k≤3∧i = .int .i64 k∧(1≤k→a=0)∧(2≤k→b=0)∧(3≤k→c=0)) (fun _ i=>3-(intOf i).toNat)
 case atStart=>exact⟨0,by omega,rfl,by omega,by omega,by omega⟩
 case round =>
  obtain⟨k,hk,rfl,ha,hb,hc⟩:=hrel
  have abo:k=0∨k=1∨k=2∨k=3:=by omega
  rcases abo with rfl | rfl | rfl | rfl
  ·clear ha hb hc
   by_cases hz:a=0
   ·subst hz
    go_wp2
    go_round
    case rel=>exact⟨1,by omega,by go_num,by simp,by omega,by omega⟩
    case measure=>simp[intOf]
   ·have Y1:=hr.1 hz
    clear hr
    subst Y1
    go_wp2
    go_ret
    exact⟨rfl,rfl⟩
  ·have ha:=ha (by omega)
   subst ha
   clear hb hc h0
   by_cases hz:b=0
   ·subst hz
    go_wp2
    go_round
    case rel=>exact⟨2,by omega,by go_num,by simp,by simp,by omega⟩
    case measure=>simp[intOf]
   ·have Y1:=hr.2.1 rfl hz
    clear hr
    subst Y1
    go_wp2
    go_ret
    exact⟨rfl,rfl⟩
  ·have ha:=ha (by omega)
   have hb:=hb (by omega)
   subst ha
   subst hb
   clear hc h0 h1
   by_cases hz:c=0
   ·subst hz
    go_wp2
    go_round
    case rel=>exact⟨3,by omega,by go_num,by simp,by simp,by simp⟩
    case measure=>simp[intOf]
   ·have Y1:=hr.2.2 rfl rfl
    clear hr
    subst Y1
    go_wp2
    go_ret
    exact⟨rfl,rfl⟩
  ·have ha:=ha (by omega)
   have hb:=hb (by omega)
   have hc:=hc (by omega)
   have Y1:=hr.2.2 ha hb
   subst ha
   subst hb
   subst hc
   clear hr h0 h1 h2
   subst Y1
   go_wp2
   go_ret
   exact⟨rfl,rfl⟩
def wQ (x y:Int×Int×Int):Int:=UN (Lib.compareInt x.1 y.1) (Lib.compareInt x.2.1 y.2.1) (Lib.compareInt x.2.2 y.2.2)
set_option maxRecDepth 100000 in
set_option maxHeartbeats 1000000 in
theorem Tryz.OW (x y:Int×Int×Int) (W:World):Calls Tryz.prog 106 #[.agg #[.int .i64 x.1,.int .i64 x.2.1,.int .i64 x.2.2],.agg #[.int .i64 y.1,.int .i64 y.2.1,.int .i64 y.2.2]] W fun e w'=>e = .returned (.int .i64 (wQ x y))∧∃ q os',w'=grow (W.drewN q) os':=by
 obtain⟨x1,x2,x3⟩:=x
 obtain⟨y1,y2,y3⟩:=y
 have Vs:=Tryz.adT
 unfold wQ
 simp only
 have hA:=Vs x1 y1
 have hB:=Vs x2 y2
 have hC:=Vs x3 y3
 clear Vs
 generalize Lib.compareInt x1 y1=A at *
 generalize Lib.compareInt x2 y2=B at *
 generalize Lib.compareInt x3 y3=C at *
 go_enter Tryz.func106,Tryz.ntmps106
 go_wp2
 refine wp_region_still_tail 15 (by kernel_rfl) (by kernel_rfl) ?_
 simp only[List.take_succ_cons,List.take_zero,List.drop_succ_cons,mz]
 have a1:((W.alloc (.cells #[.int .i64 x1,.int .i64 x2,.int .i64 x3] 79)).alloc (.cells #[.int .i64 y1,.int .i64 y2,.int .i64 y3] 79)).drew.cell? ⟨W.heap.size,0,none⟩=some (.int .i64 x1):=by
  refine(World.cell?_alloc_lt _ _ _ (by simp)).trans ?_
  rw[World.cell?_alloc_new]; rfl
 have a2:((W.alloc (.cells #[.int .i64 x1,.int .i64 x2,.int .i64 x3] 79)).alloc (.cells #[.int .i64 y1,.int .i64 y2,.int .i64 y3] 79)).drew.cell? ⟨W.heap.size,1,none⟩=some (.int .i64 x2):=by
  refine(World.cell?_alloc_lt _ _ _ (by simp)).trans ?_
  rw[World.cell?_alloc_new]; rfl
 have a3:((W.alloc (.cells #[.int .i64 x1,.int .i64 x2,.int .i64 x3] 79)).alloc (.cells #[.int .i64 y1,.int .i64 y2,.int .i64 y3] 79)).drew.cell? ⟨W.heap.size,2,none⟩=some (.int .i64 x3):=by
  refine(World.cell?_alloc_lt _ _ _ (by simp)).trans ?_
  rw[World.cell?_alloc_new]; rfl
 have b1:((W.alloc (.cells #[.int .i64 x1,.int .i64 x2,.int .i64 x3] 79)).alloc (.cells #[.int .i64 y1,.int .i64 y2,.int .i64 y3] 79)).drew.cell? ⟨W.heap.size+1,0,none⟩=some (.int .i64 y1):=by
  have h:=World.cell?_alloc_new (W.alloc (.cells #[.int .i64 x1,.int .i64 x2,.int .i64 x3] 79)) #[.int .i64 y1,.int .i64 y2,.int .i64 y3] 79 0
  rw[show (W.alloc (.cells #[.int .i64 x1,.int .i64 x2,.int .i64 x3] 79)).heap.size=W.heap.size+1 by simp] at h
  exact h.trans rfl
 have b2:((W.alloc (.cells #[.int .i64 x1,.int .i64 x2,.int .i64 x3] 79)).alloc (.cells #[.int .i64 y1,.int .i64 y2,.int .i64 y3] 79)).drew.cell? ⟨W.heap.size+1,1,none⟩=some (.int .i64 y2):=by
  have h:=World.cell?_alloc_new (W.alloc (.cells #[.int .i64 x1,.int .i64 x2,.int .i64 x3] 79)) #[.int .i64 y1,.int .i64 y2,.int .i64 y3] 79 1
  rw[show (W.alloc (.cells #[.int .i64 x1,.int .i64 x2,.int .i64 x3] 79)).heap.size=W.heap.size+1 by simp] at h
  exact h.trans rfl
 have b3:((W.alloc (.cells #[.int .i64 x1,.int .i64 x2,.int .i64 x3] 79)).alloc (.cells #[.int .i64 y1,.int .i64 y2,.int .i64 y3] 79)).drew.cell? ⟨W.heap.size+1,2,none⟩=some (.int .i64 y3):=by
  have h:=World.cell?_alloc_new (W.alloc (.cells #[.int .i64 x1,.int .i64 x2,.int .i64 x3] 79)) #[.int .i64 y1,.int .i64 y2,.int .i64 y3] 79 2
  rw[show (W.alloc (.cells #[.int .i64 x1,.int .i64 x2,.int .i64 x3] 79)).heap.size=W.heap.size+1 by simp] at h
  exact h.trans rfl
 have hg:((W.alloc (.cells #[.int .i64 x1,.int .i64 x2,.int .i64 x3] 79)).alloc (.cells #[.int .i64 y1,.int .i64 y2,.int .i64 y3] 79)).drew=grow (W.drewN 1) (#[.cells #[.int .i64 x1,.int .i64 x2,.int .i64 x3] 79]++#[.cells #[.int .i64 y1,.int .i64 y2,.int .i64 y3] 79]):=by
  rw[alloc_eq_grow,alloc_eq_grow,grow_grow]; rfl
 change wpStill _ _ ((W.alloc (.cells #[.int .i64 x1,.int .i64 x2,.int .i64 x3] 79)).alloc (.cells #[.int .i64 y1,.int .i64 y2,.int .i64 y3] 79)).drew (fun a'=>wpList _ _ _ _ a' ((W.alloc (.cells #[.int .i64 x1,.int .i64 x2,.int .i64 x3] 79)).alloc (.cells #[.int .i64 y1,.int .i64 y2,.int .i64 y3] 79)).drew) _ _
 generalize ((W.alloc (.cells #[.int .i64 x1,.int .i64 x2,.int .i64 x3] 79)).alloc (.cells #[.int .i64 y1,.int .i64 y2,.int .i64 y3] 79)).drew=W2 at *
 have HG:=Lib.hid hg
 clear hg
 repeat still_step
 still_call (hA _)
 repeat still_step
 still_call (hB _)
 repeat still_step
 still_call (hC _)
 repeat still_step
 refine wpStill_nil ?_
 clear a1 a2 a3 b1 b2 b3 hA hB hC
 have c0:(W2.alloc (.cells #[.int .i64 A,.int .i64 B,.int .i64 C] 3)).cell? ⟨W2.heap.size,0,none⟩=some (.int .i64 A):=by rw[World.cell?_alloc_new]; rfl
 have c1:(W2.alloc (.cells #[.int .i64 A,.int .i64 B,.int .i64 C] 3)).cell? ⟨W2.heap.size,1,none⟩=some (.int .i64 B):=by rw[World.cell?_alloc_new]; rfl
 have c2:(W2.alloc (.cells #[.int .i64 A,.int .i64 B,.int .i64 C] 3)).cell? ⟨W2.heap.size,2,none⟩=some (.int .i64 C):=by rw[World.cell?_alloc_new]; rfl
 have hor:=Tryz.aeq A B C W2.heap.size _ c0 c1 c2
 clear c0 c1 c2
 go_wp2_with (go_at_call 107; refine hor.mono ?_; rintro e w' ⟨rfl,rfl⟩)
 go_ret
 have rP:∃ q os',W2.alloc (.cells #[.int .i64 A,.int .i64 B,.int .i64 C] 3)=grow (W.drewN q) os' :=
  ⟨1,(#[.cells #[.int .i64 x1,.int .i64 x2,.int .i64 x3] 79]++#[.cells #[.int .i64 y1,.int .i64 y2,.int .i64 y3] 79])++#[.cells #[.int .i64 A,.int .i64 B,.int .i64 C] 3],by rw[alloc_eq_grow,HG.out,grow_grow]⟩
 exact⟨rfl,rP⟩
end Go.Proofs
end
section
namespace Go.Co
open Go Go.Conc Go.Proofs Go.Sort Go.Shelf
def O5 (x y:Sm):Prop:=x.1<y.1∨(x.1=y.1∧(x.2.1<y.2.1∨(x.2.1=y.2.1∧x.2.2<y.2.2)))
theorem yV (x y:Int):(x<y∧Lib.compareInt x y = -1)∨(x=y∧Lib.compareInt x y=0)∨(y<x∧Lib.compareInt x y=1):=by
 unfold Lib.compareInt
 by_cases h1:x<y
 ·exact .inl ⟨h1,by rw[if_pos h1]⟩
 ·by_cases h2:y<x
  ·exact .inr (.inr ⟨h2,by rw[if_neg h1,if_pos h2]⟩)
  ·exact .inr (.inl ⟨by omega,by rw[if_neg h1,if_neg h2]⟩)
theorem lt_iff (x y:Sm):ltOf wQ x y=true↔O5 x y:=by
 obtain⟨x1,x2,x3⟩:=x
 obtain⟨y1,y2,y3⟩:=y
 unfold ltOf wQ UN O5
 simp only[bJ]
 rcases yV x1 y1 with ⟨h1,e1⟩ | ⟨h1,e1⟩ | ⟨h1,e1⟩<;>rcases yV x2 y2 with ⟨h2,e2⟩ | ⟨h2,e2⟩ | ⟨h2,e2⟩<;>rcases yV x3 y3 with ⟨h3,e3⟩ | ⟨h3,e3⟩ | ⟨h3,e3⟩<;>simp[e1,e2,e3]<;>omega
theorem B8 (x y:Sm):ltOf wQ x y=false↔¬ O5 x y:=by
 rw[← lt_iff]; simp
theorem acR:SWO (ltOf wQ) where
 irrefl x:=by rw[B8]; unfold O5; omega
 trans x y z h1 h2:=by rw[lt_iff] at *; unfold O5 at *; omega
 ntrans x y z h1 h2:=by rw[B8] at *; unfold O5 at *; omega
theorem NV {d:Array Sm} {R:List Sm} (hp:d.toList.Perm R) (hs:SortedIn (ltOf wQ) 0 d.size d) (hR:R.Pairwise O5):d.toList=R:=by
 refine List.Perm.eq_of_pairwise (le:=fun x y=>¬ O5 y x) (fun a b _ _ h1 h2 => ?_) ?_ (hR.imp fun {a b} h => ?_) hp
 ·obtain⟨a1,a2,a3⟩:=a
  obtain⟨b1,b2,b3⟩:=b
  unfold O5 at h1 h2
  simp only at h1 h2
  have e1:a1=b1:=by omega
  have e2:a2=b2:=by omega
  have e3:a3=b3:=by omega
  rw[e1,e2,e3]
 ·rw[List.pairwise_iff_getElem]
  intro i j hi hj Li
  have h:=hs i j (gh _) Li (by simpa using hj)
  rw[B8] at h
  simp only[Array.length_toList] at hi hj
  rw[getElem!_pos d i hi,getElem!_pos d j hj] at h
  simpa using h
 ·unfold O5 at *; omega
def UC (l:List Int):Prop:=l.Pairwise (· < ·)
theorem Ku (low up:List Int) (cD:Int):UC (ny low up cD):=by
 unfold UC ny O3
 refine List.Pairwise.filter _ ?_
 rw[List.pairwise_map]
 exact List.pairwise_lt_range.imp fun {a b} h=>by omega
theorem NZ {da db:Wk} (ha:UC da.bp) (hb:UC db.bp):(dH da db).Pairwise O5:=by
 unfold dH
 rw[List.pairwise_flatMap]
 refine⟨fun x _ => ?_,ha.imp fun {x x'} h => ?_⟩
 ·rw[List.pairwise_flatMap]
  refine⟨fun y _ => ?_,hb.imp fun {y y'} h => ?_⟩
  ·rw[List.pairwise_map]
   exact(Ku _ _ _).imp fun {s s'} h => .inr ⟨rfl,.inr ⟨rfl,h⟩⟩
  ·intro m hm m' Jk
   obtain⟨s,_,rfl⟩:=cR.1 hm
   obtain⟨s',_,rfl⟩:=cR.1 Jk
   exact .inr ⟨rfl,.inl h⟩
 ·intro m hm m' Jk
  obtain⟨y,_,hm⟩:=List.mem_flatMap.1 hm
  obtain⟨y',_,Jk⟩:=List.mem_flatMap.1 Jk
  obtain⟨s,_,rfl⟩:=cR.1 hm
  obtain⟨s',_,rfl⟩:=cR.1 Jk
  exact .inl h
theorem EE (d:Array Sm):(flatK qy 3 d).toList=d.toList.flatMap qy:=by
 apply kZ
 intro t
 have hlen:(d.toList.flatMap qy).length=d.size*3:=by rw[FO]; simp
 by_cases ht:t<d.size*3
 ·have h1:=get_flatK qy 3 d t ht
  rw[getElem!_pos _ t (by simpa using ht)] at h1
  rw[gE,bW (by simpa using ht),h1]
  have key:∀ (l:List Sm) (t:Nat),t<l.length*3→(l.flatMap qy)[t]? = some ((qy (l[t / 3]!))[t % 3]!):=by
   intro l
   induction l with
   | nil=>intro t h; simp at h
   | cons m l ih =>
    intro t h
    rw[fM]
    by_cases h3:t<3
    ·have e0:t / 3=0:=by omega
     have e1:t % 3=t:=by omega
     rw[e0,e1,fq (by simpa [qy] using h3)]
     have:t=0∨t=1∨t=2:=by omega
     rcases this with rfl | rfl | rfl<;>rfl
    ·obtain⟨s,rfl⟩:∃ s,t=s+3:=⟨t-3,by omega⟩
     have e0:(s+3) / 3=s / 3+1:=by omega
     have e1:(s+3) % 3=s % 3:=by omega
     rw[e0,e1,gF (by simp[qy])]
     have:=ih s (by simp at h; omega)
     simpa [qy] using this
  rw[key d.toList t (by simpa using ht)]
  congr 3
  have hd:t / 3<d.size:=by omega
  rw[getElem!_pos d _ hd,getElem!_pos d.toList _ (by simpa using hd)]
  simp
 ·rw[fN (by simp; omega),fN (by omega)]
theorem KW {w:World} {g:Nat} {cur:Array Value} {e:TypeId} {d:Array Sm} (hb:w.heap[g]? = some (.cells cur e (0,0))) (ht:cur.toList.take (d.size*3)=d.toList.flatMap qy):HoldsK qy 3 w g 0 d:=by
 intro j hj
 rw[size_flatK] at hj
 refine⟨?_,by simp[World.frozen?,hb]⟩
 have h1:(cur.toList.take (d.size*3))[j]? = (flatK qy 3 d).toList[j]? := by rw[ht,EE]
 rw[List.getElem?_take_of_lt hj] at h1
 simp only[World.cell?,hb,gy]
 simp only[Option.isSome_none,aF,if_false]
 rw[← gE,h1,gE,bW (by simpa using hj),getElem!_pos _ j (by simpa using hj)]
 rfl
theorem OQ {w:World} {g n:Nat} {os:Array Obj} {cur:Array Value} {e:TypeId} {fr:Nat×Nat} (d:Array Sm) (hb:w.heap[g]? = some (.cells cur e fr)) :
  (sortWorldK qy 3 w g 0 n d os).heap[g]? = some (.cells (putCells id 0 (flatK qy 3 d) cur) e fr):=by
 have hg:g<w.heap.size:=(aR.1 hb).1
 unfold sortWorldK putRowK
 rw[heap_grow_old _ _ (by simpa using hg)]
 simp[putRow,mapBlock,Sort.ahead,Array.getElem?_modify,hb,onCells]
theorem Gx {w:World} {g n:Nat} {os:Array Obj} (d:Array Sm):w.grownBy (sortWorldK qy 3 w g 0 n d os) (some g):=by
 unfold sortWorldK putRowK
 refine⟨rfl,rfl,rfl,by simp,fun k hk hne => ?_⟩
 rw[heap_grow_old _ _ (by simpa using hk)]
 have:g≠k:=fun e=>hne (by rw[e])
 simp[putRow,mapBlock,Sort.ahead,Array.getElem?_modify,this]
theorem Gq {w:World} {base g cap n:Nat} {e:TypeId} {os:Array Obj} {cur:Array Value} {d:Array Sm} (Bu:base≤g) (hb:w.heap[g]? = some (.cells cur e (0,0)))
  (h1:d.size≤cap) (h2:cap≤maxLen) (h3:cur.size=cap*3) :
  (sortWorldK qy 3 w g 0 n d os).ownsRow base e 3 (.slice (some ⟨g,0,none⟩) d.size cap) d.size (d.toList.flatMap qy):=by
 refine⟨by rw[FO]; simp,.inr ⟨g,cap,_,rfl,Bu,OQ d hb,h1,h2,by simp[putCells,h3],?_⟩⟩
 rw[← EE]
 apply kZ
 intro j
 by_cases hj:j<d.size*3
 ·rw[List.getElem?_take_of_lt hj,gE,gE]
  have hc:j<cur.size:=by omega
  simp[putCells,hj,hc]
 ·rw[List.getElem?_take_eq_none (by omega),fN (by simp; omega)]
end Go.Co
end
section
namespace Go.Co
open Go Go.Proofs
open Go.Extern.RuntimeError
variable {P:Program}
theorem t_described (v:Value):T1 P (described v):=by
 unfold described
 (repeat' first | exact TC.out | (with_reducible refine aK ?_ (fun _ => ?_)) | (with_reducible refine jl ?_ ?_) | split | dsimp only)
theorem t_text (s:String):T1 P (text s):=aW trivial
theorem t_pkgpathOf (i:TypeInfo):T1 P (pkgpathOf i):=by
 unfold pkgpathOf
 (repeat' first | exact TC.out | (with_reducible refine aK ?_ (fun _ => ?_)) | (with_reducible refine jl ?_ ?_) | split | dsimp only)
theorem t_boundsError (args:Array Value):T1 P (boundsError args):=by
 unfold boundsError
 rcases args with ⟨_ | ⟨x,_ | ⟨y,l⟩⟩⟩
 ·exact aC _
 rotate_left
 ·exact aC _
 cases x<;>try exact aC _
 rename_i cs
 rcases cs with ⟨_ | ⟨a,_ | ⟨b,_ | ⟨c,_ | ⟨d,_ | ⟨e,l⟩⟩⟩⟩⟩⟩<;>try exact aC _
 cases a<;>try exact aC _
 cases b<;>try exact aC _
 cases c<;>try exact aC _
 cases d<;>try exact aC _
 rename_i k x k1 y signed k2 code
 show T1 P (match (if (signed&&decide (x<0))=true then boundsNegErrorFmts else boundsErrorFmts)[code.toNat]? with
  | some fmt => text ("runtime error: " ++ (fmt.replace "%x" (toString (if signed = true then x else IntKind.u64.wrap x))).replace "%y" (toString y))
  | none => stuck "boundsError: no such code")
 split
 ·exact t_text _
 ·exact aC _
theorem t_nothing (args:Array Value):T1 P (nothing args):=aW trivial
theorem t_unhashable (args:Array Value):T1 P (unhashableTypeError args):=by
 unfold unhashableTypeError
 rcases args with ⟨_ | ⟨x,_ | ⟨y,l⟩⟩⟩
 ·exact aC _
 rotate_left
 ·exact aC _
 cases x<;>try exact aC _
 rename_i cs
 rcases cs with ⟨_ | ⟨a,_ | ⟨b,l⟩⟩⟩<;>try exact aC _
 refine(?_:T1 P (described a >>= _))
 refine aK (t_described a) fun o => ?_
 cases o with
 | none=>exact TC.out
 | some t=>exact t_text _
theorem t_typeAssertion (args:Array Value):T1 P (typeAssertionError args):=by
 unfold typeAssertionError
 (repeat' first | exact TC.out | exact t_text _ | exact t_described _ | exact t_pkgpathOf _ | (with_reducible refine aK ?_ (fun _ => ?_)) | (with_reducible refine jl ?_ ?_) | split | dsimp only)
theorem fd0:Extern.find Tryz.f0=none:=by kernel_rfl
theorem fd1:Extern.find Tryz.f1=none:=by kernel_rfl
theorem adR:Extern.find Tryz.f164=some boundsError:=by kernel_rfl
theorem adQ:Extern.find Tryz.f165=some nothing:=by kernel_rfl
theorem adP : Extern.find Tryz.f166 = some (fun args => do pure (.string ("runtime error: ".toUTF8 ++ (← asString (args.getD 0 (.tuple #[])))))) := by kernel_rfl
theorem adO:Extern.find Tryz.f167=some nothing:=by kernel_rfl
theorem adN:Extern.find Tryz.f168=some (fun args=>do pure (.string (← asString (args.getD 0 (.tuple #[]))))):=by kernel_rfl
theorem adM:Extern.find Tryz.f169=some nothing:=by kernel_rfl
theorem adL : Extern.find Tryz.f170 = some (fun args => do pure (.string ("runtime error: ".toUTF8 ++ (← asString ((← asAgg (args.getD 0 (.tuple #[]))).getD 0 (.tuple #[])))))) := by kernel_rfl
theorem adK:Extern.find Tryz.f171=some nothing:=by kernel_rfl
theorem adJ:Extern.find Tryz.f172=some typeAssertionError:=by kernel_rfl
theorem adI:Extern.find Tryz.f173=some nothing:=by kernel_rfl
theorem adH : Extern.find Tryz.f174 = some (fun _ => text "runtime error: panic called with nil argument") := by kernel_rfl
theorem adG:Extern.find Tryz.f175=some nothing:=by kernel_rfl
theorem adF:Extern.find Tryz.f176=none:=by kernel_rfl
theorem adE:Extern.find Tryz.f177=some unhashableTypeError:=by kernel_rfl
theorem adD:Extern.find Tryz.f178=some nothing:=by kernel_rfl
theorem adC:Extern.find Tryz.f179=none:=by kernel_rfl
theorem adB:Extern.find Tryz.f180=some (fun args=>do pure (strVal (Extern.Rtype.kindName (← asInt (args.getD 0 (.tuple #[]))).toNat))):=by kernel_rfl
theorem abC:(Tryz.prog.funcs.toList.zipIdx.all fun(f,i) => !f.body.isNone||i==0||i==1||(decide (164≤i)&&decide (i≤180)))=true:=by kernel_rfl
theorem acS:Tryz.prog.funcs.size=181:=by kernel_rfl
theorem adb:(Tryz.prog.funcs.toList.all fun f => !f.body.isNone||(Extern.findNext f).isNone)=true:=by kernel_rfl
theorem names : (Tryz.prog.funcs.toList.all fun f => !(f.name == "runtime.NumGoroutine")) = true := by kernel_rfl
theorem adf:(Tryz.prog.funcs.toList.all fun f => !f.norace)=true:=by kernel_rfl
theorem yM {f:FuncId} {fn:Func} (h:Tryz.prog.funcs[f]? = some fn):fn∈Tryz.prog.funcs.toList:=by
 obtain⟨hlt,rfl⟩:=aR.1 h
 exact Array.getElem_mem_toList hlt
theorem aa2 (f:Nat) (h:f=0∨f=1∨(164≤f∧f≤180)):f=0∨f=1∨f=164∨f=165∨f=166∨f=167∨f=168∨f=169∨f=170∨f=171∨f=172∨f=173∨f=174∨f=175∨f=176∨f=177∨f=178∨f=179∨f=180:=by omega
theorem iq:Plain Tryz.prog where
 count f fn h:=by
  have:=bt.1 names fn (yM h)
  simpa using this
 quiet f:=by
  cases h:Tryz.prog.funcs[f]? with
  | none=>rfl
  | some fn =>
   have:=bt.1 adf fn (yM h)
   simpa using this
 next f fn h hb:=by
  have:=bt.1 adb fn (yM h)
  simpa [hb] using this
 find f fn e h hb he args:=by
  have hlt:f<181:=by rw[← acS]; exact(aR.1 h).1
  have hz:(fn,f)∈Tryz.prog.funcs.toList.zipIdx:=by
   rw[tP]
   simpa using h
  have h1:=bt.1 abC _ hz
  have h2:f=0∨f=1∨(164≤f∧f≤180):=by
   simp only[hb,gl,Bool.false_or,iZ,aI,ek,bJ] at h1
   rcases h1 with (h1 | h1) | h1
   ·exact .inl h1
   ·exact .inr (.inl h1)
   ·exact .inr (.inr h1)
  have pick:∀ {i:Nat} {g:Func},f=i→Tryz.prog.funcs[i]? = some g→fn=g:=fun hi hg=>by subst hi; rw[hg] at h; exact(cA h).symm
  have aby:f=0∨f=1∨f=164∨f=165∨f=166∨f=167∨f=168∨f=169∨f=170∨f=171∨f=172∨f=173∨f=174∨f=175∨f=176∨f=177∨f=178∨f=179∨f=180:=aa2 f h2
  rcases aby with hi | hi | hi | hi | hi | hi | hi | hi | hi | hi | hi | hi | hi | hi | hi | hi | hi | hi | hi
  ·rw[pick hi Tryz.func0] at he
   rw[fd0] at he; cases he
  ·rw[pick hi Tryz.func1] at he
   rw[fd1] at he; cases he
  ·rw[pick hi Tryz.func164] at he
   rw[adR] at he; cases he; exact t_boundsError _
  ·rw[pick hi Tryz.func165] at he
   rw[adQ] at he; cases he; exact t_nothing _
  ·rw[pick hi Tryz.func166] at he
   rw[adP] at he; cases he
   (repeat' first | exact TC.out | (with_reducible refine aK ?_ (fun _ => ?_)) | (with_reducible refine jl ?_ ?_) | split | dsimp only)
  ·rw[pick hi Tryz.func167] at he
   rw[adO] at he; cases he; exact t_nothing _
  ·rw[pick hi Tryz.func168] at he
   rw[adN] at he; cases he
   (repeat' first | exact TC.out | (with_reducible refine aK ?_ (fun _ => ?_)) | (with_reducible refine jl ?_ ?_) | split | dsimp only)
  ·rw[pick hi Tryz.func169] at he
   rw[adM] at he; cases he; exact t_nothing _
  ·rw[pick hi Tryz.func170] at he
   rw[adL] at he; cases he
   (repeat' first | exact TC.out | (with_reducible refine aK ?_ (fun _ => ?_)) | (with_reducible refine jl ?_ ?_) | split | dsimp only)
  ·rw[pick hi Tryz.func171] at he
   rw[adK] at he; cases he; exact t_nothing _
  ·rw[pick hi Tryz.func172] at he
   rw[adJ] at he; cases he; exact t_typeAssertion _
  ·rw[pick hi Tryz.func173] at he
   rw[adI] at he; cases he; exact t_nothing _
  ·rw[pick hi Tryz.func174] at he
   rw[adH] at he; cases he; exact t_text _
  ·rw[pick hi Tryz.func175] at he
   rw[adG] at he; cases he; exact t_nothing _
  ·rw[pick hi Tryz.func176] at he
   rw[adF] at he; cases he
  ·rw[pick hi Tryz.func177] at he
   rw[adE] at he; cases he; exact t_unhashable _
  ·rw[pick hi Tryz.func178] at he
   rw[adD] at he; cases he; exact t_nothing _
  ·rw[pick hi Tryz.func179] at he
   rw[adC] at he; cases he
  ·rw[pick hi Tryz.func180] at he
   rw[adB] at he; cases he
   (repeat' first | exact TC.out | (with_reducible refine aK ?_ (fun _ => ?_)) | (with_reducible refine jl ?_ ?_) | split | dsimp only)
end Go.Co
end
section
namespace Go.Proofs
open Go.Shelf Go.RowKit Go.Lib Go.Sort
set_option maxHeartbeats 400000 in
theorem Tryz.KV (v:Value) (w:World):Calls Tryz.prog 145 #[.slice none 0 0,.int .i64 0,.int .i64 0,v] w fun e w'=>e = .returned (.tuple #[])∧w'=w:=by
 go_enter Tryz.func145,Tryz.ntmps145
 go_wp2
 go_loop [8] (fun i=>i = .int .i64 1) (fun _=>0)
 case atStart=>rfl
 case round =>
  subst hrel
  go_wp2
  go_end0
  exact⟨rfl,rfl⟩
set_option maxRecDepth 100000 in
set_option maxHeartbeats 1000000 in
theorem Tryz.KL (l:Int) (v:Value) (w:World):Calls Tryz.prog 129 #[.slice none 0 0,.int .i64 0,.int .i64 0,.int .i64 l,v] w fun e w'=>e = .returned (.tuple #[])∧w'=w:=by
 have hi:=Tryz.KV v
 go_enter Tryz.func129,Tryz.ntmps129
 go_wp2
 go_loop [1,2] (fun a b=>a = .int .i64 0∧b = .int .i64 0) (fun _ _=>0)
 case atStart=>exact⟨rfl,rfl⟩
 case round =>
  obtain⟨rfl,rfl⟩:=hrel
  go_wp2_with (go_at_call 145; refine(hi _).mono ?_; rintro e w' ⟨rfl,rfl⟩)
  exact⟨rfl,.tuple #[],results_none (by rfl) _ _ _,rfl,rfl⟩
theorem Tryz.Tq (w:World):Calls Tryz.prog 128 #[.int .u64 0] w fun e w'=>e = .returned (.int .i64 (Lib.bitLen 0:Nat))∧w'=w:=by
 have h:=Any.bits_Len (SlLaysF0.n15.bits (P:=Tryz.prog) { Tryz.HS with }) (0:Int) w (by omega) (by omega)
 exact h
set_option maxHeartbeats 1000000 in
theorem Tryz.Ks (v:Value) (w:World):Calls Tryz.prog 105 #[.slice none 0 0,v] w fun e w'=>e = .returned (.tuple #[])∧w'=w:=by
 have hl:=Tryz.Tq
 have hp:=fun l=>Tryz.KL l v
 go_enter Tryz.func105,Tryz.ntmps105
 go_wp2_with (first | (go_at_call 128; refine(hl _).mono ?_; rintro e w' ⟨rfl,rfl⟩) | (go_at_call 129; refine(hp _ _).mono ?_; rintro e w' ⟨rfl,rfl⟩))
 go_end0
 exact⟨rfl,rfl⟩
end Go.Proofs
end
section
namespace Go.Proofs
open Go.Shelf Go.RowKit Go.Lib Go.Sort Go.Co
theorem Tryz.aaM (g cap:Nat) (d:Array Sm) (w:World) (hH:HoldsK qy 3 w g 0 d) (hg:g<w.heap.size) (hsz:d.size<4611686018427387904) :
  Calls Tryz.prog 105 #[.slice (some ⟨g,0,none⟩) d.size cap,.func (.func 106) #[] #[]] w fun e w'=>e = .returned (.tuple #[])∧∃ d' n os,PermIn 0 d.size d d'∧SortedIn (ltOf wQ) 0 d.size d'∧w'=sortWorldK qy 3 w g 0 n d' os:=by
 have eg:∀ args w,(callFunc 106 args).run Tryz.prog w = .ok (.enter 106 args) w:=enters_of Tryz.func106 (by kernel_rfl) rfl
 exact AnyQ.slices_SortFunc Tryz.HS 3 Tryz.isAgg79 Tryz.sizeOf79 qy (fun _=>rfl) (fun x v hv=>by simp[qy] at hv; rcases hv with rfl | rfl | rfl<;>rfl) wQ acR 106 #[] g 0 cap d w eg (fun _ _ _ _ x y=>Tryz.OW x y _) hH hg hsz
end Go.Proofs
namespace Go.Co
open Go Go.Conc Go.Proofs Go.Sort Go.Shelf
variable {P:Program} {af:Machine→Trace→Prop} {γ:So} {w:World}
theorem Ca {Γ:Type} {main:Bool} {K:Γ→Goroutine→World→Prop} {Rl:Γ→World→World→Prop} {St:Γ→World→Γ→World→Array Event→Prop} {fn:FuncId} {Q:Γ→Exit→Act→World→Prop} {a:Act} {ops:Array Oper} {i:Nat} {rest:List Nat} {o:Oper} (C:KC P main K Rl St) {γ:Γ} {v:Value} (ho:ops[i]? = some o) (hw:Region.wanted o (yielded ops a.tmps)=true) (hrun:∀ w,(execOp a.eval o).run P w = .ok (.value v) w) (tC:∀ w,(execOp a.eval o).events P w #[]=#[])
  (h:KO K fn γ ops rest Q (a.put o.dst v) w):KO K fn γ ops (i::rest) Q a w :=
 xh C ho hw fun w₁ r=>by rw[hrun w₁]; exact⟨γ,by rw[listed_nil (tC w₁)]; exact C.idle _ _,F4 C r h⟩
def yX (A:Nat→Prop) (B0:Nat) (w0:World) (R:List Sm) (out:Value) (w:World):Prop:=Old A B0 w0 w∧w.ownsRow B0 79 3 out R.length (R.flatMap qy)
theorem BT {A:Nat→Prop} {B0:Nat} {w0:World} {R got:List Sm} {out:Value} (hR:R.Pairwise O5) (hlen:R.length≤4294967296) (hA:∀ b,A b→b<B0) (hO:Old A B0 w0 w) (hp:got.Perm R) (vu:w.ownsRow B0 79 3 out got.length (got.flatMap qy)) :
  Calls Tryz.prog 105 #[out,.func (.func 106) #[] #[]] w fun e w'=>∃ v,e = .returned v∧yX A B0 w0 R out w':=by
 have hl:=hp.length_eq
 rcases vu.2 with ⟨rfl,h0⟩ | ⟨g,cap,cur,rfl,hb,hg,hn,hc,oJ,ht⟩
 ·have aeR:got=[]:=eF h0
  have hRn:R=[]:=eF (by omega)
  subst aeR
  subst hRn
  exact(Tryz.Ks _ w).mono fun e w' ⟨he,hw⟩=>⟨_,he,by subst hw; exact⟨hO,vu⟩⟩
 ·have hlt:g<w.heap.size:=(aR.1 hg).1
  have hH:HoldsK qy 3 w g 0 got.toArray:=KW hg (by simpa using ht)
  have h:=Tryz.aaM g cap got.toArray w hH hlt (by simp; omega)
  simp only[lg] at h
  refine h.mono ?_
  rintro e w' ⟨he,d',n,os,hpm,hs,rfl⟩
  obtain⟨hsz,-,hpm⟩:=hpm
  have hsz':d'.size=got.length:=by simpa using hsz
  have hd:d'.toList=R:=by
   refine NV ?_ (by rw[hsz']; exact hs) hR
   have h1:(d'.extract 0 got.length)=d':=by rw[← hsz']; simp
   have h2:(got.toArray.extract 0 got.length)=got.toArray:=by simp
   rw[h1,h2] at hpm
   exact hpm.trans hp
  have Zc:=Gx (w:=w) (g:=g) (n:=n) (os:=os) d'
  refine⟨_,he,⟨fun b nO => ?_,aS hO.2.1 Zc.size,Zc.os.trans hO.2.2.1,Zc.output.trans hO.2.2.2⟩,?_⟩
  ·have:=hA b nO
   exact(Zc.block b (cH this hO.2.1) (fun e=>by cases e; omega)).trans (hO.1 b nO)
  ·have:=Gq (n:=n) (os:=os) (d:=d') hb hg (by omega) hc oJ
   rw[hsz',hd] at this
   rw[← hl]
   exact this
set_option maxRecDepth 100000 in
theorem V7 {da db:Wk} (uv:da.ok) (y7:db.ok) (haa:UC da.bp) (pO:UC db.bp):RP af (dH da db):=by
 intro A B0 w0 γ' a' w' hE
 obtain⟨-,-,hS,got,out,hp,vu,u,rfl⟩:=hE
 have C:=xl (af:=af) iq
 unfold QL
 show KJ _ _ _ (.seq (.region _ _ false) (.seq (.region _ _ false) .ret)) _ _ _
 refine aY C (yP C ?_)
 simp only[lg,List.length_cons,List.length_nil,Nat.reduceAdd,gy,List.range,List.range.loop]
 refine Ca C (v := ?v1) rfl (by rfl) (fun w=>run_eq_of fun K hK => ?r1) (fun w => ?e1) ?h1
 case r1=>go_simp; exact hK
 case e1=>simp[go_sem]
 try walk_nrm
 refine WN iq (R:=fun _ w=>yX A B0 w0 (dH da db) out w) rfl (by rfl) rfl Tryz.func105 rfl (fun τ => ?_) (fun v w2 hR τ d => ?_)
 ·simp only[List.map_toArray,bQ,fK]
  have hO:Old A B0 w0 (w'.re τ 0):=⟨hS.blk,hS.size,hS.env.1,hS.env.2⟩
  exact BT (NZ haa pO) (Cy uv y7) hS.lt hO hp vu
 ·have mP:yX A B0 w0 (dH da db) out (w2.re τ d):=hR
  generalize w2.re τ d=w3 at *
  try walk_nrm
  refine aT C ?_
  co_then
  refine aY C (yP C ?_)
  simp only[lg,List.length_cons,List.length_nil,Nat.reduceAdd,gy,List.range,List.range.loop]
  refine Ca C (v := ?v2) rfl (by rfl) (fun w=>run_eq_of fun K hK => ?r2) (fun w => ?e2) ?h2
  case r2=>go_simp; exact hK
  case e2=>simp[go_sem]
  try walk_nrm
  refine Ca C (v := ?v3) rfl (by rfl) (fun w=>run_eq_of fun K hK => ?r3) (fun w => ?e3) ?h3
  case r3=>go_simp; exact hK
  case e3=>simp[go_sem]
  try walk_nrm
  refine aT C ?_
  co_then
  refine BG C ?_
  exact⟨rfl,rfl,mP.1,mP.2⟩
theorem Wj {ca cb:Array Value} {da db:Wk} (uv:da.ok) (y7:db.ok) (haa:UC da.bp) (pO:UC db.bp) (hva:uX γ w ca da) (hvb:uX γ w cb db) :
  wV (NC Tryz.prog af) Tryz.prog (.bad,γ) 60 #[.agg ca,.agg cb] w fun γ' v w'=>γ'.1 = .bad∧Kept γ w γ'.2 w'∧kQ γ'.2 w' w.heap.size 79 3 v (dH da db).length ((dH da db).flatMap qy) :=
 IZ iq uv y7 hva hvb (V7 uv y7 haa pO)
end Go.Co
end
section
namespace Go.Di
open Go Go.Conc Go.Co Go.Proofs
variable {P:Program} {af:Machine→Trace→Prop} {x:Cx}
theorem Jb {g:FuncId} {vals:Array Value} {Post':Value→World→Prop} (hP:Plain P) (h:wV (iz P af) P () g vals x.w (fun _=>Post')) {Post:Cx→Value→Prop} (hq:∀ v w',Post' v w'→∃ y:Cx,y.w=w'∧Post y v):eH P af x g vals Post:=by
 obtain⟨wm,c,hf,-,LJ,hwp⟩:=h
 refine⟨⟨wm,c,hf,LJ⟩,fun fr cs hc => ?_⟩
 have C:=xl (af:=af) hP
 rw[enter_at vals hf LJ]
 have iU:∀ (a':Act) (w':World) (todo:List Item),(a'.defers=[]∧∃ v,ResultsC P wm a'.tmps v∧Post' v w') →
   iz P af () (G { (base g).at a' todo with mode := .returning } (fr::cs)) w':=by
  rintro a' w' todo ⟨hd,v,hr,hp⟩
  obtain⟨y,rfl,hy⟩:=hq v w' hp
  refine C.go (fun w₁ => ?_) (hc y v hy)
  rw[stepG_leave (b:=base g) rfl hd hf (hr w₁).1 (hr w₁).2]
 refine hwp (base g) [] _ rfl (by simp[base]) fun γ' e a' w' q => ?_
 cases e with
 | normal=>exact C.go (fun _=>stepG_end) (iU a' w' [] q)
 | ret=>exact fun todo=>iU a' w' todo q
 | exit id=>exact q.elim
 | goto l=>exact q.elim
 | panic ch=>exact q.elim
 | outgrown=>exact q.elim
def Fa (v:Value) (n:Nat) (b o:Nat):Prop:=v.ownBlock=some b∧o<n
def Cx.zc (x:Cx) (w':World) (v:Value) (n:Nat):Cx:={ x with w:=w',Fz:=fun b o=>x.Fz b o∨Fa v n b o }
section
variable {w':World} {v:Value} {e:TypeId} {s n:Nat} {xs:List Value}
theorem qW (hR:Rel x) (hs:x.w.heap.size≤w'.heap.size) (he:w'.os=x.w.os∧w'.output=x.w.output) (ho:∀ b,b<x.w.heap.size→w'.heap[b]? = x.w.heap[b]?) (hr:w'.ownsRow x.w.heap.size e s v n xs):bZ x (x.zc w' v (n*s)) where
 size:=hs
 env:=he
 fz:=fun b o h=>⟨.inl h,by
  obtain⟨u,hu⟩:=hR.x7 b o h
  exact cell_of_block (ho b (World.block_lt_of_cell? _ ⟨b,o,none⟩ hu)) o⟩
 Lc:=fun b o h=>h.imp id fun h => .inl (hr.lt b h.1).1
 old:=fun b hb _=>ho b hb
 len:=ak _
 cells:=fun id l h=>⟨rfl,l,h⟩
 eR:=fun id b h hb=>⟨rfl,⟨b,h,fu hb⟩,fun hd=>by
  obtain⟨o,h1,-⟩:=hR.eR id b h hb
  exact ho _ (aR.1 h1).1⟩
 eA:=fun t e s n h=>⟨n,h,ak _,fun _=>⟨rfl,rfl⟩⟩
 live:=fun i h => .inl ⟨h,rfl⟩
 ops:=fun _ _ _ l z h=>⟨l,z,h,ak _,fun e=>⟨rfl,e⟩,fun _=>⟨rfl,rfl⟩⟩
theorem yJ (hR:Rel x) (hs:x.w.heap.size≤w'.heap.size) (he:w'.os=x.w.os∧w'.output=x.w.output) (ho:∀ b,b<x.w.heap.size→w'.heap[b]? = x.w.heap[b]?) (hr:w'.ownsRow x.w.heap.size e s v n xs):Rel (x.zc w' v (n*s)):=by
 have M:=qW hR hs he ho hr
 have hlt:∀ {b:Nat} {o:Obj},x.w.heap[b]? = some o→b<x.w.heap.size:=fun h=>(aR.1 h).1
 have uD:∀ b o,Fa v (n*s) b o→x.w.heap.size≤b:=fun b o h=>(hr.lt b h.1).1
 refine⟨fun id l hl => ?_,fun id e' s' n' hl => ?_,fun id b hl hb => ?_,hR.inj,fun b o h => ?_,fun id hl o h => ?_,fun id e' s' n' hl o h => ?_,fun id e' s' l z hl => ?_⟩
 ·obtain⟨arr,e',h1,h2,h3⟩:=hR.cells id l hl
  exact⟨arr,e',(ho _ (hlt h1)).trans h1,h2,fun j c hc=>(h3 j c hc).mono M⟩
 ·obtain⟨arr,h1,h2⟩:=hR.eA id e' s' n' hl
  exact⟨arr,(ho _ (hlt h1)).trans h1,h2⟩
 ·obtain⟨o,h1,h2⟩:=hR.eR id b hl hb
  exact⟨o,(ho _ (hlt h1)).trans h1,h2.mono M⟩
 ·rcases h with h | h
  ·obtain⟨u,hu⟩:=hR.x7 b o h
   exact⟨u,((M.fz b o h).2).trans hu⟩
  ·obtain⟨hv,hon⟩:=h
   rcases hr.2 with ⟨rfl,-⟩ | ⟨g,cap,cur,rfl,hb,hg,hn,hc,oJ,ht⟩
   ·simp[Value.ownBlock] at hv
   ·simp only[Value.ownBlock,aB] at hv
    subst hv
    have:o<cur.size:=by rw[oJ]; exact cH hon (eU _ hn)
    exact⟨cur[o],by simp only[World.cell?,Cx.zc,hg]; exact bW this⟩
 ·rcases h with h | h
  ·exact hR.sep id hl o h
  ·obtain⟨l,hl⟩:=hl
   obtain⟨arr,e',h1,-⟩:=hR.cells id l hl
   have:=uD _ _ h
   have:=hlt h1
   show False
   change x.w.heap.size≤x.μ id at *
   omega
 ·rcases h with h | h
  ·exact hR.oF id e' s' n' hl o h
  ·obtain⟨arr,h1,-⟩:=hR.eA id e' s' n' hl
   have h3:=uD _ _ h
   have h4:=hlt h1
   change x.w.heap.size≤x.μ id at h3
   omega
 ·obtain⟨arr,h1,h2,h3,h4,h5,h6,h7⟩:=hR.ops id e' s' l z hl
  refine⟨arr,(ho _ (hlt h1)).trans h1,h2,h3,h4,fun j c hc=>⟨(h5 j c hc).1,(h5 j c hc).2.mono M⟩,fun hz j hj => .inl (h6 hz j hj),fun hz o h => ?_⟩
  rcases h with h | h
  ·exact h7 hz o h
  ·have h3:=uD _ _ h
   have h4:=hlt h1
   change x.w.heap.size≤x.μ id at h3
   omega
theorem BV {rows:List DV} (hn:rows.length=n) (oc:∀ r∈rows,r.cells.length=s) (wC:flat rows=xs.map .val) (yY:∀ u∈xs,yj u=true∧(DV.val u).ck=true) (hr:w'.ownsRow x.w.heap.size e s v n xs):RV (x.zc w' v (n*s)) (.sl rows none ⟨false,none⟩) v:=by
 have hlen:=hr.1
 have uV:∀ (j:Nat) (c:DV),(flat rows)[j]? = some c→∃ u,xs[j]? = some u∧c=DV.val u∧yj u=true∧c.ck=true:=by
  intro j c hc
  rw[wC,eE,ai] at hc
  obtain⟨u,h1,rfl⟩:=hc
  have:=yY u (dA h1)
  exact⟨u,h1,rfl,this.1,this.2⟩
 subst hn
 rcases hr.2 with ⟨rfl,h0⟩ | ⟨g,cap,cur,rfl,hb,hg,hn,hc,oJ,ht⟩
 ·have hrn:rows=[]:=eF h0
  subst hrn
  exact RV.sl (rows:=[]) (A:=none) (cap:=0) (s:=0) (vs:=fun _=>undef) ⟨by simp,by simp[flat]⟩ (by simp[flat]) (ak _) ⟨fun _=>rfl,fun b h=>nomatch h⟩ (fun _=>rfl) (fun _ h _=>by cases h) (fun t ht=>by cases ht)
 ·have bn:∀ j u,xs[j]? = some u→cur[j]? = some u∧j<rows.length*s:=by
   intro j u hu
   rw[← ht,nI] at hu
   split at hu
   ·exact⟨by simpa using hu,‹_›⟩
   ·cases hu
  refine RV.sl (s:=s) (vs:=fun j=>xs.getD j undef) ⟨oc,fun j c Ln => ?_⟩ (fun j c Ln => ?_) hn ⟨by simp,fun b h=>nomatch h⟩ (by simp) (fun ad h _=>by cases h; rfl) (fun t ht=>nomatch ht)
  ·obtain⟨u,h1,rfl,h2,h3⟩:=uV j c Ln
   obtain⟨h4,h5⟩:=bn j u h1
   refine⟨h3,g,0,rfl,.inr ⟨rfl,by omega⟩,?_⟩
   simp[World.cell?,Cx.zc,hg,h4,aN,h1]
  ·obtain⟨u,h1,rfl,h2,h3⟩:=uV j c Ln
   simp only[aN,h1,Option.getD_some]
   exact .val h2
end
def pV:List DV→Option (List Int)
 | []=>some []
 | .val (.int .i64 n)::l=>(pV l).map (n::·)
 | _=>none
def Nr:DV→Option (List Int)
 | .sl rows _ _=>pV rows
 | _=>none
def DR:List DV→Option (List (List Int))
 | []=>some []
 | d::l=>match Nr d,DR l with
  | some r,some rs=>some (r::rs)
  | _,_=>none
def UF:DV→Option Wk
 | .agg [_,_,.val (.int .i64 cD),l,u0,l0,u1,l1,u2,l2,u3,l3]=>match Nr l,DR [u0,u1,u2,u3],DR [l0,l1,l2,l3] with
  | some l,some us,some ls=>some ⟨l,cD,fun i=>us.getD i [],fun i=>ls.getD i []⟩
  | _,_,_=>none
 | _=>none
def Dl (l:List Int):Bool:=decide (l.length≤1000)&&l.all fun x=>decide (0≤x)&&decide (x≤9)
def JN:List Int→Bool
 | []=>true
 | a::l=>l.all (fun b=>decide (a<b))&&JN l
def wkB (d:Wk):Bool:=decide (d.bp.length≤1000)&&d.bp.all (fun x=>decide (0≤x)&&decide (x≤3))&&decide (0≤d.cD)&&decide (d.cD≤1000) &&
 (List.range 4).all (fun i=>Dl (d.up i)&&Dl (d.lo i))&&JN d.bp
def smD (m:Sm):DV := .agg [.val (.int .i64 m.1),.val (.int .i64 m.2.1),.val (.int .i64 m.2.2)]
def Fo (a b:DV):Option DV:=match UF a,UF b with
 | some da,some db=>if wkB da&&wkB db then some (.sl ((dH da db).map smD) none ⟨false,none⟩) else none
 | _,_=>none
theorem MO {l:List Int} (h:Dl l=true):UB l:=by
 simp only[Dl,aI,bJ,bt] at h
 exact⟨h.1,fun i x hx=>h.2 x (dA hx)⟩
theorem MV:∀ {l:List Int},JN l=true→UC l
 | [],_=>List.Pairwise.nil
 | a::l,h=>by
  simp only[JN,aI,bt,bJ] at h
  exact List.Pairwise.cons h.1 (MV h.2)
theorem ql:∀ {l:List DV} {r:List (List Int)},DR l=some r→r.length=l.length∧∀ i:Nat,∀ d,l[i]? = some d→Nr d=some (r.getD i [])
 | [],r,h=>by cases h; simp
 | d::l,r,h=>by
  simp only[DR] at h
  split at h
  ·rename_i r1 rs h1 h2
   cases h
   obtain⟨h3,h4⟩:=ql h2
   refine⟨by simp[h3],fun i d' hd => ?_⟩
   cases i with
   | zero=>simp at hd; subst hd; simpa using h1
   | succ i=>simp at hd; simpa using h4 i d' hd
  ·cases h
theorem ug:∀ {l:List DV} {r:List Int},pV l=some r→r.length=l.length∧(∀ (i:Nat) (n:Int),r[i]? = some n→l[i]? = some (.val (.int .i64 n)))∧flat l=l
 | [],r,h=>by cases h; simp[flat]
 | .val (.int .i64 n)::l,r,h=>by
  simp only[pV,ai] at h
  obtain⟨r',h1,rfl⟩:=h
  obtain⟨h2,h3,h4⟩:=ug h1
  refine⟨by simp[h2],fun i m hm => ?_,?_⟩
  ·cases i with
   | zero=>simp at hm; subst hm; rfl
   | succ i=>simp at hm; simpa using h3 i m hm
  ·simp only[flat,fM,DV.cells] at h4 ⊢
   rw[h4]
   rfl
def Zv (w:World):So:=(fun b=>b<w.heap.size,fun _=>False)
theorem qD {d:DV} {r:List Int} {v:Value} (hd:Nr d=some r) (h:RV x d v):xZ (Zv x.w) x.w v r:=by
 unfold Nr at hd
 split at hd
 ·rename_i rows tok f
  obtain⟨h1,h2,h3⟩:=ug hd
  cases h with
  | @sl _ _ _ A cap s vs hv hr k1 k2 k3 k4 k5 =>
   refine⟨A,cap,by rw[h1],fun i n hn => ?_⟩
   have hc:(flat rows)[i]? = some (.val (.int .i64 n)):=by rw[h3]; exact h2 i n hn
   obtain⟨-,b,o,q1,q2,q3⟩:=hv.2 i _ hc
   have:=hr i _ hc
   generalize vs i=u at *
   cases this with
   | val _ =>
    refine⟨_,q1,?_⟩
    rw[iO]
    exact⟨.inl (World.block_lt_of_cell? _ ⟨b,o+i,none⟩ q3),q3⟩
 ·cases hd
theorem QZ {d:DV} {k:Wk} {v:Value} (hd:UF d=some k) (h:RV x d v):∃ ca,v = .agg ca∧uX (Zv x.w) x.w ca k:=by
 unfold UF at hd
 split at hd
 ·rename_i c0 c1 cD l u0 l0 u1 l1 u2 l2 u3 l3
  split at hd
  ·rename_i lr us ls h1 h2 h3
   cases hd
   cases h with
   | @agg _ ca hsz hc =>
    refine⟨ca,rfl,?_⟩
    have bn:∀ (j:Nat) d,([c0,c1,.val (.int .i64 cD),l,u0,l0,u1,l1,u2,l2,u3,l3]:List DV)[j]? = some d→∃ u,ca[j]? = some u∧RV x d u:=by
     intro j d hj
     have hlt:j<ca.size:=by rw[hsz]; exact(aJ.1 hj).1
     have:=hc j d hj
     simp only[bg,bW hlt,Option.getD_some] at this
     exact⟨ca[j],bW hlt,this⟩
    obtain⟨-,hu⟩:=ql h2
    obtain⟨-,hl⟩:=ql h3
    refine⟨?_,?_,fun i hi => ?_,fun i hi => ?_⟩
    ·obtain⟨u,q1,q2⟩:=bn 2 _ rfl
     cases q2
     exact q1
    ·obtain⟨u,q1,q2⟩:=bn 3 _ rfl
     exact⟨u,q1,qD h1 q2⟩
    ·have:i=0∨i=1∨i=2∨i=3:=by omega
     rcases this with rfl | rfl | rfl | rfl
     ·obtain⟨u,q1,q2⟩:=bn 4 _ rfl; exact⟨u,q1,qD (hu 0 _ rfl) q2⟩
     ·obtain⟨u,q1,q2⟩:=bn 6 _ rfl; exact⟨u,q1,qD (hu 1 _ rfl) q2⟩
     ·obtain⟨u,q1,q2⟩:=bn 8 _ rfl; exact⟨u,q1,qD (hu 2 _ rfl) q2⟩
     ·obtain⟨u,q1,q2⟩:=bn 10 _ rfl; exact⟨u,q1,qD (hu 3 _ rfl) q2⟩
    ·have:i=0∨i=1∨i=2∨i=3:=by omega
     rcases this with rfl | rfl | rfl | rfl
     ·obtain⟨u,q1,q2⟩:=bn 5 _ rfl; exact⟨u,q1,qD (hl 0 _ rfl) q2⟩
     ·obtain⟨u,q1,q2⟩:=bn 7 _ rfl; exact⟨u,q1,qD (hl 1 _ rfl) q2⟩
     ·obtain⟨u,q1,q2⟩:=bn 9 _ rfl; exact⟨u,q1,qD (hl 2 _ rfl) q2⟩
     ·obtain⟨u,q1,q2⟩:=bn 11 _ rfl; exact⟨u,q1,qD (hl 3 _ rfl) q2⟩
  ·cases hd
 ·cases hd
theorem VU {d:DV} {k:Wk} (hd:UF d=some k):∀ i,4≤i→k.up i=[]∧k.lo i=[]:=by
 unfold UF at hd
 split at hd
 ·split at hd
  ·rename_i lr us ls h1 h2 h3
   cases hd
   have h4:=(ql h2).1
   have h5:=(ql h3).1
   simp only[List.length_cons,List.length_nil] at h4 h5
   intro i hi
   simp only[aN]
   rw[fN (by omega),fN (by omega)]
   exact⟨rfl,rfl⟩
  ·cases hd
 ·cases hd
theorem Ra {d:DV} {k:Wk} (hd:UF d=some k) (h:wkB k=true):k.ok∧UC k.bp:=by
 simp only[wkB,aI,bJ,bt] at h
 obtain⟨⟨⟨⟨⟨h1,h2⟩,h3⟩,h4⟩,h5⟩,h6⟩:=h
 have far:=VU hd
 refine⟨⟨h1,fun i x hx=>h2 x (dA hx),⟨h3,h4⟩,fun i => ?_,fun i => ?_⟩,MV h6⟩
 ·rcases Nat.lt_or_ge i 4 with hi | hi
  ·exact MO (h5 i (by simpa using hi)).1
  ·rw[(far i hi).1]; exact⟨by simp,by simp⟩
 ·rcases Nat.lt_or_ge i 4 with hi | hi
  ·exact MO (h5 i (by simpa using hi)).2
  ·rw[(far i hi).2]; exact⟨by simp,by simp⟩
theorem TF (l:List Sm):flat (l.map smD)=(l.flatMap qy).map .val:=by
 induction l with
 | nil=>rfl
 | cons m l ih =>
  simp only[flat,bQ,fM,gm] at ih ⊢
  rw[ih]
  rfl
theorem IY {a b d:DV} (h:Fo a b=some d) {vals:Array Value} (hR:Rel x) (ha:gn x [a,b] vals):eH Tryz.prog af x 60 vals fun y u=>y.S=x.S∧Rel y∧bZ x y∧RV y d u:=by
 unfold Fo at h
 split at h
 ·rename_i da db h1 h2
  split at h
  ·rename_i hb
   cases h
   simp only[aI] at hb
   obtain⟨uv,haa⟩:=Ra h1 hb.1
   obtain⟨y7,pO⟩:=Ra h2 hb.2
   obtain⟨hsz,bn⟩:=ha
   have e:vals=#[vals.getD 0 undef,vals.getD 1 undef]:=by
    obtain⟨l⟩:=vals
    match l,hsz with
    | [u,v],_=>rfl
   obtain⟨ca,hca,hva⟩:=QZ h1 (bn 0 _ rfl)
   obtain⟨cb,hcb,hvb⟩:=QZ h2 (bn 1 _ rfl)
   rw[hca,hcb] at e
   subst e
   have key:=Wj (af:=af) uv y7 haa pO hva hvb
   refine Jb iq (KU (Post':=fun v w'=>x.w.heap.size≤w'.heap.size∧(w'.os=x.w.os∧w'.output=x.w.output)∧(∀ b,b<x.w.heap.size→w'.heap[b]? = x.w.heap[b]?)∧w'.ownsRow x.w.heap.size 79 3 v (dH da db).length ((dH da db).flatMap qy)) (fun γ' v w w1 hp _ r => ?_) key) fun v w' hp => ?_
   ·obtain⟨hk,ho⟩:=hp
    refine⟨aS hk.size r.1,⟨r.2.2.2.1.trans hk.env.1,r.2.2.2.2.trans hk.env.2⟩,fun b hb => ?_,(ho.rely r).1⟩
    have fA:(Zv x.w).all b := .inl hb
    exact(r.2.1 b (hk.all fA)).trans (hk.blk b fA hb)
   ·obtain⟨p1,p2,p3,p4⟩:=hp
    refine⟨x.zc w' v ((dH da db).length*3),rfl,rfl,yJ hR p1 p2 p3 p4,qW hR p1 p2 p3 p4,BV (by simp) (fun r hr => ?_) (TF _) (fun u hu => ?_) p4⟩
    ·simp only[cR] at hr
     obtain⟨m,-,rfl⟩:=hr
     rfl
    ·simp only[List.mem_flatMap,qy,bI,ep,or_false] at hu
     obtain⟨m,-,rfl | rfl | rfl⟩:=hu<;>exact⟨rfl,rfl⟩
  ·cases h
 ·cases h
end Go.Di
end
