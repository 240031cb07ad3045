import Derived.Test.YtedcgbkilmlbhaaPk29
import Derived.Shelf.SlSortCmp.WholeK
import Derived.Shelf.SlicesG.Cmp
import Derived.Shelf.Lay
import Derived.Ground.SlsfProg
import Derived.Ground.SlgcProg
import Derived.WalkKit
import Derived.WalkSpells
import Derived.WalkLawsBesides
import Derived.StillTailTactics
import Derived.Deep.QuietTactic
import Derived.BigQuiet
import Derived.Lib.Hide
import Derived.Test.YtedcgbkilmlbhaaPk17
import Derived.Test.YtedcgbkilmlbhaaChecked
import Derived.KernelRfl
import Derived.Test.YtedcgbkilmlbhaaPk22
import Derived.Test.YtedcgbkilmlbhaaPk25
section
namespace Go.Proofs
open Go.Shelf Go.RowKit Go.Lib Go.Sort
def Try.sortSeam_ren:Go.Shelf.Ren:=⟨fun | 6=>61 | 15=>78 | 14=>77 | 28=>92 | 29=>93 | 20=>84 | 21=>85 | 22=>86 | 23=>87 | 24=>88 | 25=>89 | 26=>90 | 27=>91 | 46=>97 | 47=>98 | 48=>99 | 49=>100 | 50=>101 | 57=>104 | n=>n,fun | 22=>33 | 24=>56 | 25=>119 | 3=>3 | 39=>106 | 0=>0 | 53=>146 | 55=>57 | 4=>4 | 46=>140 | 45=>139 | 50=>49 | 5=>5 | 9=>9 | 66=>149 | 70=>152 | 76=>155 | 77=>156 | n=>n,fun | n=>n⟩
theorem Try.sortSeam:Go.Proofs.SlLaysF0.n6 Try.prog Try.sortSeam_ren:={
 mixed:=by kernel_rfl
 f6:=⟨Try.f61.name,by decide,Try.func61.trans (congrArg some (by kernel_rfl))⟩
 f14:=⟨Try.f77.name,by decide,Try.func77.trans (congrArg some (by kernel_rfl))⟩
 f15:=Try.func78.trans (congrArg some (by kernel_rfl))
 f20:=⟨Try.f84.name,by decide,Try.func84.trans (congrArg some (by kernel_rfl))⟩
 f21:=⟨Try.f85.name,by decide,Try.func85.trans (congrArg some (by kernel_rfl))⟩
 f22:=⟨Try.f86.name,by decide,Try.func86.trans (congrArg some (by kernel_rfl))⟩
 f23:=⟨Try.f87.name,by decide,Try.func87.trans (congrArg some (by kernel_rfl))⟩
 f24:=⟨Try.f88.name,by decide,Try.func88.trans (congrArg some (by kernel_rfl))⟩
 f25:=⟨Try.f89.name,by decide,Try.func89.trans (congrArg some (by kernel_rfl))⟩
 f26:=⟨Try.f90.name,by decide,Try.func90.trans (congrArg some (by kernel_rfl))⟩
 f27:=⟨Try.f91.name,by decide,Try.func91.trans (congrArg some (by kernel_rfl))⟩
 f28:=Try.func92.trans (congrArg some (by kernel_rfl))
 f29:=Try.func93.trans (congrArg some (by kernel_rfl))
 f46:=⟨Try.f97.name,by decide,Try.func97.trans (congrArg some (by kernel_rfl))⟩
 f47:=Try.func98.trans (congrArg some (by kernel_rfl))
 f48:=Try.func99.trans (congrArg some (by kernel_rfl))
 f49:=⟨Try.f100.name,by decide,Try.func100.trans (congrArg some (by kernel_rfl))⟩
 f50:=⟨Try.f101.name,by decide,Try.func101.trans (congrArg some (by kernel_rfl))⟩
 f57:=⟨Try.f104.name,by decide,Try.func104.trans (congrArg some (by kernel_rfl))⟩
 t0:=Try.underlying0
 a0:=Try.isAgg0
 z0:=Try.sizeOf0
 v0:=Try.zeroValue0
 t3:=Try.underlying3
 a3:=Try.isAgg3
 z3:=Try.sizeOf3
 v3:=Try.zeroValue3
 t4:=Try.underlying4
 a4:=Try.isAgg4
 z4:=Try.sizeOf4
 v4:=Try.zeroValue4
 t5:=Try.underlying5
 a5:=Try.isAgg5
 z5:=Try.sizeOf5
 v5:=Try.zeroValue5
 t9:=Try.underlying9
 a9:=Try.isAgg9
 z9:=Try.sizeOf9
 v9:=Try.zeroValue9
 t22:=Try.underlying33
 a22:=Try.isAgg33
 z22:=Try.sizeOf33
 v22:=Try.zeroValue33
 t25:=Try.underlying119
 a25:=Try.isAgg119
 z25:=Try.sizeOf119
 v25:=Try.zeroValue119
 t39:=Try.underlying106
 a39:=Try.isAgg106
 z39:=Try.sizeOf106
 v39:=Try.zeroValue106
 t45:=Try.underlying139
 a45:=Try.isAgg139
 z45:=Try.sizeOf139
 v45:=Try.zeroValue139
 t46:=Try.underlying140
 a46:=Try.isAgg140
 z46:=Try.sizeOf140
 v46:=Try.zeroValue140
 t50:=Try.underlying49
 a50:=Try.isAgg49
 z50:=Try.sizeOf49
 v50:=Try.zeroValue49
 t53:=Try.underlying146
 a53:=Try.isAgg146
 z53:=Try.sizeOf146
 v53:=Try.zeroValue146
 t55:=Try.underlying57
 a55:=Try.isAgg57
 z55:=Try.sizeOf57
 v55:=Try.zeroValue57
 t66:=Try.underlying149
 a66:=Try.isAgg149
 z66:=Try.sizeOf149
 v66:=Try.zeroValue149
 t70:=Try.underlying152
 a70:=Try.isAgg152
 z70:=Try.sizeOf152
 v70:=Try.zeroValue152
 t76:=Try.underlying155
 a76:=Try.isAgg155
 z76:=Try.sizeOf155
 v76:=Try.zeroValue155
 t77:=Try.underlying156
 a77:=Try.isAgg156
 z77:=Try.sizeOf156
 v77:=Try.zeroValue156 }
def Try.cmpInt_ren:Go.Shelf.Ren:=⟨fun | 5=>64 | 7=>79 | n=>n,fun | 22=>3 | 3=>3 | 4=>4 | n=>n,fun | n=>n⟩
theorem Try.cmpInt:Go.Proofs.SlLaysC2.n5 Try.prog Try.cmpInt_ren:={
 mixed:=by kernel_rfl
 f5:=⟨Try.f64.name,by decide,Try.func64.trans (congrArg some (by kernel_rfl))⟩
 f7:=⟨Try.f79.name,by decide,Try.func79.trans (congrArg some (by kernel_rfl))⟩
 t3:=Try.underlying3
 a3:=Try.isAgg3
 z3:=Try.sizeOf3
 v3:=Try.zeroValue3
 t4:=Try.underlying4
 a4:=Try.isAgg4
 z4:=Try.sizeOf4
 v4:=Try.zeroValue4
 t22:=Try.underlying3
 a22:=Try.isAgg3
 z22:=Try.sizeOf3
 v22:=Try.zeroValue3 }
theorem Try.cmp89 (x y:Int) (w:World):Calls Try.prog 64 #[.int .i64 x,.int .i64 y] w fun e w'=>e = .returned (.int .i64 (Lib.compareInt x y))∧w'=w:=by
 have h:=AnyG.cmp_Compare_int Try.cmpInt x y w
 exact h
def or3 (a b c:Int):Int:=if a=0 then if b=0 then c else b else a
set_option maxHeartbeats 1000000 in
theorem Try.or88 (a b c:Int) (n:Nat) (w:World) (h0:w.cell? ⟨n,0,none⟩=some (.int .i64 a)) (h1:w.cell? ⟨n,1,none⟩=some (.int .i64 b)) (h2:w.cell? ⟨n,2,none⟩=some (.int .i64 c)) :
  Calls Try.prog 63 #[.slice (some ⟨n,0,none⟩) 3 3] w fun e w'=>e = .returned (.int .i64 (or3 a b c))∧w'=w:=by
 have hr:(a≠0→or3 a b c=a)∧(a=0→b≠0→or3 a b c=b)∧(a=0→b=0→or3 a b c=c):=by
  refine⟨fun h=>if_neg h,fun h h' => ?_,fun h h' => ?_⟩
  ·unfold or3; rw[if_pos h,if_neg h']
  ·unfold or3; rw[if_pos h,if_pos h']
 generalize or3 a b c=r at hr ⊢
 go_enter Try.func63,Try.ntmps63
 go_wp2
 go_loop [5,8] (fun _ i=>∃ k:Nat,k≤3∧i = .int .i64 k∧(1≤k→a=0)∧(2≤k→b=0)∧(3≤k→c=0)) (fun _ i=>3-(intOf i).toNat)
 case atStart=>exact⟨0,by omega,rfl,by omega,by omega,by omega⟩
 case round =>
  obtain⟨k,hk,rfl,ha,hb,hc⟩:=hrel
  have hcases:k=0∨k=1∨k=2∨k=3:=by omega
  rcases hcases with rfl | rfl | rfl | rfl
  ·clear ha hb hc
   by_cases hz:a=0
   ·subst hz
    go_wp2
    go_round
    case rel=>exact⟨1,by omega,by go_num,by simp,by omega,by omega⟩
    case measure=>simp[intOf]
   ·have hra:=hr.1 hz
    clear hr
    subst hra
    go_wp2
    go_ret
    exact⟨rfl,rfl⟩
  ·have ha:=ha (by omega)
   subst ha
   clear hb hc h0
   by_cases hz:b=0
   ·subst hz
    go_wp2
    go_round
    case rel=>exact⟨2,by omega,by go_num,by simp,by simp,by omega⟩
    case measure=>simp[intOf]
   ·have hra:=hr.2.1 rfl hz
    clear hr
    subst hra
    go_wp2
    go_ret
    exact⟨rfl,rfl⟩
  ·have ha:=ha (by omega)
   have hb:=hb (by omega)
   subst ha
   subst hb
   clear hc h0 h1
   by_cases hz:c=0
   ·subst hz
    go_wp2
    go_round
    case rel=>exact⟨3,by omega,by go_num,by simp,by simp,by simp⟩
    case measure=>simp[intOf]
   ·have hra:=hr.2.2 rfl rfl
    clear hr
    subst hra
    go_wp2
    go_ret
    exact⟨rfl,rfl⟩
  ·have ha:=ha (by omega)
   have hb:=hb (by omega)
   have hc:=hc (by omega)
   have hra:=hr.2.2 ha hb
   subst ha
   subst hb
   subst hc
   clear hr h0 h1 h2
   subst hra
   go_wp2
   go_ret
   exact⟨rfl,rfl⟩
def cmpSm (x y:Int×Int×Int):Int:=or3 (Lib.compareInt x.1 y.1) (Lib.compareInt x.2.1 y.2.1) (Lib.compareInt x.2.2 y.2.2)
set_option maxRecDepth 100000 in
set_option maxHeartbeats 1000000 in
theorem Try.closure87 (x y:Int×Int×Int) (W:World):Calls Try.prog 62 #[.agg #[.int .i64 x.1,.int .i64 x.2.1,.int .i64 x.2.2],.agg #[.int .i64 y.1,.int .i64 y.2.1,.int .i64 y.2.2]] W fun e w'=>e = .returned (.int .i64 (cmpSm x y))∧∃ q os',w'=grow (W.drewN q) os':=by
 obtain⟨x1,x2,x3⟩:=x
 obtain⟨y1,y2,y3⟩:=y
 have hcon:=Try.cmp89
 unfold cmpSm
 simp only
 have hA:=hcon x1 y1
 have hB:=hcon x2 y2
 have hC:=hcon x3 y3
 clear hcon
 generalize Lib.compareInt x1 y1=A at *
 generalize Lib.compareInt x2 y2=B at *
 generalize Lib.compareInt x3 y3=C at *
 go_enter Try.func62,Try.ntmps62
 go_wp2
 refine wp_region_still_tail 15 (by kernel_rfl) (by kernel_rfl) ?_
 simp only[List.take_succ_cons,List.take_zero,List.drop_succ_cons,List.drop_zero]
 have a1:((W.alloc (.cells #[.int .i64 x1,.int .i64 x2,.int .i64 x3] 56)).alloc (.cells #[.int .i64 y1,.int .i64 y2,.int .i64 y3] 56)).drew.cell? ⟨W.heap.size,0,none⟩=some (.int .i64 x1):=by
  refine(World.cell?_alloc_lt _ _ _ (by simp)).trans ?_
  rw[World.cell?_alloc_new]; rfl
 have a2:((W.alloc (.cells #[.int .i64 x1,.int .i64 x2,.int .i64 x3] 56)).alloc (.cells #[.int .i64 y1,.int .i64 y2,.int .i64 y3] 56)).drew.cell? ⟨W.heap.size,1,none⟩=some (.int .i64 x2):=by
  refine(World.cell?_alloc_lt _ _ _ (by simp)).trans ?_
  rw[World.cell?_alloc_new]; rfl
 have a3:((W.alloc (.cells #[.int .i64 x1,.int .i64 x2,.int .i64 x3] 56)).alloc (.cells #[.int .i64 y1,.int .i64 y2,.int .i64 y3] 56)).drew.cell? ⟨W.heap.size,2,none⟩=some (.int .i64 x3):=by
  refine(World.cell?_alloc_lt _ _ _ (by simp)).trans ?_
  rw[World.cell?_alloc_new]; rfl
 have b1:((W.alloc (.cells #[.int .i64 x1,.int .i64 x2,.int .i64 x3] 56)).alloc (.cells #[.int .i64 y1,.int .i64 y2,.int .i64 y3] 56)).drew.cell? ⟨W.heap.size+1,0,none⟩=some (.int .i64 y1):=by
  have h:=World.cell?_alloc_new (W.alloc (.cells #[.int .i64 x1,.int .i64 x2,.int .i64 x3] 56)) #[.int .i64 y1,.int .i64 y2,.int .i64 y3] 56 0
  rw[show (W.alloc (.cells #[.int .i64 x1,.int .i64 x2,.int .i64 x3] 56)).heap.size=W.heap.size+1 by simp] at h
  exact h.trans rfl
 have b2:((W.alloc (.cells #[.int .i64 x1,.int .i64 x2,.int .i64 x3] 56)).alloc (.cells #[.int .i64 y1,.int .i64 y2,.int .i64 y3] 56)).drew.cell? ⟨W.heap.size+1,1,none⟩=some (.int .i64 y2):=by
  have h:=World.cell?_alloc_new (W.alloc (.cells #[.int .i64 x1,.int .i64 x2,.int .i64 x3] 56)) #[.int .i64 y1,.int .i64 y2,.int .i64 y3] 56 1
  rw[show (W.alloc (.cells #[.int .i64 x1,.int .i64 x2,.int .i64 x3] 56)).heap.size=W.heap.size+1 by simp] at h
  exact h.trans rfl
 have b3:((W.alloc (.cells #[.int .i64 x1,.int .i64 x2,.int .i64 x3] 56)).alloc (.cells #[.int .i64 y1,.int .i64 y2,.int .i64 y3] 56)).drew.cell? ⟨W.heap.size+1,2,none⟩=some (.int .i64 y3):=by
  have h:=World.cell?_alloc_new (W.alloc (.cells #[.int .i64 x1,.int .i64 x2,.int .i64 x3] 56)) #[.int .i64 y1,.int .i64 y2,.int .i64 y3] 56 2
  rw[show (W.alloc (.cells #[.int .i64 x1,.int .i64 x2,.int .i64 x3] 56)).heap.size=W.heap.size+1 by simp] at h
  exact h.trans rfl
 have hg:((W.alloc (.cells #[.int .i64 x1,.int .i64 x2,.int .i64 x3] 56)).alloc (.cells #[.int .i64 y1,.int .i64 y2,.int .i64 y3] 56)).drew=grow (W.drewN 1) (#[.cells #[.int .i64 x1,.int .i64 x2,.int .i64 x3] 56]++#[.cells #[.int .i64 y1,.int .i64 y2,.int .i64 y3] 56]):=by
  rw[alloc_eq_grow,alloc_eq_grow,grow_grow]; rfl
 change wpStill _ _ ((W.alloc (.cells #[.int .i64 x1,.int .i64 x2,.int .i64 x3] 56)).alloc (.cells #[.int .i64 y1,.int .i64 y2,.int .i64 y3] 56)).drew (fun a'=>wpList _ _ _ _ a' ((W.alloc (.cells #[.int .i64 x1,.int .i64 x2,.int .i64 x3] 56)).alloc (.cells #[.int .i64 y1,.int .i64 y2,.int .i64 y3] 56)).drew) _ _
 generalize ((W.alloc (.cells #[.int .i64 x1,.int .i64 x2,.int .i64 x3] 56)).alloc (.cells #[.int .i64 y1,.int .i64 y2,.int .i64 y3] 56)).drew=W2 at *
 have HG:=Lib.hid hg
 clear hg
 repeat still_step
 still_call (hA _)
 repeat still_step
 still_call (hB _)
 repeat still_step
 still_call (hC _)
 repeat still_step
 refine wpStill_nil ?_
 clear a1 a2 a3 b1 b2 b3 hA hB hC
 have c0:(W2.alloc (.cells #[.int .i64 A,.int .i64 B,.int .i64 C] 3)).cell? ⟨W2.heap.size,0,none⟩=some (.int .i64 A):=by rw[World.cell?_alloc_new]; rfl
 have c1:(W2.alloc (.cells #[.int .i64 A,.int .i64 B,.int .i64 C] 3)).cell? ⟨W2.heap.size,1,none⟩=some (.int .i64 B):=by rw[World.cell?_alloc_new]; rfl
 have c2:(W2.alloc (.cells #[.int .i64 A,.int .i64 B,.int .i64 C] 3)).cell? ⟨W2.heap.size,2,none⟩=some (.int .i64 C):=by rw[World.cell?_alloc_new]; rfl
 have hor:=Try.or88 A B C W2.heap.size _ c0 c1 c2
 clear c0 c1 c2
 go_wp2_with (go_at_call 63; refine hor.mono ?_; rintro e w' ⟨rfl,rfl⟩)
 go_ret
 have hfin:∃ q os',W2.alloc (.cells #[.int .i64 A,.int .i64 B,.int .i64 C] 3)=grow (W.drewN q) os' :=
  ⟨1,(#[.cells #[.int .i64 x1,.int .i64 x2,.int .i64 x3] 56]++#[.cells #[.int .i64 y1,.int .i64 y2,.int .i64 y3] 56])++#[.cells #[.int .i64 A,.int .i64 B,.int .i64 C] 3],by rw[alloc_eq_grow,HG.out,grow_grow]⟩
 exact⟨rfl,hfin⟩
end Go.Proofs
end
section
namespace Go.Co
open Go Go.Conc Go.Proofs Go.Sort Go.Shelf
def ltS (x y:Sm):Prop:=x.1<y.1∨(x.1=y.1∧(x.2.1<y.2.1∨(x.2.1=y.2.1∧x.2.2<y.2.2)))
theorem cmp_cases (x y:Int):(x<y∧Lib.compareInt x y = -1)∨(x=y∧Lib.compareInt x y=0)∨(y<x∧Lib.compareInt x y=1):=by
 unfold Lib.compareInt
 by_cases h1:x<y
 ·exact .inl ⟨h1,by rw[if_pos h1]⟩
 ·by_cases h2:y<x
  ·exact .inr (.inr ⟨h2,by rw[if_neg h1,if_pos h2]⟩)
  ·exact .inr (.inl ⟨by omega,by rw[if_neg h1,if_neg h2]⟩)
theorem lt_iff (x y:Sm):ltOf cmpSm x y=true↔ltS x y:=by
 obtain⟨x1,x2,x3⟩:=x
 obtain⟨y1,y2,y3⟩:=y
 unfold ltOf cmpSm or3 ltS
 simp only[decide_eq_true_eq]
 rcases cmp_cases x1 y1 with ⟨h1,e1⟩ | ⟨h1,e1⟩ | ⟨h1,e1⟩<;>rcases cmp_cases x2 y2 with ⟨h2,e2⟩ | ⟨h2,e2⟩ | ⟨h2,e2⟩<;>rcases cmp_cases x3 y3 with ⟨h3,e3⟩ | ⟨h3,e3⟩ | ⟨h3,e3⟩<;>simp[e1,e2,e3]<;>omega
theorem lt_false (x y:Sm):ltOf cmpSm x y=false↔¬ ltS x y:=by
 rw[← lt_iff]; simp
theorem swoSm:SWO (ltOf cmpSm) where
 irrefl x:=by rw[lt_false]; unfold ltS; omega
 trans x y z h1 h2:=by rw[lt_iff] at *; unfold ltS at *; omega
 ntrans x y z h1 h2:=by rw[lt_false] at *; unfold ltS at *; omega
theorem sorted_is {d:Array Sm} {R:List Sm} (hp:d.toList.Perm R) (hs:SortedIn (ltOf cmpSm) 0 d.size d) (hR:R.Pairwise ltS):d.toList=R:=by
 refine List.Perm.eq_of_pairwise (le:=fun x y=>¬ ltS y x) (fun a b _ _ h1 h2 => ?_) ?_ (hR.imp fun {a b} h => ?_) hp
 ·obtain⟨a1,a2,a3⟩:=a
  obtain⟨b1,b2,b3⟩:=b
  unfold ltS at h1 h2
  simp only at h1 h2
  have e1:a1=b1:=by omega
  have e2:a2=b2:=by omega
  have e3:a3=b3:=by omega
  rw[e1,e2,e3]
 ·rw[List.pairwise_iff_getElem]
  intro i j hi hj hij
  have h:=hs i j (Nat.zero_le _) hij (by simpa using hj)
  rw[lt_false] at h
  simp only[Array.length_toList] at hi hj
  rw[getElem!_pos d i hi,getElem!_pos d j hj] at h
  simpa using h
 ·unfold ltS at *; omega
def Asc (l:List Int):Prop:=l.Pairwise (· < ·)
theorem shifts_asc (low up:List Int) (wear:Int):Asc (shiftsM low up wear):=by
 unfold Asc shiftsM shN
 refine List.Pairwise.filter _ ?_
 rw[List.pairwise_map]
 exact List.pairwise_lt_range.imp fun {a b} h=>by omega
theorem seams_asc {da db:Wk} (ha:Asc da.lies) (hb:Asc db.lies):(seamsM da db).Pairwise ltS:=by
 unfold seamsM
 rw[List.pairwise_flatMap]
 refine⟨fun x _ => ?_,ha.imp fun {x x'} h => ?_⟩
 ·rw[List.pairwise_flatMap]
  refine⟨fun y _ => ?_,hb.imp fun {y y'} h => ?_⟩
  ·rw[List.pairwise_map]
   exact(shifts_asc _ _ _).imp fun {s s'} h => .inr ⟨rfl,.inr ⟨rfl,h⟩⟩
  ·intro m hm m' hm'
   obtain⟨s,_,rfl⟩:=List.mem_map.1 hm
   obtain⟨s',_,rfl⟩:=List.mem_map.1 hm'
   exact .inr ⟨rfl,.inl h⟩
 ·intro m hm m' hm'
  obtain⟨y,_,hm⟩:=List.mem_flatMap.1 hm
  obtain⟨y',_,hm'⟩:=List.mem_flatMap.1 hm'
  obtain⟨s,_,rfl⟩:=List.mem_map.1 hm
  obtain⟨s',_,rfl⟩:=List.mem_map.1 hm'
  exact .inl h
theorem flat_list (d:Array Sm):(flatK smC 3 d).toList=d.toList.flatMap smC:=by
 apply List.ext_getElem?
 intro t
 have hlen:(d.toList.flatMap smC).length=d.size*3:=by rw[smC_len]; simp
 by_cases ht:t<d.size*3
 ·have h1:=get_flatK smC 3 d t ht
  rw[getElem!_pos _ t (by simpa using ht)] at h1
  rw[Array.getElem?_toList,Array.getElem?_eq_getElem (by simpa using ht),h1]
  have key:∀ (l:List Sm) (t:Nat),t<l.length*3→(l.flatMap smC)[t]? = some ((smC (l[t / 3]!))[t % 3]!):=by
   intro l
   induction l with
   | nil=>intro t h; simp at h
   | cons m l ih =>
    intro t h
    rw[List.flatMap_cons]
    by_cases h3:t<3
    ·have e0:t / 3=0:=by omega
     have e1:t % 3=t:=by omega
     rw[e0,e1,List.getElem?_append_left (by simpa [smC] using h3)]
     have:t=0∨t=1∨t=2:=by omega
     rcases this with rfl | rfl | rfl<;>rfl
    ·obtain⟨s,rfl⟩:∃ s,t=s+3:=⟨t-3,by omega⟩
     have e0:(s+3) / 3=s / 3+1:=by omega
     have e1:(s+3) % 3=s % 3:=by omega
     rw[e0,e1,List.getElem?_append_right (by simp[smC])]
     have:=ih s (by simp at h; omega)
     simpa [smC] using this
  rw[key d.toList t (by simpa using ht)]
  congr 3
  have hd:t / 3<d.size:=by omega
  rw[getElem!_pos d _ hd,getElem!_pos d.toList _ (by simpa using hd)]
  simp
 ·rw[List.getElem?_eq_none (by simp; omega),List.getElem?_eq_none (by omega)]
theorem holds_flat {w:World} {g:Nat} {cur:Array Value} {e:TypeId} {d:Array Sm} (hb:w.heap[g]? = some (.cells cur e (0,0))) (ht:cur.toList.take (d.size*3)=d.toList.flatMap smC):HoldsK smC 3 w g 0 d:=by
 intro j hj
 rw[size_flatK] at hj
 refine⟨?_,by simp[World.frozen?,hb]⟩
 have h1:(cur.toList.take (d.size*3))[j]? = (flatK smC 3 d).toList[j]? := by rw[ht,flat_list]
 rw[List.getElem?_take_of_lt hj] at h1
 simp only[World.cell?,hb,Nat.zero_add]
 simp only[Option.isSome_none,Bool.false_eq_true,if_false]
 rw[← Array.getElem?_toList,h1,Array.getElem?_toList,Array.getElem?_eq_getElem (by simpa using hj),getElem!_pos _ j (by simpa using hj)]
 rfl
theorem heap_flat {w:World} {g n:Nat} {os:Array Obj} {cur:Array Value} {e:TypeId} {fr:Nat×Nat} (d:Array Sm) (hb:w.heap[g]? = some (.cells cur e fr)) :
  (sortWorldK smC 3 w g 0 n d os).heap[g]? = some (.cells (putCells id 0 (flatK smC 3 d) cur) e fr):=by
 have hg:g<w.heap.size:=(Array.getElem?_eq_some_iff.1 hb).1
 unfold sortWorldK putRowK
 rw[heap_grow_old _ _ (by simpa using hg)]
 simp[putRow,mapBlock,Sort.ahead,Array.getElem?_modify,hb,onCells]
theorem grownBy_flat {w:World} {g n:Nat} {os:Array Obj} (d:Array Sm):w.grownBy (sortWorldK smC 3 w g 0 n d os) (some g):=by
 unfold sortWorldK putRowK
 refine⟨rfl,rfl,rfl,by simp,fun k hk hne => ?_⟩
 rw[heap_grow_old _ _ (by simpa using hk)]
 have:g≠k:=fun e=>hne (by rw[e])
 simp[putRow,mapBlock,Sort.ahead,Array.getElem?_modify,this]
theorem ownsRow_flat {w:World} {base g cap n:Nat} {e:TypeId} {os:Array Obj} {cur:Array Value} {d:Array Sm} (hbase:base≤g) (hb:w.heap[g]? = some (.cells cur e (0,0)))
  (h1:d.size≤cap) (h2:cap≤maxLen) (h3:cur.size=cap*3) :
  (sortWorldK smC 3 w g 0 n d os).ownsRow base e 3 (.slice (some ⟨g,0,none⟩) d.size cap) d.size (d.toList.flatMap smC):=by
 refine⟨by rw[smC_len]; simp,.inr ⟨g,cap,_,rfl,hbase,heap_flat d hb,h1,h2,by simp[putCells,h3],?_⟩⟩
 rw[← flat_list]
 apply List.ext_getElem?
 intro j
 by_cases hj:j<d.size*3
 ·rw[List.getElem?_take_of_lt hj,Array.getElem?_toList,Array.getElem?_toList]
  have hc:j<cur.size:=by omega
  simp[putCells,hj,hc]
 ·rw[List.getElem?_take_eq_none (by omega),List.getElem?_eq_none (by simp; omega)]
end Go.Co
end
section
namespace Go.Co
open Go Go.Proofs
open Go.Extern.RuntimeError
variable {P:Program}
theorem t_described (v:Value):T1 P (described v):=by
 unfold described
 (repeat' first | exact TC.out | (with_reducible refine tm_bind1 ?_ (fun _ => ?_)) | (with_reducible refine tm_ite ?_ ?_) | split | dsimp only)
theorem t_text (s:String):T1 P (text s):=tm_pure trivial
theorem t_pkgpathOf (i:TypeInfo):T1 P (pkgpathOf i):=by
 unfold pkgpathOf
 (repeat' first | exact TC.out | (with_reducible refine tm_bind1 ?_ (fun _ => ?_)) | (with_reducible refine tm_ite ?_ ?_) | split | dsimp only)
theorem t_boundsError (args:Array Value):T1 P (boundsError args):=by
 unfold boundsError
 rcases args with ⟨_ | ⟨x,_ | ⟨y,l⟩⟩⟩
 ·exact tm_stuck _
 rotate_left
 ·exact tm_stuck _
 cases x<;>try exact tm_stuck _
 rename_i cs
 rcases cs with ⟨_ | ⟨a,_ | ⟨b,_ | ⟨c,_ | ⟨d,_ | ⟨e,l⟩⟩⟩⟩⟩⟩<;>try exact tm_stuck _
 cases a<;>try exact tm_stuck _
 cases b<;>try exact tm_stuck _
 cases c<;>try exact tm_stuck _
 cases d<;>try exact tm_stuck _
 rename_i k x k1 y signed k2 code
 show T1 P (match (if (signed&&decide (x<0))=true then boundsNegErrorFmts else boundsErrorFmts)[code.toNat]? with
  | some fmt => text ("runtime error: " ++ (fmt.replace "%x" (toString (if signed = true then x else IntKind.u64.wrap x))).replace "%y" (toString y))
  | none => stuck "boundsError: no such code")
 split
 ·exact t_text _
 ·exact tm_stuck _
theorem t_nothing (args:Array Value):T1 P (nothing args):=tm_pure trivial
theorem t_unhashable (args:Array Value):T1 P (unhashableTypeError args):=by
 unfold unhashableTypeError
 rcases args with ⟨_ | ⟨x,_ | ⟨y,l⟩⟩⟩
 ·exact tm_stuck _
 rotate_left
 ·exact tm_stuck _
 cases x<;>try exact tm_stuck _
 rename_i cs
 rcases cs with ⟨_ | ⟨a,_ | ⟨b,l⟩⟩⟩<;>try exact tm_stuck _
 refine(?_:T1 P (described a >>= _))
 refine tm_bind1 (t_described a) fun o => ?_
 cases o with
 | none=>exact TC.out
 | some t=>exact t_text _
theorem t_typeAssertion (args:Array Value):T1 P (typeAssertionError args):=by
 unfold typeAssertionError
 (repeat' first | exact TC.out | exact t_text _ | exact t_described _ | exact t_pkgpathOf _ | (with_reducible refine tm_bind1 ?_ (fun _ => ?_)) | (with_reducible refine tm_ite ?_ ?_) | split | dsimp only)
theorem fd0:Extern.find Try.f0=none:=by kernel_rfl
theorem fd1:Extern.find Try.f1=none:=by kernel_rfl
theorem fd128:Extern.find Try.f106=some boundsError:=by kernel_rfl
theorem fd129:Extern.find Try.f107=some nothing:=by kernel_rfl
theorem fd130 : Extern.find Try.f108 = some (fun args => do pure (.string ("runtime error: ".toUTF8 ++ (← asString (args.getD 0 (.tuple #[])))))) := by kernel_rfl
theorem fd131:Extern.find Try.f109=some nothing:=by kernel_rfl
theorem fd132:Extern.find Try.f110=some (fun args=>do pure (.string (← asString (args.getD 0 (.tuple #[]))))):=by kernel_rfl
theorem fd133:Extern.find Try.f111=some nothing:=by kernel_rfl
theorem fd134 : Extern.find Try.f112 = some (fun args => do pure (.string ("runtime error: ".toUTF8 ++ (← asString ((← asAgg (args.getD 0 (.tuple #[]))).getD 0 (.tuple #[])))))) := by kernel_rfl
theorem fd135:Extern.find Try.f113=some nothing:=by kernel_rfl
theorem fd136:Extern.find Try.f114=some typeAssertionError:=by kernel_rfl
theorem fd137:Extern.find Try.f115=some nothing:=by kernel_rfl
theorem fd138 : Extern.find Try.f116 = some (fun _ => text "runtime error: panic called with nil argument") := by kernel_rfl
theorem fd139:Extern.find Try.f117=some nothing:=by kernel_rfl
theorem fd140:Extern.find Try.f118=none:=by kernel_rfl
theorem fd141:Extern.find Try.f119=some unhashableTypeError:=by kernel_rfl
theorem fd142:Extern.find Try.f120=some nothing:=by kernel_rfl
theorem fd143:Extern.find Try.f121=none:=by kernel_rfl
theorem fd144:Extern.find Try.f122=some (fun args=>do pure (strVal (Extern.Rtype.kindName (← asInt (args.getD 0 (.tuple #[]))).toNat))):=by kernel_rfl
theorem bodies:(Try.prog.funcs.toList.zipIdx.all fun(f,i) => !f.body.isNone||i==0||i==1||(decide (106≤i)&&decide (i≤122)))=true:=by kernel_rfl
theorem sizes:Try.prog.funcs.size=123:=by kernel_rfl
theorem nexts:(Try.prog.funcs.toList.all fun f => !f.body.isNone||(Extern.findNext f).isNone)=true:=by kernel_rfl
theorem names : (Try.prog.funcs.toList.all fun f => !(f.name == "runtime.NumGoroutine")) = true := by kernel_rfl
theorem louds:(Try.prog.funcs.toList.all fun f => !f.norace)=true:=by kernel_rfl
theorem mem_funcs {f:FuncId} {fn:Func} (h:Try.prog.funcs[f]? = some fn):fn∈Try.prog.funcs.toList:=by
 obtain⟨hlt,rfl⟩:=Array.getElem?_eq_some_iff.1 h
 exact Array.getElem_mem_toList hlt
theorem pick19 (f:Nat) (h:f=0∨f=1∨(106≤f∧f≤122)):f=0∨f=1∨f=106∨f=107∨f=108∨f=109∨f=110∨f=111∨f=112∨f=113∨f=114∨f=115∨f=116∨f=117∨f=118∨f=119∨f=120∨f=121∨f=122:=by omega
theorem plain_try:Plain Try.prog where
 count f fn h:=by
  have:=List.all_eq_true.1 names fn (mem_funcs h)
  simpa using this
 quiet f:=by
  cases h:Try.prog.funcs[f]? with
  | none=>rfl
  | some fn =>
   have:=List.all_eq_true.1 louds fn (mem_funcs h)
   simpa using this
 next f fn h hb:=by
  have:=List.all_eq_true.1 nexts fn (mem_funcs h)
  simpa [hb] using this
 find f fn e h hb he args:=by
  have hlt:f<123:=by rw[← sizes]; exact(Array.getElem?_eq_some_iff.1 h).1
  have hz:(fn,f)∈Try.prog.funcs.toList.zipIdx:=by
   rw[List.mem_zipIdx_iff_getElem?]
   simpa using h
  have h1:=List.all_eq_true.1 bodies _ hz
  have h2:f=0∨f=1∨(106≤f∧f≤122):=by
   simp only[hb,Bool.not_true,Bool.false_or,Bool.or_eq_true,Bool.and_eq_true,beq_iff_eq,decide_eq_true_eq] at h1
   rcases h1 with (h1 | h1) | h1
   ·exact .inl h1
   ·exact .inr (.inl h1)
   ·exact .inr (.inr h1)
  have pick:∀ {i:Nat} {g:Func},f=i→Try.prog.funcs[i]? = some g→fn=g:=fun hi hg=>by subst hi; rw[hg] at h; exact(Option.some.inj h).symm
  have cases':f=0∨f=1∨f=106∨f=107∨f=108∨f=109∨f=110∨f=111∨f=112∨f=113∨f=114∨f=115∨f=116∨f=117∨f=118∨f=119∨f=120∨f=121∨f=122:=pick19 f h2
  rcases cases' with hi | hi | hi | hi | hi | hi | hi | hi | hi | hi | hi | hi | hi | hi | hi | hi | hi | hi | hi
  ·rw[pick hi Try.func0] at he
   rw[fd0] at he; cases he
  ·rw[pick hi Try.func1] at he
   rw[fd1] at he; cases he
  ·rw[pick hi Try.func106] at he
   rw[fd128] at he; cases he; exact t_boundsError _
  ·rw[pick hi Try.func107] at he
   rw[fd129] at he; cases he; exact t_nothing _
  ·rw[pick hi Try.func108] at he
   rw[fd130] at he; cases he
   (repeat' first | exact TC.out | (with_reducible refine tm_bind1 ?_ (fun _ => ?_)) | (with_reducible refine tm_ite ?_ ?_) | split | dsimp only)
  ·rw[pick hi Try.func109] at he
   rw[fd131] at he; cases he; exact t_nothing _
  ·rw[pick hi Try.func110] at he
   rw[fd132] at he; cases he
   (repeat' first | exact TC.out | (with_reducible refine tm_bind1 ?_ (fun _ => ?_)) | (with_reducible refine tm_ite ?_ ?_) | split | dsimp only)
  ·rw[pick hi Try.func111] at he
   rw[fd133] at he; cases he; exact t_nothing _
  ·rw[pick hi Try.func112] at he
   rw[fd134] at he; cases he
   (repeat' first | exact TC.out | (with_reducible refine tm_bind1 ?_ (fun _ => ?_)) | (with_reducible refine tm_ite ?_ ?_) | split | dsimp only)
  ·rw[pick hi Try.func113] at he
   rw[fd135] at he; cases he; exact t_nothing _
  ·rw[pick hi Try.func114] at he
   rw[fd136] at he; cases he; exact t_typeAssertion _
  ·rw[pick hi Try.func115] at he
   rw[fd137] at he; cases he; exact t_nothing _
  ·rw[pick hi Try.func116] at he
   rw[fd138] at he; cases he; exact t_text _
  ·rw[pick hi Try.func117] at he
   rw[fd139] at he; cases he; exact t_nothing _
  ·rw[pick hi Try.func118] at he
   rw[fd140] at he; cases he
  ·rw[pick hi Try.func119] at he
   rw[fd141] at he; cases he; exact t_unhashable _
  ·rw[pick hi Try.func120] at he
   rw[fd142] at he; cases he; exact t_nothing _
  ·rw[pick hi Try.func121] at he
   rw[fd143] at he; cases he
  ·rw[pick hi Try.func122] at he
   rw[fd144] at he; cases he
   (repeat' first | exact TC.out | (with_reducible refine tm_bind1 ?_ (fun _ => ?_)) | (with_reducible refine tm_ite ?_ ?_) | split | dsimp only)
end Go.Co
end
section
namespace Go.Proofs
open Go.Shelf Go.RowKit Go.Lib Go.Sort
set_option maxHeartbeats 400000 in
theorem Try.ins111_nil (v:Value) (w:World):Calls Try.prog 84 #[.slice none 0 0,.int .i64 0,.int .i64 0,v] w fun e w'=>e = .returned (.tuple #[])∧w'=w:=by
 go_enter Try.func84,Try.ntmps84
 go_wp2
 go_loop [8] (fun i=>i = .int .i64 1) (fun _=>0)
 case atStart=>rfl
 case round =>
  subst hrel
  go_wp2
  go_end0
  exact⟨rfl,rfl⟩
set_option maxRecDepth 100000 in
set_option maxHeartbeats 1000000 in
theorem Try.pdq103_nil (l:Int) (v:Value) (w:World):Calls Try.prog 77 #[.slice none 0 0,.int .i64 0,.int .i64 0,.int .i64 l,v] w fun e w'=>e = .returned (.tuple #[])∧w'=w:=by
 have hi:=Try.ins111_nil v
 go_enter Try.func77,Try.ntmps77
 go_wp2
 go_loop [1,2] (fun a b=>a = .int .i64 0∧b = .int .i64 0) (fun _ _=>0)
 case atStart=>exact⟨rfl,rfl⟩
 case round =>
  obtain⟨rfl,rfl⟩:=hrel
  go_wp2_with (go_at_call 84; refine(hi _).mono ?_; rintro e w' ⟨rfl,rfl⟩)
  exact⟨rfl,.tuple #[],results_none (by rfl) _ _ _,rfl,rfl⟩
theorem Try.len104_0 (w:World):Calls Try.prog 78 #[.int .u64 0] w fun e w'=>e = .returned (.int .i64 (Lib.bitLen 0:Nat))∧w'=w:=by
 have h:=Any.bits_Len (SlLaysF0.n15.bits (P:=Try.prog) { Try.sortSeam with }) (0:Int) w (by omega) (by omega)
 exact h
set_option maxHeartbeats 1000000 in
theorem Try.sort86_nil (v:Value) (w:World):Calls Try.prog 61 #[.slice none 0 0,v] w fun e w'=>e = .returned (.tuple #[])∧w'=w:=by
 have hl:=Try.len104_0
 have hp:=fun l=>Try.pdq103_nil l v
 go_enter Try.func61,Try.ntmps61
 go_wp2_with (first | (go_at_call 78; refine(hl _).mono ?_; rintro e w' ⟨rfl,rfl⟩) | (go_at_call 77; refine(hp _ _).mono ?_; rintro e w' ⟨rfl,rfl⟩))
 go_end0
 exact⟨rfl,rfl⟩
end Go.Proofs
end
section
namespace Go.Proofs
open Go.Shelf Go.RowKit Go.Lib Go.Sort Go.Co
theorem Try.sort86 (g cap:Nat) (d:Array Sm) (w:World) (hH:HoldsK smC 3 w g 0 d) (hg:g<w.heap.size) (hsz:d.size<4611686018427387904) :
  Calls Try.prog 61 #[.slice (some ⟨g,0,none⟩) d.size cap,.func (.func 62) #[] #[]] w fun e w'=>e = .returned (.tuple #[])∧∃ d' n os,PermIn 0 d.size d d'∧SortedIn (ltOf cmpSm) 0 d.size d'∧w'=sortWorldK smC 3 w g 0 n d' os:=by
 have eg:∀ args w,(callFunc 62 args).run Try.prog w = .ok (.enter 62 args) w:=enters_of Try.func62 (by kernel_rfl) rfl
 exact AnyQ.slices_SortFunc Try.sortSeam 3 Try.isAgg56 Try.sizeOf56 smC (fun _=>rfl) (fun x v hv=>by simp[smC] at hv; rcases hv with rfl | rfl | rfl<;>rfl) cmpSm swoSm 62 #[] g 0 cap d w eg (fun _ _ _ _ x y=>Try.closure87 x y _) hH hg hsz
end Go.Proofs
namespace Go.Co
open Go Go.Conc Go.Proofs Go.Sort Go.Shelf
variable {P:Program} {Final:Machine→Trace→Prop} {γ:So} {w:World}
theorem ko_pureG {Γ:Type} {main:Bool} {K:Γ→Goroutine→World→Prop} {Rl:Γ→World→World→Prop} {St:Γ→World→Γ→World→Array Event→Prop} {fn:FuncId} {Q:Γ→Exit→Act→World→Prop} {a:Act} {ops:Array Oper} {i:Nat} {rest:List Nat} {o:Oper} (C:KC P main K Rl St) {γ:Γ} {v:Value} (ho:ops[i]? = some o) (hw:Region.wanted o (yielded ops a.tmps)=true) (hrun:∀ w,(execOp a.eval o).run P w = .ok (.value v) w) (hev:∀ w,(execOp a.eval o).events P w #[]=#[])
  (h:KO K fn γ ops rest Q (a.put o.dst v) w):KO K fn γ ops (i::rest) Q a w :=
 ko_cons C ho hw fun w₁ r=>by rw[hrun w₁]; exact⟨γ,by rw[listed_nil (hev w₁)]; exact C.idle _ _,ko_rely C r h⟩
def SortedRow (A:Nat→Prop) (B0:Nat) (w0:World) (R:List Sm) (out:Value) (w:World):Prop:=Old A B0 w0 w∧w.ownsRow B0 56 3 out R.length (R.flatMap smC)
theorem sort_any {A:Nat→Prop} {B0:Nat} {w0:World} {R got:List Sm} {out:Value} (hR:R.Pairwise ltS) (hlen:R.length≤4294967296) (hA:∀ b,A b→b<B0) (hO:Old A B0 w0 w) (hp:got.Perm R) (hrow:w.ownsRow B0 56 3 out got.length (got.flatMap smC)) :
  Calls Try.prog 61 #[out,.func (.func 62) #[] #[]] w fun e w'=>∃ v,e = .returned v∧SortedRow A B0 w0 R out w':=by
 have hl:=hp.length_eq
 rcases hrow.2 with ⟨rfl,h0⟩ | ⟨g,cap,cur,rfl,hb,hg,hn,hc,hcs,ht⟩
 ·have hgot:got=[]:=List.eq_nil_of_length_eq_zero h0
  have hRn:R=[]:=List.eq_nil_of_length_eq_zero (by omega)
  subst hgot
  subst hRn
  exact(Try.sort86_nil _ w).mono fun e w' ⟨he,hw⟩=>⟨_,he,by subst hw; exact⟨hO,hrow⟩⟩
 ·have hlt:g<w.heap.size:=(Array.getElem?_eq_some_iff.1 hg).1
  have hH:HoldsK smC 3 w g 0 got.toArray:=holds_flat hg (by simpa using ht)
  have h:=Try.sort86 g cap got.toArray w hH hlt (by simp; omega)
  simp only[List.size_toArray] at h
  refine h.mono ?_
  rintro e w' ⟨he,d',n,os,hpm,hs,rfl⟩
  obtain⟨hsz,-,hpm⟩:=hpm
  have hsz':d'.size=got.length:=by simpa using hsz
  have hd:d'.toList=R:=by
   refine sorted_is ?_ (by rw[hsz']; exact hs) hR
   have h1:(d'.extract 0 got.length)=d':=by rw[← hsz']; simp
   have h2:(got.toArray.extract 0 got.length)=got.toArray:=by simp
   rw[h1,h2] at hpm
   exact hpm.trans hp
  have hgr:=grownBy_flat (w:=w) (g:=g) (n:=n) (os:=os) d'
  refine⟨_,he,⟨fun b hb' => ?_,Nat.le_trans hO.2.1 hgr.size,hgr.os.trans hO.2.2.1,hgr.output.trans hO.2.2.2⟩,?_⟩
  ·have:=hA b hb'
   exact(hgr.block b (Nat.lt_of_lt_of_le this hO.2.1) (fun e=>by cases e; omega)).trans (hO.1 b hb')
  ·have:=ownsRow_flat (n:=n) (os:=os) (d:=d') hb hg (by omega) hc hcs
   rw[hsz',hd] at this
   rw[← hl]
   exact this
set_option maxRecDepth 100000 in
theorem tail_ok {da db:Wk} (hda:da.ok) (hdb:db.ok) (haa:Asc da.lies) (hab:Asc db.lies):TailOK Final (seamsM da db):=by
 intro A B0 w0 γ' a' w' hE
 obtain⟨-,-,hS,got,out,hp,hrow,u,rfl⟩:=hE
 have C:=kc_main (Final:=Final) plain_try
 unfold fr51c
 show KJ _ _ _ (.seq (.region _ _ false) (.seq (.region _ _ false) .ret)) _ _ _
 refine kj_seq C (kj_region C ?_)
 simp only[List.size_toArray,List.length_cons,List.length_nil,Nat.reduceAdd,Nat.zero_add,List.range,List.range.loop]
 refine ko_pureG C (v := ?v1) rfl (by rfl) (fun w=>run_eq_of fun K hK => ?r1) (fun w => ?e1) ?h1
 case r1=>go_simp; exact hK
 case e1=>simp[go_sem]
 try walk_nrm
 refine mu_call plain_try (R:=fun _ w=>SortedRow A B0 w0 (seamsM da db) out w) rfl (by rfl) rfl Try.func61 rfl (fun τ => ?_) (fun v w2 hR τ d => ?_)
 ·simp only[List.map_toArray,List.map_cons,List.map_nil]
  have hO:Old A B0 w0 (w'.re τ 0):=⟨hS.blk,hS.size,hS.env.1,hS.env.2⟩
  exact sort_any (seams_asc haa hab) (seamsM_len hda hdb) hS.lt hO hp hrow
 ·have hR':SortedRow A B0 w0 (seamsM da db) out (w2.re τ d):=hR
  generalize w2.re τ d=w3 at *
  try walk_nrm
  refine ko_nil C ?_
  co_then
  refine kj_seq C (kj_region C ?_)
  simp only[List.size_toArray,List.length_cons,List.length_nil,Nat.reduceAdd,Nat.zero_add,List.range,List.range.loop]
  refine ko_pureG C (v := ?v2) rfl (by rfl) (fun w=>run_eq_of fun K hK => ?r2) (fun w => ?e2) ?h2
  case r2=>go_simp; exact hK
  case e2=>simp[go_sem]
  try walk_nrm
  refine ko_pureG C (v := ?v3) rfl (by rfl) (fun w=>run_eq_of fun K hK => ?r3) (fun w => ?e3) ?h3
  case r3=>go_simp; exact hK
  case e3=>simp[go_sem]
  try walk_nrm
  refine ko_nil C ?_
  co_then
  refine kj_ret C ?_
  exact⟨rfl,rfl,hR'.1,hR'.2⟩
theorem seams_k {ca cb:Array Value} {da db:Wk} (hda:da.ok) (hdb:db.ok) (haa:Asc da.lies) (hab:Asc db.lies) (hva:WorkV γ w ca da) (hvb:WorkV γ w cb db) :
  KCall (KAll Try.prog Final) Try.prog (.bad,γ) 33 #[.agg ca,.agg cb] w fun γ' v w'=>γ'.1 = .bad∧Kept γ w γ'.2 w'∧OwnV γ'.2 w' w.heap.size 56 3 v (seamsM da db).length ((seamsM da db).flatMap smC) :=
 seams_entry plain_try hda hdb hva hvb (tail_ok hda hdb haa hab)
end Go.Co
end
section
namespace Go.Di
open Go Go.Conc Go.Co Go.Proofs
variable {P:Program} {Final:Machine→Trace→Prop} {x:Cx}
theorem enter_kcall {g:FuncId} {vals:Array Value} {Post':Value→World→Prop} (hP:Plain P) (h:KCall (KMu P Final) P () g vals x.w (fun _=>Post')) {Post:Cx→Value→Prop} (hq:∀ v w',Post' v w'→∃ y:Cx,y.w=w'∧Post y v):EnterOK P Final x g vals Post:=by
 obtain⟨fn',c,hf,-,hbody,hwp⟩:=h
 refine⟨⟨fn',c,hf,hbody⟩,fun fr cs hc => ?_⟩
 have C:=kc_main (Final:=Final) hP
 rw[enter_at vals hf hbody]
 have hleave:∀ (a':Act) (w':World) (todo:List Item),(a'.defers=[]∧∃ v,ResultsC P fn' a'.tmps v∧Post' v w') →
   KMu P Final () (G { (base g).at a' todo with mode := .returning } (fr::cs)) w':=by
  rintro a' w' todo ⟨hd,v,hr,hp⟩
  obtain⟨y,rfl,hy⟩:=hq v w' hp
  refine C.go (fun w₁ => ?_) (hc y v hy)
  rw[stepG_leave (b:=base g) rfl hd hf (hr w₁).1 (hr w₁).2]
 refine hwp (base g) [] _ rfl (by simp[base]) fun γ' e a' w' q => ?_
 cases e with
 | normal=>exact C.go (fun _=>stepG_end) (hleave a' w' [] q)
 | ret=>exact fun todo=>hleave a' w' todo q
 | exit id=>exact q.elim
 | goto l=>exact q.elim
 | panic ch=>exact q.elim
 | outgrown=>exact q.elim
def newB (v:Value) (n:Nat) (b o:Nat):Prop:=v.ownBlock=some b∧o<n
def Cx.rowed (x:Cx) (w':World) (v:Value) (n:Nat):Cx:={ x with w:=w',Fz:=fun b o=>x.Fz b o∨newB v n b o }
section
variable {w':World} {v:Value} {e:TypeId} {s n:Nat} {xs:List Value}
theorem mono_rowed (hR:Rel x) (hs:x.w.heap.size≤w'.heap.size) (he:w'.os=x.w.os∧w'.output=x.w.output) (ho:∀ b,b<x.w.heap.size→w'.heap[b]? = x.w.heap[b]?) (hr:w'.ownsRow x.w.heap.size e s v n xs):Mono x (x.rowed w' v (n*s)) where
 size:=hs
 env:=he
 fz:=fun b o h=>⟨.inl h,by
  obtain⟨u,hu⟩:=hR.frz b o h
  exact cell_of_block (ho b (World.block_lt_of_cell? _ ⟨b,o,none⟩ hu)) o⟩
 nfz:=fun b o h=>h.imp id fun h => .inl (hr.lt b h.1).1
 old:=fun b hb _=>ho b hb
 len:=Nat.le_refl _
 cells:=fun id l h=>⟨rfl,l,h⟩
 objs:=fun id b h hb=>⟨rfl,⟨b,h,like_refl hb⟩,fun hd=>by
  obtain⟨o,h1,-⟩:=hR.objs id b h hb
  exact ho _ (Array.getElem?_eq_some_iff.1 h1).1⟩
 tails:=fun t e s n h=>⟨n,h,Nat.le_refl _,fun _=>⟨rfl,rfl⟩⟩
 live:=fun i h => .inl ⟨h,rfl⟩
theorem rel_rowed (hR:Rel x) (hs:x.w.heap.size≤w'.heap.size) (he:w'.os=x.w.os∧w'.output=x.w.output) (ho:∀ b,b<x.w.heap.size→w'.heap[b]? = x.w.heap[b]?) (hr:w'.ownsRow x.w.heap.size e s v n xs):Rel (x.rowed w' v (n*s)):=by
 have M:=mono_rowed hR hs he ho hr
 have hlt:∀ {b:Nat} {o:Obj},x.w.heap[b]? = some o→b<x.w.heap.size:=fun h=>(Array.getElem?_eq_some_iff.1 h).1
 have hnew:∀ b o,newB v (n*s) b o→x.w.heap.size≤b:=fun b o h=>(hr.lt b h.1).1
 refine⟨fun id l hl => ?_,fun id e' s' n' hl => ?_,fun id b hl hb => ?_,hR.inj,fun b o h => ?_,fun id hl o h => ?_,fun id e' s' n' hl o h => ?_⟩
 ·obtain⟨arr,e',h1,h2,h3⟩:=hR.cells id l hl
  exact⟨arr,e',(ho _ (hlt h1)).trans h1,h2,fun j c hc=>(h3 j c hc).mono M⟩
 ·obtain⟨arr,h1,h2⟩:=hR.tails id e' s' n' hl
  exact⟨arr,(ho _ (hlt h1)).trans h1,h2⟩
 ·obtain⟨o,h1,h2⟩:=hR.objs id b hl hb
  exact⟨o,(ho _ (hlt h1)).trans h1,h2.mono M⟩
 ·rcases h with h | h
  ·obtain⟨u,hu⟩:=hR.frz b o h
   exact⟨u,((M.fz b o h).2).trans hu⟩
  ·obtain⟨hv,hon⟩:=h
   rcases hr.2 with ⟨rfl,-⟩ | ⟨g,cap,cur,rfl,hb,hg,hn,hc,hcs,ht⟩
   ·simp[Value.ownBlock] at hv
   ·simp only[Value.ownBlock,Option.some.injEq] at hv
    subst hv
    have:o<cur.size:=by rw[hcs]; exact Nat.lt_of_lt_of_le hon (Nat.mul_le_mul_right _ hn)
    exact⟨cur[o],by simp only[World.cell?,Cx.rowed,hg]; exact Array.getElem?_eq_getElem this⟩
 ·rcases h with h | h
  ·exact hR.sep id hl o h
  ·obtain⟨l,hl⟩:=hl
   obtain⟨arr,e',h1,-⟩:=hR.cells id l hl
   have:=hnew _ _ h
   have:=hlt h1
   show False
   change x.w.heap.size≤x.μ id at *
   omega
 ·rcases h with h | h
  ·exact hR.sept id e' s' n' hl o h
  ·obtain⟨arr,h1,-⟩:=hR.tails id e' s' n' hl
   have h3:=hnew _ _ h
   have h4:=hlt h1
   change x.w.heap.size≤x.μ id at h3
   omega
theorem rv_rowed {rows:List DV} (hn:rows.length=n) (hrows:∀ r∈rows,r.cells.length=s) (hfl:flat rows=xs.map .val) (hpl:∀ u∈xs,plainV u=true∧(DV.val u).pure1=true) (hr:w'.ownsRow x.w.heap.size e s v n xs):RV (x.rowed w' v (n*s)) (.sl rows none ⟨false,none⟩) v:=by
 have hlen:=hr.1
 have hcell:∀ (j:Nat) (c:DV),(flat rows)[j]? = some c→∃ u,xs[j]? = some u∧c=DV.val u∧plainV u=true∧c.pure1=true:=by
  intro j c hc
  rw[hfl,List.getElem?_map,Option.map_eq_some_iff] at hc
  obtain⟨u,h1,rfl⟩:=hc
  have:=hpl u (List.mem_of_getElem? h1)
  exact⟨u,h1,rfl,this.1,this.2⟩
 subst hn
 rcases hr.2 with ⟨rfl,h0⟩ | ⟨g,cap,cur,rfl,hb,hg,hn,hc,hcs,ht⟩
 ·have hrn:rows=[]:=List.eq_nil_of_length_eq_zero h0
  subst hrn
  exact RV.sl (rows:=[]) (A:=none) (cap:=0) (s:=0) (vs:=fun _=>undef) ⟨by simp,by simp[flat]⟩ (by simp[flat]) (Nat.le_refl _) ⟨fun _=>rfl,fun b h=>nomatch h⟩ (fun _=>rfl) (fun _ h=>by cases h) (fun t ht=>by cases ht)
 ·have hget:∀ j u,xs[j]? = some u→cur[j]? = some u∧j<rows.length*s:=by
   intro j u hu
   rw[← ht,List.getElem?_take] at hu
   split at hu
   ·exact⟨by simpa using hu,‹_›⟩
   ·cases hu
  refine RV.sl (s:=s) (vs:=fun j=>xs.getD j undef) ⟨hrows,fun j c hcj => ?_⟩ (fun j c hcj => ?_) hn ⟨by simp,fun b h=>nomatch h⟩ (by simp) (fun ad h=>by cases h; rfl) (fun t ht=>nomatch ht)
  ·obtain⟨u,h1,rfl,h2,h3⟩:=hcell j c hcj
   obtain⟨h4,h5⟩:=hget j u h1
   refine⟨h3,g,0,rfl,.inr ⟨rfl,by omega⟩,?_⟩
   simp[World.cell?,Cx.rowed,hg,h4,List.getD_eq_getElem?_getD,h1]
  ·obtain⟨u,h1,rfl,h2,h3⟩:=hcell j c hcj
   simp only[List.getD_eq_getElem?_getD,h1,Option.getD_some]
   exact .val h2
end
def intsD:List DV→Option (List Int)
 | []=>some []
 | .val (.int .i64 n)::l=>(intsD l).map (n::·)
 | _=>none
def rowD:DV→Option (List Int)
 | .sl rows _ _=>intsD rows
 | _=>none
def rowsD:List DV→Option (List (List Int))
 | []=>some []
 | d::l=>match rowD d,rowsD l with
  | some r,some rs=>some (r::rs)
  | _,_=>none
def wkD:DV→Option Wk
 | .agg [_,_,.val (.int .i64 wear),l,u0,l0,u1,l1,u2,l2,u3,l3]=>match rowD l,rowsD [u0,u1,u2,u3],rowsD [l0,l1,l2,l3] with
  | some l,some us,some ls=>some ⟨l,wear,fun i=>us.getD i [],fun i=>ls.getD i []⟩
  | _,_,_=>none
 | _=>none
def htsB (l:List Int):Bool:=decide (l.length≤1000)&&l.all fun x=>decide (0≤x)&&decide (x≤9)
def ascB:List Int→Bool
 | []=>true
 | a::l=>l.all (fun b=>decide (a<b))&&ascB l
def wkB (d:Wk):Bool:=decide (d.lies.length≤1000)&&d.lies.all (fun x=>decide (0≤x)&&decide (x≤3))&&decide (0≤d.wear)&&decide (d.wear≤1000) &&
 (List.range 4).all (fun i=>htsB (d.up i)&&htsB (d.lo i))&&ascB d.lies
def smD (m:Sm):DV := .agg [.val (.int .i64 m.1),.val (.int .i64 m.2.1),.val (.int .i64 m.2.2)]
def seamsD (a b:DV):Option DV:=match wkD a,wkD b with
 | some da,some db=>if wkB da&&wkB db then some (.sl ((seamsM da db).map smD) none ⟨false,none⟩) else none
 | _,_=>none
theorem htsB_ok {l:List Int} (h:htsB l=true):Hts l:=by
 simp only[htsB,Bool.and_eq_true,decide_eq_true_eq,List.all_eq_true] at h
 exact⟨h.1,fun i x hx=>h.2 x (List.mem_of_getElem? hx)⟩
theorem ascB_ok:∀ {l:List Int},ascB l=true→Asc l
 | [],_=>List.Pairwise.nil
 | a::l,h=>by
  simp only[ascB,Bool.and_eq_true,List.all_eq_true,decide_eq_true_eq] at h
  exact List.Pairwise.cons h.1 (ascB_ok h.2)
theorem rowsD_len:∀ {l:List DV} {r:List (List Int)},rowsD l=some r→r.length=l.length∧∀ i:Nat,∀ d,l[i]? = some d→rowD d=some (r.getD i [])
 | [],r,h=>by cases h; simp
 | d::l,r,h=>by
  simp only[rowsD] at h
  split at h
  ·rename_i r1 rs h1 h2
   cases h
   obtain⟨h3,h4⟩:=rowsD_len h2
   refine⟨by simp[h3],fun i d' hd => ?_⟩
   cases i with
   | zero=>simp at hd; subst hd; simpa using h1
   | succ i=>simp at hd; simpa using h4 i d' hd
  ·cases h
theorem intsD_get:∀ {l:List DV} {r:List Int},intsD l=some r→r.length=l.length∧(∀ (i:Nat) (n:Int),r[i]? = some n→l[i]? = some (.val (.int .i64 n)))∧flat l=l
 | [],r,h=>by cases h; simp[flat]
 | .val (.int .i64 n)::l,r,h=>by
  simp only[intsD,Option.map_eq_some_iff] at h
  obtain⟨r',h1,rfl⟩:=h
  obtain⟨h2,h3,h4⟩:=intsD_get h1
  refine⟨by simp[h2],fun i m hm => ?_,?_⟩
  ·cases i with
   | zero=>simp at hm; subst hm; rfl
   | succ i=>simp at hm; simpa using h3 i m hm
  ·simp only[flat,List.flatMap_cons,DV.cells] at h4 ⊢
   rw[h4]
   rfl
def oldG (w:World):So:=(fun b=>b<w.heap.size,fun _=>False)
theorem rv_ils {d:DV} {r:List Int} {v:Value} (hd:rowD d=some r) (h:RV x d v):Ils (oldG x.w) x.w v r:=by
 unfold rowD at hd
 split at hd
 ·rename_i rows tok f
  obtain⟨h1,h2,h3⟩:=intsD_get hd
  cases h with
  | @sl _ _ _ A cap s vs hv hr k1 k2 k3 k4 k5 =>
   refine⟨A,cap,by rw[h1],fun i n hn => ?_⟩
   have hc:(flat rows)[i]? = some (.val (.int .i64 n)):=by rw[h3]; exact h2 i n hn
   obtain⟨-,b,o,q1,q2,q3⟩:=hv.2 i _ hc
   have:=hr i _ hc
   generalize vs i=u at *
   cases this with
   | val _ =>
    refine⟨_,q1,?_⟩
    rw[addr_add]
    exact⟨.inl (World.block_lt_of_cell? _ ⟨b,o+i,none⟩ q3),q3⟩
 ·cases hd
theorem wkD_ok {d:DV} {k:Wk} {v:Value} (hd:wkD d=some k) (h:RV x d v):∃ ca,v = .agg ca∧WorkV (oldG x.w) x.w ca k:=by
 unfold wkD at hd
 split at hd
 ·rename_i c0 c1 wear l u0 l0 u1 l1 u2 l2 u3 l3
  split at hd
  ·rename_i lr us ls h1 h2 h3
   cases hd
   cases h with
   | @agg _ ca hsz hc =>
    refine⟨ca,rfl,?_⟩
    have hget:∀ (j:Nat) d,([c0,c1,.val (.int .i64 wear),l,u0,l0,u1,l1,u2,l2,u3,l3]:List DV)[j]? = some d→∃ u,ca[j]? = some u∧RV x d u:=by
     intro j d hj
     have hlt:j<ca.size:=by rw[hsz]; exact(List.getElem?_eq_some_iff.1 hj).1
     have:=hc j d hj
     simp only[Array.getD_eq_getD_getElem?,Array.getElem?_eq_getElem hlt,Option.getD_some] at this
     exact⟨ca[j],Array.getElem?_eq_getElem hlt,this⟩
    obtain⟨-,hu⟩:=rowsD_len h2
    obtain⟨-,hl⟩:=rowsD_len h3
    refine⟨?_,?_,fun i hi => ?_,fun i hi => ?_⟩
    ·obtain⟨u,q1,q2⟩:=hget 2 _ rfl
     cases q2
     exact q1
    ·obtain⟨u,q1,q2⟩:=hget 3 _ rfl
     exact⟨u,q1,rv_ils h1 q2⟩
    ·have:i=0∨i=1∨i=2∨i=3:=by omega
     rcases this with rfl | rfl | rfl | rfl
     ·obtain⟨u,q1,q2⟩:=hget 4 _ rfl; exact⟨u,q1,rv_ils (hu 0 _ rfl) q2⟩
     ·obtain⟨u,q1,q2⟩:=hget 6 _ rfl; exact⟨u,q1,rv_ils (hu 1 _ rfl) q2⟩
     ·obtain⟨u,q1,q2⟩:=hget 8 _ rfl; exact⟨u,q1,rv_ils (hu 2 _ rfl) q2⟩
     ·obtain⟨u,q1,q2⟩:=hget 10 _ rfl; exact⟨u,q1,rv_ils (hu 3 _ rfl) q2⟩
    ·have:i=0∨i=1∨i=2∨i=3:=by omega
     rcases this with rfl | rfl | rfl | rfl
     ·obtain⟨u,q1,q2⟩:=hget 5 _ rfl; exact⟨u,q1,rv_ils (hl 0 _ rfl) q2⟩
     ·obtain⟨u,q1,q2⟩:=hget 7 _ rfl; exact⟨u,q1,rv_ils (hl 1 _ rfl) q2⟩
     ·obtain⟨u,q1,q2⟩:=hget 9 _ rfl; exact⟨u,q1,rv_ils (hl 2 _ rfl) q2⟩
     ·obtain⟨u,q1,q2⟩:=hget 11 _ rfl; exact⟨u,q1,rv_ils (hl 3 _ rfl) q2⟩
  ·cases hd
 ·cases hd
theorem wkD_far {d:DV} {k:Wk} (hd:wkD d=some k):∀ i,4≤i→k.up i=[]∧k.lo i=[]:=by
 unfold wkD at hd
 split at hd
 ·split at hd
  ·rename_i lr us ls h1 h2 h3
   cases hd
   have h4:=(rowsD_len h2).1
   have h5:=(rowsD_len h3).1
   simp only[List.length_cons,List.length_nil] at h4 h5
   intro i hi
   simp only[List.getD_eq_getElem?_getD]
   rw[List.getElem?_eq_none (by omega),List.getElem?_eq_none (by omega)]
   exact⟨rfl,rfl⟩
  ·cases hd
 ·cases hd
theorem wkB_ok {d:DV} {k:Wk} (hd:wkD d=some k) (h:wkB k=true):k.ok∧Asc k.lies:=by
 simp only[wkB,Bool.and_eq_true,decide_eq_true_eq,List.all_eq_true] at h
 obtain⟨⟨⟨⟨⟨h1,h2⟩,h3⟩,h4⟩,h5⟩,h6⟩:=h
 have far:=wkD_far hd
 refine⟨⟨h1,fun i x hx=>h2 x (List.mem_of_getElem? hx),⟨h3,h4⟩,fun i => ?_,fun i => ?_⟩,ascB_ok h6⟩
 ·rcases Nat.lt_or_ge i 4 with hi | hi
  ·exact htsB_ok (h5 i (by simpa using hi)).1
  ·rw[(far i hi).1]; exact⟨by simp,by simp⟩
 ·rcases Nat.lt_or_ge i 4 with hi | hi
  ·exact htsB_ok (h5 i (by simpa using hi)).2
  ·rw[(far i hi).2]; exact⟨by simp,by simp⟩
theorem flat_smD (l:List Sm):flat (l.map smD)=(l.flatMap smC).map .val:=by
 induction l with
 | nil=>rfl
 | cons m l ih =>
  simp only[flat,List.map_cons,List.flatMap_cons,List.map_append] at ih ⊢
  rw[ih]
  rfl
theorem seams_known {a b d:DV} (h:seamsD a b=some d) {vals:Array Value} (hR:Rel x) (ha:RVs x [a,b] vals):EnterOK Try.prog Final x 33 vals fun y u=>y.S=x.S∧Rel y∧Mono x y∧RV y d u:=by
 unfold seamsD at h
 split at h
 ·rename_i da db h1 h2
  split at h
  ·rename_i hb
   cases h
   simp only[Bool.and_eq_true] at hb
   obtain⟨hda,haa⟩:=wkB_ok h1 hb.1
   obtain⟨hdb,hab⟩:=wkB_ok h2 hb.2
   obtain⟨hsz,hget⟩:=ha
   have e:vals=#[vals.getD 0 undef,vals.getD 1 undef]:=by
    obtain⟨l⟩:=vals
    match l,hsz with
    | [u,v],_=>rfl
   obtain⟨ca,hca,hva⟩:=wkD_ok h1 (hget 0 _ rfl)
   obtain⟨cb,hcb,hvb⟩:=wkD_ok h2 (hget 1 _ rfl)
   rw[hca,hcb] at e
   subst e
   have key:=seams_k (Final:=Final) hda hdb haa hab hva hvb
   refine enter_kcall plain_try (kcall_down (Post':=fun v w'=>x.w.heap.size≤w'.heap.size∧(w'.os=x.w.os∧w'.output=x.w.output)∧(∀ b,b<x.w.heap.size→w'.heap[b]? = x.w.heap[b]?)∧w'.ownsRow x.w.heap.size 56 3 v (seamsM da db).length ((seamsM da db).flatMap smC)) (fun γ' v w w1 hp _ r => ?_) key) fun v w' hp => ?_
   ·obtain⟨hk,ho⟩:=hp
    refine⟨Nat.le_trans hk.size r.1,⟨r.2.2.2.1.trans hk.env.1,r.2.2.2.2.trans hk.env.2⟩,fun b hb => ?_,(ho.rely r).1⟩
    have hall:(oldG x.w).all b := .inl hb
    exact(r.2.1 b (hk.all hall)).trans (hk.blk b hall hb)
   ·obtain⟨p1,p2,p3,p4⟩:=hp
    refine⟨x.rowed w' v ((seamsM da db).length*3),rfl,rfl,rel_rowed hR p1 p2 p3 p4,mono_rowed hR p1 p2 p3 p4,rv_rowed (by simp) (fun r hr => ?_) (flat_smD _) (fun u hu => ?_) p4⟩
    ·simp only[List.mem_map] at hr
     obtain⟨m,-,rfl⟩:=hr
     rfl
    ·simp only[List.mem_flatMap,smC,List.mem_cons,List.not_mem_nil,or_false] at hu
     obtain⟨m,-,rfl | rfl | rfl⟩:=hu<;>exact⟨rfl,rfl⟩
  ·cases h
 ·cases h
end Go.Di
end
