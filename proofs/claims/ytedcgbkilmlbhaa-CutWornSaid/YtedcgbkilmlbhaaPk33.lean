import Derived.Test.YtedcgbkilmlbhaaPk32
import Derived.Shelf.SlSortCmp.WholeK
import Derived.Shelf.SlicesG.Cmp
import Derived.Shelf.Lay
import Derived.Ground.SlsfProg
import Derived.Ground.SlgcProg
import Derived.WalkKit
import Derived.WalkSpells
import Derived.WalkLawsBesides
import Derived.StillTailTactics
import Derived.Deep.QuietTactic
import Derived.BigQuiet
import Derived.Lib.Hide
import Derived.Test.YtedcgbkilmlbhaaPk20
import Derived.Test.YtedcgbkilmlbhaaChecked
import Derived.KernelRfl
import Derived.Test.YtedcgbkilmlbhaaPk25
import Derived.Test.YtedcgbkilmlbhaaPk28
section
namespace Go.Proofs
open Go.Shelf Go.RowKit Go.Lib Go.Sort
def Try.CI:Go.Shelf.Ren:=⟨fun | 6=>61 | 15=>78 | 14=>77 | 28=>92 | 29=>93 | 20=>84 | 21=>85 | 22=>86 | 23=>87 | 24=>88 | 25=>89 | 26=>90 | 27=>91 | 46=>97 | 47=>98 | 48=>99 | 49=>100 | 50=>101 | 57=>104 | n=>n,fun | 22=>33 | 24=>56 | 25=>119 | 3=>3 | 39=>106 | 0=>0 | 53=>146 | 55=>57 | 4=>4 | 46=>140 | 45=>139 | 50=>49 | 5=>5 | 9=>9 | 66=>149 | 70=>152 | 76=>155 | 77=>156 | n=>n,fun | n=>n⟩
theorem Try.DW:Go.Proofs.SlLaysF0.n6 Try.prog Try.CI:={
 mixed:=by kernel_rfl
 f6:=⟨Try.f61.name,by decide,Try.func61.trans (congrArg some (by kernel_rfl))⟩
 f14:=⟨Try.f77.name,by decide,Try.func77.trans (congrArg some (by kernel_rfl))⟩
 f15:=Try.func78.trans (congrArg some (by kernel_rfl))
 f20:=⟨Try.f84.name,by decide,Try.func84.trans (congrArg some (by kernel_rfl))⟩
 f21:=⟨Try.f85.name,by decide,Try.func85.trans (congrArg some (by kernel_rfl))⟩
 f22:=⟨Try.f86.name,by decide,Try.func86.trans (congrArg some (by kernel_rfl))⟩
 f23:=⟨Try.f87.name,by decide,Try.func87.trans (congrArg some (by kernel_rfl))⟩
 f24:=⟨Try.f88.name,by decide,Try.func88.trans (congrArg some (by kernel_rfl))⟩
 f25:=⟨Try.f89.name,by decide,Try.func89.trans (congrArg some (by kernel_rfl))⟩
 f26:=⟨Try.f90.name,by decide,Try.func90.trans (congrArg some (by kernel_rfl))⟩
 f27:=⟨Try.f91.name,by decide,Try.func91.trans (congrArg some (by kernel_rfl))⟩
 f28:=Try.func92.trans (congrArg some (by kernel_rfl))
 f29:=Try.func93.trans (congrArg some (by kernel_rfl))
 f46:=⟨Try.f97.name,by decide,Try.func97.trans (congrArg some (by kernel_rfl))⟩
 f47:=Try.func98.trans (congrArg some (by kernel_rfl))
 f48:=Try.func99.trans (congrArg some (by kernel_rfl))
 f49:=⟨Try.f100.name,by decide,Try.func100.trans (congrArg some (by kernel_rfl))⟩
 f50:=⟨Try.f101.name,by decide,Try.func101.trans (congrArg some (by kernel_rfl))⟩
 f57:=⟨Try.f104.name,by decide,Try.func104.trans (congrArg some (by kernel_rfl))⟩
 t0:=Try.underlying0
 a0:=Try.isAgg0
 z0:=Try.sizeOf0
 v0:=Try.zeroValue0
 t3:=Try.underlying3
 a3:=Try.isAgg3
 z3:=Try.sizeOf3
 v3:=Try.zeroValue3
 t4:=Try.underlying4
 a4:=Try.isAgg4
 z4:=Try.sizeOf4
 v4:=Try.zeroValue4
 t5:=Try.underlying5
 a5:=Try.isAgg5
 z5:=Try.sizeOf5
 v5:=Try.zeroValue5
 t9:=Try.underlying9
 a9:=Try.isAgg9
 z9:=Try.sizeOf9
 v9:=Try.zeroValue9
 t22:=Try.underlying33
 a22:=Try.isAgg33
 z22:=Try.sizeOf33
 v22:=Try.zeroValue33
 t25:=Try.underlying119
 a25:=Try.isAgg119
 z25:=Try.sizeOf119
 v25:=Try.zeroValue119
 t39:=Try.underlying106
 a39:=Try.isAgg106
 z39:=Try.sizeOf106
 v39:=Try.zeroValue106
 t45:=Try.underlying139
 a45:=Try.isAgg139
 z45:=Try.sizeOf139
 v45:=Try.zeroValue139
 t46:=Try.underlying140
 a46:=Try.isAgg140
 z46:=Try.sizeOf140
 v46:=Try.zeroValue140
 t50:=Try.underlying49
 a50:=Try.isAgg49
 z50:=Try.sizeOf49
 v50:=Try.zeroValue49
 t53:=Try.underlying146
 a53:=Try.isAgg146
 z53:=Try.sizeOf146
 v53:=Try.zeroValue146
 t55:=Try.underlying57
 a55:=Try.isAgg57
 z55:=Try.sizeOf57
 v55:=Try.zeroValue57
 t66:=Try.underlying149
 a66:=Try.isAgg149
 z66:=Try.sizeOf149
 v66:=Try.zeroValue149
 t70:=Try.underlying152
 a70:=Try.isAgg152
 z70:=Try.sizeOf152
 v70:=Try.zeroValue152
 t76:=Try.underlying155
 a76:=Try.isAgg155
 z76:=Try.sizeOf155
 v76:=Try.zeroValue155
 t77:=Try.underlying156
 a77:=Try.isAgg156
 z77:=Try.sizeOf156
 v77:=Try.zeroValue156 }
def Try.GX:Go.Shelf.Ren:=⟨fun | 5=>64 | 7=>79 | n=>n,fun | 22=>3 | 3=>3 | 4=>4 | n=>n,fun | n=>n⟩
theorem Try.Wo:Go.Proofs.SlLaysC2.n5 Try.prog Try.GX:={
 mixed:=by kernel_rfl
 f5:=⟨Try.f64.name,by decide,Try.func64.trans (congrArg some (by kernel_rfl))⟩
 f7:=⟨Try.f79.name,by decide,Try.func79.trans (congrArg some (by kernel_rfl))⟩
 t3:=Try.underlying3
 a3:=Try.isAgg3
 z3:=Try.sizeOf3
 v3:=Try.zeroValue3
 t4:=Try.underlying4
 a4:=Try.isAgg4
 z4:=Try.sizeOf4
 v4:=Try.zeroValue4
 t22:=Try.underlying3
 a22:=Try.isAgg3
 z22:=Try.sizeOf3
 v22:=Try.zeroValue3 }
theorem Try.Z7 (x y:Int) (w:World):Calls Try.prog 64 #[.int .i64 x,.int .i64 y] w fun e w'=>e = .returned (.int .i64 (Lib.compareInt x y))∧w'=w:=by
 have h:=AnyG.cmp_Compare_int Try.Wo x y w
 exact h
def Px (a b c:Int):Int:=if a=0 then if b=0 then c else b else a
set_option maxHeartbeats 1000000 in
theorem Try.aak (a b c:Int) (n:Nat) (w:World) (h0:w.cell? ⟨n,0,none⟩=some (.int .i64 a)) (h1:w.cell? ⟨n,1,none⟩=some (.int .i64 b)) (h2:w.cell? ⟨n,2,none⟩=some (.int .i64 c)) :
  Calls Try.prog 63 #[.slice (some ⟨n,0,none⟩) 3 3] w fun e w'=>e = .returned (.int .i64 (Px a b c))∧w'=w:=by
 have hr:(a≠0→Px a b c=a)∧(a=0→b≠0→Px a b c=b)∧(a=0→b=0→Px a b c=c):=by
  refine⟨fun h=>if_neg h,fun h h' => ?_,fun h h' => ?_⟩
  ·unfold Px; rw[if_pos h,if_neg h']
  ·unfold Px; rw[if_pos h,if_pos h']
 generalize Px a b c=r at hr ⊢
 go_enter Try.func63,Try.ntmps63
 go_wp2
 go_loop [5,8] (fun _ i=>∃ k:Nat,k≤3∧i = .int .i64 k∧(1≤k→a=0)∧(2≤k→b=0)∧(3≤k→c=0)) (fun _ i=>3-(intOf i).toNat)
 case atStart=>exact⟨0,by omega,rfl,by omega,by omega,by omega⟩
 case round =>
  obtain⟨k,hk,rfl,ha,hb,hc⟩:=hrel
  have Wh:k=0∨k=1∨k=2∨k=3:=by omega
  rcases Wh with rfl | rfl | rfl | rfl
  ·clear ha hb hc
   by_cases hz:a=0
   ·subst hz
    go_wp2
    go_round
    case rel=>exact⟨1,by omega,by go_num,by simp,by omega,by omega⟩
    case measure=>simp[intOf]
   ·have TU:=hr.1 hz
    clear hr
    subst TU
    go_wp2
    go_ret
    exact⟨rfl,rfl⟩
  ·have ha:=ha (by omega)
   subst ha
   clear hb hc h0
   by_cases hz:b=0
   ·subst hz
    go_wp2
    go_round
    case rel=>exact⟨2,by omega,by go_num,by simp,by simp,by omega⟩
    case measure=>simp[intOf]
   ·have TU:=hr.2.1 rfl hz
    clear hr
    subst TU
    go_wp2
    go_ret
    exact⟨rfl,rfl⟩
  ·have ha:=ha (by omega)
   have hb:=hb (by omega)
   subst ha
   subst hb
   clear hc h0 h1
   by_cases hz:c=0
   ·subst hz
    go_wp2
    go_round
    case rel=>exact⟨3,by omega,by go_num,by simp,by simp,by simp⟩
    case measure=>simp[intOf]
   ·have TU:=hr.2.2 rfl rfl
    clear hr
    subst TU
    go_wp2
    go_ret
    exact⟨rfl,rfl⟩
  ·have ha:=ha (by omega)
   have hb:=hb (by omega)
   have hc:=hc (by omega)
   have TU:=hr.2.2 ha hb
   subst ha
   subst hb
   subst hc
   clear hr h0 h1 h2
   subst TU
   go_wp2
   go_ret
   exact⟨rfl,rfl⟩
def sJ (x y:Int×Int×Int):Int:=Px (Lib.compareInt x.1 y.1) (Lib.compareInt x.2.1 y.2.1) (Lib.compareInt x.2.2 y.2.2)
set_option maxRecDepth 100000 in
set_option maxHeartbeats 1000000 in
theorem Try.Ku (x y:Int×Int×Int) (W:World):Calls Try.prog 62 #[.agg #[.int .i64 x.1,.int .i64 x.2.1,.int .i64 x.2.2],.agg #[.int .i64 y.1,.int .i64 y.2.1,.int .i64 y.2.2]] W fun e w'=>e = .returned (.int .i64 (sJ x y))∧∃ q os',w'=grow (W.drewN q) os':=by
 obtain⟨x1,x2,x3⟩:=x
 obtain⟨y1,y2,y3⟩:=y
 have P7:=Try.Z7
 unfold sJ
 simp only
 have hA:=P7 x1 y1
 have hB:=P7 x2 y2
 have hC:=P7 x3 y3
 clear P7
 generalize Lib.compareInt x1 y1=A at *
 generalize Lib.compareInt x2 y2=B at *
 generalize Lib.compareInt x3 y3=C at *
 go_enter Try.func62,Try.ntmps62
 go_wp2
 refine wp_region_still_tail 15 (by kernel_rfl) (by kernel_rfl) ?_
 simp only[List.take_succ_cons,List.take_zero,List.drop_succ_cons,List.drop_zero]
 have a1:((W.alloc (.cells #[.int .i64 x1,.int .i64 x2,.int .i64 x3] 56)).alloc (.cells #[.int .i64 y1,.int .i64 y2,.int .i64 y3] 56)).drew.cell? ⟨W.heap.size,0,none⟩=some (.int .i64 x1):=by
  refine(World.cell?_alloc_lt _ _ _ (by simp)).trans ?_
  rw[World.cell?_alloc_new]; rfl
 have a2:((W.alloc (.cells #[.int .i64 x1,.int .i64 x2,.int .i64 x3] 56)).alloc (.cells #[.int .i64 y1,.int .i64 y2,.int .i64 y3] 56)).drew.cell? ⟨W.heap.size,1,none⟩=some (.int .i64 x2):=by
  refine(World.cell?_alloc_lt _ _ _ (by simp)).trans ?_
  rw[World.cell?_alloc_new]; rfl
 have a3:((W.alloc (.cells #[.int .i64 x1,.int .i64 x2,.int .i64 x3] 56)).alloc (.cells #[.int .i64 y1,.int .i64 y2,.int .i64 y3] 56)).drew.cell? ⟨W.heap.size,2,none⟩=some (.int .i64 x3):=by
  refine(World.cell?_alloc_lt _ _ _ (by simp)).trans ?_
  rw[World.cell?_alloc_new]; rfl
 have b1:((W.alloc (.cells #[.int .i64 x1,.int .i64 x2,.int .i64 x3] 56)).alloc (.cells #[.int .i64 y1,.int .i64 y2,.int .i64 y3] 56)).drew.cell? ⟨W.heap.size+1,0,none⟩=some (.int .i64 y1):=by
  have h:=World.cell?_alloc_new (W.alloc (.cells #[.int .i64 x1,.int .i64 x2,.int .i64 x3] 56)) #[.int .i64 y1,.int .i64 y2,.int .i64 y3] 56 0
  rw[show (W.alloc (.cells #[.int .i64 x1,.int .i64 x2,.int .i64 x3] 56)).heap.size=W.heap.size+1 by simp] at h
  exact h.trans rfl
 have b2:((W.alloc (.cells #[.int .i64 x1,.int .i64 x2,.int .i64 x3] 56)).alloc (.cells #[.int .i64 y1,.int .i64 y2,.int .i64 y3] 56)).drew.cell? ⟨W.heap.size+1,1,none⟩=some (.int .i64 y2):=by
  have h:=World.cell?_alloc_new (W.alloc (.cells #[.int .i64 x1,.int .i64 x2,.int .i64 x3] 56)) #[.int .i64 y1,.int .i64 y2,.int .i64 y3] 56 1
  rw[show (W.alloc (.cells #[.int .i64 x1,.int .i64 x2,.int .i64 x3] 56)).heap.size=W.heap.size+1 by simp] at h
  exact h.trans rfl
 have b3:((W.alloc (.cells #[.int .i64 x1,.int .i64 x2,.int .i64 x3] 56)).alloc (.cells #[.int .i64 y1,.int .i64 y2,.int .i64 y3] 56)).drew.cell? ⟨W.heap.size+1,2,none⟩=some (.int .i64 y3):=by
  have h:=World.cell?_alloc_new (W.alloc (.cells #[.int .i64 x1,.int .i64 x2,.int .i64 x3] 56)) #[.int .i64 y1,.int .i64 y2,.int .i64 y3] 56 2
  rw[show (W.alloc (.cells #[.int .i64 x1,.int .i64 x2,.int .i64 x3] 56)).heap.size=W.heap.size+1 by simp] at h
  exact h.trans rfl
 have hg:((W.alloc (.cells #[.int .i64 x1,.int .i64 x2,.int .i64 x3] 56)).alloc (.cells #[.int .i64 y1,.int .i64 y2,.int .i64 y3] 56)).drew=grow (W.drewN 1) (#[.cells #[.int .i64 x1,.int .i64 x2,.int .i64 x3] 56]++#[.cells #[.int .i64 y1,.int .i64 y2,.int .i64 y3] 56]):=by
  rw[alloc_eq_grow,alloc_eq_grow,grow_grow]; rfl
 change wpStill _ _ ((W.alloc (.cells #[.int .i64 x1,.int .i64 x2,.int .i64 x3] 56)).alloc (.cells #[.int .i64 y1,.int .i64 y2,.int .i64 y3] 56)).drew (fun a'=>wpList _ _ _ _ a' ((W.alloc (.cells #[.int .i64 x1,.int .i64 x2,.int .i64 x3] 56)).alloc (.cells #[.int .i64 y1,.int .i64 y2,.int .i64 y3] 56)).drew) _ _
 generalize ((W.alloc (.cells #[.int .i64 x1,.int .i64 x2,.int .i64 x3] 56)).alloc (.cells #[.int .i64 y1,.int .i64 y2,.int .i64 y3] 56)).drew=W2 at *
 have HG:=Lib.hid hg
 clear hg
 repeat still_step
 still_call (hA _)
 repeat still_step
 still_call (hB _)
 repeat still_step
 still_call (hC _)
 repeat still_step
 refine wpStill_nil ?_
 clear a1 a2 a3 b1 b2 b3 hA hB hC
 have c0:(W2.alloc (.cells #[.int .i64 A,.int .i64 B,.int .i64 C] 3)).cell? ⟨W2.heap.size,0,none⟩=some (.int .i64 A):=by rw[World.cell?_alloc_new]; rfl
 have c1:(W2.alloc (.cells #[.int .i64 A,.int .i64 B,.int .i64 C] 3)).cell? ⟨W2.heap.size,1,none⟩=some (.int .i64 B):=by rw[World.cell?_alloc_new]; rfl
 have c2:(W2.alloc (.cells #[.int .i64 A,.int .i64 B,.int .i64 C] 3)).cell? ⟨W2.heap.size,2,none⟩=some (.int .i64 C):=by rw[World.cell?_alloc_new]; rfl
 have hor:=Try.aak A B C W2.heap.size _ c0 c1 c2
 clear c0 c1 c2
 go_wp2_with (go_at_call 63; refine hor.mono ?_; rintro e w' ⟨rfl,rfl⟩)
 go_ret
 have qV:∃ q os',W2.alloc (.cells #[.int .i64 A,.int .i64 B,.int .i64 C] 3)=grow (W.drewN q) os' :=
  ⟨1,(#[.cells #[.int .i64 x1,.int .i64 x2,.int .i64 x3] 56]++#[.cells #[.int .i64 y1,.int .i64 y2,.int .i64 y3] 56])++#[.cells #[.int .i64 A,.int .i64 B,.int .i64 C] 3],by rw[alloc_eq_grow,HG.out,grow_grow]⟩
 exact⟨rfl,qV⟩
end Go.Proofs
end
section
namespace Go.Co
open Go Go.Conc Go.Proofs Go.Sort Go.Shelf
def KD (x y:Sm):Prop:=x.1<y.1∨(x.1=y.1∧(x.2.1<y.2.1∨(x.2.1=y.2.1∧x.2.2<y.2.2)))
theorem uT (x y:Int):(x<y∧Lib.compareInt x y = -1)∨(x=y∧Lib.compareInt x y=0)∨(y<x∧Lib.compareInt x y=1):=by
 unfold Lib.compareInt
 by_cases h1:x<y
 ·exact .inl ⟨h1,by rw[if_pos h1]⟩
 ·by_cases h2:y<x
  ·exact .inr (.inr ⟨h2,by rw[if_neg h1,if_pos h2]⟩)
  ·exact .inr (.inl ⟨by omega,by rw[if_neg h1,if_neg h2]⟩)
theorem lt_iff (x y:Sm):ltOf sJ x y=true↔KD x y:=by
 obtain⟨x1,x2,x3⟩:=x
 obtain⟨y1,y2,y3⟩:=y
 unfold ltOf sJ Px KD
 simp only[decide_eq_true_eq]
 rcases uT x1 y1 with ⟨h1,e1⟩ | ⟨h1,e1⟩ | ⟨h1,e1⟩<;>rcases uT x2 y2 with ⟨h2,e2⟩ | ⟨h2,e2⟩ | ⟨h2,e2⟩<;>rcases uT x3 y3 with ⟨h3,e3⟩ | ⟨h3,e3⟩ | ⟨h3,e3⟩<;>simp[e1,e2,e3]<;>omega
theorem yg (x y:Sm):ltOf sJ x y=false↔¬ KD x y:=by
 rw[← lt_iff]; simp
theorem Y9:SWO (ltOf sJ) where
 irrefl x:=by rw[yg]; unfold KD; omega
 trans x y z h1 h2:=by rw[lt_iff] at *; unfold KD at *; omega
 ntrans x y z h1 h2:=by rw[yg] at *; unfold KD at *; omega
theorem Jz {d:Array Sm} {R:List Sm} (hp:d.toList.Perm R) (hs:SortedIn (ltOf sJ) 0 d.size d) (hR:R.Pairwise KD):d.toList=R:=by
 refine List.Perm.eq_of_pairwise (le:=fun x y=>¬ KD y x) (fun a b _ _ h1 h2 => ?_) ?_ (hR.imp fun {a b} h => ?_) hp
 ·obtain⟨a1,a2,a3⟩:=a
  obtain⟨b1,b2,b3⟩:=b
  unfold KD at h1 h2
  simp only at h1 h2
  have e1:a1=b1:=by omega
  have e2:a2=b2:=by omega
  have e3:a3=b3:=by omega
  rw[e1,e2,e3]
 ·rw[List.pairwise_iff_getElem]
  intro i j hi hj He
  have h:=hs i j (Nat.zero_le _) He (by simpa using hj)
  rw[yg] at h
  simp only[Array.length_toList] at hi hj
  rw[getElem!_pos d i hi,getElem!_pos d j hj] at h
  simpa using h
 ·unfold KD at *; omega
def Pn (l:List Int):Prop:=l.Pairwise (· < ·)
theorem Gp (low up:List Int) (bH:Int):Pn (jV low up bH):=by
 unfold Pn jV KA
 refine List.Pairwise.filter _ ?_
 rw[List.pairwise_map]
 exact List.pairwise_lt_range.imp fun {a b} h=>by omega
theorem JC {da db:Wk} (ha:Pn da.aO) (hb:Pn db.aO):(cB da db).Pairwise KD:=by
 unfold cB
 rw[List.pairwise_flatMap]
 refine⟨fun x _ => ?_,ha.imp fun {x x'} h => ?_⟩
 ·rw[List.pairwise_flatMap]
  refine⟨fun y _ => ?_,hb.imp fun {y y'} h => ?_⟩
  ·rw[List.pairwise_map]
   exact(Gp _ _ _).imp fun {s s'} h => .inr ⟨rfl,.inr ⟨rfl,h⟩⟩
  ·intro m hm m' E7
   obtain⟨s,_,rfl⟩:=List.mem_map.1 hm
   obtain⟨s',_,rfl⟩:=List.mem_map.1 E7
   exact .inr ⟨rfl,.inl h⟩
 ·intro m hm m' E7
  obtain⟨y,_,hm⟩:=List.mem_flatMap.1 hm
  obtain⟨y',_,E7⟩:=List.mem_flatMap.1 E7
  obtain⟨s,_,rfl⟩:=List.mem_map.1 hm
  obtain⟨s',_,rfl⟩:=List.mem_map.1 E7
  exact .inl h
theorem Bc (d:Array Sm):(flatK mS 3 d).toList=d.toList.flatMap mS:=by
 apply List.ext_getElem?
 intro t
 have hlen:(d.toList.flatMap mS).length=d.size*3:=by rw[Ci]; simp
 by_cases ht:t<d.size*3
 ·have h1:=get_flatK mS 3 d t ht
  rw[getElem!_pos _ t (by simpa using ht)] at h1
  rw[Array.getElem?_toList,Array.getElem?_eq_getElem (by simpa using ht),h1]
  have key:∀ (l:List Sm) (t:Nat),t<l.length*3→(l.flatMap mS)[t]? = some ((mS (l[t / 3]!))[t % 3]!):=by
   intro l
   induction l with
   | nil=>intro t h; simp at h
   | cons m l ih =>
    intro t h
    rw[List.flatMap_cons]
    by_cases h3:t<3
    ·have e0:t / 3=0:=by omega
     have e1:t % 3=t:=by omega
     rw[e0,e1,List.getElem?_append_left (by simpa [mS] using h3)]
     have:t=0∨t=1∨t=2:=by omega
     rcases this with rfl | rfl | rfl<;>rfl
    ·obtain⟨s,rfl⟩:∃ s,t=s+3:=⟨t-3,by omega⟩
     have e0:(s+3) / 3=s / 3+1:=by omega
     have e1:(s+3) % 3=s % 3:=by omega
     rw[e0,e1,List.getElem?_append_right (by simp[mS])]
     have:=ih s (by simp at h; omega)
     simpa [mS] using this
  rw[key d.toList t (by simpa using ht)]
  congr 3
  have hd:t / 3<d.size:=by omega
  rw[getElem!_pos d _ hd,getElem!_pos d.toList _ (by simpa using hd)]
  simp
 ·rw[List.getElem?_eq_none (by simp; omega),List.getElem?_eq_none (by omega)]
theorem GK {w:World} {g:Nat} {cur:Array Value} {e:TypeId} {d:Array Sm} (hb:w.heap[g]? = some (.cells cur e (0,0))) (ht:cur.toList.take (d.size*3)=d.toList.flatMap mS):HoldsK mS 3 w g 0 d:=by
 intro j hj
 rw[size_flatK] at hj
 refine⟨?_,by simp[World.frozen?,hb]⟩
 have h1:(cur.toList.take (d.size*3))[j]? = (flatK mS 3 d).toList[j]? := by rw[ht,Bc]
 rw[List.getElem?_take_of_lt hj] at h1
 simp only[World.cell?,hb,Nat.zero_add]
 simp only[Option.isSome_none,Bool.false_eq_true,if_false]
 rw[← Array.getElem?_toList,h1,Array.getElem?_toList,Array.getElem?_eq_getElem (by simpa using hj),getElem!_pos _ j (by simpa using hj)]
 rfl
theorem Ko {w:World} {g n:Nat} {os:Array Obj} {cur:Array Value} {e:TypeId} {fr:Nat×Nat} (d:Array Sm) (hb:w.heap[g]? = some (.cells cur e fr)) :
  (sortWorldK mS 3 w g 0 n d os).heap[g]? = some (.cells (putCells id 0 (flatK mS 3 d) cur) e fr):=by
 have hg:g<w.heap.size:=(Array.getElem?_eq_some_iff.1 hb).1
 unfold sortWorldK putRowK
 rw[heap_grow_old _ _ (by simpa using hg)]
 simp[putRow,mapBlock,Sort.ahead,Array.getElem?_modify,hb,onCells]
theorem CV {w:World} {g n:Nat} {os:Array Obj} (d:Array Sm):w.grownBy (sortWorldK mS 3 w g 0 n d os) (some g):=by
 unfold sortWorldK putRowK
 refine⟨rfl,rfl,rfl,by simp,fun k hk hne => ?_⟩
 rw[heap_grow_old _ _ (by simpa using hk)]
 have:g≠k:=fun e=>hne (by rw[e])
 simp[putRow,mapBlock,Sort.ahead,Array.getElem?_modify,this]
theorem CN {w:World} {base g cap n:Nat} {e:TypeId} {os:Array Obj} {cur:Array Value} {d:Array Sm} (Hw:base≤g) (hb:w.heap[g]? = some (.cells cur e (0,0)))
  (h1:d.size≤cap) (h2:cap≤maxLen) (h3:cur.size=cap*3) :
  (sortWorldK mS 3 w g 0 n d os).ownsRow base e 3 (.slice (some ⟨g,0,none⟩) d.size cap) d.size (d.toList.flatMap mS):=by
 refine⟨by rw[Ci]; simp,.inr ⟨g,cap,_,rfl,Hw,Ko d hb,h1,h2,by simp[putCells,h3],?_⟩⟩
 rw[← Bc]
 apply List.ext_getElem?
 intro j
 by_cases hj:j<d.size*3
 ·rw[List.getElem?_take_of_lt hj,Array.getElem?_toList,Array.getElem?_toList]
  have hc:j<cur.size:=by omega
  simp[putCells,hj,hc]
 ·rw[List.getElem?_take_eq_none (by omega),List.getElem?_eq_none (by simp; omega)]
end Go.Co
end
section
namespace Go.Co
open Go Go.Proofs
open Go.Extern.RuntimeError
variable {P:Program}
theorem t_described (v:Value):T1 P (described v):=by
 unfold described
 (repeat' first | exact TC.out | (with_reducible refine aA ?_ (fun _ => ?_)) | (with_reducible refine fO ?_ ?_) | split | dsimp only)
theorem t_text (s:String):T1 P (text s):=aH trivial
theorem t_pkgpathOf (i:TypeInfo):T1 P (pkgpathOf i):=by
 unfold pkgpathOf
 (repeat' first | exact TC.out | (with_reducible refine aA ?_ (fun _ => ?_)) | (with_reducible refine fO ?_ ?_) | split | dsimp only)
theorem t_boundsError (args:Array Value):T1 P (boundsError args):=by
 unfold boundsError
 rcases args with ⟨_ | ⟨x,_ | ⟨y,l⟩⟩⟩
 ·exact ax _
 rotate_left
 ·exact ax _
 cases x<;>try exact ax _
 rename_i cs
 rcases cs with ⟨_ | ⟨a,_ | ⟨b,_ | ⟨c,_ | ⟨d,_ | ⟨e,l⟩⟩⟩⟩⟩⟩<;>try exact ax _
 cases a<;>try exact ax _
 cases b<;>try exact ax _
 cases c<;>try exact ax _
 cases d<;>try exact ax _
 rename_i k x k1 y signed k2 code
 show T1 P (match (if (signed&&decide (x<0))=true then boundsNegErrorFmts else boundsErrorFmts)[code.toNat]? with
  | some fmt => text ("runtime error: " ++ (fmt.replace "%x" (toString (if signed = true then x else IntKind.u64.wrap x))).replace "%y" (toString y))
  | none => stuck "boundsError: no such code")
 split
 ·exact t_text _
 ·exact ax _
theorem t_nothing (args:Array Value):T1 P (nothing args):=aH trivial
theorem t_unhashable (args:Array Value):T1 P (unhashableTypeError args):=by
 unfold unhashableTypeError
 rcases args with ⟨_ | ⟨x,_ | ⟨y,l⟩⟩⟩
 ·exact ax _
 rotate_left
 ·exact ax _
 cases x<;>try exact ax _
 rename_i cs
 rcases cs with ⟨_ | ⟨a,_ | ⟨b,l⟩⟩⟩<;>try exact ax _
 refine(?_:T1 P (described a >>= _))
 refine aA (t_described a) fun o => ?_
 cases o with
 | none=>exact TC.out
 | some t=>exact t_text _
theorem t_typeAssertion (args:Array Value):T1 P (typeAssertionError args):=by
 unfold typeAssertionError
 (repeat' first | exact TC.out | exact t_text _ | exact t_described _ | exact t_pkgpathOf _ | (with_reducible refine aA ?_ (fun _ => ?_)) | (with_reducible refine fO ?_ ?_) | split | dsimp only)
theorem fd0:Extern.find Try.f0=none:=by kernel_rfl
theorem fd1:Extern.find Try.f1=none:=by kernel_rfl
theorem Z5:Extern.find Try.f106=some boundsError:=by kernel_rfl
theorem Z4:Extern.find Try.f107=some nothing:=by kernel_rfl
theorem Z3 : Extern.find Try.f108 = some (fun args => do pure (.string ("runtime error: ".toUTF8 ++ (← asString (args.getD 0 (.tuple #[])))))) := by kernel_rfl
theorem Z2:Extern.find Try.f109=some nothing:=by kernel_rfl
theorem Z1:Extern.find Try.f110=some (fun args=>do pure (.string (← asString (args.getD 0 (.tuple #[]))))):=by kernel_rfl
theorem Z0:Extern.find Try.f111=some nothing:=by kernel_rfl
theorem ZZ : Extern.find Try.f112 = some (fun args => do pure (.string ("runtime error: ".toUTF8 ++ (← asString ((← asAgg (args.getD 0 (.tuple #[]))).getD 0 (.tuple #[])))))) := by kernel_rfl
theorem ZY:Extern.find Try.f113=some nothing:=by kernel_rfl
theorem ZX:Extern.find Try.f114=some typeAssertionError:=by kernel_rfl
theorem ZW:Extern.find Try.f115=some nothing:=by kernel_rfl
theorem ZV : Extern.find Try.f116 = some (fun _ => text "runtime error: panic called with nil argument") := by kernel_rfl
theorem ZU:Extern.find Try.f117=some nothing:=by kernel_rfl
theorem ZT:Extern.find Try.f118=none:=by kernel_rfl
theorem ZR:Extern.find Try.f119=some unhashableTypeError:=by kernel_rfl
theorem ZQ:Extern.find Try.f120=some nothing:=by kernel_rfl
theorem ZP:Extern.find Try.f121=none:=by kernel_rfl
theorem ZO:Extern.find Try.f122=some (fun args=>do pure (strVal (Extern.Rtype.kindName (← asInt (args.getD 0 (.tuple #[]))).toNat))):=by kernel_rfl
theorem Ww:(Try.prog.funcs.toList.zipIdx.all fun(f,i) => !f.body.isNone||i==0||i==1||(decide (106≤i)&&decide (i≤122)))=true:=by kernel_rfl
theorem Za:Try.prog.funcs.size=123:=by kernel_rfl
theorem Zr:(Try.prog.funcs.toList.all fun f => !f.body.isNone||(Extern.findNext f).isNone)=true:=by kernel_rfl
theorem names : (Try.prog.funcs.toList.all fun f => !(f.name == "runtime.NumGoroutine")) = true := by kernel_rfl
theorem Zt:(Try.prog.funcs.toList.all fun f => !f.norace)=true:=by kernel_rfl
theorem uL {f:FuncId} {fn:Func} (h:Try.prog.funcs[f]? = some fn):fn∈Try.prog.funcs.toList:=by
 obtain⟨hlt,rfl⟩:=Array.getElem?_eq_some_iff.1 h
 exact Array.getElem_mem_toList hlt
theorem VV (f:Nat) (h:f=0∨f=1∨(106≤f∧f≤122)):f=0∨f=1∨f=106∨f=107∨f=108∨f=109∨f=110∨f=111∨f=112∨f=113∨f=114∨f=115∨f=116∨f=117∨f=118∨f=119∨f=120∨f=121∨f=122:=by omega
theorem ia:Plain Try.prog where
 count f fn h:=by
  have:=List.all_eq_true.1 names fn (uL h)
  simpa using this
 quiet f:=by
  cases h:Try.prog.funcs[f]? with
  | none=>rfl
  | some fn =>
   have:=List.all_eq_true.1 Zt fn (uL h)
   simpa using this
 next f fn h hb:=by
  have:=List.all_eq_true.1 Zr fn (uL h)
  simpa [hb] using this
 find f fn e h hb he args:=by
  have hlt:f<123:=by rw[← Za]; exact(Array.getElem?_eq_some_iff.1 h).1
  have hz:(fn,f)∈Try.prog.funcs.toList.zipIdx:=by
   rw[List.mem_zipIdx_iff_getElem?]
   simpa using h
  have h1:=List.all_eq_true.1 Ww _ hz
  have h2:f=0∨f=1∨(106≤f∧f≤122):=by
   simp only[hb,Bool.not_true,Bool.false_or,Bool.or_eq_true,Bool.and_eq_true,beq_iff_eq,decide_eq_true_eq] at h1
   rcases h1 with (h1 | h1) | h1
   ·exact .inl h1
   ·exact .inr (.inl h1)
   ·exact .inr (.inr h1)
  have pick:∀ {i:Nat} {g:Func},f=i→Try.prog.funcs[i]? = some g→fn=g:=fun hi hg=>by subst hi; rw[hg] at h; exact(Option.some.inj h).symm
  have Ws:f=0∨f=1∨f=106∨f=107∨f=108∨f=109∨f=110∨f=111∨f=112∨f=113∨f=114∨f=115∨f=116∨f=117∨f=118∨f=119∨f=120∨f=121∨f=122:=VV f h2
  rcases Ws with hi | hi | hi | hi | hi | hi | hi | hi | hi | hi | hi | hi | hi | hi | hi | hi | hi | hi | hi
  ·rw[pick hi Try.func0] at he
   rw[fd0] at he; cases he
  ·rw[pick hi Try.func1] at he
   rw[fd1] at he; cases he
  ·rw[pick hi Try.func106] at he
   rw[Z5] at he; cases he; exact t_boundsError _
  ·rw[pick hi Try.func107] at he
   rw[Z4] at he; cases he; exact t_nothing _
  ·rw[pick hi Try.func108] at he
   rw[Z3] at he; cases he
   (repeat' first | exact TC.out | (with_reducible refine aA ?_ (fun _ => ?_)) | (with_reducible refine fO ?_ ?_) | split | dsimp only)
  ·rw[pick hi Try.func109] at he
   rw[Z2] at he; cases he; exact t_nothing _
  ·rw[pick hi Try.func110] at he
   rw[Z1] at he; cases he
   (repeat' first | exact TC.out | (with_reducible refine aA ?_ (fun _ => ?_)) | (with_reducible refine fO ?_ ?_) | split | dsimp only)
  ·rw[pick hi Try.func111] at he
   rw[Z0] at he; cases he; exact t_nothing _
  ·rw[pick hi Try.func112] at he
   rw[ZZ] at he; cases he
   (repeat' first | exact TC.out | (with_reducible refine aA ?_ (fun _ => ?_)) | (with_reducible refine fO ?_ ?_) | split | dsimp only)
  ·rw[pick hi Try.func113] at he
   rw[ZY] at he; cases he; exact t_nothing _
  ·rw[pick hi Try.func114] at he
   rw[ZX] at he; cases he; exact t_typeAssertion _
  ·rw[pick hi Try.func115] at he
   rw[ZW] at he; cases he; exact t_nothing _
  ·rw[pick hi Try.func116] at he
   rw[ZV] at he; cases he; exact t_text _
  ·rw[pick hi Try.func117] at he
   rw[ZU] at he; cases he; exact t_nothing _
  ·rw[pick hi Try.func118] at he
   rw[ZT] at he; cases he
  ·rw[pick hi Try.func119] at he
   rw[ZR] at he; cases he; exact t_unhashable _
  ·rw[pick hi Try.func120] at he
   rw[ZQ] at he; cases he; exact t_nothing _
  ·rw[pick hi Try.func121] at he
   rw[ZP] at he; cases he
  ·rw[pick hi Try.func122] at he
   rw[ZO] at he; cases he
   (repeat' first | exact TC.out | (with_reducible refine aA ?_ (fun _ => ?_)) | (with_reducible refine fO ?_ ?_) | split | dsimp only)
end Go.Co
end
section
namespace Go.Proofs
open Go.Shelf Go.RowKit Go.Lib Go.Sort
set_option maxHeartbeats 400000 in
theorem Try.GJ (v:Value) (w:World):Calls Try.prog 84 #[.slice none 0 0,.int .i64 0,.int .i64 0,v] w fun e w'=>e = .returned (.tuple #[])∧w'=w:=by
 go_enter Try.func84,Try.ntmps84
 go_wp2
 go_loop [8] (fun i=>i = .int .i64 1) (fun _=>0)
 case atStart=>rfl
 case round =>
  subst hrel
  go_wp2
  go_end0
  exact⟨rfl,rfl⟩
set_option maxRecDepth 100000 in
set_option maxHeartbeats 1000000 in
theorem Try.GA (l:Int) (v:Value) (w:World):Calls Try.prog 77 #[.slice none 0 0,.int .i64 0,.int .i64 0,.int .i64 l,v] w fun e w'=>e = .returned (.tuple #[])∧w'=w:=by
 have hi:=Try.GJ v
 go_enter Try.func77,Try.ntmps77
 go_wp2
 go_loop [1,2] (fun a b=>a = .int .i64 0∧b = .int .i64 0) (fun _ _=>0)
 case atStart=>exact⟨rfl,rfl⟩
 case round =>
  obtain⟨rfl,rfl⟩:=hrel
  go_wp2_with (go_at_call 84; refine(hi _).mono ?_; rintro e w' ⟨rfl,rfl⟩)
  exact⟨rfl,.tuple #[],results_none (by rfl) _ _ _,rfl,rfl⟩
theorem Try.Ot (w:World):Calls Try.prog 78 #[.int .u64 0] w fun e w'=>e = .returned (.int .i64 (Lib.bitLen 0:Nat))∧w'=w:=by
 have h:=Any.bits_Len (SlLaysF0.n15.bits (P:=Try.prog) { Try.DW with }) (0:Int) w (by omega) (by omega)
 exact h
set_option maxHeartbeats 1000000 in
theorem Try.Gl (v:Value) (w:World):Calls Try.prog 61 #[.slice none 0 0,v] w fun e w'=>e = .returned (.tuple #[])∧w'=w:=by
 have hl:=Try.Ot
 have hp:=fun l=>Try.GA l v
 go_enter Try.func61,Try.ntmps61
 go_wp2_with (first | (go_at_call 78; refine(hl _).mono ?_; rintro e w' ⟨rfl,rfl⟩) | (go_at_call 77; refine(hp _ _).mono ?_; rintro e w' ⟨rfl,rfl⟩))
 go_end0
 exact⟨rfl,rfl⟩
end Go.Proofs
end
section
namespace Go.Proofs
open Go.Shelf Go.RowKit Go.Lib Go.Sort Go.Co
theorem Try.VK (g cap:Nat) (d:Array Sm) (w:World) (hH:HoldsK mS 3 w g 0 d) (hg:g<w.heap.size) (hsz:d.size<4611686018427387904) :
  Calls Try.prog 61 #[.slice (some ⟨g,0,none⟩) d.size cap,.func (.func 62) #[] #[]] w fun e w'=>e = .returned (.tuple #[])∧∃ d' n os,PermIn 0 d.size d d'∧SortedIn (ltOf sJ) 0 d.size d'∧w'=sortWorldK mS 3 w g 0 n d' os:=by
 have eg:∀ args w,(callFunc 62 args).run Try.prog w = .ok (.enter 62 args) w:=enters_of Try.func62 (by kernel_rfl) rfl
 exact AnyQ.slices_SortFunc Try.DW 3 Try.isAgg56 Try.sizeOf56 mS (fun _=>rfl) (fun x v hv=>by simp[mS] at hv; rcases hv with rfl | rfl | rfl<;>rfl) sJ Y9 62 #[] g 0 cap d w eg (fun _ _ _ _ x y=>Try.Ku x y _) hH hg hsz
end Go.Proofs
namespace Go.Co
open Go Go.Conc Go.Proofs Go.Sort Go.Shelf
variable {P:Program} {af:Machine→Trace→Prop} {γ:So} {w:World}
theorem yl {Γ:Type} {main:Bool} {K:Γ→Goroutine→World→Prop} {Rl:Γ→World→World→Prop} {St:Γ→World→Γ→World→Array Event→Prop} {fn:FuncId} {Q:Γ→Exit→Act→World→Prop} {a:Act} {ops:Array Oper} {i:Nat} {rest:List Nat} {o:Oper} (C:KC P main K Rl St) {γ:Γ} {v:Value} (ho:ops[i]? = some o) (hw:Region.wanted o (yielded ops a.tmps)=true) (hrun:∀ w,(execOp a.eval o).run P w = .ok (.value v) w) (tT:∀ w,(execOp a.eval o).events P w #[]=#[])
  (h:KO K fn γ ops rest Q (a.put o.dst v) w):KO K fn γ ops (i::rest) Q a w :=
 sX C ho hw fun w₁ r=>by rw[hrun w₁]; exact⟨γ,by rw[listed_nil (tT w₁)]; exact C.idle _ _,Cy C r h⟩
def uW (A:Nat→Prop) (B0:Nat) (w0:World) (R:List Sm) (out:Value) (w:World):Prop:=Old A B0 w0 w∧w.ownsRow B0 56 3 out R.length (R.flatMap mS)
theorem NA {A:Nat→Prop} {B0:Nat} {w0:World} {R got:List Sm} {out:Value} (hR:R.Pairwise KD) (hlen:R.length≤4294967296) (hA:∀ b,A b→b<B0) (hO:Old A B0 w0 w) (hp:got.Perm R) (qU:w.ownsRow B0 56 3 out got.length (got.flatMap mS)) :
  Calls Try.prog 61 #[out,.func (.func 62) #[] #[]] w fun e w'=>∃ v,e = .returned v∧uW A B0 w0 R out w':=by
 have hl:=hp.length_eq
 rcases qU.2 with ⟨rfl,h0⟩ | ⟨g,cap,cur,rfl,hb,hg,hn,hc,jQ,ht⟩
 ·have aaD:got=[]:=List.eq_nil_of_length_eq_zero h0
  have hRn:R=[]:=List.eq_nil_of_length_eq_zero (by omega)
  subst aaD
  subst hRn
  exact(Try.Gl _ w).mono fun e w' ⟨he,hw⟩=>⟨_,he,by subst hw; exact⟨hO,qU⟩⟩
 ·have hlt:g<w.heap.size:=(Array.getElem?_eq_some_iff.1 hg).1
  have hH:HoldsK mS 3 w g 0 got.toArray:=GK hg (by simpa using ht)
  have h:=Try.VK g cap got.toArray w hH hlt (by simp; omega)
  simp only[List.size_toArray] at h
  refine h.mono ?_
  rintro e w' ⟨he,d',n,os,hpm,hs,rfl⟩
  obtain⟨hsz,-,hpm⟩:=hpm
  have hsz':d'.size=got.length:=by simpa using hsz
  have hd:d'.toList=R:=by
   refine Jz ?_ (by rw[hsz']; exact hs) hR
   have h1:(d'.extract 0 got.length)=d':=by rw[← hsz']; simp
   have h2:(got.toArray.extract 0 got.length)=got.toArray:=by simp
   rw[h1,h2] at hpm
   exact hpm.trans hp
  have Ug:=CV (w:=w) (g:=g) (n:=n) (os:=os) d'
  refine⟨_,he,⟨fun b j9 => ?_,Nat.le_trans hO.2.1 Ug.size,Ug.os.trans hO.2.2.1,Ug.output.trans hO.2.2.2⟩,?_⟩
  ·have:=hA b j9
   exact(Ug.block b (Nat.lt_of_lt_of_le this hO.2.1) (fun e=>by cases e; omega)).trans (hO.1 b j9)
  ·have:=CN (n:=n) (os:=os) (d:=d') hb hg (by omega) hc jQ
   rw[hsz',hd] at this
   rw[← hl]
   exact this
set_option maxRecDepth 100000 in
theorem QE {da db:Wk} (qg:da.ok) (uY:db.ok) (X3:Pn da.aO) (kV:Pn db.aO):M6 af (cB da db):=by
 intro A B0 w0 γ' a' w' hE
 obtain⟨-,-,hS,got,out,hp,qU,u,rfl⟩:=hE
 have C:=sZ (af:=af) ia
 unfold Mh
 show KJ _ _ _ (.seq (.region _ _ false) (.seq (.region _ _ false) .ret)) _ _ _
 refine aJ C (av C ?_)
 simp only[List.size_toArray,List.length_cons,List.length_nil,Nat.reduceAdd,Nat.zero_add,List.range,List.range.loop]
 refine yl C (v := ?v1) rfl (by rfl) (fun w=>run_eq_of fun K hK => ?r1) (fun w => ?e1) ?h1
 case r1=>go_simp; exact hK
 case e1=>simp[go_sem]
 try walk_nrm
 refine Rf ia (R:=fun _ w=>uW A B0 w0 (cB da db) out w) rfl (by rfl) rfl Try.func61 rfl (fun τ => ?_) (fun v w2 hR τ d => ?_)
 ·simp only[List.map_toArray,List.map_cons,List.map_nil]
  have hO:Old A B0 w0 (w'.re τ 0):=⟨hS.blk,hS.size,hS.env.1,hS.env.2⟩
  exact NA (JC X3 kV) (yJ qg uY) hS.lt hO hp qU
 ·have jG:uW A B0 w0 (cB da db) out (w2.re τ d):=hR
  generalize w2.re τ d=w3 at *
  try walk_nrm
  refine aF C ?_
  co_then
  refine aJ C (av C ?_)
  simp only[List.size_toArray,List.length_cons,List.length_nil,Nat.reduceAdd,Nat.zero_add,List.range,List.range.loop]
  refine yl C (v := ?v2) rfl (by rfl) (fun w=>run_eq_of fun K hK => ?r2) (fun w => ?e2) ?h2
  case r2=>go_simp; exact hK
  case e2=>simp[go_sem]
  try walk_nrm
  refine yl C (v := ?v3) rfl (by rfl) (fun w=>run_eq_of fun K hK => ?r3) (fun w => ?e3) ?h3
  case r3=>go_simp; exact hK
  case e3=>simp[go_sem]
  try walk_nrm
  refine aF C ?_
  co_then
  refine xN C ?_
  exact⟨rfl,rfl,jG.1,jG.2⟩
theorem QM {ca cb:Array Value} {da db:Wk} (qg:da.ok) (uY:db.ok) (X3:Pn da.aO) (kV:Pn db.aO) (XH:qF γ w ca da) (XG:qF γ w cb db) :
  sN (Jk Try.prog af) Try.prog (.bad,γ) 33 #[.agg ca,.agg cb] w fun γ' v w'=>γ'.1 = .bad∧Kept γ w γ'.2 w'∧iy γ'.2 w' w.heap.size 56 3 v (cB da db).length ((cB da db).flatMap mS) :=
 EL ia qg uY XH XG (QE qg uY X3 kV)
end Go.Co
end
section
namespace Go.Di
open Go Go.Conc Go.Co Go.Proofs
variable {P:Program} {af:Machine→Trace→Prop} {x:Cx}
theorem EZ {g:FuncId} {vals:Array Value} {Post':Value→World→Prop} (hP:Plain P) (h:sN (fH P af) P () g vals x.w (fun _=>Post')) {Post:Cx→Value→Prop} (hq:∀ v w',Post' v w'→∃ y:Cx,y.w=w'∧Post y v):dh P af x g vals Post:=by
 obtain⟨rY,c,hf,-,Hv,hwp⟩:=h
 refine⟨⟨rY,c,hf,Hv⟩,fun fr cs hc => ?_⟩
 have C:=sZ (af:=af) hP
 rw[enter_at vals hf Hv]
 have gU:∀ (a':Act) (w':World) (todo:List Item),(a'.defers=[]∧∃ v,ResultsC P rY a'.tmps v∧Post' v w') →
   fH P af () (G { (base g).at a' todo with mode := .returning } (fr::cs)) w':=by
  rintro a' w' todo ⟨hd,v,hr,hp⟩
  obtain⟨y,rfl,hy⟩:=hq v w' hp
  refine C.go (fun w₁ => ?_) (hc y v hy)
  rw[stepG_leave (b:=base g) rfl hd hf (hr w₁).1 (hr w₁).2]
 refine hwp (base g) [] _ rfl (by simp[base]) fun γ' e a' w' q => ?_
 cases e with
 | normal=>exact C.go (fun _=>stepG_end) (gU a' w' [] q)
 | ret=>exact fun todo=>gU a' w' todo q
 | exit id=>exact q.elim
 | goto l=>exact q.elim
 | panic ch=>exact q.elim
 | outgrown=>exact q.elim
def BD (v:Value) (n:Nat) (b o:Nat):Prop:=v.ownBlock=some b∧o<n
def Cx.u6 (x:Cx) (w':World) (v:Value) (n:Nat):Cx:={ x with w:=w',Fz:=fun b o=>x.Fz b o∨BD v n b o }
section
variable {w':World} {v:Value} {e:TypeId} {s n:Nat} {xs:List Value}
theorem nB (hR:Rel x) (hs:x.w.heap.size≤w'.heap.size) (he:w'.os=x.w.os∧w'.output=x.w.output) (ho:∀ b,b<x.w.heap.size→w'.heap[b]? = x.w.heap[b]?) (hr:w'.ownsRow x.w.heap.size e s v n xs):bI x (x.u6 w' v (n*s)) where
 size:=hs
 env:=he
 fz:=fun b o h=>⟨.inl h,by
  obtain⟨u,hu⟩:=hR.wE b o h
  exact cell_of_block (ho b (World.block_lt_of_cell? _ ⟨b,o,none⟩ hu)) o⟩
 IZ:=fun b o h=>h.imp id fun h => .inl (hr.lt b h.1).1
 old:=fun b hb _=>ho b hb
 len:=Nat.le_refl _
 cells:=fun id l h=>⟨rfl,l,h⟩
 c9:=fun id b h hb=>⟨rfl,⟨b,h,dG hb⟩,fun hd=>by
  obtain⟨o,h1,-⟩:=hR.c9 id b h hb
  exact ho _ (Array.getElem?_eq_some_iff.1 h1).1⟩
 cT:=fun t e s n h=>⟨n,h,Nat.le_refl _,fun _=>⟨rfl,rfl⟩⟩
 live:=fun i h => .inl ⟨h,rfl⟩
 ops:=fun _ _ _ l z h=>⟨l,z,h,Nat.le_refl _,fun e=>⟨rfl,e⟩,fun _=>⟨rfl,rfl⟩⟩
theorem uI (hR:Rel x) (hs:x.w.heap.size≤w'.heap.size) (he:w'.os=x.w.os∧w'.output=x.w.output) (ho:∀ b,b<x.w.heap.size→w'.heap[b]? = x.w.heap[b]?) (hr:w'.ownsRow x.w.heap.size e s v n xs):Rel (x.u6 w' v (n*s)):=by
 have M:=nB hR hs he ho hr
 have hlt:∀ {b:Nat} {o:Obj},x.w.heap[b]? = some o→b<x.w.heap.size:=fun h=>(Array.getElem?_eq_some_iff.1 h).1
 have ue:∀ b o,BD v (n*s) b o→x.w.heap.size≤b:=fun b o h=>(hr.lt b h.1).1
 refine⟨fun id l hl => ?_,fun id e' s' n' hl => ?_,fun id b hl hb => ?_,hR.inj,fun b o h => ?_,fun id hl o h => ?_,fun id e' s' n' hl o h => ?_,fun id e' s' l z hl => ?_⟩
 ·obtain⟨arr,e',h1,h2,h3⟩:=hR.cells id l hl
  exact⟨arr,e',(ho _ (hlt h1)).trans h1,h2,fun j c hc=>(h3 j c hc).mono M⟩
 ·obtain⟨arr,h1,h2⟩:=hR.cT id e' s' n' hl
  exact⟨arr,(ho _ (hlt h1)).trans h1,h2⟩
 ·obtain⟨o,h1,h2⟩:=hR.c9 id b hl hb
  exact⟨o,(ho _ (hlt h1)).trans h1,h2.mono M⟩
 ·rcases h with h | h
  ·obtain⟨u,hu⟩:=hR.wE b o h
   exact⟨u,((M.fz b o h).2).trans hu⟩
  ·obtain⟨hv,hon⟩:=h
   rcases hr.2 with ⟨rfl,-⟩ | ⟨g,cap,cur,rfl,hb,hg,hn,hc,jQ,ht⟩
   ·simp[Value.ownBlock] at hv
   ·simp only[Value.ownBlock,Option.some.injEq] at hv
    subst hv
    have:o<cur.size:=by rw[jQ]; exact Nat.lt_of_lt_of_le hon (Nat.mul_le_mul_right _ hn)
    exact⟨cur[o],by simp only[World.cell?,Cx.u6,hg]; exact Array.getElem?_eq_getElem this⟩
 ·rcases h with h | h
  ·exact hR.sep id hl o h
  ·obtain⟨l,hl⟩:=hl
   obtain⟨arr,e',h1,-⟩:=hR.cells id l hl
   have:=ue _ _ h
   have:=hlt h1
   show False
   change x.w.heap.size≤x.μ id at *
   omega
 ·rcases h with h | h
  ·exact hR.lM id e' s' n' hl o h
  ·obtain⟨arr,h1,-⟩:=hR.cT id e' s' n' hl
   have h3:=ue _ _ h
   have h4:=hlt h1
   change x.w.heap.size≤x.μ id at h3
   omega
 ·obtain⟨arr,h1,h2,h3,h4,h5,h6,h7⟩:=hR.ops id e' s' l z hl
  refine⟨arr,(ho _ (hlt h1)).trans h1,h2,h3,h4,fun j c hc=>⟨(h5 j c hc).1,(h5 j c hc).2.mono M⟩,fun hz j hj => .inl (h6 hz j hj),fun hz o h => ?_⟩
  rcases h with h | h
  ·exact h7 hz o h
  ·have h3:=ue _ _ h
   have h4:=hlt h1
   change x.w.heap.size≤x.μ id at h3
   omega
theorem x5 {rows:List DV} (hn:rows.length=n) (kG:∀ r∈rows,r.cells.length=s) (sk:flat rows=xs.map .val) (uX:∀ u∈xs,uk u=true∧(DV.val u).bt=true) (hr:w'.ownsRow x.w.heap.size e s v n xs):RV (x.u6 w' v (n*s)) (.sl rows none ⟨false,none⟩) v:=by
 have hlen:=hr.1
 have nQ:∀ (j:Nat) (c:DV),(flat rows)[j]? = some c→∃ u,xs[j]? = some u∧c=DV.val u∧uk u=true∧c.bt=true:=by
  intro j c hc
  rw[sk,List.getElem?_map,Option.map_eq_some_iff] at hc
  obtain⟨u,h1,rfl⟩:=hc
  have:=uX u (List.mem_of_getElem? h1)
  exact⟨u,h1,rfl,this.1,this.2⟩
 subst hn
 rcases hr.2 with ⟨rfl,h0⟩ | ⟨g,cap,cur,rfl,hb,hg,hn,hc,jQ,ht⟩
 ·have WX:rows=[]:=List.eq_nil_of_length_eq_zero h0
  subst WX
  exact RV.sl (rows:=[]) (A:=none) (cap:=0) (s:=0) (vs:=fun _=>undef) ⟨by simp,by simp[flat]⟩ (by simp[flat]) (Nat.le_refl _) ⟨fun _=>rfl,fun b h=>nomatch h⟩ (fun _=>rfl) (fun _ h=>by cases h) (fun t ht=>by cases ht)
 ·have aU:∀ j u,xs[j]? = some u→cur[j]? = some u∧j<rows.length*s:=by
   intro j u hu
   rw[← ht,List.getElem?_take] at hu
   split at hu
   ·exact⟨by simpa using hu,‹_›⟩
   ·cases hu
  refine RV.sl (s:=s) (vs:=fun j=>xs.getD j undef) ⟨kG,fun j c KR => ?_⟩ (fun j c KR => ?_) hn ⟨by simp,fun b h=>nomatch h⟩ (by simp) (fun ad h=>by cases h; rfl) (fun t ht=>nomatch ht)
  ·obtain⟨u,h1,rfl,h2,h3⟩:=nQ j c KR
   obtain⟨h4,h5⟩:=aU j u h1
   refine⟨h3,g,0,rfl,.inr ⟨rfl,by omega⟩,?_⟩
   simp[World.cell?,Cx.u6,hg,h4,List.getD_eq_getElem?_getD,h1]
  ·obtain⟨u,h1,rfl,h2,h3⟩:=nQ j c KR
   simp only[List.getD_eq_getElem?_getD,h1,Option.getD_some]
   exact .val h2
end
def vh:List DV→Option (List Int)
 | []=>some []
 | .val (.int .i64 n)::l=>(vh l).map (n::·)
 | _=>none
def Jc:DV→Option (List Int)
 | .sl rows _ _=>vh rows
 | _=>none
def Aq:List DV→Option (List (List Int))
 | []=>some []
 | d::l=>match Jc d,Aq l with
  | some r,some rs=>some (r::rs)
  | _,_=>none
def Pq:DV→Option Wk
 | .agg [_,_,.val (.int .i64 bH),l,u0,l0,u1,l1,u2,l2,u3,l3]=>match Jc l,Aq [u0,u1,u2,u3],Aq [l0,l1,l2,l3] with
  | some l,some us,some ls=>some ⟨l,bH,fun i=>us.getD i [],fun i=>ls.getD i []⟩
  | _,_,_=>none
 | _=>none
def zP (l:List Int):Bool:=decide (l.length≤1000)&&l.all fun x=>decide (0≤x)&&decide (x≤9)
def FG:List Int→Bool
 | []=>true
 | a::l=>l.all (fun b=>decide (a<b))&&FG l
def WE (d:Wk):Bool:=decide (d.aO.length≤1000)&&d.aO.all (fun x=>decide (0≤x)&&decide (x≤3))&&decide (0≤d.bH)&&decide (d.bH≤1000) &&
 (List.range 4).all (fun i=>zP (d.up i)&&zP (d.lo i))&&FG d.aO
def Xu (m:Sm):DV := .agg [.val (.int .i64 m.1),.val (.int .i64 m.2.1),.val (.int .i64 m.2.2)]
def BQ (a b:DV):Option DV:=match Pq a,Pq b with
 | some da,some db=>if WE da&&WE db then some (.sl ((cB da db).map Xu) none ⟨false,none⟩) else none
 | _,_=>none
theorem IE {l:List Int} (h:zP l=true):Pm l:=by
 simp only[zP,Bool.and_eq_true,decide_eq_true_eq,List.all_eq_true] at h
 exact⟨h.1,fun i x hx=>h.2 x (List.mem_of_getElem? hx)⟩
theorem IM:∀ {l:List Int},FG l=true→Pn l
 | [],_=>List.Pairwise.nil
 | a::l,h=>by
  simp only[FG,Bool.and_eq_true,List.all_eq_true,decide_eq_true_eq] at h
  exact List.Pairwise.cons h.1 (IM h.2)
theorem mH:∀ {l:List DV} {r:List (List Int)},Aq l=some r→r.length=l.length∧∀ i:Nat,∀ d,l[i]? = some d→Jc d=some (r.getD i [])
 | [],r,h=>by cases h; simp
 | d::l,r,h=>by
  simp only[Aq] at h
  split at h
  ·rename_i r1 rs h1 h2
   cases h
   obtain⟨h3,h4⟩:=mH h2
   refine⟨by simp[h3],fun i d' hd => ?_⟩
   cases i with
   | zero=>simp at hd; subst hd; simpa using h1
   | succ i=>simp at hd; simpa using h4 i d' hd
  ·cases h
theorem pX:∀ {l:List DV} {r:List Int},vh l=some r→r.length=l.length∧(∀ (i:Nat) (n:Int),r[i]? = some n→l[i]? = some (.val (.int .i64 n)))∧flat l=l
 | [],r,h=>by cases h; simp[flat]
 | .val (.int .i64 n)::l,r,h=>by
  simp only[vh,Option.map_eq_some_iff] at h
  obtain⟨r',h1,rfl⟩:=h
  obtain⟨h2,h3,h4⟩:=pX h1
  refine⟨by simp[h2],fun i m hm => ?_,?_⟩
  ·cases i with
   | zero=>simp at hm; subst hm; rfl
   | succ i=>simp at hm; simpa using h3 i m hm
  ·simp only[flat,List.flatMap_cons,DV.cells] at h4 ⊢
   rw[h4]
   rfl
def UB (w:World):So:=(fun b=>b<w.heap.size,fun _=>False)
theorem mZ {d:DV} {r:List Int} {v:Value} (hd:Jc d=some r) (h:RV x d v):tW (UB x.w) x.w v r:=by
 unfold Jc at hd
 split at hd
 ·rename_i rows tok f
  obtain⟨h1,h2,h3⟩:=pX hd
  cases h with
  | @sl _ _ _ A cap s vs hv hr k1 k2 k3 k4 k5 =>
   refine⟨A,cap,by rw[h1],fun i n hn => ?_⟩
   have hc:(flat rows)[i]? = some (.val (.int .i64 n)):=by rw[h3]; exact h2 i n hn
   obtain⟨-,b,o,q1,q2,q3⟩:=hv.2 i _ hc
   have:=hr i _ hc
   generalize vs i=u at *
   cases this with
   | val _ =>
    refine⟨_,q1,?_⟩
    rw[fA]
    exact⟨.inl (World.block_lt_of_cell? _ ⟨b,o+i,none⟩ q3),q3⟩
 ·cases hd
theorem Mt {d:DV} {k:Wk} {v:Value} (hd:Pq d=some k) (h:RV x d v):∃ ca,v = .agg ca∧qF (UB x.w) x.w ca k:=by
 unfold Pq at hd
 split at hd
 ·rename_i c0 c1 bH l u0 l0 u1 l1 u2 l2 u3 l3
  split at hd
  ·rename_i lr us ls h1 h2 h3
   cases hd
   cases h with
   | @agg _ ca hsz hc =>
    refine⟨ca,rfl,?_⟩
    have aU:∀ (j:Nat) d,([c0,c1,.val (.int .i64 bH),l,u0,l0,u1,l1,u2,l2,u3,l3]:List DV)[j]? = some d→∃ u,ca[j]? = some u∧RV x d u:=by
     intro j d hj
     have hlt:j<ca.size:=by rw[hsz]; exact(List.getElem?_eq_some_iff.1 hj).1
     have:=hc j d hj
     simp only[Array.getD_eq_getD_getElem?,Array.getElem?_eq_getElem hlt,Option.getD_some] at this
     exact⟨ca[j],Array.getElem?_eq_getElem hlt,this⟩
    obtain⟨-,hu⟩:=mH h2
    obtain⟨-,hl⟩:=mH h3
    refine⟨?_,?_,fun i hi => ?_,fun i hi => ?_⟩
    ·obtain⟨u,q1,q2⟩:=aU 2 _ rfl
     cases q2
     exact q1
    ·obtain⟨u,q1,q2⟩:=aU 3 _ rfl
     exact⟨u,q1,mZ h1 q2⟩
    ·have:i=0∨i=1∨i=2∨i=3:=by omega
     rcases this with rfl | rfl | rfl | rfl
     ·obtain⟨u,q1,q2⟩:=aU 4 _ rfl; exact⟨u,q1,mZ (hu 0 _ rfl) q2⟩
     ·obtain⟨u,q1,q2⟩:=aU 6 _ rfl; exact⟨u,q1,mZ (hu 1 _ rfl) q2⟩
     ·obtain⟨u,q1,q2⟩:=aU 8 _ rfl; exact⟨u,q1,mZ (hu 2 _ rfl) q2⟩
     ·obtain⟨u,q1,q2⟩:=aU 10 _ rfl; exact⟨u,q1,mZ (hu 3 _ rfl) q2⟩
    ·have:i=0∨i=1∨i=2∨i=3:=by omega
     rcases this with rfl | rfl | rfl | rfl
     ·obtain⟨u,q1,q2⟩:=aU 5 _ rfl; exact⟨u,q1,mZ (hl 0 _ rfl) q2⟩
     ·obtain⟨u,q1,q2⟩:=aU 7 _ rfl; exact⟨u,q1,mZ (hl 1 _ rfl) q2⟩
     ·obtain⟨u,q1,q2⟩:=aU 9 _ rfl; exact⟨u,q1,mZ (hl 2 _ rfl) q2⟩
     ·obtain⟨u,q1,q2⟩:=aU 11 _ rfl; exact⟨u,q1,mZ (hl 3 _ rfl) q2⟩
  ·cases hd
 ·cases hd
theorem Qu {d:DV} {k:Wk} (hd:Pq d=some k):∀ i,4≤i→k.up i=[]∧k.lo i=[]:=by
 unfold Pq at hd
 split at hd
 ·split at hd
  ·rename_i lr us ls h1 h2 h3
   cases hd
   have h4:=(mH h2).1
   have h5:=(mH h3).1
   simp only[List.length_cons,List.length_nil] at h4 h5
   intro i hi
   simp only[List.getD_eq_getElem?_getD]
   rw[List.getElem?_eq_none (by omega),List.getElem?_eq_none (by omega)]
   exact⟨rfl,rfl⟩
  ·cases hd
 ·cases hd
theorem Mu {d:DV} {k:Wk} (hd:Pq d=some k) (h:WE k=true):k.ok∧Pn k.aO:=by
 simp only[WE,Bool.and_eq_true,decide_eq_true_eq,List.all_eq_true] at h
 obtain⟨⟨⟨⟨⟨h1,h2⟩,h3⟩,h4⟩,h5⟩,h6⟩:=h
 have far:=Qu hd
 refine⟨⟨h1,fun i x hx=>h2 x (List.mem_of_getElem? hx),⟨h3,h4⟩,fun i => ?_,fun i => ?_⟩,IM h6⟩
 ·rcases Nat.lt_or_ge i 4 with hi | hi
  ·exact IE (h5 i (by simpa using hi)).1
  ·rw[(far i hi).1]; exact⟨by simp,by simp⟩
 ·rcases Nat.lt_or_ge i 4 with hi | hi
  ·exact IE (h5 i (by simpa using hi)).2
  ·rw[(far i hi).2]; exact⟨by simp,by simp⟩
theorem OG (l:List Sm):flat (l.map Xu)=(l.flatMap mS).map .val:=by
 induction l with
 | nil=>rfl
 | cons m l ih =>
  simp only[flat,List.map_cons,List.flatMap_cons,List.map_append] at ih ⊢
  rw[ih]
  rfl
theorem EK {a b d:DV} (h:BQ a b=some d) {vals:Array Value} (hR:Rel x) (ha:eR x [a,b] vals):dh Try.prog af x 33 vals fun y u=>y.S=x.S∧Rel y∧bI x y∧RV y d u:=by
 unfold BQ at h
 split at h
 ·rename_i da db h1 h2
  split at h
  ·rename_i hb
   cases h
   simp only[Bool.and_eq_true] at hb
   obtain⟨qg,X3⟩:=Mu h1 hb.1
   obtain⟨uY,kV⟩:=Mu h2 hb.2
   obtain⟨hsz,aU⟩:=ha
   have e:vals=#[vals.getD 0 undef,vals.getD 1 undef]:=by
    obtain⟨l⟩:=vals
    match l,hsz with
    | [u,v],_=>rfl
   obtain⟨ca,hca,XH⟩:=Mt h1 (aU 0 _ rfl)
   obtain⟨cb,hcb,XG⟩:=Mt h2 (aU 1 _ rfl)
   rw[hca,hcb] at e
   subst e
   have key:=QM (af:=af) qg uY X3 kV XH XG
   refine EZ ia (GI (Post':=fun v w'=>x.w.heap.size≤w'.heap.size∧(w'.os=x.w.os∧w'.output=x.w.output)∧(∀ b,b<x.w.heap.size→w'.heap[b]? = x.w.heap[b]?)∧w'.ownsRow x.w.heap.size 56 3 v (cB da db).length ((cB da db).flatMap mS)) (fun γ' v w w1 hp _ r => ?_) key) fun v w' hp => ?_
   ·obtain⟨hk,ho⟩:=hp
    refine⟨Nat.le_trans hk.size r.1,⟨r.2.2.2.1.trans hk.env.1,r.2.2.2.2.trans hk.env.2⟩,fun b hb => ?_,(ho.rely r).1⟩
    have di:(UB x.w).all b := .inl hb
    exact(r.2.1 b (hk.all di)).trans (hk.blk b di hb)
   ·obtain⟨p1,p2,p3,p4⟩:=hp
    refine⟨x.u6 w' v ((cB da db).length*3),rfl,rfl,uI hR p1 p2 p3 p4,nB hR p1 p2 p3 p4,x5 (by simp) (fun r hr => ?_) (OG _) (fun u hu => ?_) p4⟩
    ·simp only[List.mem_map] at hr
     obtain⟨m,-,rfl⟩:=hr
     rfl
    ·simp only[List.mem_flatMap,mS,List.mem_cons,List.not_mem_nil,or_false] at hu
     obtain⟨m,-,rfl | rfl | rfl⟩:=hu<;>exact⟨rfl,rfl⟩
  ·cases h
 ·cases h
end Go.Di
end
