import Derived.Test.YtedcgbkilmlbhaaPk35
import Derived.Shelf.SlSortCmp.WholeK
import Derived.Shelf.SlicesG.Cmp
import Derived.Shelf.Lay
import Derived.Ground.SlsfProg
import Derived.Ground.SlgcProg
import Derived.WalkKit
import Derived.WalkSpells
import Derived.WalkLawsBesides
import Derived.StillTailTactics
import Derived.Deep.QuietTactic
import Derived.BigQuiet
import Derived.Lib.Hide
import Derived.Test.YtedcgbkilmlbhaaPk23
import Derived.Test.YtedcgbkilmlbhaaChecked
import Derived.KernelRfl
import Derived.Test.YtedcgbkilmlbhaaPk28
import Derived.Test.YtedcgbkilmlbhaaPk32
set_option maxHeartbeats 1000000
set_option maxRecDepth 100000
namespace Go.Proofs
open Go.Shelf Go.RowKit Go.Lib Go.Sort
def Try.Jl:Go.Shelf.Ren:=⟨λ|6=>61|15=>78|14=>77|28=>92|29=>93|20=>84|21=>85|22=>86|23=>87|24=>88|25=>89|26=>90|27=>91|46=>97|47=>98|48=>99|49=>100|50=>101|57=>104|n=>n,λ|22=>33|24=>56|25=>119|3=>3|39=>106|0=>0|53=>146|55=>57|4=>4|46=>140|45=>139|50=>49|5=>5|9=>9|66=>149|70=>152|76=>155|77=>156|n=>n,λ|n=>n⟩
theorem Try.KB:Go.Proofs.SlLaysF0.n6 Try.prog Try.Jl:={
 mixed:=by kernel_rfl
 f6:=⟨Try.f61.name,by decide,Try.func61.trans (congrArg some (by kernel_rfl))⟩
 f14:=⟨Try.f77.name,by decide,Try.func77.trans (congrArg some (by kernel_rfl))⟩
 f15:=Try.func78.trans (congrArg some (by kernel_rfl))
 f20:=⟨Try.f84.name,by decide,Try.func84.trans (congrArg some (by kernel_rfl))⟩
 f21:=⟨Try.f85.name,by decide,Try.func85.trans (congrArg some (by kernel_rfl))⟩
 f22:=⟨Try.f86.name,by decide,Try.func86.trans (congrArg some (by kernel_rfl))⟩
 f23:=⟨Try.f87.name,by decide,Try.func87.trans (congrArg some (by kernel_rfl))⟩
 f24:=⟨Try.f88.name,by decide,Try.func88.trans (congrArg some (by kernel_rfl))⟩
 f25:=⟨Try.f89.name,by decide,Try.func89.trans (congrArg some (by kernel_rfl))⟩
 f26:=⟨Try.f90.name,by decide,Try.func90.trans (congrArg some (by kernel_rfl))⟩
 f27:=⟨Try.f91.name,by decide,Try.func91.trans (congrArg some (by kernel_rfl))⟩
 f28:=Try.func92.trans (congrArg some (by kernel_rfl))
 f29:=Try.func93.trans (congrArg some (by kernel_rfl))
 f46:=⟨Try.f97.name,by decide,Try.func97.trans (congrArg some (by kernel_rfl))⟩
 f47:=Try.func98.trans (congrArg some (by kernel_rfl))
 f48:=Try.func99.trans (congrArg some (by kernel_rfl))
 f49:=⟨Try.f100.name,by decide,Try.func100.trans (congrArg some (by kernel_rfl))⟩
 f50:=⟨Try.f101.name,by decide,Try.func101.trans (congrArg some (by kernel_rfl))⟩
 f57:=⟨Try.f104.name,by decide,Try.func104.trans (congrArg some (by kernel_rfl))⟩
 t0:=Try.underlying0
 a0:=Try.isAgg0
 z0:=Try.sizeOf0
 v0:=Try.zeroValue0
 t3:=Try.underlying3
 a3:=Try.isAgg3
 z3:=Try.sizeOf3
 v3:=Try.zeroValue3
 t4:=Try.underlying4
 a4:=Try.isAgg4
 z4:=Try.sizeOf4
 v4:=Try.zeroValue4
 t5:=Try.underlying5
 a5:=Try.isAgg5
 z5:=Try.sizeOf5
 v5:=Try.zeroValue5
 t9:=Try.underlying9
 a9:=Try.isAgg9
 z9:=Try.sizeOf9
 v9:=Try.zeroValue9
 t22:=Try.underlying33
 a22:=Try.isAgg33
 z22:=Try.sizeOf33
 v22:=Try.zeroValue33
 t25:=Try.underlying119
 a25:=Try.isAgg119
 z25:=Try.sizeOf119
 v25:=Try.zeroValue119
 t39:=Try.underlying106
 a39:=Try.isAgg106
 z39:=Try.sizeOf106
 v39:=Try.zeroValue106
 t45:=Try.underlying139
 a45:=Try.isAgg139
 z45:=Try.sizeOf139
 v45:=Try.zeroValue139
 t46:=Try.underlying140
 a46:=Try.isAgg140
 z46:=Try.sizeOf140
 v46:=Try.zeroValue140
 t50:=Try.underlying49
 a50:=Try.isAgg49
 z50:=Try.sizeOf49
 v50:=Try.zeroValue49
 t53:=Try.underlying146
 a53:=Try.isAgg146
 z53:=Try.sizeOf146
 v53:=Try.zeroValue146
 t55:=Try.underlying57
 a55:=Try.isAgg57
 z55:=Try.sizeOf57
 v55:=Try.zeroValue57
 t66:=Try.underlying149
 a66:=Try.isAgg149
 z66:=Try.sizeOf149
 v66:=Try.zeroValue149
 t70:=Try.underlying152
 a70:=Try.isAgg152
 z70:=Try.sizeOf152
 v70:=Try.zeroValue152
 t76:=Try.underlying155
 a76:=Try.isAgg155
 z76:=Try.sizeOf155
 v76:=Try.zeroValue155
 t77:=Try.underlying156
 a77:=Try.isAgg156
 z77:=Try.sizeOf156
 v77:=Try.zeroValue156}
def Try.Of:Go.Shelf.Ren:=⟨λ|5=>64|7=>79|n=>n,λ|22=>3|3=>3|4=>4|n=>n,λ|n=>n⟩
theorem Try.aeO:Go.Proofs.SlLaysC2.n5 Try.prog Try.Of:={
 mixed:=by kernel_rfl
 f5:=⟨Try.f64.name,by decide,Try.func64.trans (congrArg some (by kernel_rfl))⟩
 f7:=⟨Try.f79.name,by decide,Try.func79.trans (congrArg some (by kernel_rfl))⟩
 t3:=Try.underlying3
 a3:=Try.isAgg3
 z3:=Try.sizeOf3
 v3:=Try.zeroValue3
 t4:=Try.underlying4
 a4:=Try.isAgg4
 z4:=Try.sizeOf4
 v4:=Try.zeroValue4
 t22:=Try.underlying3
 a22:=Try.isAgg3
 z22:=Try.sizeOf3
 v22:=Try.zeroValue3}
theorem Try.ag8 (x y:Int)(w:World):Calls Try.prog 64 #[.int .i64 x,.int .i64 y] w λe w'=>e=.returned (.int .i64 (Lib.compareInt x y))/\w'=w:=by have h:=AnyG.cmp_Compare_int Try.aeO x y w;exact h
def Yy(a b c:Int):Int:=if a=0 then if b=0 then c else b else a
theorem Try.aht (a b c:Int)(n:Nat)(w:World)(h0:w.cell? ⟨n,0,none⟩=some (.int .i64 a))(h1:w.cell? ⟨n,1,none⟩=some (.int .i64 b))(h2:w.cell? ⟨n,2,none⟩=some (.int .i64 c)):
  Calls Try.prog 63 #[.slice (some ⟨n,0,none⟩) 3 3] w λe w'=>e=.returned (.int .i64 (Yy a b c))/\w'=w:=by
 have hr:(a≠0->Yy a b c=a)/\(a=0->b≠0->Yy a b c=b)/\(a=0->b=0->Yy a b c=c):=by
  refine⟨λh=>if_neg h,λh h'=>?_,λh h'=>?_⟩;.unfold Yy;rw[if_pos h,if_neg h']
  unfold Yy;rw[if_pos h,if_pos h']
 generalize Yy a b c=r at hr⊢
 go_enter Try.func63,Try.ntmps63
 go_wp2
 go_loop [5,8] (λ_ i=>∃k:Nat,k<=3/\i=.int .i64 k/\(1<=k->a=0)/\(2<=k->b=0)/\(3<=k->c=0)) (λ_ i=>3-(intOf i).toNat)
 case atStart=>exact⟨0,by omega,rfl,by omega,by omega,by omega⟩
 case round=>
  obtain⟨k,hk,rfl,ha,hb,hc⟩:=hrel;have aeG:k=0\/k=1\/k=2\/k=3:=by omega
  rcases aeG with rfl|rfl|rfl|rfl
  .clear ha hb hc;by_cases hz:a=0
   .subst hz
    go_wp2
    go_round
    case rel=>exact⟨1,by omega,by go_num,by simp,by omega,by omega⟩
    case measure=>simp[intOf]
   have hra:=hr.1 hz;clear hr;subst hra
   go_wp2
   go_ret
   exact⟨rfl,rfl⟩
  .have ha:=ha (by omega);subst ha;clear hb hc h0;by_cases hz:b=0
   .subst hz
    go_wp2
    go_round
    case rel=>exact⟨2,by omega,by go_num,by simp,by simp,by omega⟩
    case measure=>simp[intOf]
   have hra:=hr.2.1 rfl hz;clear hr;subst hra
   go_wp2
   go_ret
   exact⟨rfl,rfl⟩
  .have ha:=ha (by omega);have hb:=hb (by omega);subst ha;subst hb;clear hc h0 h1;by_cases hz:c=0
   .subst hz
    go_wp2
    go_round
    case rel=>exact⟨3,by omega,by go_num,by simp,by simp,by simp⟩
    case measure=>simp[intOf]
   have hra:=hr.2.2 rfl rfl;clear hr;subst hra
   go_wp2
   go_ret
   exact⟨rfl,rfl⟩
  have ha:=ha (by omega);have hb:=hb (by omega);have hc:=hc (by omega);have hra:=hr.2.2 ha hb;subst ha;subst hb;subst hc;clear hr h0 h1 h2;subst hra
  go_wp2
  go_ret
  exact⟨rfl,rfl⟩
def yG(x y:Int×Int×Int):Int:=Yy (Lib.compareInt x.1 y.1) (Lib.compareInt x.2.1 y.2.1) (Lib.compareInt x.2.2 y.2.2)
theorem Try.Su (x y:Int×Int×Int)(W:World):Calls Try.prog 62 #[.agg #[.int .i64 x.1,.int .i64 x.2.1,.int .i64 x.2.2],.agg #[.int .i64 y.1,.int .i64 y.2.1,.int .i64 y.2.2]] W λe w'=>e=.returned (.int .i64 (yG x y))/\∃q os',w'=grow (W.drewN q) os':=by
 obtain⟨x1,x2,x3⟩:=x;obtain⟨y1,y2,y3⟩:=y;have QV:=Try.ag8;unfold yG;simp only;have hA:=QV x1 y1;have hB:=QV x2 y2;have hC:=QV x3 y3;clear QV;generalize Lib.compareInt x1 y1=A at*;generalize Lib.compareInt x2 y2=B at*;generalize Lib.compareInt x3 y3=C at*
 go_enter Try.func62,Try.ntmps62
 go_wp2
 refine wp_region_still_tail 15 (by kernel_rfl) (by kernel_rfl) ?_;simp only[List.take_succ_cons,List.take_zero,List.drop_succ_cons,nG];have a1:((W.alloc (.cells #[.int .i64 x1,.int .i64 x2,.int .i64 x3] 56)).alloc (.cells #[.int .i64 y1,.int .i64 y2,.int .i64 y3] 56)).drew.cell? ⟨W.heap.size,0,none⟩=some (.int .i64 x1):=by refine(World.cell?_alloc_lt _ _ _ (by simp)).trans ?_;rw[World.cell?_alloc_new];rfl
 have a2:((W.alloc (.cells #[.int .i64 x1,.int .i64 x2,.int .i64 x3] 56)).alloc (.cells #[.int .i64 y1,.int .i64 y2,.int .i64 y3] 56)).drew.cell? ⟨W.heap.size,1,none⟩=some (.int .i64 x2):=by refine(World.cell?_alloc_lt _ _ _ (by simp)).trans ?_;rw[World.cell?_alloc_new];rfl
 have a3:((W.alloc (.cells #[.int .i64 x1,.int .i64 x2,.int .i64 x3] 56)).alloc (.cells #[.int .i64 y1,.int .i64 y2,.int .i64 y3] 56)).drew.cell? ⟨W.heap.size,2,none⟩=some (.int .i64 x3):=by refine(World.cell?_alloc_lt _ _ _ (by simp)).trans ?_;rw[World.cell?_alloc_new];rfl
 have b1:((W.alloc (.cells #[.int .i64 x1,.int .i64 x2,.int .i64 x3] 56)).alloc (.cells #[.int .i64 y1,.int .i64 y2,.int .i64 y3] 56)).drew.cell? ⟨W.heap.size+1,0,none⟩=some (.int .i64 y1):=by have h:=World.cell?_alloc_new (W.alloc (.cells #[.int .i64 x1,.int .i64 x2,.int .i64 x3] 56)) #[.int .i64 y1,.int .i64 y2,.int .i64 y3] 56 0;rw[show(W.alloc (.cells #[.int .i64 x1,.int .i64 x2,.int .i64 x3] 56)).heap.size=W.heap.size+1 by simp]at h;exact h.trans rfl
 have b2:((W.alloc (.cells #[.int .i64 x1,.int .i64 x2,.int .i64 x3] 56)).alloc (.cells #[.int .i64 y1,.int .i64 y2,.int .i64 y3] 56)).drew.cell? ⟨W.heap.size+1,1,none⟩=some (.int .i64 y2):=by have h:=World.cell?_alloc_new (W.alloc (.cells #[.int .i64 x1,.int .i64 x2,.int .i64 x3] 56)) #[.int .i64 y1,.int .i64 y2,.int .i64 y3] 56 1;rw[show(W.alloc (.cells #[.int .i64 x1,.int .i64 x2,.int .i64 x3] 56)).heap.size=W.heap.size+1 by simp]at h;exact h.trans rfl
 have b3:((W.alloc (.cells #[.int .i64 x1,.int .i64 x2,.int .i64 x3] 56)).alloc (.cells #[.int .i64 y1,.int .i64 y2,.int .i64 y3] 56)).drew.cell? ⟨W.heap.size+1,2,none⟩=some (.int .i64 y3):=by have h:=World.cell?_alloc_new (W.alloc (.cells #[.int .i64 x1,.int .i64 x2,.int .i64 x3] 56)) #[.int .i64 y1,.int .i64 y2,.int .i64 y3] 56 2;rw[show(W.alloc (.cells #[.int .i64 x1,.int .i64 x2,.int .i64 x3] 56)).heap.size=W.heap.size+1 by simp]at h;exact h.trans rfl
 have hg:((W.alloc (.cells #[.int .i64 x1,.int .i64 x2,.int .i64 x3] 56)).alloc (.cells #[.int .i64 y1,.int .i64 y2,.int .i64 y3] 56)).drew=grow (W.drewN 1) (#[.cells #[.int .i64 x1,.int .i64 x2,.int .i64 x3] 56]++#[.cells #[.int .i64 y1,.int .i64 y2,.int .i64 y3] 56]):=by rw[alloc_eq_grow,alloc_eq_grow,grow_grow];rfl
 change wpStill _ _ ((W.alloc (.cells #[.int .i64 x1,.int .i64 x2,.int .i64 x3] 56)).alloc (.cells #[.int .i64 y1,.int .i64 y2,.int .i64 y3] 56)).drew (λa'=>wpList _ _ _ _ a' ((W.alloc (.cells #[.int .i64 x1,.int .i64 x2,.int .i64 x3] 56)).alloc (.cells #[.int .i64 y1,.int .i64 y2,.int .i64 y3] 56)).drew) _ _;generalize((W.alloc (.cells #[.int .i64 x1,.int .i64 x2,.int .i64 x3] 56)).alloc (.cells #[.int .i64 y1,.int .i64 y2,.int .i64 y3] 56)).drew=W2 at*;have HG:=Lib.hid hg;clear hg;repeat still_step
 still_call (hA _)
 repeat still_step
 still_call (hB _)
 repeat still_step
 still_call (hC _)
 repeat still_step
 refine wpStill_nil ?_;clear a1 a2 a3 b1 b2 b3 hA hB hC;have c0:(W2.alloc (.cells #[.int .i64 A,.int .i64 B,.int .i64 C] 3)).cell? ⟨W2.heap.size,0,none⟩=some (.int .i64 A):=by rw[World.cell?_alloc_new];rfl
 have c1:(W2.alloc (.cells #[.int .i64 A,.int .i64 B,.int .i64 C] 3)).cell? ⟨W2.heap.size,1,none⟩=some (.int .i64 B):=by rw[World.cell?_alloc_new];rfl
 have c2:(W2.alloc (.cells #[.int .i64 A,.int .i64 B,.int .i64 C] 3)).cell? ⟨W2.heap.size,2,none⟩=some (.int .i64 C):=by rw[World.cell?_alloc_new];rfl
 have hor:=Try.aht A B C W2.heap.size _ c0 c1 c2;clear c0 c1 c2
 go_wp2_with (go_at_call 63;refine hor.mono ?_;rintro e w' ⟨rfl,rfl⟩)
 go_ret
 have xx:∃q os',W2.alloc (.cells #[.int .i64 A,.int .i64 B,.int .i64 C] 3)=grow (W.drewN q) os':=
  ⟨1,(#[.cells #[.int .i64 x1,.int .i64 x2,.int .i64 x3] 56]++#[.cells #[.int .i64 y1,.int .i64 y2,.int .i64 y3] 56])++#[.cells #[.int .i64 A,.int .i64 B,.int .i64 C] 3],by rw[alloc_eq_grow,HG.out,grow_grow]⟩
 exact⟨rfl,xx⟩
end Go.Proofs
namespace Go.Co
open Go Go.Conc Go.Proofs Go.Sort Go.Shelf
def SB(x y:Sm):Prop:=x.1<y.1\/(x.1=y.1/\(x.2.1<y.2.1\/(x.2.1=y.2.1/\x.2.2<y.2.2)))
theorem Bf(x y:Int):(x<y/\Lib.compareInt x y=-1)\/(x=y/\Lib.compareInt x y=0)\/(y<x/\Lib.compareInt x y=1):=by
 unfold Lib.compareInt;by_cases h1:x<y;.exact .inl ⟨h1,by rw[if_pos h1]⟩
 by_cases h2:y<x;.exact .inr (.inr ⟨h2,by rw[if_neg h1,if_pos h2]⟩)
 exact .inr (.inl ⟨by omega,by rw[if_neg h1,if_neg h2]⟩)
theorem lt_iff(x y:Sm):ltOf yG x y=true↔SB x y:=by obtain⟨x1,x2,x3⟩:=x;obtain⟨y1,y2,y3⟩:=y;unfold ltOf yG Yy SB;simp only[cq];rcases Bf x1 y1 with ⟨h1,e1⟩|⟨h1,e1⟩|⟨h1,e1⟩<;>rcases Bf x2 y2 with ⟨h2,e2⟩|⟨h2,e2⟩|⟨h2,e2⟩<;>rcases Bf x3 y3 with ⟨h3,e3⟩|⟨h3,e3⟩|⟨h3,e3⟩<;>simp[e1,e2,e3]<;>omega
theorem Ef(x y:Sm):ltOf yG x y=false↔¬SB x y:=by rw[<-lt_iff];simp
theorem af2:SWO (ltOf yG) where
 irrefl x:=by rw[Ef];unfold SB;omega
 trans x y z h1 h2:=by rw[lt_iff]at*;unfold SB at*;omega
 ntrans x y z h1 h2:=by rw[Ef]at*;unfold SB at*;omega
theorem Rk{d:Array Sm}{R:List Sm}(hp:d.toList.Perm R)(hs:SortedIn (ltOf yG) 0 d.size d)(hR:R.Pairwise SB):d.toList=R:=by
 refine List.Perm.eq_of_pairwise (le:=λx y=>¬SB y x) (λa b _ _ h1 h2=>?_) ?_ (hR.imp λ{a b} h=>?_) hp
 .obtain⟨a1,a2,a3⟩:=a;obtain⟨b1,b2,b3⟩:=b;unfold SB at h1 h2;simp only at h1 h2;have e1:a1=b1:=by omega
  have e2:a2=b2:=by omega
  have e3:a3=b3:=by omega
  rw[e1,e2,e3]
 .rw[List.pairwise_iff_getElem];intro i j hi hj Ou;have h:=hs i j (kT _) Ou (by simpa using hj);rw[Ef]at h;simp only[za]at hi hj;rw[sR d i hi,sR d j hj]at h;simpa using h
 unfold SB at*;omega
def Yo(l:List Int):Prop:=l.Pairwise (·<·)
theorem NF(low up:List Int)(cL:Int):Yo (oK low up cL):=by unfold Yo oK Sz;refine List.Pairwise.filter _ ?_;rw[List.pairwise_map];exact List.pairwise_lt_range.imp λ{a b} h=>by omega
theorem Rn{da db:Wk}(ha:Yo da.bC)(hb:Yo db.bC):(en da db).Pairwise SB:=by
 unfold en;rw[List.pairwise_flatMap];refine⟨λx _=>?_,ha.imp λ{x x'} h=>?_⟩
 .rw[List.pairwise_flatMap];refine⟨λy _=>?_,hb.imp λ{y y'} h=>?_⟩;.rw[List.pairwise_map];exact(NF _ _ _).imp λ{s s'} h=>.inr ⟨rfl,.inr ⟨rfl,h⟩⟩
  intro m hm m' HE;obtain⟨s,_,rfl⟩:=dM.1 hm;obtain⟨s',_,rfl⟩:=dM.1 HE;exact .inr ⟨rfl,.inl h⟩
 intro m hm m' HE;obtain⟨y,_,hm⟩:=qH.1 hm;obtain⟨y',_,HE⟩:=qH.1 HE;obtain⟨s,_,rfl⟩:=dM.1 hm;obtain⟨s',_,rfl⟩:=dM.1 HE;exact .inl h
theorem Hh(d:Array Sm):(flatK sA 3 d).toList=d.toList.flatMap sA:=by
 apply mA;intro t;have hlen:(d.toList.flatMap sA).length=d.size*3:=by rw[IF];simp
 by_cases ht:t<d.size*3
 .have h1:=get_flatK sA 3 d t ht;rw[sR _ t (by simpa using ht)]at h1;rw[kV,ct (by simpa using ht),h1];have key:∀(l:List Sm)(t:Nat),t<l.length*3->(l.flatMap sA)[t]? =some ((sA (l[t/3]!))[t % 3]!):=by
   intro l;induction l with
   |nil=>intro t h;simp at h
   |cons m l ih=>
    intro t h;rw[cT];by_cases h3:t<3
    .have e0:t/3=0:=by omega
     have e1:t % 3=t:=by omega
     rw[e0,e1,ee (by simpa [sA]using h3)];have:t=0\/t=1\/t=2:=by omega
     rcases this with rfl|rfl|rfl<;>rfl
    obtain⟨s,rfl⟩:∃s,t=s+3:=⟨t-3,by omega⟩;have e0:(s+3)/3=s/3+1:=by omega
    have e1:(s+3) % 3=s % 3:=by omega
    rw[e0,e1,iI (by simp[sA])];have:=ih s (by simp at h;omega);simpa [sA]using this
  rw[key d.toList t (by simpa using ht)];congr 3;have hd:t/3<d.size:=by omega
  rw[sR d _ hd,sR d.toList _ (by simpa using hd)];simp
 rw[fI (by simp;omega),fI (by omega)]
theorem N1{w:World}{g:Nat}{cur:Array Value}{e:TypeId}{d:Array Sm}(hb:w.heap[g]? =some (.cells cur e (0,0)))(ht:cur.toList.take (d.size*3)=d.toList.flatMap sA):HoldsK sA 3 w g 0 d:=by
 intro j hj;rw[size_flatK]at hj;refine⟨?_,by simp[World.frozen?,hb]⟩;have h1:(cur.toList.take (d.size*3))[j]? =(flatK sA 3 d).toList[j]? :=by rw[ht,Hh]
 rw[List.getElem?_take_of_lt hj]at h1;simp only[World.cell?,hb,jk];simp only[Option.isSome_none,aI,if_false];rw[<-kV,h1,kV,ct (by simpa using hj),sR _ j (by simpa using hj)];rfl
theorem Si{w:World}{g n:Nat}{os:Array Obj}{cur:Array Value}{e:TypeId}{fr:Nat×Nat}(d:Array Sm)(hb:w.heap[g]? =some (.cells cur e fr)):
  (sortWorldK sA 3 w g 0 n d os).heap[g]? =some (.cells (putCells id 0 (flatK sA 3 d) cur) e fr):=by
 have hg:g<w.heap.size:=(aN.1 hb).1;unfold sortWorldK putRowK;rw[heap_grow_old _ _ (by simpa using hg)];simp[putRow,mapBlock,Sort.ahead,Array.getElem?_modify,hb,onCells]
theorem Jx{w:World}{g n:Nat}{os:Array Obj}(d:Array Sm):w.grownBy (sortWorldK sA 3 w g 0 n d os) (some g):=by unfold sortWorldK putRowK;refine⟨rfl,rfl,rfl,by simp,λk hk hne=>?_⟩;rw[heap_grow_old _ _ (by simpa using hk)];have:g≠k:=λe=>hne (by rw[e]);simp[putRow,mapBlock,Sort.ahead,Array.getElem?_modify,this]
theorem Jr{w:World}{base g cap n:Nat}{e:TypeId}{os:Array Obj}{cur:Array Value}{d:Array Sm}(uz:base<=g)(hb:w.heap[g]? =some (.cells cur e (0,0)))
  (h1:d.size<=cap) (h2:cap<=maxLen) (h3:cur.size=cap*3):
  (sortWorldK sA 3 w g 0 n d os).ownsRow base e 3 (.slice (some ⟨g,0,none⟩) d.size cap) d.size (d.toList.flatMap sA):=by
 refine⟨by rw[IF];simp,.inr ⟨g,cap,_,rfl,uz,Si d hb,h1,h2,by simp[putCells,h3],?_⟩⟩;rw[<-Hh];apply mA;intro j;by_cases hj:j<d.size*3
 .rw[List.getElem?_take_of_lt hj,kV,kV];have hc:j<cur.size:=by omega
  simp[putCells,hj,hc]
 rw[List.getElem?_take_eq_none (by omega),fI (by simp;omega)]
end Go.Co
namespace Go.Co
open Go Go.Proofs
open Go.Extern.RuntimeError
variable {P:Program}
theorem t_described(v:Value):T1 P (described v):=by
 unfold described
 (repeat' first|exact TC.out|(with_reducible refine aQ ?_ (λ_=>?_))|(with_reducible refine jA ?_ ?_)|split|dsimp only)
theorem t_text(s:String):T1 P (text s):=aY trivial
theorem t_pkgpathOf(i:TypeInfo):T1 P (pkgpathOf i):=by
 unfold pkgpathOf
 (repeat' first|exact TC.out|(with_reducible refine aQ ?_ (λ_=>?_))|(with_reducible refine jA ?_ ?_)|split|dsimp only)
theorem t_boundsError(args:Array Value):T1 P (boundsError args):=by
 unfold boundsError;rcases args with ⟨_|⟨x,_|⟨y,l⟩⟩⟩;.exact aJ _
 rotate_left
 .exact aJ _
 cases x<;>try exact aJ _
 rename_i cs;rcases cs with ⟨_|⟨a,_|⟨b,_|⟨c,_|⟨d,_|⟨e,l⟩⟩⟩⟩⟩⟩<;>try exact aJ _
 cases a<;>try exact aJ _
 cases b<;>try exact aJ _
 cases c<;>try exact aJ _
 cases d<;>try exact aJ _
 rename_i k x k1 y signed k2 code;show T1 P (match(if(signed&&decide (x<0))=true then boundsNegErrorFmts else boundsErrorFmts)[code.toNat]? with
  |some fmt=>text ("runtime error: "++(fmt.replace "%x" (toString (if signed=true then x else IntKind.u64.wrap x))).replace "%y" (toString y))
  |none=>stuck "boundsError: no such code")
 split;.exact t_text _
 exact aJ _
theorem t_nothing(args:Array Value):T1 P (nothing args):=aY trivial
theorem t_unhashable(args:Array Value):T1 P (unhashableTypeError args):=by
 unfold unhashableTypeError;rcases args with ⟨_|⟨x,_|⟨y,l⟩⟩⟩;.exact aJ _
 rotate_left
 .exact aJ _
 cases x<;>try exact aJ _
 rename_i cs;rcases cs with ⟨_|⟨a,_|⟨b,l⟩⟩⟩<;>try exact aJ _
 refine(?_:T1 P (described a>>=_));refine aQ (t_described a) λo=>?_;cases o with
 |none=>exact TC.out
 |some t=>exact t_text _
theorem t_typeAssertion(args:Array Value):T1 P (typeAssertionError args):=by
 unfold typeAssertionError
 (repeat' first|exact TC.out|exact t_text _|exact t_described _|exact t_pkgpathOf _|(with_reducible refine aQ ?_ (λ_=>?_))|(with_reducible refine jA ?_ ?_)|split|dsimp only)
theorem fd0:Extern.find Try.f0=none:=by kernel_rfl
theorem fd1:Extern.find Try.f1=none:=by kernel_rfl
theorem ag5:Extern.find Try.f106=some boundsError:=by kernel_rfl
theorem ag4:Extern.find Try.f107=some nothing:=by kernel_rfl
theorem ag3:Extern.find Try.f108=some (λargs=>do pure (.string ("runtime error: ".toUTF8++(<-asString (args.getD 0 (.tuple #[])))))):=by kernel_rfl
theorem ag2:Extern.find Try.f109=some nothing:=by kernel_rfl
theorem ag1:Extern.find Try.f110=some (λargs=>do pure (.string (<-asString (args.getD 0 (.tuple #[]))))):=by kernel_rfl
theorem ag0:Extern.find Try.f111=some nothing:=by kernel_rfl
theorem agZ:Extern.find Try.f112=some (λargs=>do pure (.string ("runtime error: ".toUTF8++(<-asString ((<-asAgg (args.getD 0 (.tuple #[]))).getD 0 (.tuple #[])))))):=by kernel_rfl
theorem agY:Extern.find Try.f113=some nothing:=by kernel_rfl
theorem agX:Extern.find Try.f114=some typeAssertionError:=by kernel_rfl
theorem agW:Extern.find Try.f115=some nothing:=by kernel_rfl
theorem agV:Extern.find Try.f116=some (λ_=>text "runtime error: panic called with nil argument"):=by kernel_rfl
theorem agU:Extern.find Try.f117=some nothing:=by kernel_rfl
theorem agT:Extern.find Try.f118=none:=by kernel_rfl
theorem agS:Extern.find Try.f119=some unhashableTypeError:=by kernel_rfl
theorem agR:Extern.find Try.f120=some nothing:=by kernel_rfl
theorem agQ:Extern.find Try.f121=none:=by kernel_rfl
theorem agP:Extern.find Try.f122=some (λargs=>do pure (strVal (Extern.Rtype.kindName (<-asInt (args.getD 0 (.tuple #[]))).toNat))):=by kernel_rfl
theorem aeZ:(Try.prog.funcs.toList.zipIdx.all λ(f,i)=>!f.body.isNone||i==0||i==1||(decide (106<=i)&&decide (i<=122)))=true:=by kernel_rfl
theorem af3:Try.prog.funcs.size=123:=by kernel_rfl
theorem agn:(Try.prog.funcs.toList.all λf=>!f.body.isNone||(Extern.findNext f).isNone)=true:=by kernel_rfl
theorem names:(Try.prog.funcs.toList.all λf=>!(f.name=="runtime.NumGoroutine"))=true:=by kernel_rfl
theorem agp:(Try.prog.funcs.toList.all λf=>!f.norace)=true:=by kernel_rfl
theorem A4{f:FuncId}{fn:Func}(h:Try.prog.funcs[f]? =some fn):fn∈Try.prog.funcs.toList:=by obtain⟨hlt,rfl⟩:=aN.1 h;exact Array.getElem_mem_toList hlt
theorem aek(f:Nat)(h:f=0\/f=1\/(106<=f/\f<=122)):f=0\/f=1\/f=106\/f=107\/f=108\/f=109\/f=110\/f=111\/f=112\/f=113\/f=114\/f=115\/f=116\/f=117\/f=118\/f=119\/f=120\/f=121\/f=122:=by omega
theorem lK:Plain Try.prog where
 count f fn h:=by have:=aX.1 names fn (A4 h);simpa using this
 quiet f:=by
  cases h:Try.prog.funcs[f]? with
  |none=>rfl
  |some fn=>have:=aX.1 agp fn (A4 h);simpa using this
 next f fn h hb:=by have:=aX.1 agn fn (A4 h);simpa [hb]using this
 find f fn e h hb he args:=by
  have hlt:f<123:=by rw[<-af3];exact(aN.1 h).1
  have hz:(fn,f)∈Try.prog.funcs.toList.zipIdx:=by rw[vR];simpa using h
  have h1:=aX.1 aeZ _ hz;have h2:f=0\/f=1\/(106<=f/\f<=122):=by
   simp only[hb,gn,Bool.false_or,gY,aC,dX,cq]at h1;rcases h1 with (h1|h1)|h1;.exact .inl h1
   .exact .inr (.inl h1)
   exact .inr (.inr h1)
  have pick:∀{i:Nat}{g:Func},f=i->Try.prog.funcs[i]? =some g->fn=g:=λhi hg=>by subst hi;rw[hg]at h;exact(cA h).symm
  have aeS:f=0\/f=1\/f=106\/f=107\/f=108\/f=109\/f=110\/f=111\/f=112\/f=113\/f=114\/f=115\/f=116\/f=117\/f=118\/f=119\/f=120\/f=121\/f=122:=aek f h2;rcases aeS with hi|hi|hi|hi|hi|hi|hi|hi|hi|hi|hi|hi|hi|hi|hi|hi|hi|hi|hi;.rw[pick hi Try.func0]at he;rw[fd0]at he;cases he
  .rw[pick hi Try.func1]at he;rw[fd1]at he;cases he
  .rw[pick hi Try.func106]at he;rw[ag5]at he;cases he;exact t_boundsError _
  .rw[pick hi Try.func107]at he;rw[ag4]at he;cases he;exact t_nothing _
  .rw[pick hi Try.func108]at he;rw[ag3]at he;cases he
   (repeat' first|exact TC.out|(with_reducible refine aQ ?_ (λ_=>?_))|(with_reducible refine jA ?_ ?_)|split|dsimp only)
  .rw[pick hi Try.func109]at he;rw[ag2]at he;cases he;exact t_nothing _
  .rw[pick hi Try.func110]at he;rw[ag1]at he;cases he
   (repeat' first|exact TC.out|(with_reducible refine aQ ?_ (λ_=>?_))|(with_reducible refine jA ?_ ?_)|split|dsimp only)
  .rw[pick hi Try.func111]at he;rw[ag0]at he;cases he;exact t_nothing _
  .rw[pick hi Try.func112]at he;rw[agZ]at he;cases he
   (repeat' first|exact TC.out|(with_reducible refine aQ ?_ (λ_=>?_))|(with_reducible refine jA ?_ ?_)|split|dsimp only)
  .rw[pick hi Try.func113]at he;rw[agY]at he;cases he;exact t_nothing _
  .rw[pick hi Try.func114]at he;rw[agX]at he;cases he;exact t_typeAssertion _
  .rw[pick hi Try.func115]at he;rw[agW]at he;cases he;exact t_nothing _
  .rw[pick hi Try.func116]at he;rw[agV]at he;cases he;exact t_text _
  .rw[pick hi Try.func117]at he;rw[agU]at he;cases he;exact t_nothing _
  .rw[pick hi Try.func118]at he;rw[agT]at he;cases he
  .rw[pick hi Try.func119]at he;rw[agS]at he;cases he;exact t_unhashable _
  .rw[pick hi Try.func120]at he;rw[agR]at he;cases he;exact t_nothing _
  .rw[pick hi Try.func121]at he;rw[agQ]at he;cases he
  rw[pick hi Try.func122]at he;rw[agP]at he;cases he
  (repeat' first|exact TC.out|(with_reducible refine aQ ?_ (λ_=>?_))|(with_reducible refine jA ?_ ?_)|split|dsimp only)
end Go.Co
namespace Go.Proofs
open Go.Shelf Go.RowKit Go.Lib Go.Sort
theorem Try.N0 (v:Value)(w:World):Calls Try.prog 84 #[.slice none 0 0,.int .i64 0,.int .i64 0,v] w λe w'=>e=.returned (.tuple #[])/\w'=w:=by
 go_enter Try.func84,Try.ntmps84
 go_wp2
 go_loop [8] (λi=>i=.int .i64 1) (λ_=>0)
 case atStart=>rfl
 case round=>
  subst hrel
  go_wp2
  go_end0
  exact⟨rfl,rfl⟩
theorem Try.NQ (l:Int)(v:Value)(w:World):Calls Try.prog 77 #[.slice none 0 0,.int .i64 0,.int .i64 0,.int .i64 l,v] w λe w'=>e=.returned (.tuple #[])/\w'=w:=by
 have hi:=Try.N0 v
 go_enter Try.func77,Try.ntmps77
 go_wp2
 go_loop [1,2] (λa b=>a=.int .i64 0/\b=.int .i64 0) (λ_ _=>0)
 case atStart=>exact⟨rfl,rfl⟩
 case round=>
  obtain⟨rfl,rfl⟩:=hrel
  go_wp2_with (go_at_call 84;refine(hi _).mono ?_;rintro e w' ⟨rfl,rfl⟩)
  exact⟨rfl,.tuple #[],results_none (by rfl) _ _ _,rfl,rfl⟩
theorem Try.Xt (w:World):Calls Try.prog 78 #[.int .u64 0] w λe w'=>e=.returned (.int .i64 (Lib.bitLen 0:Nat))/\w'=w:=by have h:=Any.bits_Len (SlLaysF0.n15.bits (P:=Try.prog) {Try.KB with}) (0:Int) w (by omega) (by omega);exact h
theorem Try.NC (v:Value)(w:World):Calls Try.prog 61 #[.slice none 0 0,v] w λe w'=>e=.returned (.tuple #[])/\w'=w:=by
 have hl:=Try.Xt;have hp:=λl=>Try.NQ l v
 go_enter Try.func61,Try.ntmps61
 go_wp2_with (first|(go_at_call 78;refine(hl _).mono ?_;rintro e w' ⟨rfl,rfl⟩)|(go_at_call 77;refine(hp _ _).mono ?_;rintro e w' ⟨rfl,rfl⟩))
 go_end0
 exact⟨rfl,rfl⟩
end Go.Proofs
section
namespace Go.Proofs
open Go.Shelf Go.RowKit Go.Lib Go.Sort Go.Co
theorem Try.ad9 (g cap:Nat)(d:Array Sm)(w:World)(hH:HoldsK sA 3 w g 0 d)(hg:g<w.heap.size)(hsz:d.size<4611686018427387904):
  Calls Try.prog 61 #[.slice (some ⟨g,0,none⟩) d.size cap,.func (.func 62) #[] #[]] w λe w'=>e=.returned (.tuple #[])/\∃d' n os,PermIn 0 d.size d d'/\SortedIn (ltOf yG) 0 d.size d'/\w'=sortWorldK sA 3 w g 0 n d' os:=by
 have eg:∀args w,(callFunc 62 args).run Try.prog w=.ok (.enter 62 args) w:=enters_of Try.func62 (by kernel_rfl) rfl;exact AnyQ.slices_SortFunc Try.KB 3 Try.isAgg56 Try.sizeOf56 sA (λ_=>rfl) (λx v hv=>by simp[sA]at hv;rcases hv with rfl|rfl|rfl<;>rfl) yG af2 62 #[] g 0 cap d w eg (λ_ _ _ _ x y=>Try.Su x y _) hH hg hsz
end Go.Proofs
namespace Go.Co
open Go Go.Conc Go.Proofs Go.Sort Go.Shelf
variable {P:Program} {aa:Machine->Trace->Prop} {γ:So} {w:World}
theorem Ei{Γ:Type}{main:Bool}{K:Γ->Goroutine->World->Prop}{Rl:Γ->World->World->Prop}{St:Γ->World->Γ->World->Array Event->Prop}{fn:FuncId}{Q:Γ->Exit->Act->World->Prop}{a:Act}{ops:Array Oper}{i:Nat}{rest:List Nat}{o:Oper}(C:KC P main K Rl St){γ:Γ}{v:Value}(ho:ops[i]? =some o)(hw:Region.wanted o (yielded ops a.tmps)=true)(hrun:∀w,(execOp a.eval o).run P w=.ok (.value v) w)(wE:∀w,(execOp a.eval o).events P w #[]=#[])
  (h:KO K fn γ ops rest Q (a.put o.dst v) w):KO K fn γ ops (i::rest) Q a w:=
 yS C ho hw λw₁ r=>by rw[hrun w₁];exact⟨γ,by rw[listed_nil (wE w₁)];exact C.idle _ _,I6 C r h⟩
def Bi(A:Nat->Prop)(B0:Nat)(w0:World)(R:List Sm)(out:Value)(w:World):Prop:=Old A B0 w0 w/\w.ownsRow B0 56 3 out R.length (R.flatMap sA)
theorem Wa{A:Nat->Prop}{B0:Nat}{w0:World}{R got:List Sm}{out:Value}(hR:R.Pairwise SB)(hlen:R.length<=4294967296)(hA:∀b,A b->b<B0)(hO:Old A B0 w0 w)(hp:got.Perm R)(xw:w.ownsRow B0 56 3 out got.length (got.flatMap sA)):
  Calls Try.prog 61 #[out,.func (.func 62) #[] #[]] w λe w'=>∃v,e=.returned v/\Bi A B0 w0 R out w':=by
 have hl:=hp.length_eq;rcases xw.2 with ⟨rfl,h0⟩|⟨g,cap,cur,rfl,hb,hg,hn,hc,om,ht⟩;.have ahP:got=[]:=eS h0;have hRn:R=[]:=eS (by omega);subst ahP;subst hRn;exact(Try.NC _ w).mono λe w' ⟨he,hw⟩=>⟨_,he,by subst hw;exact⟨hO,xw⟩⟩
 have hlt:g<w.heap.size:=(aN.1 hg).1;have hH:HoldsK sA 3 w g 0 got.toArray:=N1 hg (by simpa using ht);have h:=Try.ad9 g cap got.toArray w hH hlt (by simp;omega);simp only[mB]at h;refine h.mono ?_;rintro e w' ⟨he,d',n,os,hpm,hs,rfl⟩;obtain⟨hsz,-,hpm⟩:=hpm;have hsz':d'.size=got.length:=by simpa using hsz
 have hd:d'.toList=R:=by
  refine Rk ?_ (by rw[hsz'];exact hs) hR;have h1:(d'.extract 0 got.length)=d':=by rw[<-hsz'];simp
  have h2:(got.toArray.extract 0 got.length)=got.toArray:=by simp
  rw[h1,h2]at hpm;exact hpm.trans hp
 have hgr:=Jx (w:=w) (g:=g) (n:=n) (os:=os) d';refine⟨_,he,⟨λb o8=>?_,bD hO.2.1 hgr.size,hgr.os.trans hO.2.2.1,hgr.output.trans hO.2.2.2⟩,?_⟩;.have:=hA b o8;exact(hgr.block b (dH this hO.2.1) (λe=>by cases e;omega)).trans (hO.1 b o8)
 have:=Jr (n:=n) (os:=os) (d:=d') hb hg (by omega) hc om;rw[hsz',hd]at this;rw[<-hl];exact this
theorem ZN{da db:Wk}(wz:da.ok)(Bo:db.ok)(haa:Yo da.bC)(qv:Yo db.bC):VK aa (en da db):=by
 intro A B0 w0 γ' a' w' hE;obtain⟨-,-,hS,got,out,hp,xw,u,rfl⟩:=hE;have C:=yU (aa:=aa) lK;unfold UJ;show KJ _ _ _ (.seq (.region _ _ false) (.seq (.region _ _ false) .ret)) _ _ _;refine bh C (A8 C ?_);simp only[mB,dN,mz,Nat.reduceAdd,jk,List.range,List.range.loop];refine Ei C (v:=?v1) rfl (by rfl) (λw=>run_eq_of λK hK=>?r1) (λw=>?e1) ?h1
 case r1=>go_simp;exact hK
 case e1=>simp[go_sem]
 try walk_nrm
 refine aar lK (R:=λ_ w=>Bi A B0 w0 (en da db) out w) rfl (by rfl) rfl Try.func61 rfl (λτ=>?_) (λv w2 hR τ d=>?_);.simp only[List.map_toArray,bn,fG];have hO:Old A B0 w0 (w'.re τ 0):=⟨hS.blk,hS.size,hS.env.1,hS.env.2⟩;exact Wa (Rn haa qv) (EE wz Bo) hS.lt hO hp xw
 have mP:Bi A B0 w0 (en da db) out (w2.re τ d):=hR;generalize w2.re τ d=w3 at*;try walk_nrm
 refine aW C ?_;co_then;refine bh C (A8 C ?_);simp only[mB,dN,mz,Nat.reduceAdd,jk,List.range,List.range.loop];refine Ei C (v:=?v2) rfl (by rfl) (λw=>run_eq_of λK hK=>?r2) (λw=>?e2) ?h2
 case r2=>go_simp;exact hK
 case e2=>simp[go_sem]
 try walk_nrm
 refine Ei C (v:=?v3) rfl (by rfl) (λw=>run_eq_of λK hK=>?r3) (λw=>?e3) ?h3
 case r3=>go_simp;exact hK
 case e3=>simp[go_sem]
 try walk_nrm
 refine aW C ?_;co_then;refine DC C ?_;exact⟨rfl,rfl,mP.1,mP.2⟩
theorem ZY{ca cb:Array Value}{da db:Wk}(wz:da.ok)(Bo:db.ok)(haa:Yo da.bC)(qv:Yo db.bC)(hva:wQ γ w ca da)(hvb:wQ γ w cb db):
  yK (QZ Try.prog aa) Try.prog (.bad,γ) 33 #[.agg ca,.agg cb] w λγ' v w'=>γ'.1=.bad/\Kept γ w γ'.2 w'/\lU γ'.2 w' w.heap.size 56 3 v (en da db).length ((en da db).flatMap sA):=
 LO lK wz Bo hva hvb (ZN wz Bo haa qv)
end Go.Co
end
namespace Go.Di
open Go Go.Conc Go.Co Go.Proofs
variable {P:Program} {aa:Machine->Trace->Prop} {x:Cx}
theorem LZ{g:FuncId}{vals:Array Value}{Post':Value->World->Prop}(hP:Plain P)(h:yK (jf P aa) P () g vals x.w (λ_=>Post')){Post:Cx->Value->Prop}(hq:∀v w',Post' v w'->∃y:Cx,y.w=w'/\Post y v):fJ P aa x g vals Post:=by
 obtain⟨vr,c,hf,-,OL,hwp⟩:=h;refine⟨⟨vr,c,hf,OL⟩,λfr cs hc=>?_⟩;have C:=yU (aa:=aa) hP;rw[enter_at vals hf OL];have lz:∀(a':Act)(w':World)(todo:List Item),(a'.defers=[]/\∃v,ResultsC P vr a'.tmps v/\Post' v w')->
   jf P aa () (G {(base g).at a' todo with mode:=.returning} (fr::cs)) w':=by
  rintro a' w' todo ⟨hd,v,hr,hp⟩;obtain⟨y,rfl,hy⟩:=hq v w' hp;refine C.go (λw₁=>?_) (hc y v hy);rw[stepG_leave (b:=base g) rfl hd hf (hr w₁).1 (hr w₁).2]
 refine hwp (base g) [] _ rfl (by simp[base]) λγ' e a' w' q=>?_;cases e with
 |normal=>exact C.go (λ_=>stepG_end) (lz a' w' [] q)
 |ret=>exactλtodo=>lz a' w' todo q
 |exit id=>exact q.elim
 |goto l=>exact q.elim
 |panic ch=>exact q.elim
 |outgrown=>exact q.elim
def Ak(v:Value)(n:Nat)(b o:Nat):Prop:=v.ownBlock=some b/\o<n
def Cx.Bt (x:Cx)(w':World)(v:Value)(n:Nat):Cx:={x with w:=w',Fz:=λb o=>x.Fz b o\/Ak v n b o}
section
variable {w':World} {v:Value} {e:TypeId} {s n:Nat} {xs:List Value}
theorem s6(hR:Rel x)(hs:x.w.heap.size<=w'.heap.size)(he:w'.os=x.w.os/\w'.output=x.w.output)(ho:∀b,b<x.w.heap.size->w'.heap[b]? =x.w.heap[b]?)(hr:w'.ownsRow x.w.heap.size e s v n xs):bV x (x.Bt w' v (n*s)) where
 size:=hs
 env:=he
 fz:=λb o h=>⟨.inl h,by obtain⟨u,hu⟩:=hR.Ae b o h;exact cell_of_block (ho b (World.block_lt_of_cell? _ ⟨b,o,none⟩ hu)) o⟩
 JA:=λb o h=>h.imp id λh=>.inl (hr.lt b h.1).1
 old:=λb hb _=>ho b hb
 len:=ak _
 cells:=λid l h=>⟨rfl,l,h⟩
 eC:=λid b h hb=>⟨rfl,⟨b,h,eV hb⟩,λhd=>by obtain⟨o,h1,-⟩:=hR.eC id b h hb;exact ho _ (aN.1 h1).1⟩
 dR:=λt e s n h=>⟨n,h,ak _,λ_=>⟨rfl,rfl⟩⟩
 live:=λi h=>.inl ⟨h,rfl⟩
 ops:=λ_ _ _ l z h=>⟨l,z,h,ak _,λe=>⟨rfl,e⟩,λ_=>⟨rfl,rfl⟩⟩
theorem AY(hR:Rel x)(hs:x.w.heap.size<=w'.heap.size)(he:w'.os=x.w.os/\w'.output=x.w.output)(ho:∀b,b<x.w.heap.size->w'.heap[b]? =x.w.heap[b]?)(hr:w'.ownsRow x.w.heap.size e s v n xs):Rel (x.Bt w' v (n*s)):=by
 have M:=s6 hR hs he ho hr;have hlt:∀{b:Nat}{o:Obj},x.w.heap[b]? =some o->b<x.w.heap.size:=λh=>(aN.1 h).1;have yq:∀b o,Ak v (n*s) b o->x.w.heap.size<=b:=λb o h=>(hr.lt b h.1).1;refine⟨λid l hl=>?_,λid e' s' n' hl=>?_,λid b hl hb=>?_,hR.inj,λb o h=>?_,λid hl o h=>?_,λid e' s' n' hl o h=>?_,λid e' s' l z hl=>?_⟩;.obtain⟨arr,e',h1,h2,h3⟩:=hR.cells id l hl;exact⟨arr,e',(ho _ (hlt h1)).trans h1,h2,λj c hc=>(h3 j c hc).mono M⟩
 .obtain⟨arr,h1,h2⟩:=hR.dR id e' s' n' hl;exact⟨arr,(ho _ (hlt h1)).trans h1,h2⟩
 .obtain⟨o,h1,h2⟩:=hR.eC id b hl hb;exact⟨o,(ho _ (hlt h1)).trans h1,h2.mono M⟩
 .rcases h with h|h;.obtain⟨u,hu⟩:=hR.Ae b o h;exact⟨u,((M.fz b o h).2).trans hu⟩
  obtain⟨hv,hon⟩:=h;rcases hr.2 with ⟨rfl,-⟩|⟨g,cap,cur,rfl,hb,hg,hn,hc,om,ht⟩;.simp[Value.ownBlock]at hv
  simp only[Value.ownBlock,aB]at hv;subst hv;have:o<cur.size:=by rw[om];exact dH hon (fU _ hn)
  exact⟨cur[o],by simp only[World.cell?,Cx.Bt,hg];exact ct this⟩
 .rcases h with h|h;.exact hR.sep id hl o h
  obtain⟨l,hl⟩:=hl;obtain⟨arr,e',h1,-⟩:=hR.cells id l hl;have:=yq _ _ h;have:=hlt h1;show False;change x.w.heap.size<=x.μ id at*;omega
 .rcases h with h|h;.exact hR.oH id e' s' n' hl o h
  obtain⟨arr,h1,-⟩:=hR.dR id e' s' n' hl;have h3:=yq _ _ h;have h4:=hlt h1;change x.w.heap.size<=x.μ id at h3;omega
 obtain⟨arr,h1,h2,h3,h4,h5,h6,h7⟩:=hR.ops id e' s' l z hl;refine⟨arr,(ho _ (hlt h1)).trans h1,h2,h3,h4,λj c hc=>⟨(h5 j c hc).1,(h5 j c hc).2.mono M⟩,λhz j hj=>.inl (h6 hz j hj),λhz o h=>?_⟩;rcases h with h|h;.exact h7 hz o h
 have h3:=yq _ _ h;have h4:=hlt h1;change x.w.heap.size<=x.μ id at h3;omega
theorem DY{rows:List DV}(hn:rows.length=n)(pR:∀r∈rows,r.cells.length=s)(xe:flat rows=xs.map .val)(Bn:∀u∈xs,Aw u=true/\(DV.val u).ck=true)(hr:w'.ownsRow x.w.heap.size e s v n xs):RV (x.Bt w' v (n*s)) (.sl rows none ⟨false,none⟩) v:=by
 have hlen:=hr.1;have jh:∀(j:Nat)(c:DV),(flat rows)[j]? =some c->∃u,xs[j]? =some u/\c=DV.val u/\Aw u=true/\c.ck=true:=by intro j c hc;rw[xe,cM,af]at hc;obtain⟨u,h1,rfl⟩:=hc;have:=Bn u (cr h1);exact⟨u,h1,rfl,this.1,this.2⟩
 subst hn;rcases hr.2 with ⟨rfl,h0⟩|⟨g,cap,cur,rfl,hb,hg,hn,hc,om,ht⟩;.have hrn:rows=[]:=eS h0;subst hrn;exact RV.sl (rows:=[]) (A:=none) (cap:=0) (s:=0) (vs:=λ_=>undef) ⟨by simp,by simp[flat]⟩ (by simp[flat]) (ak _) ⟨λ_=>rfl,λb h=>nomatch h⟩ (λ_=>rfl) (λ_ h _=>by cases h) (λt ht=>by cases ht)
 have bg:∀j u,xs[j]? =some u->cur[j]? =some u/\j<rows.length*s:=by
  intro j u hu;rw[<-ht,qJ]at hu;split at hu;.exact⟨by simpa using hu,‹_›⟩
  cases hu
 refine RV.sl (s:=s) (vs:=λj=>xs.getD j undef) ⟨pR,λj c SM=>?_⟩ (λj c SM=>?_) hn ⟨by simp,λb h=>nomatch h⟩ (by simp) (λad h _=>by cases h;rfl) (λt ht=>nomatch ht);.obtain⟨u,h1,rfl,h2,h3⟩:=jh j c SM;obtain⟨h4,h5⟩:=bg j u h1;refine⟨h3,g,0,rfl,.inr ⟨rfl,by omega⟩,?_⟩;simp[World.cell?,Cx.Bt,hg,h4,aP,h1]
 obtain⟨u,h1,rfl,h2,h3⟩:=jh j c SM;simp only[aP,h1,kU];exact .val h2
end
def Bx:List DV->Option (List Int)
 |[]=>some []
 |.val (.int .i64 n)::l=>(Bx l).map (n::·)
 |_=>none
def QJ:DV->Option (List Int)
 |.sl rows _ _=>Bx rows
 |_=>none
def F9:List DV->Option (List (List Int))
 |[]=>some []
 |d::l=>match QJ d,F9 l with
  |some r,some rs=>some (r::rs)
  |_,_=>none
def Ys:DV->Option Wk
 |.agg [_,_,.val (.int .i64 cL),l,u0,l0,u1,l1,u2,l2,u3,l3]=>match QJ l,F9 [u0,u1,u2,u3],F9 [l0,l1,l2,l3]with
  |some l,some us,some ls=>some ⟨l,cL,λi=>us.getD i [],λi=>ls.getD i []⟩
  |_,_,_=>none
 |_=>none
def FD(l:List Int):Bool:=decide (l.length<=1000)&&l.all λx=>decide (0<=x)&&decide (x<=9)
def MO:List Int->Bool
 |[]=>true
 |a::l=>l.all (λb=>decide (a<b))&&MO l
def wkB(d:Wk):Bool:=decide (d.bC.length<=1000)&&d.bC.all (λx=>decide (0<=x)&&decide (x<=3))&&decide (0<=d.cL)&&decide (d.cL<=1000)&&
 (List.range 4).all (λi=>FD (d.up i)&&FD (d.lo i))&&MO d.bC
def smD(m:Sm):DV:=.agg [.val (.int .i64 m.1),.val (.int .i64 m.2.1),.val (.int .i64 m.2.2)]
def Ib(a b:DV):Option DV:=match Ys a,Ys b with
 |some da,some db=>if wkB da&&wkB db then some (.sl ((en da db).map smD) none ⟨false,none⟩)else none
 |_,_=>none
theorem P3{l:List Int}(h:FD l=true):Yn l:=by simp only[FD,aC,cq,aX]at h;exact⟨h.1,λi x hx=>h.2 x (cr hx)⟩
theorem Qq:∀{l:List Int},MO l=true->Yo l
 |[],_=>List.Pairwise.nil
 |a::l,h=>by simp only[MO,aC,aX,cq]at h;exact List.Pairwise.cons h.1 (Qq h.2)
theorem rV:∀{l:List DV}{r:List (List Int)},F9 l=some r->r.length=l.length/\∀i:Nat,∀d,l[i]? =some d->QJ d=some (r.getD i [])
 |[],r,h=>by cases h;simp
 |d::l,r,h=>by
  simp only[F9]at h;split at h
  .rename_i r1 rs h1 h2;cases h;obtain⟨h3,h4⟩:=rV h2;refine⟨by simp[h3],λi d' hd=>?_⟩;cases i with
   |zero=>simp at hd;subst hd;simpa using h1
   |succ i=>simp at hd;simpa using h4 i d' hd
  cases h
theorem we:∀{l:List DV}{r:List Int},Bx l=some r->r.length=l.length/\(∀(i:Nat)(n:Int),r[i]? =some n->l[i]? =some (.val (.int .i64 n)))/\flat l=l
 |[],r,h=>by cases h;simp[flat]
 |.val (.int .i64 n)::l,r,h=>by
  simp only[Bx,af]at h;obtain⟨r',h1,rfl⟩:=h;obtain⟨h2,h3,h4⟩:=we h1;refine⟨by simp[h2],λi m hm=>?_,?_⟩
  .cases i with
   |zero=>simp at hm;subst hm;rfl
   |succ i=>simp at hm;simpa using h3 i m hm
  simp only[flat,cT,DV.cells]at h4⊢;rw[h4];rfl
def acJ(w:World):So:=(λb=>b<w.heap.size,λ_=>False)
theorem sG{d:DV}{r:List Int}{v:Value}(hd:QJ d=some r)(h:RV x d v):Af (acJ x.w) x.w v r:=by
 unfold QJ at hd;split at hd
 .rename_i rows tok f;obtain⟨h1,h2,h3⟩:=we hd;cases h with
  |@sl _ _ _ A cap s vs hv hr k1 k2 k3 k4 k5=>
   refine⟨A,cap,by rw[h1],λi n hn=>?_⟩;have hc:(flat rows)[i]? =some (.val (.int .i64 n)):=by rw[h3];exact h2 i n hn
   obtain⟨-,b,o,q1,q2,q3⟩:=hv.2 i _ hc;have:=hr i _ hc;generalize vs i=u at*;cases this with
   |val _=>refine⟨_,q1,?_⟩;rw[iS];exact⟨.inl (World.block_lt_of_cell? _ ⟨b,o+i,none⟩ q3),q3⟩
 cases hd
theorem UX{d:DV}{k:Wk}{v:Value}(hd:Ys d=some k)(h:RV x d v):∃ca,v=.agg ca/\wQ (acJ x.w) x.w ca k:=by
 unfold Ys at hd;split at hd
 .rename_i c0 c1 cL l u0 l0 u1 l1 u2 l2 u3 l3;split at hd
  .rename_i lr us ls h1 h2 h3;cases hd;cases h with
   |@agg _ ca hsz hc=>
    refine⟨ca,rfl,?_⟩;have bg:∀(j:Nat) d,([c0,c1,.val (.int .i64 cL),l,u0,l0,u1,l1,u2,l2,u3,l3]:List DV)[j]? =some d->∃u,ca[j]? =some u/\RV x d u:=by
     intro j d hj;have hlt:j<ca.size:=by rw[hsz];exact(aA.1 hj).1
     have:=hc j d hj;simp only[bz,ct hlt,kU]at this;exact⟨ca[j],ct hlt,this⟩
    obtain⟨-,hu⟩:=rV h2;obtain⟨-,hl⟩:=rV h3;refine⟨?_,?_,λi hi=>?_,λi hi=>?_⟩;.obtain⟨u,q1,q2⟩:=bg 2 _ rfl;cases q2;exact q1
    .obtain⟨u,q1,q2⟩:=bg 3 _ rfl;exact⟨u,q1,sG h1 q2⟩
    .have:i=0\/i=1\/i=2\/i=3:=by omega
     rcases this with rfl|rfl|rfl|rfl;.obtain⟨u,q1,q2⟩:=bg 4 _ rfl;exact⟨u,q1,sG (hu 0 _ rfl) q2⟩
     .obtain⟨u,q1,q2⟩:=bg 6 _ rfl;exact⟨u,q1,sG (hu 1 _ rfl) q2⟩
     .obtain⟨u,q1,q2⟩:=bg 8 _ rfl;exact⟨u,q1,sG (hu 2 _ rfl) q2⟩
     obtain⟨u,q1,q2⟩:=bg 10 _ rfl;exact⟨u,q1,sG (hu 3 _ rfl) q2⟩
    have:i=0\/i=1\/i=2\/i=3:=by omega
    rcases this with rfl|rfl|rfl|rfl;.obtain⟨u,q1,q2⟩:=bg 5 _ rfl;exact⟨u,q1,sG (hl 0 _ rfl) q2⟩
    .obtain⟨u,q1,q2⟩:=bg 7 _ rfl;exact⟨u,q1,sG (hl 1 _ rfl) q2⟩
    .obtain⟨u,q1,q2⟩:=bg 9 _ rfl;exact⟨u,q1,sG (hl 2 _ rfl) q2⟩
    obtain⟨u,q1,q2⟩:=bg 11 _ rfl;exact⟨u,q1,sG (hl 3 _ rfl) q2⟩
  cases hd
 cases hd
theorem Zz{d:DV}{k:Wk}(hd:Ys d=some k):∀i,4<=i->k.up i=[]/\k.lo i=[]:=by
 unfold Ys at hd;split at hd
 .split at hd;.rename_i lr us ls h1 h2 h3;cases hd;have h4:=(rV h2).1;have h5:=(rV h3).1;simp only[dN,mz]at h4 h5;intro i hi;simp only[aP];rw[fI (by omega),fI (by omega)];exact⟨rfl,rfl⟩
  cases hd
 cases hd
theorem UY{d:DV}{k:Wk}(hd:Ys d=some k)(h:wkB k=true):k.ok/\Yo k.bC:=by
 simp only[wkB,aC,cq,aX]at h;obtain⟨⟨⟨⟨⟨h1,h2⟩,h3⟩,h4⟩,h5⟩,h6⟩:=h;have far:=Zz hd;refine⟨⟨h1,λi x hx=>h2 x (cr hx),⟨h3,h4⟩,λi=>?_,λi=>?_⟩,Qq h6⟩
 .rcases oT i 4 with hi|hi;.exact P3 (h5 i (by simpa using hi)).1
  rw[(far i hi).1];exact⟨by simp,by simp⟩
 rcases oT i 4 with hi|hi;.exact P3 (h5 i (by simpa using hi)).2
 rw[(far i hi).2];exact⟨by simp,by simp⟩
theorem XF(l:List Sm):flat (l.map smD)=(l.flatMap sA).map .val:=by
 induction l with
 |nil=>rfl
 |cons m l ih=>simp only[flat,bn,cT,dY]at ih⊢;rw[ih];rfl
theorem LN{a b d:DV}(h:Ib a b=some d){vals:Array Value}(hR:Rel x)(ha:ia x [a,b] vals):fJ Try.prog aa x 33 vals λy u=>y.S=x.S/\Rel y/\bV x y/\RV y d u:=by
 unfold Ib at h;split at h
 .rename_i da db h1 h2;split at h
  .rename_i hb;cases h;simp only[aC]at hb;obtain⟨wz,haa⟩:=UY h1 hb.1;obtain⟨Bo,qv⟩:=UY h2 hb.2;obtain⟨hsz,bg⟩:=ha;have e:vals=#[vals.getD 0 undef,vals.getD 1 undef]:=by
    obtain⟨l⟩:=vals
    match l,hsz with
    |[u,v],_=>rfl
   obtain⟨ca,hca,hva⟩:=UX h1 (bg 0 _ rfl);obtain⟨cb,hcb,hvb⟩:=UX h2 (bg 1 _ rfl);rw[hca,hcb]at e;subst e;have key:=ZY (aa:=aa) wz Bo haa qv hva hvb;refine LZ lK (NZ (Post':=λv w'=>x.w.heap.size<=w'.heap.size/\(w'.os=x.w.os/\w'.output=x.w.output)/\(∀b,b<x.w.heap.size->w'.heap[b]? =x.w.heap[b]?)/\w'.ownsRow x.w.heap.size 56 3 v (en da db).length ((en da db).flatMap sA)) (λγ' v w w1 hp _ r=>?_) key) λv w' hp=>?_;.obtain⟨hk,ho⟩:=hp;refine⟨bD hk.size r.1,⟨r.2.2.2.1.trans hk.env.1,r.2.2.2.2.trans hk.env.2⟩,λb hb=>?_,(ho.rely r).1⟩;have fL:(acJ x.w).all b:=.inl hb;exact(r.2.1 b (hk.all fL)).trans (hk.blk b fL hb)
   obtain⟨p1,p2,p3,p4⟩:=hp;refine⟨x.Bt w' v ((en da db).length*3),rfl,rfl,AY hR p1 p2 p3 p4,s6 hR p1 p2 p3 p4,DY (by simp) (λr hr=>?_) (XF _) (λu hu=>?_) p4⟩;.simp only[dM]at hr;obtain⟨m,-,rfl⟩:=hr;rfl
   simp only[qH,sA,bw,eB,or_false]at hu;obtain⟨m,-,rfl|rfl|rfl⟩:=hu<;>exact⟨rfl,rfl⟩
  cases h
 cases h
end Go.Di
