import Derived.Test.YtoccmmopffbbfaaPk05
section
namespace Go.Tv
open Go Go.Di Go.Proofs
set_option maxRecDepth 100000
abbrev dice (rest:List Int) (last:Int):List TV:=[.sl I64 rest .no,.val (.int .u64 last)]
theorem wrap_u64' (n:Int):IntKind.u64.wrap n=n % 18446744073709551616:=by simp[IntKind.wrap,IntKind.bits,IntKind.signed]
theorem u64_in (n:Int):0≤IntKind.u64.wrap n∧IntKind.u64.wrap n<18446744073709551616:=by rw[wrap_u64']; omega
theorem fdiv32 (a:Int):a.fdiv 4294967296=a / 4294967296:=Int.fdiv_eq_ediv_of_nonneg _ (by omega)
theorem hi_of {x n:Int} (h:IntKind.u64.wrap n=x):0≤x.fdiv 4294967296∧x.fdiv 4294967296<4294967296:=by
 have:=u64_in n
 rw[fdiv32,← h]; omega
theorem to_in {k m:Int} (hm:m≤1000) (h0:0<m) (hk:0≤k) (hk':k<4294967296):0≤IntKind.i64.wrap ((IntKind.u64.wrap (k*IntKind.u64.wrap (m+1))).fdiv 4294967296)∧(IntKind.i64.wrap ((IntKind.u64.wrap (k*IntKind.u64.wrap (m+1))).fdiv 4294967296)≤m∨IntKind.i64.wrap ((IntKind.u64.wrap (k*IntKind.u64.wrap (m+1))).fdiv 4294967296)=0):=by
 have h1:k*(m+1)≤4294967295*(m+1):=Int.mul_le_mul_of_nonneg_right (by omega) (by omega)
 have h2:0≤k*(m+1):=Int.mul_nonneg hk (by omega)
 rw[wrap_u64' (m+1),Int.emod_eq_of_lt (a:=m+1) (by omega) (by omega),fdiv32,wrap_u64']
 generalize k*(m+1)=p at *
 rw[Int.emod_eq_of_lt (by omega) (by omega),wr_i64 (by omega) (by omega)]
 omega
theorem spec_81 {tab:IsoF} (tk:TabK tab) {n:Nat} (rest:List Int) (last:Int):CSpec (callT' tab (n+1)) 81 ([.ptr 0 0]) (dice rest last) (fun v ts=>∃ (k:Int) (rest1:List Int) (last1:Int),v = .val (.int .u64 k)∧ts=dice rest1 last1∧0≤k∧k<4294967296):=by
 refine cspec_of (fn:=Try.f81) (rts:=[some (.int .u64)]) (cts:=[some IntsT,some (.int .u64)]) Try.func81 rfl ?_
 show WT _ _ _ _ _ _ _ _ _ _ (mkE 63 [(0,.ptr 0 0)]) [TB.cells [.sl I64 rest .no,vv (Value.int IntKind.u64 last)]] _
 refine wt_seq ?_
 refine zr [0,2] 1 (mkE 63 [(0,.ptr 0 0),(2,vv (Value.int IntKind.u64 (0:Int)))]) [TB.cells [.sl I64 rest .no,vv (Value.int IntKind.u64 last)]] (by kernel_rfl) ?_
 refine wt_seq ?_
 refine zr [0,2,3] 1 (mkE 63 [(0,.ptr 0 0),(2,vv (Value.int IntKind.u64 (0:Int))),(3,vv (Value.int IntKind.u64 (0:Int)))]) [TB.cells [.sl I64 rest .no,vv (Value.int IntKind.u64 last)]] (by kernel_rfl) ?_
 refine wt_seq ?_
 refine wt_seq ?_
 refine zr [0,2,3,10] 6 (mkE 63 [(0,.ptr 0 0),(2,vv (Value.int IntKind.u64 (0:Int))),(3,vv (Value.int IntKind.u64 (0:Int))),(10,vv (vb (decide ((↑rest.length:Int)>(0:Int)))))]) [TB.cells [.sl I64 rest .no,vv (Value.int IntKind.u64 last)]] (by kernel_rfl) ?_
 refine wt_cond (t:=decide ((↑rest.length:Int)>(0:Int))) (by kernel_rfl) (fun hc => ?_) (fun hc => ?_)
 ·skip
  have hc:=of_decide_eq_true hc
  refine wt_seq ?_
  refine wt_reg (P:=Tp) (ty:=Ty) (tt:=ttb) [0,2,3] (te1:=(mkE 63 [(0,.ptr 0 0),(2,vv (Value.int IntKind.u64 (0:Int))),(3,vv (Value.int IntKind.u64 (IntKind.u64.wrap (rest.getD 0 0))))])) (tS1:=[TB.cells [.sl I64 rest .no,vv (Value.int IntKind.u64 last)]]) (cp:=True∧True∧True∧True∧((0:Int)≤(0:Int)∧(0:Int)<(↑rest.length:Int))∧True∧True∧True∧True) (by kernel_rfl) (by simp only[true_and,and_true]; first | omega | (simp; omega) | (simp; done)) ?_
  generalize hx:(IntKind.u64.wrap (rest.getD 0 0))=x
  refine wt_reg (P:=Tp) (ty:=Ty) (tt:=ttb) [0,2,3] (te1:=(mkE 63 [(0,.ptr 0 0),(2,vv (Value.int IntKind.u64 (0:Int))),(3,vv (Value.int IntKind.u64 x))])) (tS1:=[TB.cells [.sl I64 (List.drop 1 rest) .no,vv (Value.int IntKind.u64 last)]]) (cp:=True∧True∧True∧True∧True∧((0:Int)≤(1:Int)∧(1:Int)≤(↑rest.length:Int))∧True∧True∧True∧True) (by kernel_rfl) (by simp only[true_and,and_true]; first | omega | (simp; omega) | (simp; done)) ?_
  refine wt_seq ?_
  refine zr [0,2,3] 12 (mkE 63 [(0,.ptr 0 0),(2,vv (Value.int IntKind.u64 (0:Int))),(3,vv (Value.int IntKind.u64 x))]) [TB.cells [.sl I64 (List.drop 1 rest) .no,vv (Value.int IntKind.u64 (IntKind.u64.wrap (IntKind.u64.wrap (IntKind.u64.wrap (last+x)+(6364136223846793005:Int))*(15074714826142052245:Int))))]] (by kernel_rfl) ?_
  generalize hx1:(IntKind.u64.wrap (IntKind.u64.wrap (IntKind.u64.wrap (last+x)+(6364136223846793005:Int))*(15074714826142052245:Int)))=x1
  refine wt_seq ?_
  refine wt_drawn (by kernel_rfl) (by kernel_rfl) ?_
  refine wd_seg 1000 (P:=Tp) (ty:=Ty) (tt:=ttb) (n0:=1) (k':=14) (te':=(mkE 63 [(0,.ptr 0 0),(2,vv (Value.int IntKind.u64 (0:Int))),(3,vv (Value.int IntKind.u64 x)),(37,.ptr 0 0),(38,.ptr 0 0),(39,.ptr 0 0),(40,.ptr 0 1),(41,vv (Value.int IntKind.u64 x1)),(42,.ptr 0 0),(43,.ptr 0 0),(44,.ptr 0 1),(45,vv (Value.int IntKind.u64 x1)),(46,vv (Value.int IntKind.u64 (x1.fdiv (536870912:Int)))),(47,vv (Value.int IntKind.u64 (IntKind.u64.wrap (↑(BitVec.ofInt 64 x1 ^^^ BitVec.ofInt 64 (x1.fdiv (536870912:Int))).toNat:Int)))),(48,.ptr 0 0),(49,.ptr 0 1)])) (tS':=[TB.cells [.sl I64 (List.drop 1 rest) .no,vv (Value.int IntKind.u64 (IntKind.u64.wrap (↑(BitVec.ofInt 64 x1 ^^^ BitVec.ofInt 64 (x1.fdiv (536870912:Int))).toNat:Int)))],TB.none,TB.none,TB.none,TB.none,TB.none,TB.none,TB.none,TB.none,TB.none,TB.none,TB.none,TB.none,TB.none,TB.none]) (fs':=[{ ids:=some [],wr:=false },{ ids:=some [],wr:=false },{ ids:=some [],wr:=false },{ ids:=some [],wr:=false },{ ids:=some [0],wr:=false },{ ids:=some [],wr:=false },{ ids:=some [],wr:=false },{ ids:=some [],wr:=false },{ ids:=some [0],wr:=false },{ ids:=some [],wr:=false },{ ids:=some [],wr:=false },{ ids:=some [],wr:=false },{ ids:=some [],wr:=false },{ ids:=some [0],wr:=true }]) (cp:=True∧True∧True∧True∧True∧True∧True∧True∧True∧True∧True∧True∧True∧True∧True) (by kernel_rfl) ⟨trivial,⟨trivial,⟨trivial,⟨trivial,⟨trivial,⟨trivial,⟨trivial,⟨trivial,⟨trivial,⟨trivial,⟨trivial,⟨trivial,⟨trivial,⟨trivial,trivial⟩⟩⟩⟩⟩⟩⟩⟩⟩⟩⟩⟩⟩⟩ ?_
  refine wd_done (te1:=(mkE 63 [(0,.ptr 0 0),(2,vv (Value.int IntKind.u64 (0:Int))),(3,vv (Value.int IntKind.u64 x))])) (tS1:=[TB.cells [.sl I64 (List.drop 1 rest) .no,vv (Value.int IntKind.u64 (IntKind.u64.wrap (↑(BitVec.ofInt 64 x1 ^^^ BitVec.ofInt 64 (x1.fdiv (536870912:Int))).toNat:Int)))]]) [0,2,3] (by kernel_rfl) (by kernel_rfl) (by kernel_rfl) ?_
  generalize hx2:(IntKind.u64.wrap (↑(BitVec.ofInt 64 x1 ^^^ BitVec.ofInt 64 (x1.fdiv (536870912:Int))).toNat:Int))=x2
  refine wt_seq ?_
  refine wt_quiet (by kernel_rfl) ?_
  refine zqe [0,2,3,4] 12 (mkE 63 [(0,.ptr 0 0),(2,vv (Value.int IntKind.u64 (0:Int))),(3,vv (Value.int IntKind.u64 x)),(4,vv (Value.int IntKind.u64 (IntKind.u64.wrap (IntKind.u64.wrap (↑(BitVec.ofInt 64 x2 ^^^ BitVec.ofInt 64 (x2.fdiv (8589934592:Int))).toNat:Int)*(18397679294719823053:Int)))))]) (by kernel_rfl) ?_
  generalize hx3:(IntKind.u64.wrap (IntKind.u64.wrap (↑(BitVec.ofInt 64 x2 ^^^ BitVec.ofInt 64 (x2.fdiv (8589934592:Int))).toNat:Int)*(18397679294719823053:Int)))=x3
  refine wt_seq ?_
  refine zr [0,2,3,4] 3 (mkE 63 [(0,.ptr 0 0),(2,vv (Value.int IntKind.u64 (x3.fdiv (4294967296:Int)))),(3,vv (Value.int IntKind.u64 x)),(4,vv (Value.int IntKind.u64 x3))]) [TB.cells [.sl I64 (List.drop 1 rest) .no,vv (Value.int IntKind.u64 x2)]] (by kernel_rfl) ?_
  generalize hx4:(x3.fdiv (4294967296:Int))=x4
  refine wt_ret ?_
  refine⟨trivial,[vv (Value.int IntKind.u64 x4)],[.sl I64 (List.drop 1 rest) .no,vv (Value.int IntKind.u64 x2)],by kernel_rfl,by kernel_rfl,by kernel_rfl,by kernel_rfl,by kernel_rfl,by kernel_rfl,?_⟩
  exact⟨_,_,_,rfl,rfl,by rw[← hx4]; exact hi_of hx3⟩
 ·skip
  have hc:=of_decide_eq_false hc
  refine wt_skip ?_
  refine wt_seq ?_
  refine zr [0,2,3] 12 (mkE 63 [(0,.ptr 0 0),(2,vv (Value.int IntKind.u64 (0:Int))),(3,vv (Value.int IntKind.u64 (0:Int)))]) [TB.cells [.sl I64 rest .no,vv (Value.int IntKind.u64 (IntKind.u64.wrap (IntKind.u64.wrap (IntKind.u64.wrap (last+(0:Int))+(6364136223846793005:Int))*(15074714826142052245:Int))))]] (by kernel_rfl) ?_
  generalize hx:(IntKind.u64.wrap (IntKind.u64.wrap (IntKind.u64.wrap (last+(0:Int))+(6364136223846793005:Int))*(15074714826142052245:Int)))=x
  refine wt_seq ?_
  refine wt_drawn (by kernel_rfl) (by kernel_rfl) ?_
  refine wd_seg 1000 (P:=Tp) (ty:=Ty) (tt:=ttb) (n0:=1) (k':=14) (te':=(mkE 63 [(0,.ptr 0 0),(2,vv (Value.int IntKind.u64 (0:Int))),(3,vv (Value.int IntKind.u64 (0:Int))),(37,.ptr 0 0),(38,.ptr 0 0),(39,.ptr 0 0),(40,.ptr 0 1),(41,vv (Value.int IntKind.u64 x)),(42,.ptr 0 0),(43,.ptr 0 0),(44,.ptr 0 1),(45,vv (Value.int IntKind.u64 x)),(46,vv (Value.int IntKind.u64 (x.fdiv (536870912:Int)))),(47,vv (Value.int IntKind.u64 (IntKind.u64.wrap (↑(BitVec.ofInt 64 x ^^^ BitVec.ofInt 64 (x.fdiv (536870912:Int))).toNat:Int)))),(48,.ptr 0 0),(49,.ptr 0 1)])) (tS':=[TB.cells [.sl I64 rest .no,vv (Value.int IntKind.u64 (IntKind.u64.wrap (↑(BitVec.ofInt 64 x ^^^ BitVec.ofInt 64 (x.fdiv (536870912:Int))).toNat:Int)))],TB.none,TB.none,TB.none,TB.none,TB.none,TB.none,TB.none,TB.none,TB.none,TB.none,TB.none,TB.none,TB.none,TB.none]) (fs':=[{ ids:=some [],wr:=false },{ ids:=some [],wr:=false },{ ids:=some [],wr:=false },{ ids:=some [],wr:=false },{ ids:=some [0],wr:=false },{ ids:=some [],wr:=false },{ ids:=some [],wr:=false },{ ids:=some [],wr:=false },{ ids:=some [0],wr:=false },{ ids:=some [],wr:=false },{ ids:=some [],wr:=false },{ ids:=some [],wr:=false },{ ids:=some [],wr:=false },{ ids:=some [0],wr:=true }]) (cp:=True∧True∧True∧True∧True∧True∧True∧True∧True∧True∧True∧True∧True∧True∧True) (by kernel_rfl) ⟨trivial,⟨trivial,⟨trivial,⟨trivial,⟨trivial,⟨trivial,⟨trivial,⟨trivial,⟨trivial,⟨trivial,⟨trivial,⟨trivial,⟨trivial,⟨trivial,trivial⟩⟩⟩⟩⟩⟩⟩⟩⟩⟩⟩⟩⟩⟩ ?_
  refine wd_done (te1:=(mkE 63 [(0,.ptr 0 0),(2,vv (Value.int IntKind.u64 (0:Int))),(3,vv (Value.int IntKind.u64 (0:Int)))])) (tS1:=[TB.cells [.sl I64 rest .no,vv (Value.int IntKind.u64 (IntKind.u64.wrap (↑(BitVec.ofInt 64 x ^^^ BitVec.ofInt 64 (x.fdiv (536870912:Int))).toNat:Int)))]]) [0,2,3] (by kernel_rfl) (by kernel_rfl) (by kernel_rfl) ?_
  generalize hx1:(IntKind.u64.wrap (↑(BitVec.ofInt 64 x ^^^ BitVec.ofInt 64 (x.fdiv (536870912:Int))).toNat:Int))=x1
  refine wt_seq ?_
  refine wt_quiet (by kernel_rfl) ?_
  refine zqe [0,2,3,4] 12 (mkE 63 [(0,.ptr 0 0),(2,vv (Value.int IntKind.u64 (0:Int))),(3,vv (Value.int IntKind.u64 (0:Int))),(4,vv (Value.int IntKind.u64 (IntKind.u64.wrap (IntKind.u64.wrap (↑(BitVec.ofInt 64 x1 ^^^ BitVec.ofInt 64 (x1.fdiv (8589934592:Int))).toNat:Int)*(18397679294719823053:Int)))))]) (by kernel_rfl) ?_
  generalize hx2:(IntKind.u64.wrap (IntKind.u64.wrap (↑(BitVec.ofInt 64 x1 ^^^ BitVec.ofInt 64 (x1.fdiv (8589934592:Int))).toNat:Int)*(18397679294719823053:Int)))=x2
  refine wt_seq ?_
  refine zr [0,2,3,4] 3 (mkE 63 [(0,.ptr 0 0),(2,vv (Value.int IntKind.u64 (x2.fdiv (4294967296:Int)))),(3,vv (Value.int IntKind.u64 (0:Int))),(4,vv (Value.int IntKind.u64 x2))]) [TB.cells [.sl I64 rest .no,vv (Value.int IntKind.u64 x1)]] (by kernel_rfl) ?_
  generalize hx3:(x2.fdiv (4294967296:Int))=x3
  refine wt_ret ?_
  refine⟨trivial,[vv (Value.int IntKind.u64 x3)],[TV.sl I64 rest Ap.no,vv (Value.int IntKind.u64 x1)],by kernel_rfl,by kernel_rfl,by kernel_rfl,by kernel_rfl,by kernel_rfl,by kernel_rfl,?_⟩
  exact⟨_,_,_,rfl,rfl,by rw[← hx3]; exact hi_of hx2⟩
theorem spec_46 {tab:IsoF} (tk:TabK tab) {n:Nat} (rest:List Int) (last m:Int) (hm:m≤1000):CSpec (callT' tab (n+2)) 46 ([.ptr 0 0,ival m]) (dice rest last) (fun v ts=>∃ (k:Int) (rest1:List Int) (last1:Int),v=ival k∧ts=dice rest1 last1∧0≤k∧(k≤m∨k=0)):=by
 refine cspec_of (fn:=Try.f46) (rts:=[some I64]) (cts:=[some IntsT,some (.int .u64)]) Try.func46 rfl ?_
 show WT _ _ _ _ _ _ _ _ _ _ (mkE 15 [(0,.ptr 0 0),(1,vv (vi m))]) [TB.cells [.sl I64 rest .no,vv (Value.int IntKind.u64 last)]] _
 refine wt_seq ?_
 refine zr [0,1,4] 1 (mkE 15 [(0,.ptr 0 0),(1,vv (vi m)),(4,vv (vi 0))]) [TB.cells [.sl I64 rest .no,vv (Value.int IntKind.u64 last)]] (by kernel_rfl) ?_
 refine wt_seq ?_
 refine wt_seq ?_
 refine zr [0,1,4,6] 2 (mkE 15 [(0,.ptr 0 0),(1,vv (vi m)),(4,vv (vi 0)),(6,vv (vb (decide (m≤(0:Int)))))]) [TB.cells [.sl I64 rest .no,vv (Value.int IntKind.u64 last)]] (by kernel_rfl) ?_
 refine wt_cond (t:=decide (m≤(0:Int))) (by kernel_rfl) (fun hc => ?_) (fun hc => ?_)
 ·skip
  have hc:=of_decide_eq_true hc
  refine wt_seq ?_
  refine zr [0,1,4] 1 (mkE 15 [(0,.ptr 0 0),(1,vv (vi m)),(4,vv (vi 0))]) [TB.cells [.sl I64 rest .no,vv (Value.int IntKind.u64 last)]] (by kernel_rfl) ?_
  refine wt_ret ?_
  refine⟨trivial,[vv (vi 0)],[.sl I64 rest .no,vv (Value.int IntKind.u64 last)],by kernel_rfl,by kernel_rfl,by kernel_rfl,by kernel_rfl,by kernel_rfl,by kernel_rfl,?_⟩
  exact⟨0,_,_,rfl,rfl,by omega,by omega⟩
 ·skip
  have hc:=of_decide_eq_false hc
  refine wt_skip ?_
  refine wt_seq ?_
  refine wt_regL ?_
  refine zl 1 1 (mkE 15 [(0,.ptr 0 0),(1,vv (vi m)),(4,vv (vi 0)),(6,vv (vb (decide (m≤(0:Int))))),(7,.ptr 0 0)]) [TB.cells [.sl I64 rest .no,vv (Value.int IntKind.u64 last)]] (by kernel_rfl) ?_
  refine wl_pcall (tt:=ttb) (g:=81) (kp:=0) (targs:=[.ptr 0 0]) (ts:=[.sl I64 rest .no,vv (Value.int IntKind.u64 last)]) (dst:=some 8) (by kernel_rfl) (spec_81 tk _ _) ?_
  rintro _ _ ⟨k,rest1,last1,rfl,rfl,h,h1⟩
  refine ze [0,1,4] 7 (mkE 15 [(0,.ptr 0 0),(1,vv (vi m)),(4,vv (vi (IntKind.i64.wrap ((IntKind.u64.wrap (k*IntKind.u64.wrap (IntKind.i64.wrap (m+(1:Int))))).fdiv (4294967296:Int)))))]) [TB.cells [.sl I64 rest1 .no,vv (Value.int IntKind.u64 last1)]] (by kernel_rfl) ?_
  rw[wr_i64 (n:=m+(1:Int)) (by omega) (by omega)]
  refine wt_ret ?_
  refine⟨trivial,[vv (vi (IntKind.i64.wrap ((IntKind.u64.wrap (k*IntKind.u64.wrap (m+(1:Int)))).fdiv (4294967296:Int))))],[.sl I64 rest1 .no,vv (Value.int IntKind.u64 last1)],by kernel_rfl,by kernel_rfl,by kernel_rfl,by kernel_rfl,by kernel_rfl,by kernel_rfl,?_⟩
  exact⟨_,_,_,rfl,rfl,to_in hm (by omega) h h1⟩
theorem spec_19 {tab:IsoF} (tk:TabK tab) {n:Nat} (rest:List Int) (last lo hi:Int) (h1 : -1000≤lo) (h2:lo≤1000) (h3:hi≤0∨hi≤1000+lo) (h4 : -1000≤hi):CSpec (callT' tab (n+3)) 19 ([.ptr 0 0,ival lo,ival hi]) (dice rest last) (fun v ts=>∃ (k:Int) (rest1:List Int) (last1:Int),v=ival k∧ts=dice rest1 last1∧lo≤k∧(k≤hi∨k=lo)):=by
 refine cspec_of (fn:=Try.f19) (rts:=[some I64]) (cts:=[some IntsT,some (.int .u64)]) Try.func19 rfl ?_
 show WT _ _ _ _ _ _ _ _ _ _ (mkE 14 [(0,.ptr 0 0),(1,vv (vi lo)),(2,vv (vi hi))]) [TB.cells [.sl I64 rest .no,vv (Value.int IntKind.u64 last)]] _
 refine wt_seq ?_
 refine zr [0,1,2,6] 1 (mkE 14 [(0,.ptr 0 0),(1,vv (vi lo)),(2,vv (vi hi)),(6,vv (vi 0))]) [TB.cells [.sl I64 rest .no,vv (Value.int IntKind.u64 last)]] (by kernel_rfl) ?_
 refine wt_seq ?_
 refine wt_regL ?_
 refine zl 5 5 (mkE 14 [(0,.ptr 0 0),(1,vv (vi lo)),(2,vv (vi hi)),(6,vv (vi 0)),(7,vv (vi lo)),(8,.ptr 0 0),(9,vv (vi hi)),(10,vv (vi lo)),(11,vv (vi (IntKind.i64.wrap (hi-lo))))]) [TB.cells [.sl I64 rest .no,vv (Value.int IntKind.u64 last)]] (by kernel_rfl) ?_
 rw[wr_i64 (n:=hi-lo) (by omega) (by omega)]
 refine wl_pcall (tt:=ttb) (g:=46) (kp:=0) (targs:=[.ptr 0 0,vv (vi (hi-lo))]) (ts:=[.sl I64 rest .no,vv (Value.int IntKind.u64 last)]) (dst:=some 12) (by kernel_rfl) (spec_46 tk _ _ _ (by first | assumption | omega | (simp; done) | (simp; omega))) ?_
 rintro _ _ ⟨k,rest1,last1,rfl,rfl,h,h5⟩
 refine ze [0,1,2,6] 2 (mkE 14 [(0,.ptr 0 0),(1,vv (vi lo)),(2,vv (vi hi)),(6,vv (vi (IntKind.i64.wrap (lo+k))))]) [TB.cells [.sl I64 rest1 .no,vv (Value.int IntKind.u64 last1)]] (by kernel_rfl) ?_
 rw[wr_i64 (n:=lo+k) (by omega) (by omega)]
 refine wt_ret ?_
 refine⟨trivial,[vv (vi (lo+k))],[TV.sl I64 rest1 Ap.no,vv (Value.int IntKind.u64 last1)],by kernel_rfl,by kernel_rfl,by kernel_rfl,by kernel_rfl,by kernel_rfl,by kernel_rfl,?_⟩
 exact⟨_,_,_,rfl,rfl,by omega⟩
theorem spec_27 {tab:IsoF} (tk:TabK tab) {n:Nat} (rest:List Int) (last m:Int) (h1:0≤m) (h2:m≤1000):CSpec (callT' tab (n+3)) 27 ([.ptr 0 0,ival m]) (dice rest last) (fun v ts=>∃ (b:Bool) (rest1:List Int) (last1:Int),v=bval b∧ts=dice rest1 last1):=by
 refine cspec_of (fn:=Try.f27) (rts:=[some .bool]) (cts:=[some IntsT,some (.int .u64)]) Try.func27 rfl ?_
 show WT _ _ _ _ _ _ _ _ _ _ (mkE 12 [(0,.ptr 0 0),(1,vv (vi m))]) [TB.cells [.sl I64 rest .no,vv (Value.int IntKind.u64 last)]] _
 refine wt_seq ?_
 refine zr [0,1,4] 1 (mkE 12 [(0,.ptr 0 0),(1,vv (vi m)),(4,vv (vb false))]) [TB.cells [.sl I64 rest .no,vv (Value.int IntKind.u64 last)]] (by kernel_rfl) ?_
 refine wt_seq ?_
 refine wt_regL ?_
 refine zl 3 3 (mkE 12 [(0,.ptr 0 0),(1,vv (vi m)),(4,vv (vb false)),(5,.ptr 0 0),(6,vv (vi m)),(7,vv (vi (IntKind.i64.wrap (m-(1:Int)))))]) [TB.cells [.sl I64 rest .no,vv (Value.int IntKind.u64 last)]] (by kernel_rfl) ?_
 rw[wr_i64 (n:=m-(1:Int)) (by omega) (by omega)]
 refine wl_pcall (tt:=ttb) (g:=46) (kp:=0) (targs:=[.ptr 0 0,vv (vi (m-(1:Int)))]) (ts:=[.sl I64 rest .no,vv (Value.int IntKind.u64 last)]) (dst:=some 8) (by kernel_rfl) (spec_46 tk _ _ _ (by first | assumption | omega | (simp; done) | (simp; omega))) ?_
 rintro _ _ ⟨k,rest1,last1,rfl,rfl,h,h3⟩
 refine ze [0,1,4] 4 (mkE 12 [(0,.ptr 0 0),(1,vv (vi m)),(4,vv (vb (k==IntKind.i64.wrap (m.tdiv (2:Int)))))]) [TB.cells [.sl I64 rest1 .no,vv (Value.int IntKind.u64 last1)]] (by kernel_rfl) ?_
 refine wt_ret ?_
 refine⟨trivial,[vv (vb (k==IntKind.i64.wrap (m.tdiv (2:Int))))],[.sl I64 rest1 .no,vv (Value.int IntKind.u64 last1)],by kernel_rfl,by kernel_rfl,by kernel_rfl,by kernel_rfl,by kernel_rfl,by kernel_rfl,?_⟩
 exact⟨_,_,_,rfl,rfl⟩
theorem spec_45 {tab:IsoF} (tk:TabK tab) {n:Nat} (rest:List Int) (last:Int) (l:List Int) (h1:0<l.length) (h2:l.length≤1000):CSpec (callT' tab (n+3)) 45 ([.ptr 0 0,.sl I64 l .no]) (dice rest last) (fun v ts=>∃ (k:Int) (rest1:List Int) (last1:Int),v=ival k∧ts=dice rest1 last1∧k∈l):=by
 refine cspec_of (fn:=Try.f45) (rts:=[some I64]) (cts:=[some IntsT,some (.int .u64)]) Try.func45 rfl ?_
 show WT _ _ _ _ _ _ _ _ _ _ (mkE 13 [(0,.ptr 0 0),(1,.sl I64 l .no)]) [TB.cells [.sl I64 rest .no,vv (Value.int IntKind.u64 last)]] _
 refine wt_seq ?_
 refine zr [0,1,4] 1 (mkE 13 [(0,.ptr 0 0),(1,.sl I64 l .no),(4,vv (vi 0))]) [TB.cells [.sl I64 rest .no,vv (Value.int IntKind.u64 last)]] (by kernel_rfl) ?_
 refine wt_seq ?_
 refine wt_regL ?_
 refine zl 5 5 (mkE 13 [(0,.ptr 0 0),(1,.sl I64 l .no),(4,vv (vi 0)),(5,.sl I64 l .no),(6,.ptr 0 0),(7,.sl I64 l .no),(8,vv (vi (↑l.length:Int))),(9,vv (vi (IntKind.i64.wrap ((↑l.length:Int)-(1:Int)))))]) [TB.cells [.sl I64 rest .no,vv (Value.int IntKind.u64 last)]] (by kernel_rfl) ?_
 rw[wr_i64 (n:=(↑l.length:Int)-(1:Int)) (by omega) (by omega)]
 refine wl_pcall (tt:=ttb) (g:=46) (kp:=0) (targs:=[.ptr 0 0,vv (vi ((↑l.length:Int)-(1:Int)))]) (ts:=[.sl I64 rest .no,vv (Value.int IntKind.u64 last)]) (dst:=some 10) (by kernel_rfl) (spec_46 tk _ _ _ (by first | assumption | omega | (simp; done) | (simp; omega))) ?_
 rintro _ _ ⟨k,rest1,last1,rfl,rfl,h,h3⟩
 refine wl_seg 1000 (P:=Tp) (ty:=Ty) (tt:=ttb) (k':=9) (te':=(mkE 13 [(0,.ptr 0 0),(1,.sl I64 l .no),(4,vv (vi (l.getD k.toNat (0:Int)))),(5,.sl I64 l .no),(6,.ptr 0 0),(7,.sl I64 l .no),(8,vv (vi (↑l.length:Int))),(9,vv (vi ((↑l.length:Int)-(1:Int)))),(10,vv (vi k)),(11,.eptr I64 l k.toNat 0),(12,vv (vi (l.getD k.toNat (0:Int))))])) (tS':=[TB.cells [.sl I64 rest1 .no,vv (Value.int IntKind.u64 last1)]]) (cp:=((0:Int)≤k∧k<(↑l.length:Int))∧True∧True∧True) (by kernel_rfl) (by simp only[true_and,and_true]; first | omega | (simp; omega) | (simp; done)) ?_
 refine wl_done (te1:=(mkE 13 [(0,.ptr 0 0),(1,.sl I64 l .no),(4,vv (vi (l.getD k.toNat (0:Int))))])) (tS1:=[TB.cells [.sl I64 rest1 .no,vv (Value.int IntKind.u64 last1)]]) [0,1,4] (by kernel_rfl) (by kernel_rfl) ?_
 refine wt_ret ?_
 refine⟨trivial,[vv (vi (l.getD k.toNat (0:Int)))],[.sl I64 rest1 .no,vv (Value.int IntKind.u64 last1)],by kernel_rfl,by kernel_rfl,by kernel_rfl,by kernel_rfl,by kernel_rfl,by kernel_rfl,?_⟩
 exact⟨_,_,_,rfl,rfl,mem_getD (by omega)⟩
end Go.Tv
end
section
namespace Go.Tv
open Go Go.Di Go.Proofs
set_option maxRecDepth 100000
theorem all_snoc {α:Type} {P:α→Prop} {l:List α} {a:α} (h:∀ x∈l,P x) (ha:P a):∀ x∈l++[a],P x:=by
 intro x hx
 rcases List.mem_append.1 hx with hx | hx
 ·exact h x hx
 ·rw[List.mem_singleton.1 hx]; exact ha
theorem asc_snoc {l:List Int} {a:Int} (h:l.Pairwise (· < ·)) (ha:∀ x∈l,x<a):(l++[a]).Pairwise (· < ·):=by
 rw[List.pairwise_append]
 exact⟨h,List.pairwise_singleton _ _,fun x hx y hy=>by rw[List.mem_singleton.1 hy]; exact ha x hx⟩
theorem map_take_snoc {f:Int→Int} {l:List Int} {i:Nat} (h:i<l.length):(l.take i).map f++[f (l.getD i 0)]=(l.take (i+1)).map f:=by
 rw[take_one h,List.map_append]; rfl
abbrev pcV (u l:List Int) (w:Int) (ls:List Int):TV := .agg [.sl I64 u .no,.sl I64 l .no,ival w,.sl I64 ls .no]
abbrev Num (u l:List Int) (w:Int):Prop:=3≤u.length∧u.length≤8∧l.length=u.length∧0≤w∧w≤2
structure Ok (u l:List Int) (w:Int) (ls:List Int):Prop where
 n3:3≤u.length
 n8:u.length≤8
 len:l.length=u.length
 hu:∀ x∈u,0≤x∧x≤9
 hl:∀ x∈l,0≤x∧x≤9
 w0:0≤w
 w2:w≤2
 ne:ls≠[]
 lie:∀ x∈ls,0≤x∧x≤3
 asc:ls.Pairwise (· < ·)
theorem spec_44 {tab:IsoF} (tk:TabK tab) {n:Nat} (rest0:List Int) (last0 c:Int) (a1:0≤c) (a2:c≤100):CSpec (callT' tab (n+4)) 44 ([.ptr 0 0,ival c]) (dice rest0 last0) (fun v ts=>∃ (out rest1:List Int) (last1:Int),v = .sl I64 out .no∧ts=dice rest1 last1∧(out.length:Int)=c∧(∀ x∈out,0≤x∧x≤9)):=by
 refine cspec_of (fn:=Try.f44) (rts:=[some IntsT]) (cts:=[some IntsT,some (.int .u64)]) Try.func44 rfl ?_
 show WT _ _ _ _ _ _ _ _ _ _ (mkE 27 [(0,.ptr 0 0),(1,vv (vi c))]) [TB.cells [.sl I64 rest0 .no,vv (Value.int IntKind.u64 last0)]] _
 refine wt_seq ?_
 refine zr [0,1,4] 1 (mkE 27 [(0,.ptr 0 0),(1,vv (vi c)),(4,.sl I64 [] Ap.full)]) [TB.cells [.sl I64 rest0 .no,vv (Value.int IntKind.u64 last0)]] (by kernel_rfl) ?_
 refine wt_seq ?_
 refine wt_regL ?_
 refine zl 2 2 (mkE 27 [(0,.ptr 0 0),(1,vv (vi c)),(4,.sl I64 [] Ap.full),(8,.ptr 0 0),(9,.ptr 0 0)]) [TB.cells [.sl I64 rest0 .no,vv (Value.int IntKind.u64 last0)]] (by kernel_rfl) ?_
 refine wl_pcall (tt:=ttb) (g:=46) (kp:=0) (targs:=[.ptr 0 0,vv (vi 7)]) (ts:=[.sl I64 rest0 .no,vv (Value.int IntKind.u64 last0)]) (dst:=some 10) (by kernel_rfl) (spec_46 tk _ _ _ (by first | assumption | omega | (simp; done) | (simp; omega))) ?_
 rintro _ _ ⟨k,rest1,last1,rfl,rfl,h,h1⟩
 refine zl 4 1 (mkE 27 [(0,.ptr 0 0),(1,vv (vi c)),(4,.sl I64 [] Ap.full),(8,.ptr 0 0),(9,.ptr 0 0),(10,vv (vi k)),(11,.sl I64 [(0:Int),(2:Int),k] Ap.full)]) [TB.cells [.sl I64 rest1 .no,vv (Value.int IntKind.u64 last1)]] (by kernel_rfl) ?_
 refine wl_pcall (tt:=ttb) (g:=45) (kp:=0) (targs:=[.ptr 0 0,.sl I64 [(0:Int),(2:Int),k] .no]) (ts:=[.sl I64 rest1 .no,vv (Value.int IntKind.u64 last1)]) (dst:=some 12) (by kernel_rfl) (spec_45 tk _ _ _ (by first | assumption | omega | (simp; done) | (simp; omega)) (by first | assumption | omega | (simp; done) | (simp; omega))) ?_
 rintro _ _ ⟨k1,rest11,last11,rfl,rfl,h2⟩
 have hf: 0≤k1∧k1≤7:=by simp at h2; omega
 refine ze [0,1,4,5] 1 (mkE 27 [(0,.ptr 0 0),(1,vv (vi c)),(4,.sl I64 [] Ap.full),(5,vv (vi k1))]) [TB.cells [.sl I64 rest11 .no,vv (Value.int IntKind.u64 last11)]] (by kernel_rfl) ?_
 refine wt_seq ?_
 refine zr [0,1,4,5,6] 1 (mkE 27 [(0,.ptr 0 0),(1,vv (vi c)),(4,.sl I64 [] Ap.full),(5,vv (vi k1)),(6,.sl I64 [] Ap.full)]) [TB.cells [.sl I64 rest11 .no,vv (Value.int IntKind.u64 last11)]] (by kernel_rfl) ?_
 refine wt_seq ?_
 refine wt_seq ?_
 refine zr [0,1,4,5,6,7] 1 (mkE 27 [(0,.ptr 0 0),(1,vv (vi c)),(4,.sl I64 [] Ap.full),(5,vv (vi k1)),(6,.sl I64 [] Ap.full),(7,vv (vi 0))]) [TB.cells [.sl I64 rest11 .no,vv (Value.int IntKind.u64 last11)]] (by kernel_rfl) ?_
 refine wt_block ?_
 refine wt_loop (σ:=Nat×List Int×List Int×Int) (fun((i,out,rest,last):Nat×List Int×List Int×Int)=>(mkE 27 [(0,.ptr 0 0),(1,ival c),(5,ival k1),(6,.sl I64 out (.lab 1)),(7,ival (i:Nat))],([.cells (dice rest last),.own 3 1]:List TB))) (fun((i,out,rest,last):Nat×List Int×List Int×Int)=>(i:Int)≤c∧out.length=i∧(∀ x∈out,0≤x∧x≤9)) (fun((i,out,rest,last):Nat×List Int×List Int×Int)=>c.toNat-i) ((0,[],rest11,last11)) (fits_of [0,1,5,6,7] [(6,I64,1)] [] 1 [(3,1)] (by kernel_rfl) (by kernel_rfl) (by kernel_rfl) (by kernel_rfl) (by kernel_rfl)) (by (try dsimp only); exact⟨a1,rfl,by simp⟩) (by (try dsimp only); unfold LL; omega) ?_
 rintro⟨i,out,rest,last⟩ hg
 have hg:(i:Int)≤c∧out.length=i∧(∀ x∈out,0≤x∧x≤9):=hg
 show WT _ _ _ _ _ _ _ _ _ _ (mkE 27 [(0,.ptr 0 0),(1,vv (vi c)),(5,vv (vi k1)),(6,.sl I64 out (Ap.lab 1)),(7,vv (vi (↑i:Int)))]) [TB.cells [.sl I64 rest .no,vv (Value.int IntKind.u64 last)],TB.own 3 1] _
 refine wt_seq ?_
 refine wt_seq ?_
 refine zr [0,1,5,6,7,15] 3 (mkE 27 [(0,.ptr 0 0),(1,vv (vi c)),(5,vv (vi k1)),(6,.sl I64 out (Ap.lab 1)),(7,vv (vi (↑i:Int))),(15,vv (vb (decide ((↑i:Int)<c))))]) [TB.cells [.sl I64 rest .no,vv (Value.int IntKind.u64 last)],TB.own 3 1] (by kernel_rfl) ?_
 refine wt_cond (t:=decide ((↑i:Int)<c)) (by kernel_rfl) (fun hc => ?_) (fun hc => ?_)
 ·skip
  have hc:=of_decide_eq_true hc
  refine wt_skip ?_
  refine wt_seq ?_
  refine wt_block ?_
  refine wt_regL ?_
  refine zl 4 4 (mkE 27 [(0,.ptr 0 0),(1,vv (vi c)),(5,vv (vi k1)),(6,.sl I64 out (Ap.lab 1)),(7,vv (vi (↑i:Int))),(15,vv (vb (decide ((↑i:Int)<c)))),(18,.sl I64 out (Ap.lab 1)),(19,vv (vi k1)),(20,.ptr 0 0),(21,.sl I64 [(0:Int),(0:Int),(1:Int),(2:Int)] Ap.full)]) [TB.cells [.sl I64 rest .no,vv (Value.int IntKind.u64 last)],TB.own 3 1] (by kernel_rfl) ?_
  refine wl_pcall (tt:=ttb) (g:=45) (kp:=0) (targs:=[.ptr 0 0,.sl I64 [(0:Int),(0:Int),(1:Int),(2:Int)] .no]) (ts:=[.sl I64 rest .no,vv (Value.int IntKind.u64 last)]) (dst:=some 22) (by kernel_rfl) (spec_45 tk _ _ _ (by first | assumption | omega | (simp; done) | (simp; omega)) (by first | assumption | omega | (simp; done) | (simp; omega))) ?_
  rintro _ _ ⟨k2,rest12,last12,rfl,rfl,h3⟩
  have hf1: 0≤k2∧k2≤2:=by simp at h3; omega
  refine wl_seg 1000 (P:=Tp) (ty:=Ty) (tt:=ttb) (k':=9) (te':=(mkE 27 [(0,.ptr 0 0),(1,vv (vi c)),(5,vv (vi k1)),(6,.sl I64 (out++[IntKind.i64.wrap (k1+k2)]) (Ap.lab 1)),(7,vv (vi (↑i:Int))),(15,vv (vb (decide ((↑i:Int)<c)))),(18,.sl I64 out .no),(19,vv (vi k1)),(20,.ptr 0 0),(21,.sl I64 [(0:Int),(0:Int),(1:Int),(2:Int)] Ap.full),(22,vv (vi k2)),(23,vv (vi (IntKind.i64.wrap (k1+k2)))),(24,.sl I64 [IntKind.i64.wrap (k1+k2)] Ap.full),(25,.sl I64 (out++[IntKind.i64.wrap (k1+k2)]) (Ap.lab 1))])) (tS':=[TB.cells [.sl I64 rest12 .no,vv (Value.int IntKind.u64 last12)],TB.own 3 1]) (cp:=True∧True∧out.length+1≤1000000000∧True∧True) (by kernel_rfl) (by simp only[true_and,and_true]; first | omega | (simp; omega) | (simp; done)) ?_
  refine wl_done (te1:=(mkE 27 [(0,.ptr 0 0),(1,vv (vi c)),(5,vv (vi k1)),(6,.sl I64 (out++[IntKind.i64.wrap (k1+k2)]) (Ap.lab 1)),(7,vv (vi (↑i:Int)))])) (tS1:=[TB.cells [.sl I64 rest12 .no,vv (Value.int IntKind.u64 last12)],TB.own 3 1]) [0,1,5,6,7] (by kernel_rfl) (by kernel_rfl) ?_
  rw[wr_i64 (n:=k1+k2) (by omega) (by omega)]
  refine zr [0,1,5,6,7] 3 (mkE 27 [(0,.ptr 0 0),(1,vv (vi c)),(5,vv (vi k1)),(6,.sl I64 (out++[k1+k2]) (Ap.lab 1)),(7,vv (vi (IntKind.i64.wrap ((↑i:Int)+(1:Int)))))]) [TB.cells [.sl I64 rest12 .no,vv (Value.int IntKind.u64 last12)],TB.own 3 1] (by kernel_rfl) ?_
  rw[wr_i64 (n:=(↑i:Int)+(1:Int)) (by omega) (by omega)]
  refine⟨(i+1,out++[k1+k2],rest12,last12),fits_of [0,1,5,6,7] [] [] 2 [] (by kernel_rfl) (by kernel_rfl) (by kernel_rfl) (by kernel_rfl) (by kernel_rfl),(by (try dsimp only); exact⟨by omega,by simp[hg.2.1],all_snoc hg.2.2 (by omega)⟩),(by (try dsimp only); omega)⟩
 ·skip
  have hc:=of_decide_eq_false hc
  refine wt_exit ?_
  refine wt_seq ?_
  refine zr [0,1,4,5,6,7] 2 (mkE 27 [(0,.ptr 0 0),(1,vv (vi c)),(4,.sl I64 out (Ap.lab 1)),(5,vv (vi k1)),(6,.sl I64 out (Ap.lab 1)),(7,vv (vi (↑i:Int)))]) [TB.cells [.sl I64 rest .no,vv (Value.int IntKind.u64 last)],TB.own 3 1] (by kernel_rfl) ?_
  refine wt_ret ?_
  refine⟨trivial,[.sl I64 out (Ap.lab 1)],[.sl I64 rest .no,vv (Value.int IntKind.u64 last)],by kernel_rfl,by kernel_rfl,by kernel_rfl,by kernel_rfl,by kernel_rfl,by kernel_rfl,?_⟩
  exact⟨_,_,_,rfl,rfl,by omega,hg.2.2⟩
theorem spec_47 {tab:IsoF} (tk:TabK tab) {n:Nat} (rest0:List Int) (last0:Int):CSpec (callT' tab (n+4)) 47 ([.ptr 0 0]) (dice rest0 last0) (fun v ts=>∃ (out rest1:List Int) (last1:Int),v = .sl I64 out .no∧ts=dice rest1 last1∧(out≠[]∧(∀ x∈out,0≤x∧x≤3)∧out.Pairwise (· < ·))):=by
 refine cspec_of (fn:=Try.f47) (rts:=[some IntsT]) (cts:=[some IntsT,some (.int .u64)]) Try.func47 rfl ?_
 show WT _ _ _ _ _ _ _ _ _ _ (mkE 22 [(0,.ptr 0 0)]) [TB.cells [.sl I64 rest0 .no,vv (Value.int IntKind.u64 last0)]] _
 refine wt_seq ?_
 refine zr [0,2] 1 (mkE 22 [(0,.ptr 0 0),(2,.sl I64 [] Ap.full)]) [TB.cells [.sl I64 rest0 .no,vv (Value.int IntKind.u64 last0)]] (by kernel_rfl) ?_
 refine wt_seq ?_
 refine zr [0,2,3] 1 (mkE 22 [(0,.ptr 0 0),(2,.sl I64 [] Ap.full),(3,.sl I64 [] Ap.full)]) [TB.cells [.sl I64 rest0 .no,vv (Value.int IntKind.u64 last0)]] (by kernel_rfl) ?_
 refine wt_seq ?_
 refine wt_seq ?_
 refine zr [0,2,3,4] 1 (mkE 22 [(0,.ptr 0 0),(2,.sl I64 [] Ap.full),(3,.sl I64 [] Ap.full),(4,vv (vi 0))]) [TB.cells [.sl I64 rest0 .no,vv (Value.int IntKind.u64 last0)]] (by kernel_rfl) ?_
 refine wt_block ?_
 refine wt_loop (σ:=Nat×List Int×List Int×Int) (fun((i,out,rest,last):Nat×List Int×List Int×Int)=>(mkE 22 [(0,.ptr 0 0),(3,.sl I64 out (.lab 1)),(4,ival (i:Nat))],([.cells (dice rest last),.own 3 1]:List TB))) (fun((i,out,rest,last):Nat×List Int×List Int×Int)=>i≤4∧out.length≤i∧(∀ x∈out,0≤x∧x<i)∧out.Pairwise (· < ·)) (fun((i,out,rest,last):Nat×List Int×List Int×Int)=>4-i) ((0,[],rest0,last0)) (fits_of [0,3,4] [(3,I64,1)] [] 1 [(3,1)] (by kernel_rfl) (by kernel_rfl) (by kernel_rfl) (by kernel_rfl) (by kernel_rfl)) (by (try dsimp only); simp) (by (try dsimp only); unfold LL; omega) ?_
 rintro⟨i,out,rest,last⟩ hg
 have hg:i≤4∧out.length≤i∧(∀ x∈out,0≤x∧x<i)∧out.Pairwise (· < ·):=hg
 show WT _ _ _ _ _ _ _ _ _ _ (mkE 22 [(0,.ptr 0 0),(3,.sl I64 out (Ap.lab 1)),(4,vv (vi (↑i:Int)))]) [TB.cells [.sl I64 rest .no,vv (Value.int IntKind.u64 last)],TB.own 3 1] _
 refine wt_seq ?_
 refine wt_seq ?_
 refine zr [0,3,4,6] 2 (mkE 22 [(0,.ptr 0 0),(3,.sl I64 out (Ap.lab 1)),(4,vv (vi (↑i:Int))),(6,vv (vb (decide ((↑i:Int)≤(3:Int)))))]) [TB.cells [.sl I64 rest .no,vv (Value.int IntKind.u64 last)],TB.own 3 1] (by kernel_rfl) ?_
 refine wt_cond (t:=decide ((↑i:Int)≤(3:Int))) (by kernel_rfl) (fun hc => ?_) (fun hc => ?_)
 ·skip
  have hc:=of_decide_eq_true hc
  refine wt_skip ?_
  refine wt_seq ?_
  refine wt_block ?_
  refine wt_seq ?_
  refine wt_regL ?_
  refine zl 1 1 (mkE 22 [(0,.ptr 0 0),(3,.sl I64 out (Ap.lab 1)),(4,vv (vi (↑i:Int))),(6,vv (vb (decide ((↑i:Int)≤(3:Int))))),(9,.ptr 0 0)]) [TB.cells [.sl I64 rest .no,vv (Value.int IntKind.u64 last)],TB.own 3 1] (by kernel_rfl) ?_
  refine wl_pcall (tt:=ttb) (g:=27) (kp:=0) (targs:=[.ptr 0 0,vv (vi 2)]) (ts:=[.sl I64 rest .no,vv (Value.int IntKind.u64 last)]) (dst:=some 10) (by kernel_rfl) (spec_27 tk _ _ _ (by first | assumption | omega | (simp; done) | (simp; omega)) (by first | assumption | omega | (simp; done) | (simp; omega))) ?_
  rintro _ _ ⟨b,rest1,last1,rfl,rfl⟩
  refine wl_done (te1:=(mkE 22 [(0,.ptr 0 0),(3,.sl I64 out (Ap.lab 1)),(4,vv (vi (↑i:Int))),(10,vv (vb b))])) (tS1:=[TB.cells [.sl I64 rest1 .no,vv (Value.int IntKind.u64 last1)],TB.own 3 1]) [0,3,4,10] (by kernel_rfl) (by kernel_rfl) ?_
  refine wt_cond (t:=b) (by kernel_rfl) (fun hc1 => ?_) (fun hc1 => ?_)
  ·skip
   refine wt_reg (P:=Tp) (ty:=Ty) (tt:=ttb) [0,3,4] (te1:=(mkE 22 [(0,.ptr 0 0),(3,.sl I64 (out++[(↑i:Int)]) (Ap.lab 1)),(4,vv (vi (↑i:Int)))])) (tS1:=[TB.cells [.sl I64 rest1 .no,vv (Value.int IntKind.u64 last1)],TB.own 3 1]) (cp:=True∧True∧True∧out.length+1≤1000000000∧True∧True) (by kernel_rfl) (by simp only[true_and,and_true]; first | omega | (simp; omega) | (simp; done)) ?_
   refine zr [0,3,4] 3 (mkE 22 [(0,.ptr 0 0),(3,.sl I64 (out++[(↑i:Int)]) (Ap.lab 1)),(4,vv (vi (IntKind.i64.wrap ((↑i:Int)+(1:Int)))))]) [TB.cells [.sl I64 rest1 .no,vv (Value.int IntKind.u64 last1)],TB.own 3 1] (by kernel_rfl) ?_
   rw[wr_i64 (n:=(↑i:Int)+(1:Int)) (by omega) (by omega)]
   refine⟨(i+1,out++[(i:Int)],rest1,last1),fits_of [0,3,4] [] [] 2 [] (by kernel_rfl) (by kernel_rfl) (by kernel_rfl) (by kernel_rfl) (by kernel_rfl),(by (try dsimp only); exact⟨by omega,by simp; omega,all_snoc (fun x hx=>by have:=hg.2.2.1 x hx; omega) (by omega),asc_snoc hg.2.2.2 (fun x hx=>(hg.2.2.1 x hx).2)⟩),(by (try dsimp only); omega)⟩
  ·skip
   refine wt_skip ?_
   refine zr [0,3,4] 3 (mkE 22 [(0,.ptr 0 0),(3,.sl I64 out (Ap.lab 1)),(4,vv (vi (IntKind.i64.wrap ((↑i:Int)+(1:Int)))))]) [TB.cells [.sl I64 rest1 .no,vv (Value.int IntKind.u64 last1)],TB.own 3 1] (by kernel_rfl) ?_
   rw[wr_i64 (n:=(↑i:Int)+(1:Int)) (by omega) (by omega)]
   refine⟨(i+1,out,rest1,last1),fits_of [0,3,4] [] [] 2 [] (by kernel_rfl) (by kernel_rfl) (by kernel_rfl) (by kernel_rfl) (by kernel_rfl),(by (try dsimp only); exact⟨by omega,by omega,fun x hx=>by have:=hg.2.2.1 x hx; omega,hg.2.2.2⟩),(by (try dsimp only); omega)⟩
 ·skip
  have hc:=of_decide_eq_false hc
  refine wt_exit ?_
  refine wt_seq ?_
  refine wt_seq ?_
  refine zr [0,3,4,17] 3 (mkE 22 [(0,.ptr 0 0),(3,.sl I64 out (Ap.lab 1)),(4,vv (vi (↑i:Int))),(17,vv (vb ((↑out.length:Int)==(0:Int))))]) [TB.cells [.sl I64 rest .no,vv (Value.int IntKind.u64 last)],TB.own 3 1] (by kernel_rfl) ?_
  refine wt_cond (t:=(↑out.length:Int)==(0:Int)) (by kernel_rfl) (fun hc1 => ?_) (fun hc1 => ?_)
  ·skip
   have hc1:=beq_of hc1
   refine wt_regL ?_
   refine zl 1 1 (mkE 22 [(0,.ptr 0 0),(3,.sl I64 out (Ap.lab 1)),(4,vv (vi (↑i:Int))),(17,vv (vb ((↑out.length:Int)==(0:Int)))),(18,.ptr 0 0)]) [TB.cells [.sl I64 rest .no,vv (Value.int IntKind.u64 last)],TB.own 3 1] (by kernel_rfl) ?_
   refine wl_pcall (tt:=ttb) (g:=46) (kp:=0) (targs:=[.ptr 0 0,vv (vi 3)]) (ts:=[.sl I64 rest .no,vv (Value.int IntKind.u64 last)]) (dst:=some 19) (by kernel_rfl) (spec_46 tk _ _ _ (by first | assumption | omega | (simp; done) | (simp; omega))) ?_
   rintro _ _ ⟨k,rest1,last1,rfl,rfl,h,h1⟩
   refine ze [0,3,4] 2 (mkE 22 [(0,.ptr 0 0),(3,.sl I64 [k] Ap.full),(4,vv (vi (↑i:Int)))]) [TB.cells [.sl I64 rest1 .no,vv (Value.int IntKind.u64 last1)],TB.own 3 1] (by kernel_rfl) ?_
   refine wt_seq ?_
   refine zr [0,2,3,4] 2 (mkE 22 [(0,.ptr 0 0),(2,.sl I64 [k] Ap.full),(3,.sl I64 [k] Ap.full),(4,vv (vi (↑i:Int)))]) [TB.cells [.sl I64 rest1 .no,vv (Value.int IntKind.u64 last1)],TB.own 3 1] (by kernel_rfl) ?_
   refine wt_ret ?_
   refine⟨trivial,[TV.sl I64 [k] Ap.full],[TV.sl I64 rest1 Ap.no,vv (Value.int IntKind.u64 last1)],by kernel_rfl,by kernel_rfl,by kernel_rfl,by kernel_rfl,by kernel_rfl,by kernel_rfl,?_⟩
   exact⟨_,_,_,rfl,rfl,by simp,by simp; omega,by simp⟩
  ·skip
   have hc1:=bne_of hc1
   refine wt_skip ?_
   refine wt_seq ?_
   refine zr [0,2,3,4] 2 (mkE 22 [(0,.ptr 0 0),(2,.sl I64 out (Ap.lab 1)),(3,.sl I64 out (Ap.lab 1)),(4,vv (vi (↑i:Int)))]) [TB.cells [.sl I64 rest .no,vv (Value.int IntKind.u64 last)],TB.own 3 1] (by kernel_rfl) ?_
   refine wt_ret ?_
   refine⟨trivial,[.sl I64 out (Ap.lab 1)],[.sl I64 rest .no,vv (Value.int IntKind.u64 last)],by kernel_rfl,by kernel_rfl,by kernel_rfl,by kernel_rfl,by kernel_rfl,by kernel_rfl,?_⟩
   exact⟨_,_,_,rfl,rfl,fun e=>hc1 (by rw[e]; rfl),fun x hx=>by have:=hg.2.2.1 x hx; omega,hg.2.2.2⟩
theorem spec_12 {tab:IsoF} (tk:TabK tab) {n:Nat} (rest0:List Int) (last0 c:Int) (a1:3≤c) (a2:c≤8):CSpec (callT' tab (n+5)) 12 ([.ptr 0 0,ival c]) (dice rest0 last0) (fun v ts=>∃ (u l:List Int) (w:Int) (ls rest1:List Int) (last1:Int),v=pcV u l w ls∧ts=dice rest1 last1∧Ok u l w ls∧(u.length:Int)≤c∧3≤u.length∧u.length≤8∧l.length=u.length∧0≤w∧w≤2):=by
 refine cspec_of (fn:=Try.f12) (rts:=[some PieceT]) (cts:=[some IntsT,some (.int .u64)]) Try.func12 rfl ?_
 show WT _ _ _ _ _ _ _ _ _ _ (mkE 23 [(0,.ptr 0 0),(1,vv (vi c))]) [TB.cells [.sl I64 rest0 .no,vv (Value.int IntKind.u64 last0)]] _
 refine wt_seq ?_
 refine zr [0,1,4] 1 (mkE 23 [(0,.ptr 0 0),(1,vv (vi c)),(4,.ptr 1 0)]) [TB.cells [.sl I64 rest0 .no,vv (Value.int IntKind.u64 last0)],TB.cells [TV.nils,TV.nils,vv (vi 0),TV.nils]] (by kernel_rfl) ?_
 refine wt_seq ?_
 refine wt_regL ?_
 refine zl 2 2 (mkE 23 [(0,.ptr 0 0),(1,vv (vi c)),(4,.ptr 1 0),(6,.ptr 0 0),(7,vv (vi c))]) [TB.cells [.sl I64 rest0 .no,vv (Value.int IntKind.u64 last0)],TB.cells [TV.nils,TV.nils,vv (vi 0),TV.nils]] (by kernel_rfl) ?_
 refine wl_pcall (tt:=ttb) (g:=19) (kp:=0) (targs:=[.ptr 0 0,vv (vi 3),vv (vi c)]) (ts:=[.sl I64 rest0 .no,vv (Value.int IntKind.u64 last0)]) (dst:=some 8) (by kernel_rfl) (spec_19 tk _ _ _ _ (by first | assumption | omega | (simp; done) | (simp; omega)) (by first | assumption | omega | (simp; done) | (simp; omega)) (by first | assumption | omega | (simp; done) | (simp; omega)) (by first | assumption | omega | (simp; done) | (simp; omega))) ?_
 rintro _ _ ⟨k,rest1,last1,rfl,rfl,h,h1⟩
 refine ze [0,1,4,5] 1 (mkE 23 [(0,.ptr 0 0),(1,vv (vi c)),(4,.ptr 1 0),(5,vv (vi k))]) [TB.cells [.sl I64 rest1 .no,vv (Value.int IntKind.u64 last1)],TB.cells [TV.nils,TV.nils,vv (vi 0),TV.nils]] (by kernel_rfl) ?_
 refine wt_seq ?_
 refine wt_regL ?_
 refine zl 2 2 (mkE 23 [(0,.ptr 0 0),(1,vv (vi c)),(4,.ptr 1 0),(5,vv (vi k)),(9,.ptr 0 0),(10,vv (vi k))]) [TB.cells [.sl I64 rest1 .no,vv (Value.int IntKind.u64 last1)],TB.cells [TV.nils,TV.nils,vv (vi 0),TV.nils]] (by kernel_rfl) ?_
 refine wl_pcall (tt:=ttb) (g:=44) (kp:=0) (targs:=[.ptr 0 0,vv (vi k)]) (ts:=[.sl I64 rest1 .no,vv (Value.int IntKind.u64 last1)]) (dst:=some 11) (by kernel_rfl) (spec_44 tk _ _ _ (by first | assumption | omega | (simp; done) | (simp; omega)) (by first | assumption | omega | (simp; done) | (simp; omega))) ?_
 rintro _ _ ⟨out,rest11,last11,rfl,rfl,h2,h3⟩
 refine zl 5 2 (mkE 23 [(0,.ptr 0 0),(1,vv (vi c)),(4,.ptr 1 0),(5,vv (vi k)),(9,.ptr 0 0),(10,vv (vi k)),(11,.sl I64 out .no),(12,.ptr 0 0),(13,vv (vi k))]) [TB.cells [.sl I64 rest11 .no,vv (Value.int IntKind.u64 last11)],TB.cells [TV.nils,TV.nils,vv (vi 0),TV.nils]] (by kernel_rfl) ?_
 refine wl_pcall (tt:=ttb) (g:=44) (kp:=0) (targs:=[.ptr 0 0,vv (vi k)]) (ts:=[.sl I64 rest11 .no,vv (Value.int IntKind.u64 last11)]) (dst:=some 14) (by kernel_rfl) (spec_44 tk _ _ _ (by first | assumption | omega | (simp; done) | (simp; omega)) (by first | assumption | omega | (simp; done) | (simp; omega))) ?_
 rintro _ _ ⟨out1,rest12,last12,rfl,rfl,h4,h5⟩
 refine zl 8 2 (mkE 23 [(0,.ptr 0 0),(1,vv (vi c)),(4,.ptr 1 0),(5,vv (vi k)),(9,.ptr 0 0),(10,vv (vi k)),(11,.sl I64 out .no),(12,.ptr 0 0),(13,vv (vi k)),(14,.sl I64 out1 .no),(15,.ptr 0 0),(16,.ptr 0 0)]) [TB.cells [.sl I64 rest12 .no,vv (Value.int IntKind.u64 last12)],TB.cells [TV.nils,TV.nils,vv (vi 0),TV.nils]] (by kernel_rfl) ?_
 refine wl_pcall (tt:=ttb) (g:=46) (kp:=0) (targs:=[.ptr 0 0,vv (vi 2)]) (ts:=[.sl I64 rest12 .no,vv (Value.int IntKind.u64 last12)]) (dst:=some 17) (by kernel_rfl) (spec_46 tk _ _ _ (by first | assumption | omega | (simp; done) | (simp; omega))) ?_
 rintro _ _ ⟨k1,rest13,last13,rfl,rfl,h6,h7⟩
 refine zl 10 1 (mkE 23 [(0,.ptr 0 0),(1,vv (vi c)),(4,.ptr 1 0),(5,vv (vi k)),(9,.ptr 0 0),(10,vv (vi k)),(11,.sl I64 out .no),(12,.ptr 0 0),(13,vv (vi k)),(14,.sl I64 out1 .no),(15,.ptr 0 0),(16,.ptr 0 0),(17,vv (vi k1)),(18,.sl I64 [(0:Int),(0:Int),(1:Int),k1] Ap.full)]) [TB.cells [.sl I64 rest13 .no,vv (Value.int IntKind.u64 last13)],TB.cells [TV.nils,TV.nils,vv (vi 0),TV.nils]] (by kernel_rfl) ?_
 refine wl_pcall (tt:=ttb) (g:=45) (kp:=0) (targs:=[.ptr 0 0,.sl I64 [(0:Int),(0:Int),(1:Int),k1] .no]) (ts:=[.sl I64 rest13 .no,vv (Value.int IntKind.u64 last13)]) (dst:=some 19) (by kernel_rfl) (spec_45 tk _ _ _ (by first | assumption | omega | (simp; done) | (simp; omega)) (by first | assumption | omega | (simp; done) | (simp; omega))) ?_
 rintro _ _ ⟨k2,rest14,last14,rfl,rfl,h8⟩
 have hf: 0≤k2∧k2≤2:=by simp at h8; omega
 refine zl 12 1 (mkE 23 [(0,.ptr 0 0),(1,vv (vi c)),(4,.ptr 1 0),(5,vv (vi k)),(9,.ptr 0 0),(10,vv (vi k)),(11,.sl I64 out .no),(12,.ptr 0 0),(13,vv (vi k)),(14,.sl I64 out1 .no),(15,.ptr 0 0),(16,.ptr 0 0),(17,vv (vi k1)),(18,.sl I64 [(0:Int),(0:Int),(1:Int),k1] Ap.full),(19,vv (vi k2)),(20,.ptr 0 0)]) [TB.cells [.sl I64 rest14 .no,vv (Value.int IntKind.u64 last14)],TB.cells [TV.nils,TV.nils,vv (vi 0),TV.nils]] (by kernel_rfl) ?_
 refine wl_pcall (tt:=ttb) (g:=47) (kp:=0) (targs:=[.ptr 0 0]) (ts:=[.sl I64 rest14 .no,vv (Value.int IntKind.u64 last14)]) (dst:=some 21) (by kernel_rfl) (spec_47 tk _ _) ?_
 rintro _ _ ⟨out2,rest15,last15,rfl,rfl,h9,h10,h11⟩
 refine ze [0,1,4,5] 2 (mkE 23 [(0,.ptr 0 0),(1,vv (vi c)),(4,.ptr 1 0),(5,vv (vi k))]) [TB.cells [.sl I64 rest15 .no,vv (Value.int IntKind.u64 last15)],TB.cells [.sl I64 out .no,.sl I64 out1 .no,vv (vi k2),.sl I64 out2 .no]] (by kernel_rfl) ?_
 refine wt_ret ?_
 refine⟨trivial,[TV.agg [TV.sl I64 out Ap.no,TV.sl I64 out1 Ap.no,vv (vi k2),TV.sl I64 out2 Ap.no]],[TV.sl I64 rest15 Ap.no,vv (Value.int IntKind.u64 last15)],by kernel_rfl,by kernel_rfl,by kernel_rfl,by kernel_rfl,by kernel_rfl,by kernel_rfl,?_⟩
 exact⟨out,out1,k2,out2,_,_,rfl,rfl,⟨by omega,by omega,by omega,by assumption,by assumption,by omega,by omega,by assumption,by assumption,by assumption⟩,by omega,by omega,by omega,by omega,by omega,by omega⟩
theorem spec_13 {tab:IsoF} (tk:TabK tab) {n:Nat} (rest0:List Int) (last0:Int) (u l:List Int) (w:Int) (ls:List Int) (a:Ok u l w ls) (a0:Num u l w):CSpec (callT' tab (n+6)) 13 ([.ptr 0 0,pcV u l w ls]) (dice rest0 last0) (fun v ts=>∃ (u1 l1:List Int) (w1:Int) (ls1 rest1:List Int) (last1:Int),v=pcV u1 l1 w1 ls1∧ts=dice rest1 last1∧Ok u1 l1 w1 ls1∧u1=l.map (9-·)∧3≤u1.length∧u1.length≤8∧l1.length=u1.length∧0≤w1∧w1≤2):=by
 refine cspec_of (fn:=Try.f13) (rts:=[some PieceT]) (cts:=[some IntsT,some (.int .u64)]) Try.func13 rfl ?_
 show WT _ _ _ _ _ _ _ _ _ _ (mkE 38 [(0,.ptr 0 0),(1,.agg [.sl I64 u .no,.sl I64 l .no,vv (vi w),.sl I64 ls .no])]) [TB.cells [.sl I64 rest0 .no,vv (Value.int IntKind.u64 last0)]] _
 refine wt_seq ?_
 refine zr [0,1,3,4] 2 (mkE 38 [(0,.ptr 0 0),(1,.agg [.sl I64 u .no,.sl I64 l .no,vv (vi w),.sl I64 ls .no]),(3,.ptr 1 0),(4,.ptr 2 0)]) [TB.cells [.sl I64 rest0 .no,vv (Value.int IntKind.u64 last0)],TB.cells [.sl I64 u .no,.sl I64 l .no,vv (vi w),.sl I64 ls .no],TB.cells [TV.nils,TV.nils,vv (vi 0),TV.nils]] (by kernel_rfl) ?_
 refine wt_seq ?_
 refine wt_regL ?_
 refine zl 4 4 (mkE 38 [(0,.ptr 0 0),(1,.agg [.sl I64 u .no,.sl I64 l .no,vv (vi w),.sl I64 ls .no]),(3,.ptr 1 0),(4,.ptr 2 0),(7,.ptr 0 0),(8,.ptr 1 0),(9,.sl I64 u .no),(10,vv (vi (↑u.length:Int)))]) [TB.cells [.sl I64 rest0 .no,vv (Value.int IntKind.u64 last0)],TB.cells [.sl I64 u .no,.sl I64 l .no,vv (vi w),.sl I64 ls .no],TB.cells [TV.nils,TV.nils,vv (vi 0),TV.nils]] (by kernel_rfl) ?_
 refine wl_pcall (tt:=ttb) (g:=12) (kp:=0) (targs:=[.ptr 0 0,vv (vi (↑u.length:Int))]) (ts:=[.sl I64 rest0 .no,vv (Value.int IntKind.u64 last0)]) (dst:=some 11) (by kernel_rfl) (spec_12 tk _ _ _ (by first | assumption | omega | (simp; done) | (simp; omega)) (by first | assumption | omega | (simp; done) | (simp; omega))) ?_
 rintro _ _ ⟨u1,l1,w1,ls1,rest1,last1,rfl,rfl,h,h1,h2,h3,h4,h5,h6⟩
 refine ze [0,1,3,4,5] 2 (mkE 38 [(0,.ptr 0 0),(1,.agg [.sl I64 u .no,.sl I64 l .no,vv (vi w),.sl I64 ls .no]),(3,.ptr 1 0),(4,.ptr 2 0),(5,.ptr 3 0)]) [TB.cells [.sl I64 rest1 .no,vv (Value.int IntKind.u64 last1)],TB.cells [.sl I64 u .no,.sl I64 l .no,vv (vi w),.sl I64 ls .no],TB.cells [TV.nils,TV.nils,vv (vi 0),TV.nils],TB.cells [.sl I64 u1 .no,.sl I64 l1 .no,vv (vi w1),.sl I64 ls1 .no]] (by kernel_rfl) ?_
 refine wt_seq ?_
 refine wt_regL ?_
 refine zl 4 4 (mkE 38 [(0,.ptr 0 0),(1,.agg [.sl I64 u .no,.sl I64 l .no,vv (vi w),.sl I64 ls .no]),(3,.ptr 1 0),(4,.ptr 2 0),(5,.ptr 3 0),(12,.ptr 0 0),(13,.ptr 1 0),(14,.sl I64 u .no),(15,vv (vi (↑u.length:Int)))]) [TB.cells [.sl I64 rest1 .no,vv (Value.int IntKind.u64 last1)],TB.cells [.sl I64 u .no,.sl I64 l .no,vv (vi w),.sl I64 ls .no],TB.cells [TV.nils,TV.nils,vv (vi 0),TV.nils],TB.cells [.sl I64 u1 .no,.sl I64 l1 .no,vv (vi w1),.sl I64 ls1 .no]] (by kernel_rfl) ?_
 refine wl_pcall (tt:=ttb) (g:=44) (kp:=0) (targs:=[.ptr 0 0,vv (vi (↑u.length:Int))]) (ts:=[.sl I64 rest1 .no,vv (Value.int IntKind.u64 last1)]) (dst:=some 16) (by kernel_rfl) (spec_44 tk _ _ _ (by first | assumption | omega | (simp; done) | (simp; omega)) (by first | assumption | omega | (simp; done) | (simp; omega))) ?_
 rintro _ _ ⟨out,rest11,last11,rfl,rfl,h7,h8⟩
 refine ze [0,1,3,4,5] 4 (mkE 38 [(0,.ptr 0 0),(1,.agg [.sl I64 u .no,.sl I64 l .no,vv (vi w),.sl I64 ls .no]),(3,.ptr 1 0),(4,.ptr 2 0),(5,.ptr 3 0)]) [TB.cells [.sl I64 rest11 .no,vv (Value.int IntKind.u64 last11)],TB.cells [.sl I64 u .no,.sl I64 l .no,vv (vi w),.sl I64 ls .no],TB.cells [TV.nils,TV.nils,vv (vi 0),TV.nils],TB.cells [.sl I64 [] Ap.full,.sl I64 out .no,vv (vi w1),.sl I64 ls1 .no]] (by kernel_rfl) ?_
 refine wt_seq ?_
 refine wt_seq ?_
 refine zr [0,1,3,4,5,6] 1 (mkE 38 [(0,.ptr 0 0),(1,.agg [.sl I64 u .no,.sl I64 l .no,vv (vi w),.sl I64 ls .no]),(3,.ptr 1 0),(4,.ptr 2 0),(5,.ptr 3 0),(6,vv (vi 0))]) [TB.cells [.sl I64 rest11 .no,vv (Value.int IntKind.u64 last11)],TB.cells [.sl I64 u .no,.sl I64 l .no,vv (vi w),.sl I64 ls .no],TB.cells [TV.nils,TV.nils,vv (vi 0),TV.nils],TB.cells [.sl I64 [] Ap.full,.sl I64 out .no,vv (vi w1),.sl I64 ls1 .no]] (by kernel_rfl) ?_
 refine wt_block ?_
 refine wt_loop (σ:=Nat) (fun(i:Nat)=>(mkE 38 [(0,.ptr 0 0),(3,.ptr 1 0),(4,.ptr 2 0),(5,.ptr 3 0),(6,ival (i:Nat))],([.cells (dice rest11 last11),.cells [.sl I64 u .no,.sl I64 l .no,ival w,.sl I64 ls .no],.cells [.nils,.nils,ival 0,.nils],.cells [.sl I64 ((l.take i).map (9-·)) (.lab 4),.sl I64 out .no,ival w1,.sl I64 ls1 .no],.own 3 1]:List TB))) (fun(i:Nat)=>i≤l.length) (fun(i:Nat)=>l.length-i) (0) (fits_of [0,3,4,5,6] [] [(3,[(0,I64,4)])] 4 [(3,1)] (by kernel_rfl) (by kernel_rfl) (by kernel_rfl) (by kernel_rfl) (by kernel_rfl)) (by (try dsimp only); simp) (by (try dsimp only); unfold LL; omega) ?_
 intro i hg
 have hg:i≤l.length:=hg
 show WT _ _ _ _ _ _ _ _ _ _ (mkE 38 [(0,.ptr 0 0),(3,.ptr 1 0),(4,.ptr 2 0),(5,.ptr 3 0),(6,vv (vi (↑i:Int)))]) [TB.cells [.sl I64 rest11 .no,vv (Value.int IntKind.u64 last11)],TB.cells [.sl I64 u .no,.sl I64 l .no,vv (vi w),.sl I64 ls .no],TB.cells [TV.nils,TV.nils,vv (vi 0),TV.nils],TB.cells [.sl I64 (List.map (fun x=>(9:I64.den)-x) (List.take i l)) (Ap.lab 4),.sl I64 out .no,vv (vi w1),.sl I64 ls1 .no],TB.own 3 1] _
 refine wt_seq ?_
 refine wt_seq ?_
 refine zr [0,3,4,5,6,23] 5 (mkE 38 [(0,.ptr 0 0),(3,.ptr 1 0),(4,.ptr 2 0),(5,.ptr 3 0),(6,vv (vi (↑i:Int))),(23,vv (vb (decide ((↑i:Int)<(↑l.length:Int)))))]) [TB.cells [.sl I64 rest11 .no,vv (Value.int IntKind.u64 last11)],TB.cells [.sl I64 u .no,.sl I64 l .no,vv (vi w),.sl I64 ls .no],TB.cells [TV.nils,TV.nils,vv (vi 0),TV.nils],TB.cells [.sl I64 (List.map (fun x=>(9:I64.den)-x) (List.take i l)) (Ap.lab 4),.sl I64 out .no,vv (vi w1),.sl I64 ls1 .no],TB.own 3 1] (by kernel_rfl) ?_
 refine wt_cond (t:=decide ((↑i:Int)<(↑l.length:Int))) (by kernel_rfl) (fun hc => ?_) (fun hc => ?_)
 ·skip
  have hc:=of_decide_eq_true hc
  have hf: 0≤l.getD i 0∧l.getD i 0≤9:=a.hl _ (mem_getD (by omega))
  refine wt_skip ?_
  refine wt_seq ?_
  refine wt_block ?_
  refine wt_drawn (by kernel_rfl) (by kernel_rfl) ?_
  refine wd_seg 1000 (P:=Tp) (ty:=Ty) (tt:=ttb) (n0:=5) (k':=12) (te':=(mkE 38 [(0,.ptr 0 0),(3,.ptr 1 0),(4,.ptr 2 0),(5,.ptr 3 0),(6,vv (vi (↑i:Int))),(23,vv (vb (decide ((↑i:Int)<(↑l.length:Int))))),(26,.ptr 3 0),(27,.sl I64 (List.map (fun x=>(9:I64.den)-x) (List.take i l)) .no),(28,.ptr 1 1),(29,.sl I64 l .no),(30,vv (vi (↑i:Int))),(31,.eptr I64 l i 0),(32,vv (vi (l.getD i 0))),(33,vv (vi (IntKind.i64.wrap ((9:Int)-l.getD i 0)))),(34,.sl I64 [IntKind.i64.wrap ((9:Int)-l.getD i 0)] Ap.full),(35,.sl I64 (List.map (fun x=>(9:I64.den)-x) (List.take i l)++[IntKind.i64.wrap ((9:Int)-l.getD i 0)]) (Ap.lab 4)),(36,.ptr 3 0)])) (tS':=[TB.cells [.sl I64 rest11 .no,vv (Value.int IntKind.u64 last11)],TB.cells [.sl I64 u .no,.sl I64 l .no,vv (vi w),.sl I64 ls .no],TB.cells [TV.nils,TV.nils,vv (vi 0),TV.nils],TB.cells [.sl I64 (List.map (fun x=>(9:I64.den)-x) (List.take i l)++[IntKind.i64.wrap ((9:Int)-l.getD i 0)]) (Ap.lab 4),.sl I64 out .no,vv (vi w1),.sl I64 ls1 .no],TB.own 3 1,TB.none,TB.none,TB.none,TB.none,TB.none,TB.none,TB.none,TB.none,TB.none,TB.none,TB.none,TB.none]) (fs':=[{ ids:=some [],wr:=false },{ ids:=some [3],wr:=false },{ ids:=some [],wr:=false },{ ids:=some [1],wr:=false },{ ids:=some [],wr:=false },{ ids:=some [],wr:=false },{ ids:=some [],wr:=false },{ ids:=some [],wr:=false },{ ids:=some [],wr:=false },{ ids:=some [4,14],wr:=true },{ ids:=some [],wr:=false },{ ids:=some [3],wr:=true }]) (cp:=True∧True∧True∧True∧True∧((0:Int)≤(↑i:Int)∧(↑i:Int)<(↑l.length:Int))∧True∧True∧True∧(List.map (fun x=>(9:I64.den)-x) (List.take i l)).length+1≤1000000000∧True∧True∧True) (by kernel_rfl) (by simp only[true_and,and_true]; first | omega | (simp; omega) | (simp; done)) ?_
  refine wd_done (te1:=(mkE 38 [(0,.ptr 0 0),(3,.ptr 1 0),(4,.ptr 2 0),(5,.ptr 3 0),(6,vv (vi (↑i:Int)))])) (tS1:=[TB.cells [.sl I64 rest11 .no,vv (Value.int IntKind.u64 last11)],TB.cells [.sl I64 u .no,.sl I64 l .no,vv (vi w),.sl I64 ls .no],TB.cells [TV.nils,TV.nils,vv (vi 0),TV.nils],TB.cells [.sl I64 (List.map (fun x=>(9:I64.den)-x) (List.take i l)++[IntKind.i64.wrap ((9:Int)-l.getD i 0)]) (Ap.lab 4),.sl I64 out .no,vv (vi w1),.sl I64 ls1 .no],TB.own 3 1]) [0,3,4,5,6] (by kernel_rfl) (by kernel_rfl) (by kernel_rfl) ?_
  rw[wr_i64 (n:=(9:Int)-l.getD i 0) (by omega) (by omega)]
  refine zr [0,3,4,5,6] 3 (mkE 38 [(0,.ptr 0 0),(3,.ptr 1 0),(4,.ptr 2 0),(5,.ptr 3 0),(6,vv (vi (IntKind.i64.wrap ((↑i:Int)+(1:Int)))))]) [TB.cells [.sl I64 rest11 .no,vv (Value.int IntKind.u64 last11)],TB.cells [.sl I64 u .no,.sl I64 l .no,vv (vi w),.sl I64 ls .no],TB.cells [TV.nils,TV.nils,vv (vi 0),TV.nils],TB.cells [.sl I64 (List.map (fun x=>(9:I64.den)-x) (List.take i l)++[(9:Int)-l.getD i 0]) (Ap.lab 4),.sl I64 out .no,vv (vi w1),.sl I64 ls1 .no],TB.own 3 1] (by kernel_rfl) ?_
  rw[wr_i64 (n:=(↑i:Int)+(1:Int)) (by omega) (by omega)]
  refine⟨i+1,fits_of [0,3,4,5,6] [] [] 5 [] (by kernel_rfl) (by rw[map_take_snoc (f:=fun x=>9-x) (by omega)]; kernel_rfl) (by kernel_rfl) (by kernel_rfl) (by kernel_rfl),(by (try dsimp only); omega),(by (try dsimp only); omega)⟩
 ·skip
  have hc:=of_decide_eq_false hc
  refine wt_exit ?_
  refine wt_seq ?_
  refine zr [0,3,4,5,6] 2 (mkE 38 [(0,.ptr 0 0),(3,.ptr 1 0),(4,.ptr 2 0),(5,.ptr 3 0),(6,vv (vi (↑i:Int)))]) [TB.cells [.sl I64 rest11 .no,vv (Value.int IntKind.u64 last11)],TB.cells [.sl I64 u .no,.sl I64 l .no,vv (vi w),.sl I64 ls .no],TB.cells [.sl I64 (List.map (fun x=>(9:I64.den)-x) (List.take i l)) (Ap.lab 4),.sl I64 out .no,vv (vi w1),.sl I64 ls1 .no],TB.cells [.sl I64 (List.map (fun x=>(9:I64.den)-x) (List.take i l)) (Ap.lab 4),.sl I64 out .no,vv (vi w1),.sl I64 ls1 .no],TB.own 3 1] (by kernel_rfl) ?_
  refine wt_ret ?_
  refine⟨trivial,[.agg [.sl I64 (List.map (fun x=>(9:I64.den)-x) (List.take i l)) (Ap.lab 4),.sl I64 out .no,vv (vi w1),.sl I64 ls1 .no]],[.sl I64 rest11 .no,vv (Value.int IntKind.u64 last11)],by kernel_rfl,by kernel_rfl,by kernel_rfl,by kernel_rfl,by kernel_rfl,by kernel_rfl,?_⟩
  have hi:i=l.length:=by omega
  subst hi; exact⟨_,out,w1,ls1,_,_,rfl,rfl,⟨by simp; omega,by simp; omega,by simp; omega,fun x hx=>by simp at hx; obtain⟨y,hy,rfl⟩:=hx; have:=a.hl y hy; omega,h8,h5,h6,h.ne,h.lie,h.asc⟩,by rw[List.take_length],by simp; omega,by simp; omega,by simp; omega,h5,h6⟩
theorem spec_11 {tab:IsoF} (tk:TabK tab) {n:Nat} (nums:List Int):NSpec (isoT tab (n+1)) (callT' tab (n+1)) 11 ([.sl I64 nums .no]) (fun ts=>ts=dice nums 1):=by
 refine nspec_of (fn:=Try.f11) (cts:=[some IntsT,some (.int .u64)]) Try.func11 rfl (fun _=>tk.other _ _ (by decide) (by decide) (by decide)) ?_
 show WT _ _ _ _ _ _ _ _ _ _ (mkE 6 [(0,TV.sl I64 nums Ap.no)]) [] _
 refine wt_seq ?_
 refine zr [0,2] 1 (mkE 6 [(0,TV.sl I64 nums Ap.no),(2,vv (Value.pointer none))]) [] (by kernel_rfl) ?_
 refine wt_seq ?_
 refine zr [0,2] 4 (mkE 6 [(0,.sl I64 nums .no),(2,.ptr 0 0)]) [TB.cells [.sl I64 nums .no,vv (Value.int IntKind.u64 (1:Int))]] (by kernel_rfl) ?_
 refine wt_ret ?_
 refine⟨trivial,[.sl I64 nums .no,vv (Value.int IntKind.u64 (1:Int))],by kernel_rfl,by kernel_rfl,by kernel_rfl,by kernel_rfl,?_⟩
 rfl
end Go.Tv
end
