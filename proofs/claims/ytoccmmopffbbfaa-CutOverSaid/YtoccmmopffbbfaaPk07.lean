import Derived.Test.YtoccmmopffbbfaaPk05
import Derived.Test.YtoccmmopffbbfaaPk06
section
namespace Go.Tv
open Go Go.Di Go.Proofs
set_option maxRecDepth 100000
def xorI (a b:Int):Int:=IntKind.i64.wrap ((BitVec.ofInt 64 a ^^^ BitVec.ofInt 64 b).toNat:Int)
def laidL (y:Int) (ls:List Int) (i:Nat):List Int:=((List.range i).map Int.ofNat).filter fun x=>decide (xorI x y∈ls)
theorem laidL_yes {y:Int} {ls:List Int} {i:Nat} (h:xorI i y∈ls):laidL y ls i++[(i:Int)]=laidL y ls (i+1):=by
 simp[laidL,List.range_succ,List.filter_append,h]
theorem laidL_no {y:Int} {ls:List Int} {i:Nat} (h:¬ xorI i y∈ls):laidL y ls i=laidL y ls (i+1):=by
 simp[laidL,List.range_succ,List.filter_append,h]
theorem laidL_len (y:Int) (ls:List Int) (i:Nat):(laidL y ls i).length≤i:=by
 unfold laidL
 refine Nat.le_trans (List.length_filter_le _ _) ?_
 simp
theorem laidL_in {y:Int} {ls:List Int} {i:Nat}:∀ x∈laidL y ls i,0≤x∧x<i:=by
 intro x hx
 simp only[laidL,List.mem_filter,List.mem_map,List.mem_range] at hx
 obtain⟨⟨k,hk,rfl⟩,-⟩:=hx
 exact⟨Int.natCast_nonneg k,Int.ofNat_lt.2 hk⟩
theorem laidL_asc (y:Int) (ls:List Int) (i:Nat):(laidL y ls i).Pairwise (· < ·):=by
 unfold laidL
 refine List.Pairwise.filter _ ?_
 rw[List.pairwise_map]
 exact(List.pairwise_lt_range (n:=i)).imp fun h=>Int.ofNat_lt.2 h
theorem spec_16_2 {tab:IsoF} (tk:TabK tab) {n:Nat} (u l:List Int) (w:Int) (ls:List Int) (a1:u.length≤1000) (a2:l.length≤1000) (a3:ls.length≤1000):ISpec (isoT tab (n+2)) 16 ([pcV u l w ls,ival 2]) (fun v=>v=pcV u.reverse l.reverse w (laidL 2 ls 4)):=by
 refine ispec_of (fn:=Try.f16) (rts:=[some PieceT]) Try.func16 rfl (fun _=>tk.other _ _ (by decide) (by decide) (by decide)) ?_
 show WT _ _ _ _ _ _ _ _ _ _ (mkE 63 [(0,.agg [.sl I64 u .no,.sl I64 l .no,vv (vi w),.sl I64 ls .no]),(1,vv (vi 2))]) [] _
 refine wt_seq ?_
 refine zr [0,1,2,4] 2 (mkE 63 [(0,.agg [.sl I64 u .no,.sl I64 l .no,vv (vi w),.sl I64 ls .no]),(1,vv (vi 2)),(2,.ptr 0 0),(4,.ptr 1 0)]) [TB.cells [.sl I64 u .no,.sl I64 l .no,vv (vi w),.sl I64 ls .no],TB.cells [TV.nils,TV.nils,vv (vi 0),TV.nils]] (by kernel_rfl) ?_
 refine wt_seq ?_
 refine wt_drawn (by kernel_rfl) (by kernel_rfl) ?_
 refine wd_seg 1000 (P:=Tp) (ty:=Ty) (tt:=ttb) (n0:=2) (k':=13) (te':=(mkE 63 [(0,.agg [.sl I64 u .no,.sl I64 l .no,vv (vi w),.sl I64 ls .no]),(1,vv (vi 2)),(2,.ptr 0 0),(4,.ptr 1 0),(5,.ptr 13 0),(7,.sl I64 [] Ap.full),(8,.ptr 0 0),(9,.sl I64 u .no),(10,.sl I64 u (Ap.lab 5)),(11,.sl I64 [] Ap.full),(12,.ptr 0 1),(13,.sl I64 l .no),(14,.sl I64 l (Ap.lab 9)),(15,.ptr 0 2),(16,vv (vi w)),(17,.agg [.sl I64 u (Ap.lab 5),.sl I64 l (Ap.lab 9),vv (vi w),TV.nils])])) (tS':=[TB.cells [.sl I64 u .no,.sl I64 l .no,vv (vi w),.sl I64 ls .no],TB.cells [TV.nils,TV.nils,vv (vi 0),TV.nils],TB.none,TB.none,TB.none,TB.own 3 1,TB.none,TB.none,TB.none,TB.own 3 1,TB.none,TB.none,TB.none,TB.cells [.sl I64 u (Ap.lab 5),.sl I64 l (Ap.lab 9),vv (vi w),TV.nils],TB.none]) (fs':=[{ ids:=some [],wr:=false },{ ids:=some [],wr:=false },{ ids:=some [0],wr:=false },{ ids:=some [5],wr:=true },{ ids:=some [],wr:=false },{ ids:=some [],wr:=false },{ ids:=some [0],wr:=false },{ ids:=some [9],wr:=true },{ ids:=some [],wr:=false },{ ids:=some [0],wr:=false },{ ids:=some [],wr:=false },{ ids:=some [13],wr:=true },{ ids:=some [13],wr:=true }]) (cp:=True∧True∧True∧0+u.length≤1000000000∧True∧True∧True∧0+l.length≤1000000000∧True∧True∧True∧True∧True∧True) (by kernel_rfl) (by simp only[true_and,and_true]; first | omega | (simp; omega) | (simp; done)) ?_
 refine wd_done (te1:=(mkE 63 [(0,.agg [.sl I64 u .no,.sl I64 l .no,vv (vi w),.sl I64 ls .no]),(1,vv (vi 2)),(2,.ptr 0 0),(4,.ptr 1 0),(5,.ptr 13 0)])) (tS1:=[TB.cells [.sl I64 u .no,.sl I64 l .no,vv (vi w),.sl I64 ls .no],TB.cells [TV.nils,TV.nils,vv (vi 0),TV.nils],TB.none,TB.none,TB.none,TB.own 3 1,TB.none,TB.none,TB.none,TB.own 3 1,TB.none,TB.none,TB.none,TB.cells [.sl I64 u (Ap.lab 5),.sl I64 l (Ap.lab 9),vv (vi w),TV.nils]]) [0,1,2,4,5] (by kernel_rfl) (by kernel_rfl) (by kernel_rfl) ?_
 refine wt_seq ?_
 refine wt_seq ?_
 refine zr [0,1,2,4,5,23] 6 (mkE 63 [(0,.agg [.sl I64 u .no,.sl I64 l .no,vv (vi w),.sl I64 ls .no]),(1,vv (vi 2)),(2,.ptr 0 0),(4,.ptr 1 0),(5,.ptr 13 0),(23,vv (vb false))]) [TB.cells [.sl I64 u .no,.sl I64 l .no,vv (vi w),.sl I64 ls .no],TB.cells [TV.nils,TV.nils,vv (vi 0),TV.nils],TB.none,TB.none,TB.none,TB.own 3 1,TB.none,TB.none,TB.none,TB.own 3 1,TB.none,TB.none,TB.none,TB.cells [.sl I64 u (Ap.lab 5),.sl I64 l (Ap.lab 9),vv (vi w),TV.nils]] (by kernel_rfl) ?_
 refine wt_cond (t:=false) (by kernel_rfl) (fun hno=>(by cases hno)) (fun _ => ?_)
 refine wt_skip ?_
 refine wt_seq ?_
 refine wt_seq ?_
 refine zr [0,1,2,4,5,37] 4 (mkE 63 [(0,.agg [.sl I64 u .no,.sl I64 l .no,vv (vi w),.sl I64 ls .no]),(1,vv (vi 2)),(2,.ptr 0 0),(4,.ptr 1 0),(5,.ptr 13 0),(37,vv (vb true))]) [TB.cells [.sl I64 u .no,.sl I64 l .no,vv (vi w),.sl I64 ls .no],TB.cells [TV.nils,TV.nils,vv (vi 0),TV.nils],TB.none,TB.none,TB.none,TB.own 3 1,TB.none,TB.none,TB.none,TB.own 3 1,TB.none,TB.none,TB.none,TB.cells [.sl I64 u (Ap.lab 5),.sl I64 l (Ap.lab 9),vv (vi w),TV.nils]] (by kernel_rfl) ?_
 refine wt_cond (t:=true) (by kernel_rfl) (fun _ => ?_) (fun hno=>(by cases hno))
 refine wt_drawn (by kernel_rfl) (by kernel_rfl) ?_
 refine wd_seg 1000 (P:=Tp) (ty:=Ty) (tt:=ttb) (n0:=14) (k':=2) (te':=(mkE 63 [(0,.agg [.sl I64 u .no,.sl I64 l .no,vv (vi w),.sl I64 ls .no]),(1,vv (vi 2)),(2,.ptr 0 0),(4,.ptr 1 0),(5,.ptr 13 0),(37,vv (vb true)),(38,.ptr 13 0),(39,.sl I64 u (Ap.lab 5))])) (tS':=[TB.cells [.sl I64 u .no,.sl I64 l .no,vv (vi w),.sl I64 ls .no],TB.cells [TV.nils,TV.nils,vv (vi 0),TV.nils],TB.none,TB.none,TB.none,TB.own 3 1,TB.none,TB.none,TB.none,TB.own 3 1,TB.none,TB.none,TB.none,TB.cells [.sl I64 u (Ap.lab 5),.sl I64 l (Ap.lab 9),vv (vi w),TV.nils],TB.none,TB.none,TB.none,TB.none,TB.none,TB.none,TB.none,TB.none,TB.none,TB.none]) (fs':=[{ ids:=some [],wr:=false },{ ids:=some [13],wr:=false }]) (cp:=True∧True∧True) (by kernel_rfl) ⟨trivial,⟨trivial,trivial⟩⟩ ?_
 refine wd_icall (tt:=ttb) (g:=52) (targs:=[.sl I64 u .no]) (dst:=some 40) (nT:=14) (by kernel_rfl) (by kernel_rfl) (spec_52 tk _ (by first | assumption | omega | (simp; done) | (simp; omega))) ?_
 rintro _ rfl
 refine wd_seg 1000 (P:=Tp) (ty:=Ty) (tt:=ttb) (n0:=14) (k':=5) (te':=(mkE 63 [(0,.agg [.sl I64 u .no,.sl I64 l .no,vv (vi w),.sl I64 ls .no]),(1,vv (vi 2)),(2,.ptr 0 0),(4,.ptr 1 0),(5,.ptr 13 0),(37,vv (vb true)),(38,.ptr 13 0),(39,.sl I64 u (Ap.lab 5)),(40,.sl I64 u.reverse .no),(41,.ptr 13 1),(42,.sl I64 l (Ap.lab 9))])) (tS':=[TB.cells [.sl I64 u .no,.sl I64 l .no,vv (vi w),.sl I64 ls .no],TB.cells [TV.nils,TV.nils,vv (vi 0),TV.nils],TB.none,TB.none,TB.none,TB.own 3 1,TB.none,TB.none,TB.none,TB.own 3 1,TB.none,TB.none,TB.none,TB.cells [.sl I64 u (Ap.lab 5),.sl I64 l (Ap.lab 9),vv (vi w),TV.nils],TB.none,TB.none,TB.none,TB.none,TB.none,TB.none,TB.none,TB.none,TB.none,TB.none]) (fs':=[{ ids:=some [],wr:=false },{ ids:=some [13],wr:=false }]) (cp:=True∧True∧True) (by kernel_rfl) ⟨trivial,⟨trivial,trivial⟩⟩ ?_
 refine wd_icall (tt:=ttb) (g:=52) (targs:=[.sl I64 l .no]) (dst:=some 43) (nT:=14) (by kernel_rfl) (by kernel_rfl) (spec_52 tk _ (by first | assumption | omega | (simp; done) | (simp; omega))) ?_
 rintro _ rfl
 refine wd_seg 1000 (P:=Tp) (ty:=Ty) (tt:=ttb) (n0:=14) (k':=10) (te':=(mkE 63 [(0,.agg [.sl I64 u .no,.sl I64 l .no,vv (vi w),.sl I64 ls .no]),(1,vv (vi 2)),(2,.ptr 0 0),(4,.ptr 1 0),(5,.ptr 13 0),(37,vv (vb true)),(38,.ptr 13 0),(39,.sl I64 u (Ap.lab 5)),(40,.sl I64 u.reverse .no),(41,.ptr 13 1),(42,.sl I64 l (Ap.lab 9)),(43,.sl I64 l.reverse .no),(44,.ptr 13 0),(45,.ptr 13 1)])) (tS':=[TB.cells [.sl I64 u .no,.sl I64 l .no,vv (vi w),.sl I64 ls .no],TB.cells [TV.nils,TV.nils,vv (vi 0),TV.nils],TB.none,TB.none,TB.none,TB.own 3 1,TB.none,TB.none,TB.none,TB.own 3 1,TB.none,TB.none,TB.none,TB.cells [.sl I64 u.reverse .no,.sl I64 l.reverse .no,vv (vi w),TV.nils],TB.none,TB.none,TB.none,TB.none,TB.none,TB.none,TB.none,TB.none,TB.none,TB.none]) (fs':=[{ ids:=some [],wr:=false },{ ids:=some [13],wr:=true },{ ids:=some [],wr:=false },{ ids:=some [13],wr:=true }]) (cp:=True∧True∧True∧True∧True) (by kernel_rfl) ⟨trivial,⟨trivial,⟨trivial,⟨trivial,trivial⟩⟩⟩⟩ ?_
 refine wd_done (te1:=(mkE 63 [(0,.agg [.sl I64 u .no,.sl I64 l .no,vv (vi w),.sl I64 ls .no]),(1,vv (vi 2)),(2,.ptr 0 0),(4,.ptr 1 0),(5,.ptr 13 0)])) (tS1:=[TB.cells [.sl I64 u .no,.sl I64 l .no,vv (vi w),.sl I64 ls .no],TB.cells [TV.nils,TV.nils,vv (vi 0),TV.nils],TB.none,TB.none,TB.none,TB.own 3 1,TB.none,TB.none,TB.none,TB.own 3 1,TB.none,TB.none,TB.none,TB.cells [.sl I64 u.reverse .no,.sl I64 l.reverse .no,vv (vi w),TV.nils]]) [0,1,2,4,5] (by kernel_rfl) (by kernel_rfl) (by kernel_rfl) ?_
 refine wt_seq ?_
 refine wt_seq ?_
 refine zr [0,1,2,4,5,6] 1 (mkE 63 [(0,.agg [.sl I64 u .no,.sl I64 l .no,vv (vi w),.sl I64 ls .no]),(1,vv (vi 2)),(2,.ptr 0 0),(4,.ptr 1 0),(5,.ptr 13 0),(6,vv (vi 0))]) [TB.cells [.sl I64 u .no,.sl I64 l .no,vv (vi w),.sl I64 ls .no],TB.cells [TV.nils,TV.nils,vv (vi 0),TV.nils],TB.none,TB.none,TB.none,TB.own 3 1,TB.none,TB.none,TB.none,TB.own 3 1,TB.none,TB.none,TB.none,TB.cells [.sl I64 u.reverse .no,.sl I64 l.reverse .no,vv (vi w),TV.nils]] (by kernel_rfl) ?_
 refine wt_block ?_
 refine wt_loop (σ:=Nat) (fun(i:Nat)=>(mkE 63 [(2,.ptr 0 0),(1,ival 2),(4,.ptr 1 0),(5,.ptr 13 0),(6,ival (i:Nat))],([TB.cells [.sl I64 u .no,.sl I64 l .no,vv (vi w),.sl I64 ls .no],TB.cells [TV.nils,TV.nils,vv (vi 0),TV.nils],TB.none,TB.none,TB.none,TB.own 3 1,TB.none,TB.none,TB.none,TB.own 3 1,TB.none,TB.none,TB.none,.cells [.sl I64 u.reverse .no,.sl I64 l.reverse .no,ival w,.sl I64 (laidL 2 ls i) (.lab 14)],.own 3 1]:List TB))) (fun(i:Nat)=>i≤4) (fun(i:Nat)=>4-i) (0) (fits_of [1,2,4,5,6] [] [(13,[(3,I64,14)])] 14 [(3,1)] (by kernel_rfl) (by kernel_rfl) (by kernel_rfl) (by kernel_rfl) (by kernel_rfl)) (by (try dsimp only); omega) (by (try dsimp only); unfold LL; omega) ?_
 intro i hg
 have hg:i≤4:=hg
 show WT _ _ _ _ _ _ _ _ _ _ (mkE 63 [(1,vv (vi 2)),(2,.ptr 0 0),(4,.ptr 1 0),(5,.ptr 13 0),(6,vv (vi (↑i:Int)))]) [TB.cells [.sl I64 u .no,.sl I64 l .no,vv (vi w),.sl I64 ls .no],TB.cells [TV.nils,TV.nils,vv (vi 0),TV.nils],TB.none,TB.none,TB.none,TB.own 3 1,TB.none,TB.none,TB.none,TB.own 3 1,TB.none,TB.none,TB.none,TB.cells [.sl I64 u.reverse .no,.sl I64 l.reverse .no,vv (vi w),.sl I64 (laidL (2:Int) ls i) (Ap.lab 14)],TB.own 3 1] _
 refine wt_seq ?_
 refine wt_seq ?_
 refine zr [1,2,4,5,6,47] 2 (mkE 63 [(1,vv (vi 2)),(2,.ptr 0 0),(4,.ptr 1 0),(5,.ptr 13 0),(6,vv (vi (↑i:Int))),(47,vv (vb (decide ((↑i:Int)≤(3:Int)))))]) [TB.cells [.sl I64 u .no,.sl I64 l .no,vv (vi w),.sl I64 ls .no],TB.cells [TV.nils,TV.nils,vv (vi 0),TV.nils],TB.none,TB.none,TB.none,TB.own 3 1,TB.none,TB.none,TB.none,TB.own 3 1,TB.none,TB.none,TB.none,TB.cells [.sl I64 u.reverse .no,.sl I64 l.reverse .no,vv (vi w),.sl I64 (laidL (2:Int) ls i) (Ap.lab 14)],TB.own 3 1] (by kernel_rfl) ?_
 refine wt_cond (t:=decide ((↑i:Int)≤(3:Int))) (by kernel_rfl) (fun hc => ?_) (fun hc => ?_)
 ·skip
  have hc:=of_decide_eq_true hc
  refine wt_skip ?_
  refine wt_seq ?_
  refine wt_block ?_
  refine wt_seq ?_
  refine wt_regL ?_
  refine zl 5 5 (mkE 63 [(1,vv (vi 2)),(2,.ptr 0 0),(4,.ptr 1 0),(5,.ptr 13 0),(6,vv (vi (↑i:Int))),(47,vv (vb (decide ((↑i:Int)≤(3:Int))))),(50,.ptr 0 3),(51,.sl I64 ls .no),(52,vv (vi (↑i:Int))),(53,vv (vi 2)),(54,vv (vi (IntKind.i64.wrap (↑(BitVec.ofInt 64 (↑i:Int) ^^^ BitVec.ofInt 64 (2:Int)).toNat:Int))))]) [TB.cells [.sl I64 u .no,.sl I64 l .no,vv (vi w),.sl I64 ls .no],TB.cells [TV.nils,TV.nils,vv (vi 0),TV.nils],TB.none,TB.none,TB.none,TB.own 3 1,TB.none,TB.none,TB.none,TB.own 3 1,TB.none,TB.none,TB.none,TB.cells [.sl I64 u.reverse .no,.sl I64 l.reverse .no,vv (vi w),.sl I64 (laidL (2:Int) ls i) (Ap.lab 14)],TB.own 3 1] (by kernel_rfl) ?_
  refine wl_icall (tt:=ttb) (g:=53) (targs:=[.sl I64 ls .no,vv (vi (IntKind.i64.wrap (↑(BitVec.ofInt 64 (↑i:Int) ^^^ BitVec.ofInt 64 (2:Int)).toNat:Int)))]) (dst:=some 55) (by kernel_rfl) (spec_53 tk _ _ (by first | assumption | omega | (simp; done) | (simp; omega))) ?_
  rintro _ rfl
  refine wl_done (te1:=(mkE 63 [(1,vv (vi 2)),(2,.ptr 0 0),(4,.ptr 1 0),(5,.ptr 13 0),(6,vv (vi (↑i:Int))),(55,vv (vb (decide (IntKind.i64.wrap (↑(BitVec.ofInt 64 (↑i:Int) ^^^ BitVec.ofInt 64 (2:Int)).toNat:Int)∈ls))))])) (tS1:=[TB.cells [.sl I64 u .no,.sl I64 l .no,vv (vi w),.sl I64 ls .no],TB.cells [TV.nils,TV.nils,vv (vi 0),TV.nils],TB.none,TB.none,TB.none,TB.own 3 1,TB.none,TB.none,TB.none,TB.own 3 1,TB.none,TB.none,TB.none,TB.cells [.sl I64 u.reverse .no,.sl I64 l.reverse .no,vv (vi w),.sl I64 (laidL (2:Int) ls i) (Ap.lab 14)],TB.own 3 1]) [1,2,4,5,6,55] (by kernel_rfl) (by kernel_rfl) ?_
  refine wt_cond (t:=decide (IntKind.i64.wrap (↑(BitVec.ofInt 64 (↑i:Int) ^^^ BitVec.ofInt 64 (2:Int)).toNat:Int)∈ls)) (by kernel_rfl) (fun hc1 => ?_) (fun hc1 => ?_)
  ·skip
   have hc1:=of_decide_eq_true hc1
   refine wt_reg (P:=Tp) (ty:=Ty) (tt:=ttb) [1,2,4,5,6] (te1:=(mkE 63 [(1,vv (vi 2)),(2,.ptr 0 0),(4,.ptr 1 0),(5,.ptr 13 0),(6,vv (vi (↑i:Int)))])) (tS1:=[TB.cells [.sl I64 u .no,.sl I64 l .no,vv (vi w),.sl I64 ls .no],TB.cells [TV.nils,TV.nils,vv (vi 0),TV.nils],TB.none,TB.none,TB.none,TB.own 3 1,TB.none,TB.none,TB.none,TB.own 3 1,TB.none,TB.none,TB.none,TB.cells [.sl I64 u.reverse .no,.sl I64 l.reverse .no,vv (vi w),.sl I64 (laidL (2:Int) ls i++[(↑i:Int)]) (Ap.lab 14)],TB.own 3 1]) (cp:=True∧True∧True∧True∧(laidL (2:Int) ls i).length+1≤1000000000∧True∧True∧True) (by kernel_rfl) (by simp only[true_and,and_true]; have:=laidL_len 2 ls i; simp; omega) ?_
   refine zr [1,2,4,5,6] 3 (mkE 63 [(1,vv (vi 2)),(2,.ptr 0 0),(4,.ptr 1 0),(5,.ptr 13 0),(6,vv (vi (IntKind.i64.wrap ((↑i:Int)+(1:Int)))))]) [TB.cells [.sl I64 u .no,.sl I64 l .no,vv (vi w),.sl I64 ls .no],TB.cells [TV.nils,TV.nils,vv (vi 0),TV.nils],TB.none,TB.none,TB.none,TB.own 3 1,TB.none,TB.none,TB.none,TB.own 3 1,TB.none,TB.none,TB.none,TB.cells [.sl I64 u.reverse .no,.sl I64 l.reverse .no,vv (vi w),.sl I64 (laidL (2:Int) ls i++[(↑i:Int)]) (Ap.lab 14)],TB.own 3 1] (by kernel_rfl) ?_
   rw[wr_i64 (n:=(↑i:Int)+(1:Int)) (by omega) (by omega)]
   refine⟨i+1,fits_of [1,2,4,5,6] [] [] 15 [] (by kernel_rfl) (by rw[laidL_yes hc1]; kernel_rfl) (by kernel_rfl) (by kernel_rfl) (by kernel_rfl),(by (try dsimp only); omega),(by (try dsimp only); omega)⟩
  ·skip
   have hc1:=of_decide_eq_false hc1
   refine wt_skip ?_
   refine zr [1,2,4,5,6] 3 (mkE 63 [(1,vv (vi 2)),(2,.ptr 0 0),(4,.ptr 1 0),(5,.ptr 13 0),(6,vv (vi (IntKind.i64.wrap ((↑i:Int)+(1:Int)))))]) [TB.cells [.sl I64 u .no,.sl I64 l .no,vv (vi w),.sl I64 ls .no],TB.cells [TV.nils,TV.nils,vv (vi 0),TV.nils],TB.none,TB.none,TB.none,TB.own 3 1,TB.none,TB.none,TB.none,TB.own 3 1,TB.none,TB.none,TB.none,TB.cells [.sl I64 u.reverse .no,.sl I64 l.reverse .no,vv (vi w),.sl I64 (laidL (2:Int) ls i) (Ap.lab 14)],TB.own 3 1] (by kernel_rfl) ?_
   rw[wr_i64 (n:=(↑i:Int)+(1:Int)) (by omega) (by omega)]
   refine⟨i+1,fits_of [1,2,4,5,6] [] [] 15 [] (by kernel_rfl) (by rw[laidL_no hc1]; kernel_rfl) (by kernel_rfl) (by kernel_rfl) (by kernel_rfl),(by (try dsimp only); omega),(by (try dsimp only); omega)⟩
 ·skip
  have hc:=of_decide_eq_false hc
  refine wt_exit ?_
  refine wt_seq ?_
  refine zr [1,2,4,5,6] 2 (mkE 63 [(1,vv (vi 2)),(2,.ptr 0 0),(4,.ptr 1 0),(5,.ptr 13 0),(6,vv (vi (↑i:Int)))]) [TB.cells [.sl I64 u .no,.sl I64 l .no,vv (vi w),.sl I64 ls .no],TB.cells [.sl I64 u.reverse .no,.sl I64 l.reverse .no,vv (vi w),.sl I64 (laidL (2:Int) ls i) (Ap.lab 14)],TB.none,TB.none,TB.none,TB.own 3 1,TB.none,TB.none,TB.none,TB.own 3 1,TB.none,TB.none,TB.none,TB.cells [.sl I64 u.reverse .no,.sl I64 l.reverse .no,vv (vi w),.sl I64 (laidL (2:Int) ls i) (Ap.lab 14)],TB.own 3 1] (by kernel_rfl) ?_
  refine wt_ret ?_
  refine⟨trivial,[.agg [.sl I64 u.reverse .no,.sl I64 l.reverse .no,vv (vi w),.sl I64 (laidL (2:Int) ls i) (Ap.lab 14)]],by kernel_rfl,by kernel_rfl,by kernel_rfl,?_⟩
  have hi:i=4:=by omega
  subst hi; rfl
end Go.Tv
end
section
namespace Go.Tv
open Go Go.Di Go.Proofs
set_option maxRecDepth 100000
def inB (most x:Int):Bool:=decide (0≤x∧x≤most)
theorem all_one {most:Int} {l:List Int} {i:Nat} (h:i<l.length) (h1:(l.take i).all (inB most)=true) (h2:inB most (l.getD i 0)=true):(l.take (i+1)).all (inB most)=true:=by
 rw[take_one h,List.all_append,h1,List.all_cons,h2]; rfl
theorem not_all {most:Int} {l:List Int} {i:Nat} (h:i<l.length) (h2:inB most (l.getD i 0)=false):l.all (inB most)=false:=by
 refine Bool.eq_false_iff.2 fun h1 => ?_
 rw[List.all_eq_true.1 h1 _ (mem_getD h)] at h2
 cases h2
theorem spec_97 {tab:IsoF} (tk:TabK tab) {n:Nat} (x most:Int):CSpec (callT' tab (n+1)) 97 ([ival x,.ptr 0 0]) ([ival most]) (fun v ts=>v=bval (!inB most x)∧ts=[ival most]):=by
 refine cspec_of (fn:=Try.f97) (rts:=[some .bool]) (cts:=[some I64]) Try.func97 rfl ?_
 show WT _ _ _ _ _ _ _ _ _ _ (mkE 11 [(0,vv (vi x)),(1,.ptr 0 0)]) [TB.cells [vv (vi most)]] _
 refine wt_seq ?_
 refine zr [0,1,3] 1 (mkE 11 [(0,vv (vi x)),(1,.ptr 0 0),(3,vv (vb false))]) [TB.cells [vv (vi most)]] (by kernel_rfl) ?_
 refine wt_seq ?_
 refine wt_regL ?_
 refine wl_seg 3 (P:=Tp) (ty:=Ty) (tt:=ttb) (k':=3) (te':=(mkE 11 [(0,vv (vi x)),(1,.ptr 0 0),(3,vv (vb false)),(4,vv (vi x)),(5,vv (vb (decide (x<(0:Int))))),(6,vv (vb (decide (x<(0:Int)))))])) (tS':=[TB.cells [vv (vi most)]]) (cp:=True∧True∧True∧True) (by kernel_rfl) ⟨trivial,⟨trivial,⟨trivial,trivial⟩⟩⟩ ?_
 refine(Bool.eq_false_or_eq_true (decide (x<(0:Int)))).elim (fun hb => ?_) (fun hb => ?_)
 ·skip
  refine wl_told (te1:=(mkE 11 [(0,vv (vi x)),(1,.ptr 0 0),(3,vv (vb false)),(4,vv (vi x)),(5,vv (vb true)),(6,vv (vb true))])) (by rw[hb]) ?_
  have hb:=of_decide_eq_true hb
  refine ze [0,1,3] 2 (mkE 11 [(0,vv (vi x)),(1,.ptr 0 0),(3,vv (vb true))]) [TB.cells [vv (vi most)]] (by kernel_rfl) ?_
  refine wt_ret ?_
  refine⟨trivial,[vv (vb true)],[vv (vi most)],by kernel_rfl,by kernel_rfl,by kernel_rfl,by kernel_rfl,by kernel_rfl,by kernel_rfl,?_⟩
  refine⟨?_,rfl⟩; show bval true=bval (!inB most x); rw[inB,decide_eq_false (by omega)]; rfl
 ·skip
  refine wl_told (te1:=(mkE 11 [(0,vv (vi x)),(1,.ptr 0 0),(3,vv (vb false)),(4,vv (vi x)),(5,vv (vb false)),(6,vv (vb false))])) (by rw[hb]) ?_
  have hb:=of_decide_eq_false hb
  refine ze [0,1,3] 5 (mkE 11 [(0,vv (vi x)),(1,.ptr 0 0),(3,vv (vb (decide (x>most))))]) [TB.cells [vv (vi most)]] (by kernel_rfl) ?_
  refine wt_ret ?_
  refine⟨trivial,[vv (vb (decide (x>most)))],[vv (vi most)],by kernel_rfl,by kernel_rfl,by kernel_rfl,by kernel_rfl,by kernel_rfl,by kernel_rfl,?_⟩
  refine⟨?_,rfl⟩; show bval (decide (x>most))=bval (!inB most x); congr 2; rw[inB,← decide_not,decide_eq_decide]; omega
theorem spec_109 {tab:IsoF} (tk:TabK tab) {n:Nat} (l:List Int) (most:Int) (a1:l.length≤1000):CSpec (callT' tab (n+2)) 109 ([.sl I64 l .no,.fn 97 [] [.ptr 0 0]]) ([ival most]) (fun v ts=>∃ k:Int,v=ival k∧ts=[ival most]∧(if l.all (inB most) then k = -1 else 0≤k)):=by
 refine cspec_of (fn:=Try.f109) (rts:=[some I64]) (cts:=[some I64]) Try.func109 rfl ?_
 show WT _ _ _ _ _ _ _ _ _ _ (mkE 19 [(0,.sl I64 l .no),(1,TV.fn 97 [] [.ptr 0 0])]) [TB.cells [vv (vi most)]] _
 refine wt_seq ?_
 refine zr [0,1,4] 1 (mkE 19 [(0,.sl I64 l .no),(1,TV.fn 97 [] [.ptr 0 0]),(4,vv (vi 0))]) [TB.cells [vv (vi most)]] (by kernel_rfl) ?_
 refine wt_seq ?_
 refine wt_seq ?_
 refine zr [0,1,4,7,8] 3 (mkE 19 [(0,.sl I64 l .no),(1,TV.fn 97 [] [.ptr 0 0]),(4,vv (vi 0)),(7,vv (vi (↑l.length:Int))),(8,vv (vi 0))]) [TB.cells [vv (vi most)]] (by kernel_rfl) ?_
 refine wt_block ?_
 refine wt_loop (σ:=Nat) (fun(i:Nat)=>(mkE 19 [(0,.sl I64 l .no),(1,.fn 97 [] [.ptr 0 0]),(7,ival l.length),(8,ival (i:Nat))],([.cells [ival most]]:List TB))) (fun(i:Nat)=>i≤l.length∧(l.take i).all (inB most)=true) (fun(i:Nat)=>l.length-i) (0) (fits_of [0,1,7,8] [] [] 100 [] (by kernel_rfl) (by kernel_rfl) (by kernel_rfl) (by kernel_rfl) (by kernel_rfl)) (by (try dsimp only); simp) (by (try dsimp only); unfold LL; omega) ?_
 intro i hg
 have hg:i≤l.length∧(l.take i).all (inB most)=true:=hg
 show WT _ _ _ _ _ _ _ _ _ _ (mkE 19 [(0,.sl I64 l .no),(1,TV.fn 97 [] [.ptr 0 0]),(7,vv (vi (↑l.length:Int))),(8,vv (vi (↑i:Int)))]) [TB.cells [vv (vi most)]] _
 refine wt_seq ?_
 refine zr [0,1,7,8,9] 1 (mkE 19 [(0,.sl I64 l .no),(1,TV.fn 97 [] [.ptr 0 0]),(7,vv (vi (↑l.length:Int))),(8,vv (vi (↑i:Int))),(9,vv (vb (decide ((↑i:Int)<(↑l.length:Int)))))]) [TB.cells [vv (vi most)]] (by kernel_rfl) ?_
 refine wt_seq ?_
 refine wt_cond (t:=decide ((↑i:Int)<(↑l.length:Int))) (by kernel_rfl) (fun hc => ?_) (fun hc => ?_)
 ·skip
  have hc:=of_decide_eq_true hc
  refine wt_skip ?_
  refine wt_seq ?_
  refine wt_block ?_
  refine wt_seq ?_
  refine zr [0,1,5,7,8] 2 (mkE 19 [(0,.sl I64 l .no),(1,TV.fn 97 [] [.ptr 0 0]),(5,vv (vi (↑i:Int))),(7,vv (vi (↑l.length:Int))),(8,vv (vi (↑i:Int)))]) [TB.cells [vv (vi most)]] (by kernel_rfl) ?_
  refine wt_seq ?_
  refine wt_regL ?_
  refine wl_seg 1000 (P:=Tp) (ty:=Ty) (tt:=ttb) (k':=5) (te':=(mkE 19 [(0,.sl I64 l .no),(1,TV.fn 97 [] [.ptr 0 0]),(5,vv (vi (↑i:Int))),(7,vv (vi (↑l.length:Int))),(8,vv (vi (↑i:Int))),(11,TV.fn 97 [] [.ptr 0 0]),(12,.sl I64 l .no),(13,vv (vi (↑i:Int))),(14,.eptr I64 l i 0),(15,vv (vi (l.getD i 0)))])) (tS':=[TB.cells [vv (vi most)]]) (cp:=True∧True∧True∧((0:Int)≤(↑i:Int)∧(↑i:Int)<(↑l.length:Int))∧True∧True) (by kernel_rfl) (by simp only[true_and,and_true]; first | omega | (simp; omega) | (simp; done)) ?_
  refine wl_pcall (tt:=ttb) (g:=97) (kp:=0) (targs:=[vv (vi (l.getD i 0)),.ptr 0 0]) (ts:=[vv (vi most)]) (dst:=some 16) (by kernel_rfl) (spec_97 tk _ _) ?_
  rintro _ _ ⟨rfl,rfl⟩
  refine wl_done (te1:=(mkE 19 [(0,.sl I64 l .no),(1,TV.fn 97 [] [.ptr 0 0]),(5,vv (vi (↑i:Int))),(7,vv (vi (↑l.length:Int))),(8,vv (vi (↑i:Int))),(16,vv (vb !inB most (l.getD i 0)))])) (tS1:=[TB.cells [vv (vi most)]]) [0,1,5,7,8,16] (by kernel_rfl) (by kernel_rfl) ?_
  refine wt_cond (t := !inB most (l.getD i 0)) (by kernel_rfl) (fun hc1 => ?_) (fun hc1 => ?_)
  ·skip
   refine wt_seq ?_
   refine zr [0,1,4,5,7,8] 2 (mkE 19 [(0,.sl I64 l .no),(1,TV.fn 97 [] [.ptr 0 0]),(4,vv (vi (↑i:Int))),(5,vv (vi (↑i:Int))),(7,vv (vi (↑l.length:Int))),(8,vv (vi (↑i:Int)))]) [TB.cells [vv (vi most)]] (by kernel_rfl) ?_
   refine wt_ret ?_
   refine⟨trivial,[vv (vi (↑i:Int))],[vv (vi most)],by kernel_rfl,by kernel_rfl,by kernel_rfl,by kernel_rfl,by kernel_rfl,by kernel_rfl,?_⟩
   exact⟨_,rfl,rfl,by rw[not_all (i:=i) (by omega) (by simpa using hc1)]; simp⟩
  ·skip
   refine wt_skip ?_
   refine zr [0,1,5,7,8] 2 (mkE 19 [(0,.sl I64 l .no),(1,TV.fn 97 [] [.ptr 0 0]),(5,vv (vi (↑i:Int))),(7,vv (vi (↑l.length:Int))),(8,vv (vi (IntKind.i64.wrap ((↑i:Int)+(1:Int)))))]) [TB.cells [vv (vi most)]] (by kernel_rfl) ?_
   rw[wr_i64 (n:=(↑i:Int)+(1:Int)) (by omega) (by omega)]
   refine⟨i+1,fits_of [0,1,7,8] [] [] 100 [] (by kernel_rfl) (by kernel_rfl) (by kernel_rfl) (by kernel_rfl) (by kernel_rfl),(by (try dsimp only); exact⟨by omega,all_one (by omega) hg.2 (by simpa using hc1)⟩),(by (try dsimp only); omega)⟩
 ·skip
  have hc:=of_decide_eq_false hc
  refine wt_exit ?_
  refine wt_seq ?_
  refine zr [0,1,4,7,8] 1 (mkE 19 [(0,.sl I64 l .no),(1,TV.fn 97 [] [.ptr 0 0]),(4,vv (vi (-1:Int))),(7,vv (vi (↑l.length:Int))),(8,vv (vi (↑i:Int)))]) [TB.cells [vv (vi most)]] (by kernel_rfl) ?_
  refine wt_ret ?_
  refine⟨trivial,[vv (vi (-1:Int))],[vv (vi most)],by kernel_rfl,by kernel_rfl,by kernel_rfl,by kernel_rfl,by kernel_rfl,by kernel_rfl,?_⟩
  have hi:i=l.length:=by omega
  have h1:=hg.2; rw[hi,List.take_length] at h1; exact⟨_,rfl,rfl,by rw[h1]; simp⟩
theorem spec_96 {tab:IsoF} (tk:TabK tab) {n:Nat} (l:List Int) (most:Int) (a1:l.length≤1000):CSpec (callT' tab (n+3)) 96 ([.sl I64 l .no,.fn 97 [] [.ptr 0 0]]) ([ival most]) (fun v ts=>v=bval (!l.all (inB most))∧ts=[ival most]):=by
 refine cspec_of (fn:=Try.f96) (rts:=[some .bool]) (cts:=[some I64]) Try.func96 rfl ?_
 show WT _ _ _ _ _ _ _ _ _ _ (mkE 9 [(0,.sl I64 l .no),(1,TV.fn 97 [] [.ptr 0 0])]) [TB.cells [vv (vi most)]] _
 refine wt_seq ?_
 refine zr [0,1,4] 1 (mkE 9 [(0,.sl I64 l .no),(1,TV.fn 97 [] [.ptr 0 0]),(4,vv (vb false))]) [TB.cells [vv (vi most)]] (by kernel_rfl) ?_
 refine wt_seq ?_
 refine wt_regL ?_
 refine zl 2 2 (mkE 9 [(0,.sl I64 l .no),(1,TV.fn 97 [] [.ptr 0 0]),(4,vv (vb false)),(5,.sl I64 l .no),(6,TV.fn 97 [] [.ptr 0 0])]) [TB.cells [vv (vi most)]] (by kernel_rfl) ?_
 refine wl_pcall (tt:=ttb) (g:=109) (kp:=0) (targs:=[.sl I64 l .no,TV.fn 97 [] [.ptr 0 0]]) (ts:=[vv (vi most)]) (dst:=some 7) (by kernel_rfl) (spec_109 tk _ _ (by first | assumption | omega | (simp; done) | (simp; omega))) ?_
 rintro _ _ ⟨k,rfl,rfl,h⟩
 refine ze [0,1,4] 2 (mkE 9 [(0,.sl I64 l .no),(1,TV.fn 97 [] [.ptr 0 0]),(4,vv (vb (decide (k≥(0:Int)))))]) [TB.cells [vv (vi most)]] (by kernel_rfl) ?_
 refine wt_ret ?_
 refine⟨trivial,[vv (vb (decide (k≥(0:Int))))],[vv (vi most)],by kernel_rfl,by kernel_rfl,by kernel_rfl,by kernel_rfl,by kernel_rfl,by kernel_rfl,?_⟩
 refine⟨?_,rfl⟩
 show bval (decide (k≥0))=_
 cases hl:l.all (inB most)<;>simp[hl] at h ⊢<;>omega
theorem spec_78 {tab:IsoF} (tk:TabK tab) {n:Nat} (l:List Int) (most:Int) (a1:l.length≤1000):ISpec (isoT tab (n+4)) 78 ([.sl I64 l .no,ival most]) (fun v=>v=bval (l.all (inB most))):=by
 refine ispec_of (fn:=Try.f78) (rts:=[some .bool]) Try.func78 rfl (fun _=>tk.other _ _ (by decide) (by decide) (by decide)) ?_
 show WT _ _ _ _ _ _ _ _ _ _ (mkE 9 [(0,TV.sl I64 l Ap.no),(1,vv (vi most))]) [] _
 refine wt_seq ?_
 refine zr [0,1,3,4] 2 (mkE 9 [(0,.sl I64 l .no),(1,vv (vi most)),(3,.ptr 0 0),(4,vv (vb false))]) [TB.cells [vv (vi most)]] (by kernel_rfl) ?_
 refine wt_seq ?_
 refine wt_regL ?_
 refine zl 2 2 (mkE 9 [(0,.sl I64 l .no),(1,vv (vi most)),(3,.ptr 0 0),(4,vv (vb false)),(5,.sl I64 l .no),(6,TV.fn 97 [] [.ptr 0 0])]) [TB.cells [vv (vi most)]] (by kernel_rfl) ?_
 refine wl_pcall (tt:=ttb) (g:=96) (kp:=0) (targs:=[.sl I64 l .no,TV.fn 97 [] [.ptr 0 0]]) (ts:=[vv (vi most)]) (dst:=some 7) (by kernel_rfl) (spec_96 tk _ _ (by first | assumption | omega | (simp; done) | (simp; omega))) ?_
 rintro _ _ ⟨rfl,rfl⟩
 refine ze [0,1,3,4] 2 (mkE 9 [(0,.sl I64 l .no),(1,vv (vi most)),(3,.ptr 0 0),(4,vv (vb !!l.all (inB most)))]) [TB.cells [vv (vi most)]] (by kernel_rfl) ?_
 refine wt_ret ?_
 refine⟨trivial,[vv (vb !!l.all (inB most))],by kernel_rfl,by kernel_rfl,by kernel_rfl,?_⟩
 show bval (!!l.all (inB most))=_; rw[Bool.not_not]
end Go.Tv
end
