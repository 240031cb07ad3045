import Derived.Test.YtoccmmopffbbfaaPk05
import Derived.Test.YtoccmmopffbbfaaPk07
namespace Go.Tv
open Go Go.Di Go.Proofs
set_option maxRecDepth 100000
def lieE (ls:List Int) (i:Nat):Int:=if i<ls.length then (if ls.getD i 0<0∨3<ls.getD i 0 then 8 else if 0<i∧ls.getD i 0≤ls.getD (i-1) 0 then 5 else lieE ls (i+1)) else 0
 termination_by ls.length-i
def chk (u l:List Int) (w:Int) (ls:List Int):Int :=
 if u.length<3 then 7 else if 8<u.length then 6 else if l.length<u.length then 7 else if u.length<l.length then 6
 else if u.all (inB 9)=false∨l.all (inB 9)=false∨w<0∨2<w then 1 else if ls.length=0 then 7 else lieE ls 0
theorem lie_8 {ls:List Int} {i:Nat} (h:i<ls.length) (h1:ls.getD i 0<0∨3<ls.getD i 0):lieE ls i=8:=by rw[lieE,if_pos h,if_pos h1]
theorem lie_5 {ls:List Int} {i:Nat} (h:i<ls.length) (h1:¬ (ls.getD i 0<0∨3<ls.getD i 0)) (h2:0<i∧ls.getD i 0≤ls.getD (i-1) 0):lieE ls i=5:=by rw[lieE,if_pos h,if_neg h1,if_pos h2]
theorem lie_next {ls:List Int} {i:Nat} (h:i<ls.length) (h1:¬ (ls.getD i 0<0∨3<ls.getD i 0)) (h2:¬ (0<i∧ls.getD i 0≤ls.getD (i-1) 0)):lieE ls i=lieE ls (i+1):=by
 conv=>lhs; rw[lieE]
 rw[if_pos h,if_neg h1,if_neg h2]
theorem lie_0 {ls:List Int} {i:Nat} (h:¬ i<ls.length):lieE ls i=0:=by rw[lieE,if_neg h]
theorem chk_lie {u l:List Int} {w:Int} {ls:List Int} (h1:¬ u.length<3) (h2:¬ 8<u.length) (h3:¬ l.length<u.length) (h4:¬ u.length<l.length) (h5:(!u.all (inB 9))=false) (h6:(!l.all (inB 9))=false) (h7:¬ w<0) (h8:¬ 2<w) (h9:ls.length≠0):chk u l w ls=lieE ls 0:=by
 simp only[Bool.not_eq_eq_eq_not,Bool.not_false] at h5 h6
 rw[chk,if_neg h1,if_neg h2,if_neg h3,if_neg h4,if_neg (by rw[h5,h6]; simp[h7,h8]),if_neg h9]
theorem spec_77 {tab:IsoF} (tk:TabK tab) {n:Nat} (u l:List Int) (w:Int) (ls:List Int) (a1:u.length≤1000) (a2:l.length≤1000) (a3:ls.length≤1000):ISpec (isoT tab (n+5)) 77 ([pcV u l w ls]) (fun v=>v=ival (chk u l w ls)):=by
 refine ispec_of (fn:=Try.f77) (rts:=[some I64]) Try.func77 rfl (fun _=>tk.other _ _ (by decide) (by decide) (by decide)) ?_
 show WT _ _ _ _ _ _ _ _ _ _ (mkE 97 [(0,TV.agg [TV.sl I64 u Ap.no,TV.sl I64 l Ap.no,vv (vi w),TV.sl I64 ls Ap.no])]) [] _
 refine wt_seq ?_
 refine zr [0,1,2] 2 (mkE 97 [(0,.agg [.sl I64 u .no,.sl I64 l .no,vv (vi w),.sl I64 ls .no]),(1,.ptr 0 0),(2,vv (vi 0))]) [TB.cells [.sl I64 u .no,.sl I64 l .no,vv (vi w),.sl I64 ls .no]] (by kernel_rfl) ?_
 refine wt_seq ?_
 refine wt_seq ?_
 refine zr [0,1,2,11,12,13] 7 (mkE 97 [(0,.agg [.sl I64 u .no,.sl I64 l .no,vv (vi w),.sl I64 ls .no]),(1,.ptr 0 0),(2,vv (vi 0)),(11,.sl IntsT [u,l] Ap.full),(12,vv (vi 2)),(13,vv (vi 0))]) [TB.cells [.sl I64 u .no,.sl I64 l .no,vv (vi w),.sl I64 ls .no]] (by kernel_rfl) ?_
 refine wt_block ?_
 refine wt_unroll (n:=3) (by unfold LL; omega) ?_
 refine wi_step ?_
 refine wt_seq ?_
 refine zr [0,1,2,11,12,13,14] 1 (mkE 97 [(0,.agg [.sl I64 u .no,.sl I64 l .no,vv (vi w),.sl I64 ls .no]),(1,.ptr 0 0),(2,vv (vi 0)),(11,.sl IntsT [u,l] Ap.full),(12,vv (vi 2)),(13,vv (vi 0)),(14,vv (vb true))]) [TB.cells [.sl I64 u .no,.sl I64 l .no,vv (vi w),.sl I64 ls .no]] (by kernel_rfl) ?_
 refine wt_seq ?_
 refine wt_cond (t:=true) (by kernel_rfl) (fun _ => ?_) (fun hno=>(by cases hno))
 refine wt_skip ?_
 refine wt_seq ?_
 refine wt_block ?_
 refine wt_seq ?_
 refine wt_reg (P:=Tp) (ty:=Ty) (tt:=ttb) [0,1,2,4,11,12,13] (te1:=(mkE 97 [(0,.agg [.sl I64 u .no,.sl I64 l .no,vv (vi w),.sl I64 ls .no]),(1,.ptr 0 0),(2,vv (vi 0)),(4,.sl I64 u .no),(11,.sl IntsT [u,l] Ap.full),(12,vv (vi 2)),(13,vv (vi 0))])) (tS1:=[TB.cells [.sl I64 u .no,.sl I64 l .no,vv (vi w),.sl I64 ls .no]]) (cp:=((0:Int)≤(0:Int)∧(0:Int)<(↑2:Int))∧True∧True∧True) (by kernel_rfl) (by simp only[true_and,and_true]; first | omega | (simp; omega) | (simp; done)) ?_
 refine wt_block ?_
 refine wt_seq ?_
 refine wt_regL ?_
 refine wl_seg 4 (P:=Tp) (ty:=Ty) (tt:=ttb) (k':=4) (te':=(mkE 97 [(0,.agg [.sl I64 u .no,.sl I64 l .no,vv (vi w),.sl I64 ls .no]),(1,.ptr 0 0),(2,vv (vi 0)),(4,.sl I64 u .no),(11,.sl IntsT [u,l] Ap.full),(12,vv (vi 2)),(13,vv (vi 0)),(18,.sl I64 u .no),(19,vv (vi (↑u.length:Int))),(20,vv (vb (decide ((↑u.length:Int)<(3:Int))))),(21,vv (vb (decide ((↑u.length:Int)<(3:Int)))))])) (tS':=[TB.cells [.sl I64 u .no,.sl I64 l .no,vv (vi w),.sl I64 ls .no]]) (cp:=True∧True∧True∧True∧True) (by kernel_rfl) ⟨trivial,⟨trivial,⟨trivial,⟨trivial,trivial⟩⟩⟩⟩ ?_
 refine(Bool.eq_false_or_eq_true (decide ((↑u.length:Int)<(3:Int)))).elim (fun hb => ?_) (fun hb => ?_)
 ·skip
  refine wl_told (te1:=(mkE 97 [(0,.agg [.sl I64 u .no,.sl I64 l .no,vv (vi w),.sl I64 ls .no]),(1,.ptr 0 0),(2,vv (vi 0)),(4,.sl I64 u .no),(11,.sl IntsT [u,l] Ap.full),(12,vv (vi 2)),(13,vv (vi 0)),(18,.sl I64 u .no),(19,vv (vi (↑u.length:Int))),(20,vv (vb true)),(21,vv (vb true))])) (by rw[hb]) ?_
  have hb:=of_decide_eq_true hb
  refine ze [0,1,2,4,11,12,13,17] 2 (mkE 97 [(0,.agg [.sl I64 u .no,.sl I64 l .no,vv (vi w),.sl I64 ls .no]),(1,.ptr 0 0),(2,vv (vi 0)),(4,.sl I64 u .no),(11,.sl IntsT [u,l] Ap.full),(12,vv (vi 2)),(13,vv (vi 0)),(17,vv (vb true))]) [TB.cells [.sl I64 u .no,.sl I64 l .no,vv (vi w),.sl I64 ls .no]] (by kernel_rfl) ?_
  refine wt_cond (t:=true) (by kernel_rfl) (fun _ => ?_) (fun hno=>(by cases hno))
  refine wt_seq ?_
  refine zr [0,1,2,4,11,12,13] 1 (mkE 97 [(0,.agg [.sl I64 u .no,.sl I64 l .no,vv (vi w),.sl I64 ls .no]),(1,.ptr 0 0),(2,vv (vi 7)),(4,.sl I64 u .no),(11,.sl IntsT [u,l] Ap.full),(12,vv (vi 2)),(13,vv (vi 0))]) [TB.cells [.sl I64 u .no,.sl I64 l .no,vv (vi w),.sl I64 ls .no]] (by kernel_rfl) ?_
  refine wt_ret ?_
  refine⟨trivial,[vv (vi 7)],by kernel_rfl,by kernel_rfl,by kernel_rfl,?_⟩
  show ival 7=ival (chk u l w ls); rw[chk,if_pos (by omega)]
 ·skip
  refine wl_told (te1:=(mkE 97 [(0,.agg [.sl I64 u .no,.sl I64 l .no,vv (vi w),.sl I64 ls .no]),(1,.ptr 0 0),(2,vv (vi 0)),(4,.sl I64 u .no),(11,.sl IntsT [u,l] Ap.full),(12,vv (vi 2)),(13,vv (vi 0)),(18,.sl I64 u .no),(19,vv (vi (↑u.length:Int))),(20,vv (vb false)),(21,vv (vb false))])) (by rw[hb]) ?_
  have hb:=of_decide_eq_false hb
  refine ze [0,1,2,4,11,12,13,17] 8 (mkE 97 [(0,.agg [.sl I64 u .no,.sl I64 l .no,vv (vi w),.sl I64 ls .no]),(1,.ptr 0 0),(2,vv (vi 0)),(4,.sl I64 u .no),(11,.sl IntsT [u,l] Ap.full),(12,vv (vi 2)),(13,vv (vi 0)),(17,vv (vb (decide ((↑u.length:Int)<(↑u.length:Int)))))]) [TB.cells [.sl I64 u .no,.sl I64 l .no,vv (vi w),.sl I64 ls .no]] (by kernel_rfl) ?_
  refine wt_cond (t:=decide ((↑u.length:Int)<(↑u.length:Int))) (by kernel_rfl) (fun hc => ?_) (fun hc => ?_)
  ·skip
   have hc:=of_decide_eq_true hc
   exfalso; omega
  ·skip
   have hc:=of_decide_eq_false hc
   refine wt_seq ?_
   refine wt_regL ?_
   refine wl_seg 4 (P:=Tp) (ty:=Ty) (tt:=ttb) (k':=4) (te':=(mkE 97 [(0,.agg [.sl I64 u .no,.sl I64 l .no,vv (vi w),.sl I64 ls .no]),(1,.ptr 0 0),(2,vv (vi 0)),(4,.sl I64 u .no),(11,.sl IntsT [u,l] Ap.full),(12,vv (vi 2)),(13,vv (vi 0)),(17,vv (vb (decide ((↑u.length:Int)<(↑u.length:Int))))),(30,.sl I64 u .no),(31,vv (vi (↑u.length:Int))),(32,vv (vb (decide ((↑u.length:Int)>(8:Int))))),(33,vv (vb (decide ((↑u.length:Int)>(8:Int)))))])) (tS':=[TB.cells [.sl I64 u .no,.sl I64 l .no,vv (vi w),.sl I64 ls .no]]) (cp:=True∧True∧True∧True∧True) (by kernel_rfl) ⟨trivial,⟨trivial,⟨trivial,⟨trivial,trivial⟩⟩⟩⟩ ?_
   refine(Bool.eq_false_or_eq_true (decide ((↑u.length:Int)>(8:Int)))).elim (fun hb1 => ?_) (fun hb1 => ?_)
   ·skip
    refine wl_told (te1:=(mkE 97 [(0,.agg [.sl I64 u .no,.sl I64 l .no,vv (vi w),.sl I64 ls .no]),(1,.ptr 0 0),(2,vv (vi 0)),(4,.sl I64 u .no),(11,.sl IntsT [u,l] Ap.full),(12,vv (vi 2)),(13,vv (vi 0)),(17,vv (vb (decide ((↑u.length:Int)<(↑u.length:Int))))),(30,.sl I64 u .no),(31,vv (vi (↑u.length:Int))),(32,vv (vb true)),(33,vv (vb true))])) (by rw[hb1]) ?_
    have hb1:=of_decide_eq_true hb1
    refine ze [0,1,2,4,11,12,13,29] 2 (mkE 97 [(0,.agg [.sl I64 u .no,.sl I64 l .no,vv (vi w),.sl I64 ls .no]),(1,.ptr 0 0),(2,vv (vi 0)),(4,.sl I64 u .no),(11,.sl IntsT [u,l] Ap.full),(12,vv (vi 2)),(13,vv (vi 0)),(29,vv (vb true))]) [TB.cells [.sl I64 u .no,.sl I64 l .no,vv (vi w),.sl I64 ls .no]] (by kernel_rfl) ?_
    refine wt_cond (t:=true) (by kernel_rfl) (fun _ => ?_) (fun hno=>(by cases hno))
    refine wt_seq ?_
    refine zr [0,1,2,4,11,12,13] 1 (mkE 97 [(0,.agg [.sl I64 u .no,.sl I64 l .no,vv (vi w),.sl I64 ls .no]),(1,.ptr 0 0),(2,vv (vi 6)),(4,.sl I64 u .no),(11,.sl IntsT [u,l] Ap.full),(12,vv (vi 2)),(13,vv (vi 0))]) [TB.cells [.sl I64 u .no,.sl I64 l .no,vv (vi w),.sl I64 ls .no]] (by kernel_rfl) ?_
    refine wt_ret ?_
    refine⟨trivial,[vv (vi 6)],by kernel_rfl,by kernel_rfl,by kernel_rfl,?_⟩
    show ival 6=ival (chk u l w ls); rw[chk,if_neg (by omega),if_pos (by omega)]
   ·skip
    refine wl_told (te1:=(mkE 97 [(0,.agg [.sl I64 u .no,.sl I64 l .no,vv (vi w),.sl I64 ls .no]),(1,.ptr 0 0),(2,vv (vi 0)),(4,.sl I64 u .no),(11,.sl IntsT [u,l] Ap.full),(12,vv (vi 2)),(13,vv (vi 0)),(17,vv (vb (decide ((↑u.length:Int)<(↑u.length:Int))))),(30,.sl I64 u .no),(31,vv (vi (↑u.length:Int))),(32,vv (vb false)),(33,vv (vb false))])) (by rw[hb1]) ?_
    have hb1:=of_decide_eq_false hb1
    refine ze [0,1,2,4,11,12,13,29] 8 (mkE 97 [(0,.agg [.sl I64 u .no,.sl I64 l .no,vv (vi w),.sl I64 ls .no]),(1,.ptr 0 0),(2,vv (vi 0)),(4,.sl I64 u .no),(11,.sl IntsT [u,l] Ap.full),(12,vv (vi 2)),(13,vv (vi 0)),(29,vv (vb (decide ((↑u.length:Int)>(↑u.length:Int)))))]) [TB.cells [.sl I64 u .no,.sl I64 l .no,vv (vi w),.sl I64 ls .no]] (by kernel_rfl) ?_
    refine wt_cond (t:=decide ((↑u.length:Int)>(↑u.length:Int))) (by kernel_rfl) (fun hc1 => ?_) (fun hc1 => ?_)
    ·skip
     have hc1:=of_decide_eq_true hc1
     exfalso; omega
    ·skip
     have hc1:=of_decide_eq_false hc1
     refine wt_skip ?_
     refine zr [0,1,2,4,11,12,13] 2 (mkE 97 [(0,.agg [.sl I64 u .no,.sl I64 l .no,vv (vi w),.sl I64 ls .no]),(1,.ptr 0 0),(2,vv (vi 0)),(4,.sl I64 u .no),(11,.sl IntsT [u,l] Ap.full),(12,vv (vi 2)),(13,vv (vi 1))]) [TB.cells [.sl I64 u .no,.sl I64 l .no,vv (vi w),.sl I64 ls .no]] (by kernel_rfl) ?_
     refine wi_step ?_
     refine wt_seq ?_
     refine zr [0,1,2,4,11,12,13,14] 1 (mkE 97 [(0,.agg [.sl I64 u .no,.sl I64 l .no,vv (vi w),.sl I64 ls .no]),(1,.ptr 0 0),(2,vv (vi 0)),(4,.sl I64 u .no),(11,.sl IntsT [u,l] Ap.full),(12,vv (vi 2)),(13,vv (vi 1)),(14,vv (vb true))]) [TB.cells [.sl I64 u .no,.sl I64 l .no,vv (vi w),.sl I64 ls .no]] (by kernel_rfl) ?_
     refine wt_seq ?_
     refine wt_cond (t:=true) (by kernel_rfl) (fun _ => ?_) (fun hno=>(by cases hno))
     refine wt_skip ?_
     refine wt_seq ?_
     refine wt_block ?_
     refine wt_seq ?_
     refine wt_reg (P:=Tp) (ty:=Ty) (tt:=ttb) [0,1,2,4,11,12,13] (te1:=(mkE 97 [(0,.agg [.sl I64 u .no,.sl I64 l .no,vv (vi w),.sl I64 ls .no]),(1,.ptr 0 0),(2,vv (vi 0)),(4,.sl I64 l .no),(11,.sl IntsT [u,l] Ap.full),(12,vv (vi 2)),(13,vv (vi 1))])) (tS1:=[TB.cells [.sl I64 u .no,.sl I64 l .no,vv (vi w),.sl I64 ls .no]]) (cp:=((0:Int)≤(1:Int)∧(1:Int)<(↑2:Int))∧True∧True∧True) (by kernel_rfl) (by simp only[true_and,and_true]; first | omega | (simp; omega) | (simp; done)) ?_
     refine wt_block ?_
     refine wt_seq ?_
     refine wt_regL ?_
     refine wl_seg 4 (P:=Tp) (ty:=Ty) (tt:=ttb) (k':=4) (te':=(mkE 97 [(0,.agg [.sl I64 u .no,.sl I64 l .no,vv (vi w),.sl I64 ls .no]),(1,.ptr 0 0),(2,vv (vi 0)),(4,.sl I64 l .no),(11,.sl IntsT [u,l] Ap.full),(12,vv (vi 2)),(13,vv (vi 1)),(18,.sl I64 l .no),(19,vv (vi (↑l.length:Int))),(20,vv (vb (decide ((↑l.length:Int)<(3:Int))))),(21,vv (vb (decide ((↑l.length:Int)<(3:Int)))))])) (tS':=[TB.cells [.sl I64 u .no,.sl I64 l .no,vv (vi w),.sl I64 ls .no]]) (cp:=True∧True∧True∧True∧True) (by kernel_rfl) ⟨trivial,⟨trivial,⟨trivial,⟨trivial,trivial⟩⟩⟩⟩ ?_
     refine(Bool.eq_false_or_eq_true (decide ((↑l.length:Int)<(3:Int)))).elim (fun hb2 => ?_) (fun hb2 => ?_)
     ·skip
      refine wl_told (te1:=(mkE 97 [(0,.agg [.sl I64 u .no,.sl I64 l .no,vv (vi w),.sl I64 ls .no]),(1,.ptr 0 0),(2,vv (vi 0)),(4,.sl I64 l .no),(11,.sl IntsT [u,l] Ap.full),(12,vv (vi 2)),(13,vv (vi 1)),(18,.sl I64 l .no),(19,vv (vi (↑l.length:Int))),(20,vv (vb true)),(21,vv (vb true))])) (by rw[hb2]) ?_
      have hb2:=of_decide_eq_true hb2
      refine ze [0,1,2,4,11,12,13,17] 2 (mkE 97 [(0,.agg [.sl I64 u .no,.sl I64 l .no,vv (vi w),.sl I64 ls .no]),(1,.ptr 0 0),(2,vv (vi 0)),(4,.sl I64 l .no),(11,.sl IntsT [u,l] Ap.full),(12,vv (vi 2)),(13,vv (vi 1)),(17,vv (vb true))]) [TB.cells [.sl I64 u .no,.sl I64 l .no,vv (vi w),.sl I64 ls .no]] (by kernel_rfl) ?_
      refine wt_cond (t:=true) (by kernel_rfl) (fun _ => ?_) (fun hno=>(by cases hno))
      refine wt_seq ?_
      refine zr [0,1,2,4,11,12,13] 1 (mkE 97 [(0,.agg [.sl I64 u .no,.sl I64 l .no,vv (vi w),.sl I64 ls .no]),(1,.ptr 0 0),(2,vv (vi 7)),(4,.sl I64 l .no),(11,.sl IntsT [u,l] Ap.full),(12,vv (vi 2)),(13,vv (vi 1))]) [TB.cells [.sl I64 u .no,.sl I64 l .no,vv (vi w),.sl I64 ls .no]] (by kernel_rfl) ?_
      refine wt_ret ?_
      refine⟨trivial,[vv (vi 7)],by kernel_rfl,by kernel_rfl,by kernel_rfl,?_⟩
      show ival 7=ival (chk u l w ls); rw[chk,if_neg (by omega),if_neg (by omega),if_pos (by omega)]
     ·skip
      refine wl_told (te1:=(mkE 97 [(0,.agg [.sl I64 u .no,.sl I64 l .no,vv (vi w),.sl I64 ls .no]),(1,.ptr 0 0),(2,vv (vi 0)),(4,.sl I64 l .no),(11,.sl IntsT [u,l] Ap.full),(12,vv (vi 2)),(13,vv (vi 1)),(18,.sl I64 l .no),(19,vv (vi (↑l.length:Int))),(20,vv (vb false)),(21,vv (vb false))])) (by rw[hb2]) ?_
      have hb2:=of_decide_eq_false hb2
      refine ze [0,1,2,4,11,12,13,17] 8 (mkE 97 [(0,.agg [.sl I64 u .no,.sl I64 l .no,vv (vi w),.sl I64 ls .no]),(1,.ptr 0 0),(2,vv (vi 0)),(4,.sl I64 l .no),(11,.sl IntsT [u,l] Ap.full),(12,vv (vi 2)),(13,vv (vi 1)),(17,vv (vb (decide ((↑l.length:Int)<(↑u.length:Int)))))]) [TB.cells [.sl I64 u .no,.sl I64 l .no,vv (vi w),.sl I64 ls .no]] (by kernel_rfl) ?_
      refine wt_cond (t:=decide ((↑l.length:Int)<(↑u.length:Int))) (by kernel_rfl) (fun hc2 => ?_) (fun hc2 => ?_)
      ·skip
       have hc2:=of_decide_eq_true hc2
       refine wt_seq ?_
       refine zr [0,1,2,4,11,12,13] 1 (mkE 97 [(0,.agg [.sl I64 u .no,.sl I64 l .no,vv (vi w),.sl I64 ls .no]),(1,.ptr 0 0),(2,vv (vi 7)),(4,.sl I64 l .no),(11,.sl IntsT [u,l] Ap.full),(12,vv (vi 2)),(13,vv (vi 1))]) [TB.cells [.sl I64 u .no,.sl I64 l .no,vv (vi w),.sl I64 ls .no]] (by kernel_rfl) ?_
       refine wt_ret ?_
       refine⟨trivial,[vv (vi 7)],by kernel_rfl,by kernel_rfl,by kernel_rfl,?_⟩
       show ival 7=ival (chk u l w ls); rw[chk,if_neg (by omega),if_neg (by omega),if_pos (by omega)]
      ·skip
       have hc2:=of_decide_eq_false hc2
       refine wt_seq ?_
       refine wt_regL ?_
       refine wl_seg 4 (P:=Tp) (ty:=Ty) (tt:=ttb) (k':=4) (te':=(mkE 97 [(0,.agg [.sl I64 u .no,.sl I64 l .no,vv (vi w),.sl I64 ls .no]),(1,.ptr 0 0),(2,vv (vi 0)),(4,.sl I64 l .no),(11,.sl IntsT [u,l] Ap.full),(12,vv (vi 2)),(13,vv (vi 1)),(17,vv (vb (decide ((↑l.length:Int)<(↑u.length:Int))))),(30,.sl I64 l .no),(31,vv (vi (↑l.length:Int))),(32,vv (vb (decide ((↑l.length:Int)>(8:Int))))),(33,vv (vb (decide ((↑l.length:Int)>(8:Int)))))])) (tS':=[TB.cells [.sl I64 u .no,.sl I64 l .no,vv (vi w),.sl I64 ls .no]]) (cp:=True∧True∧True∧True∧True) (by kernel_rfl) ⟨trivial,⟨trivial,⟨trivial,⟨trivial,trivial⟩⟩⟩⟩ ?_
       refine(Bool.eq_false_or_eq_true (decide ((↑l.length:Int)>(8:Int)))).elim (fun hb3 => ?_) (fun hb3 => ?_)
       ·skip
        refine wl_told (te1:=(mkE 97 [(0,.agg [.sl I64 u .no,.sl I64 l .no,vv (vi w),.sl I64 ls .no]),(1,.ptr 0 0),(2,vv (vi 0)),(4,.sl I64 l .no),(11,.sl IntsT [u,l] Ap.full),(12,vv (vi 2)),(13,vv (vi 1)),(17,vv (vb (decide ((↑l.length:Int)<(↑u.length:Int))))),(30,.sl I64 l .no),(31,vv (vi (↑l.length:Int))),(32,vv (vb true)),(33,vv (vb true))])) (by rw[hb3]) ?_
        have hb3:=of_decide_eq_true hb3
        refine ze [0,1,2,4,11,12,13,29] 2 (mkE 97 [(0,.agg [.sl I64 u .no,.sl I64 l .no,vv (vi w),.sl I64 ls .no]),(1,.ptr 0 0),(2,vv (vi 0)),(4,.sl I64 l .no),(11,.sl IntsT [u,l] Ap.full),(12,vv (vi 2)),(13,vv (vi 1)),(29,vv (vb true))]) [TB.cells [.sl I64 u .no,.sl I64 l .no,vv (vi w),.sl I64 ls .no]] (by kernel_rfl) ?_
        refine wt_cond (t:=true) (by kernel_rfl) (fun _ => ?_) (fun hno=>(by cases hno))
        refine wt_seq ?_
        refine zr [0,1,2,4,11,12,13] 1 (mkE 97 [(0,.agg [.sl I64 u .no,.sl I64 l .no,vv (vi w),.sl I64 ls .no]),(1,.ptr 0 0),(2,vv (vi 6)),(4,.sl I64 l .no),(11,.sl IntsT [u,l] Ap.full),(12,vv (vi 2)),(13,vv (vi 1))]) [TB.cells [.sl I64 u .no,.sl I64 l .no,vv (vi w),.sl I64 ls .no]] (by kernel_rfl) ?_
        refine wt_ret ?_
        refine⟨trivial,[vv (vi 6)],by kernel_rfl,by kernel_rfl,by kernel_rfl,?_⟩
        show ival 6=ival (chk u l w ls); rw[chk,if_neg (by omega),if_neg (by omega),if_neg (by omega),if_pos (by omega)]
       ·skip
        refine wl_told (te1:=(mkE 97 [(0,.agg [.sl I64 u .no,.sl I64 l .no,vv (vi w),.sl I64 ls .no]),(1,.ptr 0 0),(2,vv (vi 0)),(4,.sl I64 l .no),(11,.sl IntsT [u,l] Ap.full),(12,vv (vi 2)),(13,vv (vi 1)),(17,vv (vb (decide ((↑l.length:Int)<(↑u.length:Int))))),(30,.sl I64 l .no),(31,vv (vi (↑l.length:Int))),(32,vv (vb false)),(33,vv (vb false))])) (by rw[hb3]) ?_
        have hb3:=of_decide_eq_false hb3
        refine ze [0,1,2,4,11,12,13,29] 8 (mkE 97 [(0,.agg [.sl I64 u .no,.sl I64 l .no,vv (vi w),.sl I64 ls .no]),(1,.ptr 0 0),(2,vv (vi 0)),(4,.sl I64 l .no),(11,.sl IntsT [u,l] Ap.full),(12,vv (vi 2)),(13,vv (vi 1)),(29,vv (vb (decide ((↑l.length:Int)>(↑u.length:Int)))))]) [TB.cells [.sl I64 u .no,.sl I64 l .no,vv (vi w),.sl I64 ls .no]] (by kernel_rfl) ?_
        refine wt_cond (t:=decide ((↑l.length:Int)>(↑u.length:Int))) (by kernel_rfl) (fun hc3 => ?_) (fun hc3 => ?_)
        ·skip
         have hc3:=of_decide_eq_true hc3
         refine wt_seq ?_
         refine zr [0,1,2,4,11,12,13] 1 (mkE 97 [(0,.agg [.sl I64 u .no,.sl I64 l .no,vv (vi w),.sl I64 ls .no]),(1,.ptr 0 0),(2,vv (vi 6)),(4,.sl I64 l .no),(11,.sl IntsT [u,l] Ap.full),(12,vv (vi 2)),(13,vv (vi 1))]) [TB.cells [.sl I64 u .no,.sl I64 l .no,vv (vi w),.sl I64 ls .no]] (by kernel_rfl) ?_
         refine wt_ret ?_
         refine⟨trivial,[vv (vi 6)],by kernel_rfl,by kernel_rfl,by kernel_rfl,?_⟩
         show ival 6=ival (chk u l w ls); rw[chk,if_neg (by omega),if_neg (by omega),if_neg (by omega),if_pos (by omega)]
        ·skip
         have hc3:=of_decide_eq_false hc3
         refine wt_skip ?_
         refine zr [0,1,2,4,11,12,13] 2 (mkE 97 [(0,.agg [.sl I64 u .no,.sl I64 l .no,vv (vi w),.sl I64 ls .no]),(1,.ptr 0 0),(2,vv (vi 0)),(4,.sl I64 l .no),(11,.sl IntsT [u,l] Ap.full),(12,vv (vi 2)),(13,vv (vi 2))]) [TB.cells [.sl I64 u .no,.sl I64 l .no,vv (vi w),.sl I64 ls .no]] (by kernel_rfl) ?_
         refine wi_step ?_
         refine wt_seq ?_
         refine zr [0,1,2,4,11,12,13,14] 1 (mkE 97 [(0,.agg [.sl I64 u .no,.sl I64 l .no,vv (vi w),.sl I64 ls .no]),(1,.ptr 0 0),(2,vv (vi 0)),(4,.sl I64 l .no),(11,.sl IntsT [u,l] Ap.full),(12,vv (vi 2)),(13,vv (vi 2)),(14,vv (vb false))]) [TB.cells [.sl I64 u .no,.sl I64 l .no,vv (vi w),.sl I64 ls .no]] (by kernel_rfl) ?_
         refine wt_seq ?_
         refine wt_cond (t:=false) (by kernel_rfl) (fun hno=>(by cases hno)) (fun _ => ?_)
         refine wt_exit ?_
         refine wt_seq ?_
         refine wt_block ?_
         refine wt_seq ?_
         refine wt_regL ?_
         refine zl 2 2 (mkE 97 [(0,.agg [.sl I64 u .no,.sl I64 l .no,vv (vi w),.sl I64 ls .no]),(1,.ptr 0 0),(2,vv (vi 0)),(4,.sl I64 l .no),(11,.sl IntsT [u,l] Ap.full),(12,vv (vi 2)),(13,vv (vi 2)),(14,vv (vb false)),(43,.ptr 0 0),(44,.sl I64 u .no)]) [TB.cells [.sl I64 u .no,.sl I64 l .no,vv (vi w),.sl I64 ls .no]] (by kernel_rfl) ?_
         refine wl_icall (tt:=ttb) (g:=78) (targs:=[.sl I64 u .no,vv (vi 9)]) (dst:=some 45) (by kernel_rfl) (spec_78 tk _ _ (by first | assumption | omega | (simp; done) | (simp; omega))) ?_
         rintro _ rfl
         refine wl_seg 2 (P:=Tp) (ty:=Ty) (tt:=ttb) (k':=5) (te':=(mkE 97 [(0,.agg [.sl I64 u .no,.sl I64 l .no,vv (vi w),.sl I64 ls .no]),(1,.ptr 0 0),(2,vv (vi 0)),(4,.sl I64 l .no),(11,.sl IntsT [u,l] Ap.full),(12,vv (vi 2)),(13,vv (vi 2)),(14,vv (vb false)),(43,.ptr 0 0),(44,.sl I64 u .no),(45,vv (vb (u.all (inB (9:Int))))),(46,vv (vb !u.all (inB (9:Int)))),(47,vv (vb !u.all (inB (9:Int))))])) (tS':=[TB.cells [.sl I64 u .no,.sl I64 l .no,vv (vi w),.sl I64 ls .no]]) (cp:=True∧True∧True) (by kernel_rfl) ⟨trivial,⟨trivial,trivial⟩⟩ ?_
         refine(Bool.eq_false_or_eq_true (!u.all (inB (9:Int)))).elim (fun hb4 => ?_) (fun hb4 => ?_)
         ·skip
          refine wl_told (te1:=(mkE 97 [(0,.agg [.sl I64 u .no,.sl I64 l .no,vv (vi w),.sl I64 ls .no]),(1,.ptr 0 0),(2,vv (vi 0)),(4,.sl I64 l .no),(11,.sl IntsT [u,l] Ap.full),(12,vv (vi 2)),(13,vv (vi 2)),(14,vv (vb false)),(43,.ptr 0 0),(44,.sl I64 u .no),(45,vv (vb (u.all (inB (9:Int))))),(46,vv (vb true)),(47,vv (vb true))])) (by rw[hb4]) ?_
          refine ze [0,1,2,4,11,12,13,42] 6 (mkE 97 [(0,.agg [.sl I64 u .no,.sl I64 l .no,vv (vi w),.sl I64 ls .no]),(1,.ptr 0 0),(2,vv (vi 0)),(4,.sl I64 l .no),(11,.sl IntsT [u,l] Ap.full),(12,vv (vi 2)),(13,vv (vi 2)),(42,vv (vb true))]) [TB.cells [.sl I64 u .no,.sl I64 l .no,vv (vi w),.sl I64 ls .no]] (by kernel_rfl) ?_
          refine wt_cond (t:=true) (by kernel_rfl) (fun _ => ?_) (fun hno=>(by cases hno))
          refine wt_seq ?_
          refine zr [0,1,2,4,11,12,13] 1 (mkE 97 [(0,.agg [.sl I64 u .no,.sl I64 l .no,vv (vi w),.sl I64 ls .no]),(1,.ptr 0 0),(2,vv (vi 1)),(4,.sl I64 l .no),(11,.sl IntsT [u,l] Ap.full),(12,vv (vi 2)),(13,vv (vi 2))]) [TB.cells [.sl I64 u .no,.sl I64 l .no,vv (vi w),.sl I64 ls .no]] (by kernel_rfl) ?_
          refine wt_ret ?_
          refine⟨trivial,[vv (vi 1)],by kernel_rfl,by kernel_rfl,by kernel_rfl,?_⟩
          show ival 1=ival (chk u l w ls); rw[chk,if_neg (by omega),if_neg (by omega),if_neg (by omega),if_neg (by omega),if_pos (.inl (by simpa using hb4))]
         ·skip
          refine wl_told (te1:=(mkE 97 [(0,.agg [.sl I64 u .no,.sl I64 l .no,vv (vi w),.sl I64 ls .no]),(1,.ptr 0 0),(2,vv (vi 0)),(4,.sl I64 l .no),(11,.sl IntsT [u,l] Ap.full),(12,vv (vi 2)),(13,vv (vi 2)),(14,vv (vb false)),(43,.ptr 0 0),(44,.sl I64 u .no),(45,vv (vb (u.all (inB (9:Int))))),(46,vv (vb false)),(47,vv (vb false))])) (by rw[hb4]) ?_
          refine zl 7 2 (mkE 97 [(0,.agg [.sl I64 u .no,.sl I64 l .no,vv (vi w),.sl I64 ls .no]),(1,.ptr 0 0),(2,vv (vi 0)),(4,.sl I64 l .no),(11,.sl IntsT [u,l] Ap.full),(12,vv (vi 2)),(13,vv (vi 2)),(14,vv (vb false)),(43,.ptr 0 0),(44,.sl I64 u .no),(45,vv (vb (u.all (inB (9:Int))))),(46,vv (vb false)),(47,vv (vb false)),(48,.ptr 0 1),(49,.sl I64 l .no)]) [TB.cells [.sl I64 u .no,.sl I64 l .no,vv (vi w),.sl I64 ls .no]] (by kernel_rfl) ?_
          refine wl_icall (tt:=ttb) (g:=78) (targs:=[.sl I64 l .no,vv (vi 9)]) (dst:=some 50) (by kernel_rfl) (spec_78 tk _ _ (by first | assumption | omega | (simp; done) | (simp; omega))) ?_
          rintro _ rfl
          refine wl_seg 3 (P:=Tp) (ty:=Ty) (tt:=ttb) (k':=11) (te':=(mkE 97 [(0,.agg [.sl I64 u .no,.sl I64 l .no,vv (vi w),.sl I64 ls .no]),(1,.ptr 0 0),(2,vv (vi 0)),(4,.sl I64 l .no),(11,.sl IntsT [u,l] Ap.full),(12,vv (vi 2)),(13,vv (vi 2)),(14,vv (vb false)),(43,.ptr 0 0),(44,.sl I64 u .no),(45,vv (vb (u.all (inB (9:Int))))),(46,vv (vb false)),(47,vv (vb false)),(48,.ptr 0 1),(49,.sl I64 l .no),(50,vv (vb (l.all (inB (9:Int))))),(51,vv (vb !l.all (inB (9:Int)))),(52,vv (vb !l.all (inB (9:Int)))),(53,vv (vb !l.all (inB (9:Int))))])) (tS':=[TB.cells [.sl I64 u .no,.sl I64 l .no,vv (vi w),.sl I64 ls .no]]) (cp:=True∧True∧True∧True) (by kernel_rfl) ⟨trivial,⟨trivial,⟨trivial,trivial⟩⟩⟩ ?_
          refine(Bool.eq_false_or_eq_true (!l.all (inB (9:Int)))).elim (fun hb5 => ?_) (fun hb5 => ?_)
          ·skip
           refine wl_told (te1:=(mkE 97 [(0,.agg [.sl I64 u .no,.sl I64 l .no,vv (vi w),.sl I64 ls .no]),(1,.ptr 0 0),(2,vv (vi 0)),(4,.sl I64 l .no),(11,.sl IntsT [u,l] Ap.full),(12,vv (vi 2)),(13,vv (vi 2)),(14,vv (vb false)),(43,.ptr 0 0),(44,.sl I64 u .no),(45,vv (vb (u.all (inB (9:Int))))),(46,vv (vb false)),(47,vv (vb false)),(48,.ptr 0 1),(49,.sl I64 l .no),(50,vv (vb (l.all (inB (9:Int))))),(51,vv (vb true)),(52,vv (vb true)),(53,vv (vb true))])) (by rw[hb5]) ?_
           refine ze [0,1,2,4,11,12,13,42] 4 (mkE 97 [(0,.agg [.sl I64 u .no,.sl I64 l .no,vv (vi w),.sl I64 ls .no]),(1,.ptr 0 0),(2,vv (vi 0)),(4,.sl I64 l .no),(11,.sl IntsT [u,l] Ap.full),(12,vv (vi 2)),(13,vv (vi 2)),(42,vv (vb true))]) [TB.cells [.sl I64 u .no,.sl I64 l .no,vv (vi w),.sl I64 ls .no]] (by kernel_rfl) ?_
           refine wt_cond (t:=true) (by kernel_rfl) (fun _ => ?_) (fun hno=>(by cases hno))
           refine wt_seq ?_
           refine zr [0,1,2,4,11,12,13] 1 (mkE 97 [(0,.agg [.sl I64 u .no,.sl I64 l .no,vv (vi w),.sl I64 ls .no]),(1,.ptr 0 0),(2,vv (vi 1)),(4,.sl I64 l .no),(11,.sl IntsT [u,l] Ap.full),(12,vv (vi 2)),(13,vv (vi 2))]) [TB.cells [.sl I64 u .no,.sl I64 l .no,vv (vi w),.sl I64 ls .no]] (by kernel_rfl) ?_
           refine wt_ret ?_
           refine⟨trivial,[vv (vi 1)],by kernel_rfl,by kernel_rfl,by kernel_rfl,?_⟩
           show ival 1=ival (chk u l w ls); rw[chk,if_neg (by omega),if_neg (by omega),if_neg (by omega),if_neg (by omega),if_pos (.inr (.inl (by simpa using hb5)))]
          ·skip
           refine wl_told (te1:=(mkE 97 [(0,.agg [.sl I64 u .no,.sl I64 l .no,vv (vi w),.sl I64 ls .no]),(1,.ptr 0 0),(2,vv (vi 0)),(4,.sl I64 l .no),(11,.sl IntsT [u,l] Ap.full),(12,vv (vi 2)),(13,vv (vi 2)),(14,vv (vb false)),(43,.ptr 0 0),(44,.sl I64 u .no),(45,vv (vb (u.all (inB (9:Int))))),(46,vv (vb false)),(47,vv (vb false)),(48,.ptr 0 1),(49,.sl I64 l .no),(50,vv (vb (l.all (inB (9:Int))))),(51,vv (vb false)),(52,vv (vb false)),(53,vv (vb false))])) (by rw[hb5]) ?_
           refine wl_seg 5 (P:=Tp) (ty:=Ty) (tt:=ttb) (k':=16) (te':=(mkE 97 [(0,.agg [.sl I64 u .no,.sl I64 l .no,vv (vi w),.sl I64 ls .no]),(1,.ptr 0 0),(2,vv (vi 0)),(4,.sl I64 l .no),(11,.sl IntsT [u,l] Ap.full),(12,vv (vi 2)),(13,vv (vi 2)),(14,vv (vb false)),(43,.ptr 0 0),(44,.sl I64 u .no),(45,vv (vb (u.all (inB (9:Int))))),(46,vv (vb false)),(47,vv (vb false)),(48,.ptr 0 1),(49,.sl I64 l .no),(50,vv (vb (l.all (inB (9:Int))))),(51,vv (vb false)),(52,vv (vb false)),(53,vv (vb false)),(54,.ptr 0 2),(55,vv (vi w)),(56,vv (vb (decide (w<(0:Int))))),(57,vv (vb (decide (w<(0:Int))))),(58,vv (vb (decide (w<(0:Int)))))])) (tS':=[TB.cells [.sl I64 u .no,.sl I64 l .no,vv (vi w),.sl I64 ls .no]]) (cp:=True∧True∧True∧True∧True∧True) (by kernel_rfl) ⟨trivial,⟨trivial,⟨trivial,⟨trivial,⟨trivial,trivial⟩⟩⟩⟩⟩ ?_
           refine(Bool.eq_false_or_eq_true (decide (w<(0:Int)))).elim (fun hb6 => ?_) (fun hb6 => ?_)
           ·skip
            refine wl_told (te1:=(mkE 97 [(0,.agg [.sl I64 u .no,.sl I64 l .no,vv (vi w),.sl I64 ls .no]),(1,.ptr 0 0),(2,vv (vi 0)),(4,.sl I64 l .no),(11,.sl IntsT [u,l] Ap.full),(12,vv (vi 2)),(13,vv (vi 2)),(14,vv (vb false)),(43,.ptr 0 0),(44,.sl I64 u .no),(45,vv (vb (u.all (inB (9:Int))))),(46,vv (vb false)),(47,vv (vb false)),(48,.ptr 0 1),(49,.sl I64 l .no),(50,vv (vb (l.all (inB (9:Int))))),(51,vv (vb false)),(52,vv (vb false)),(53,vv (vb false)),(54,.ptr 0 2),(55,vv (vi w)),(56,vv (vb true)),(57,vv (vb true)),(58,vv (vb true))])) (by rw[hb6]) ?_
            have hb6:=of_decide_eq_true hb6
            refine ze [0,1,2,4,11,12,13,42] 2 (mkE 97 [(0,.agg [.sl I64 u .no,.sl I64 l .no,vv (vi w),.sl I64 ls .no]),(1,.ptr 0 0),(2,vv (vi 0)),(4,.sl I64 l .no),(11,.sl IntsT [u,l] Ap.full),(12,vv (vi 2)),(13,vv (vi 2)),(42,vv (vb true))]) [TB.cells [.sl I64 u .no,.sl I64 l .no,vv (vi w),.sl I64 ls .no]] (by kernel_rfl) ?_
            refine wt_cond (t:=true) (by kernel_rfl) (fun _ => ?_) (fun hno=>(by cases hno))
            refine wt_seq ?_
            refine zr [0,1,2,4,11,12,13] 1 (mkE 97 [(0,.agg [.sl I64 u .no,.sl I64 l .no,vv (vi w),.sl I64 ls .no]),(1,.ptr 0 0),(2,vv (vi 1)),(4,.sl I64 l .no),(11,.sl IntsT [u,l] Ap.full),(12,vv (vi 2)),(13,vv (vi 2))]) [TB.cells [.sl I64 u .no,.sl I64 l .no,vv (vi w),.sl I64 ls .no]] (by kernel_rfl) ?_
            refine wt_ret ?_
            refine⟨trivial,[vv (vi 1)],by kernel_rfl,by kernel_rfl,by kernel_rfl,?_⟩
            show ival 1=ival (chk u l w ls); rw[chk,if_neg (by omega),if_neg (by omega),if_neg (by omega),if_neg (by omega),if_pos (.inr (.inr (.inl hb6)))]
           ·skip
            refine wl_told (te1:=(mkE 97 [(0,.agg [.sl I64 u .no,.sl I64 l .no,vv (vi w),.sl I64 ls .no]),(1,.ptr 0 0),(2,vv (vi 0)),(4,.sl I64 l .no),(11,.sl IntsT [u,l] Ap.full),(12,vv (vi 2)),(13,vv (vi 2)),(14,vv (vb false)),(43,.ptr 0 0),(44,.sl I64 u .no),(45,vv (vb (u.all (inB (9:Int))))),(46,vv (vb false)),(47,vv (vb false)),(48,.ptr 0 1),(49,.sl I64 l .no),(50,vv (vb (l.all (inB (9:Int))))),(51,vv (vb false)),(52,vv (vb false)),(53,vv (vb false)),(54,.ptr 0 2),(55,vv (vi w)),(56,vv (vb false)),(57,vv (vb false)),(58,vv (vb false))])) (by rw[hb6]) ?_
            have hb6:=of_decide_eq_false hb6
            refine ze [0,1,2,4,11,12,13,42] 5 (mkE 97 [(0,.agg [.sl I64 u .no,.sl I64 l .no,vv (vi w),.sl I64 ls .no]),(1,.ptr 0 0),(2,vv (vi 0)),(4,.sl I64 l .no),(11,.sl IntsT [u,l] Ap.full),(12,vv (vi 2)),(13,vv (vi 2)),(42,vv (vb (decide (w>(2:Int)))))]) [TB.cells [.sl I64 u .no,.sl I64 l .no,vv (vi w),.sl I64 ls .no]] (by kernel_rfl) ?_
            refine wt_cond (t:=decide (w>(2:Int))) (by kernel_rfl) (fun hc4 => ?_) (fun hc4 => ?_)
            ·skip
             have hc4:=of_decide_eq_true hc4
             refine wt_seq ?_
             refine zr [0,1,2,4,11,12,13] 1 (mkE 97 [(0,.agg [.sl I64 u .no,.sl I64 l .no,vv (vi w),.sl I64 ls .no]),(1,.ptr 0 0),(2,vv (vi 1)),(4,.sl I64 l .no),(11,.sl IntsT [u,l] Ap.full),(12,vv (vi 2)),(13,vv (vi 2))]) [TB.cells [.sl I64 u .no,.sl I64 l .no,vv (vi w),.sl I64 ls .no]] (by kernel_rfl) ?_
             refine wt_ret ?_
             refine⟨trivial,[vv (vi 1)],by kernel_rfl,by kernel_rfl,by kernel_rfl,?_⟩
             show ival 1=ival (chk u l w ls); rw[chk,if_neg (by omega),if_neg (by omega),if_neg (by omega),if_neg (by omega),if_pos (.inr (.inr (.inr (by omega))))]
            ·skip
             have hc4:=of_decide_eq_false hc4
             refine wt_seq ?_
             refine zr [0,1,2,4,11,12,13,63] 5 (mkE 97 [(0,.agg [.sl I64 u .no,.sl I64 l .no,vv (vi w),.sl I64 ls .no]),(1,.ptr 0 0),(2,vv (vi 0)),(4,.sl I64 l .no),(11,.sl IntsT [u,l] Ap.full),(12,vv (vi 2)),(13,vv (vi 2)),(63,vv (vb ((↑ls.length:Int)==(0:Int))))]) [TB.cells [.sl I64 u .no,.sl I64 l .no,vv (vi w),.sl I64 ls .no]] (by kernel_rfl) ?_
             refine wt_cond (t:=(↑ls.length:Int)==(0:Int)) (by kernel_rfl) (fun hc5 => ?_) (fun hc5 => ?_)
             ·skip
              have hc5:=beq_of hc5
              refine wt_seq ?_
              refine zr [0,1,2,4,11,12,13] 1 (mkE 97 [(0,.agg [.sl I64 u .no,.sl I64 l .no,vv (vi w),.sl I64 ls .no]),(1,.ptr 0 0),(2,vv (vi 7)),(4,.sl I64 l .no),(11,.sl IntsT [u,l] Ap.full),(12,vv (vi 2)),(13,vv (vi 2))]) [TB.cells [.sl I64 u .no,.sl I64 l .no,vv (vi w),.sl I64 ls .no]] (by kernel_rfl) ?_
              refine wt_ret ?_
              refine⟨trivial,[vv (vi 7)],by kernel_rfl,by kernel_rfl,by kernel_rfl,?_⟩
              show ival 7=ival (chk u l w ls); rw[chk,if_neg (by omega),if_neg (by omega),if_neg (by omega),if_neg (by omega),if_neg (by simp only[Bool.not_eq_eq_eq_not,Bool.not_false] at hb4 hb5; rw[hb4,hb5]; simp; omega),if_pos (by omega)]
             ·skip
              have hc5:=bne_of hc5
              refine wt_skip ?_
              refine wt_seq ?_
              refine wt_seq ?_
              refine zr [0,1,2,4,11,12,13,69,70,71] 4 (mkE 97 [(0,.agg [.sl I64 u .no,.sl I64 l .no,vv (vi w),.sl I64 ls .no]),(1,.ptr 0 0),(2,vv (vi 0)),(4,.sl I64 l .no),(11,.sl IntsT [u,l] Ap.full),(12,vv (vi 2)),(13,vv (vi 2)),(69,.sl I64 ls .no),(70,vv (vi (↑ls.length:Int))),(71,vv (vi 0))]) [TB.cells [.sl I64 u .no,.sl I64 l .no,vv (vi w),.sl I64 ls .no]] (by kernel_rfl) ?_
              refine wt_block ?_
              refine wt_loop (σ:=Nat) (fun(i:Nat)=>(mkE 97 [(1,.ptr 0 0),(69,.sl I64 ls .no),(70,ival ls.length),(71,ival (i:Nat))],([.cells [.sl I64 u .no,.sl I64 l .no,ival w,.sl I64 ls .no]]:List TB))) (fun(i:Nat)=>i≤ls.length∧lieE ls 0=lieE ls i) (fun(i:Nat)=>ls.length-i) (0) (fits_of [1,69,70,71] [] [] 100 [] (by kernel_rfl) (by kernel_rfl) (by kernel_rfl) (by kernel_rfl) (by kernel_rfl)) (by (try dsimp only); simp) (by (try dsimp only); unfold LL; omega) ?_
              intro i hg
              have hg:i≤ls.length∧lieE ls 0=lieE ls i:=hg
              show WT _ _ _ _ _ _ _ _ _ _ (mkE 97 [(1,.ptr 0 0),(69,.sl I64 ls .no),(70,vv (vi (↑ls.length:Int))),(71,vv (vi (↑i:Int)))]) [TB.cells [.sl I64 u .no,.sl I64 l .no,vv (vi w),.sl I64 ls .no]] _
              refine wt_seq ?_
              refine zr [1,69,70,71,72] 1 (mkE 97 [(1,.ptr 0 0),(69,.sl I64 ls .no),(70,vv (vi (↑ls.length:Int))),(71,vv (vi (↑i:Int))),(72,vv (vb (decide ((↑i:Int)<(↑ls.length:Int)))))]) [TB.cells [.sl I64 u .no,.sl I64 l .no,vv (vi w),.sl I64 ls .no]] (by kernel_rfl) ?_
              refine wt_seq ?_
              refine wt_cond (t:=decide ((↑i:Int)<(↑ls.length:Int))) (by kernel_rfl) (fun hc6 => ?_) (fun hc6 => ?_)
              ·skip
               have hc6:=of_decide_eq_true hc6
               refine wt_skip ?_
               refine wt_seq ?_
               refine wt_block ?_
               refine wt_seq ?_
               refine wt_reg (P:=Tp) (ty:=Ty) (tt:=ttb) [1,5,6,69,70,71] (te1:=(mkE 97 [(1,.ptr 0 0),(5,vv (vi (↑i:Int))),(6,vv (vi (ls.getD i 0))),(69,.sl I64 ls .no),(70,vv (vi (↑ls.length:Int))),(71,vv (vi (↑i:Int)))])) (tS1:=[TB.cells [.sl I64 u .no,.sl I64 l .no,vv (vi w),.sl I64 ls .no]]) (cp:=True∧((0:Int)≤(↑i:Int)∧(↑i:Int)<(↑ls.length:Int))∧True∧True∧True∧True) (by kernel_rfl) (by simp only[true_and,and_true]; first | omega | (simp; omega) | (simp; done)) ?_
               refine wt_block ?_
               refine wt_seq ?_
               refine wt_regL ?_
               refine wl_seg 3 (P:=Tp) (ty:=Ty) (tt:=ttb) (k':=3) (te':=(mkE 97 [(1,.ptr 0 0),(5,vv (vi (↑i:Int))),(6,vv (vi (ls.getD i 0))),(69,.sl I64 ls .no),(70,vv (vi (↑ls.length:Int))),(71,vv (vi (↑i:Int))),(77,vv (vi (ls.getD i 0))),(78,vv (vb (decide (ls.getD i 0<(0:Int))))),(79,vv (vb (decide (ls.getD i 0<(0:Int)))))])) (tS':=[TB.cells [.sl I64 u .no,.sl I64 l .no,vv (vi w),.sl I64 ls .no]]) (cp:=True∧True∧True∧True) (by kernel_rfl) ⟨trivial,⟨trivial,⟨trivial,trivial⟩⟩⟩ ?_
               refine(Bool.eq_false_or_eq_true (decide (ls.getD i 0<(0:Int)))).elim (fun hb7 => ?_) (fun hb7 => ?_)
               ·skip
                refine wl_told (te1:=(mkE 97 [(1,.ptr 0 0),(5,vv (vi (↑i:Int))),(6,vv (vi (ls.getD i 0))),(69,.sl I64 ls .no),(70,vv (vi (↑ls.length:Int))),(71,vv (vi (↑i:Int))),(77,vv (vi (ls.getD i 0))),(78,vv (vb true)),(79,vv (vb true))])) (by rw[hb7]) ?_
                have hb7:=of_decide_eq_true hb7
                refine ze [1,5,6,69,70,71,76] 2 (mkE 97 [(1,.ptr 0 0),(5,vv (vi (↑i:Int))),(6,vv (vi (ls.getD i 0))),(69,.sl I64 ls .no),(70,vv (vi (↑ls.length:Int))),(71,vv (vi (↑i:Int))),(76,vv (vb true))]) [TB.cells [.sl I64 u .no,.sl I64 l .no,vv (vi w),.sl I64 ls .no]] (by kernel_rfl) ?_
                refine wt_cond (t:=true) (by kernel_rfl) (fun _ => ?_) (fun hno=>(by cases hno))
                refine wt_seq ?_
                refine zr [1,2,5,6,69,70,71] 1 (mkE 97 [(1,.ptr 0 0),(2,vv (vi 8)),(5,vv (vi (↑i:Int))),(6,vv (vi (ls.getD i 0))),(69,.sl I64 ls .no),(70,vv (vi (↑ls.length:Int))),(71,vv (vi (↑i:Int)))]) [TB.cells [.sl I64 u .no,.sl I64 l .no,vv (vi w),.sl I64 ls .no]] (by kernel_rfl) ?_
                refine wt_ret ?_
                refine⟨trivial,[vv (vi 8)],by kernel_rfl,by kernel_rfl,by kernel_rfl,?_⟩
                show ival 8=ival (chk u l w ls); rw[chk_lie (by omega) (by omega) (by omega) (by omega) hb4 hb5 (by omega) (by omega) (by omega),hg.2,lie_8 (by omega) (.inl hb7)]
               ·skip
                refine wl_told (te1:=(mkE 97 [(1,.ptr 0 0),(5,vv (vi (↑i:Int))),(6,vv (vi (ls.getD i 0))),(69,.sl I64 ls .no),(70,vv (vi (↑ls.length:Int))),(71,vv (vi (↑i:Int))),(77,vv (vi (ls.getD i 0))),(78,vv (vb false)),(79,vv (vb false))])) (by rw[hb7]) ?_
                have hb7:=of_decide_eq_false hb7
                refine ze [1,5,6,69,70,71,76] 4 (mkE 97 [(1,.ptr 0 0),(5,vv (vi (↑i:Int))),(6,vv (vi (ls.getD i 0))),(69,.sl I64 ls .no),(70,vv (vi (↑ls.length:Int))),(71,vv (vi (↑i:Int))),(76,vv (vb (decide (ls.getD i 0>(3:Int)))))]) [TB.cells [.sl I64 u .no,.sl I64 l .no,vv (vi w),.sl I64 ls .no]] (by kernel_rfl) ?_
                refine wt_cond (t:=decide (ls.getD i 0>(3:Int))) (by kernel_rfl) (fun hc7 => ?_) (fun hc7 => ?_)
                ·skip
                 have hc7:=of_decide_eq_true hc7
                 refine wt_seq ?_
                 refine zr [1,2,5,6,69,70,71] 1 (mkE 97 [(1,.ptr 0 0),(2,vv (vi 8)),(5,vv (vi (↑i:Int))),(6,vv (vi (ls.getD i 0))),(69,.sl I64 ls .no),(70,vv (vi (↑ls.length:Int))),(71,vv (vi (↑i:Int)))]) [TB.cells [.sl I64 u .no,.sl I64 l .no,vv (vi w),.sl I64 ls .no]] (by kernel_rfl) ?_
                 refine wt_ret ?_
                 refine⟨trivial,[vv (vi 8)],by kernel_rfl,by kernel_rfl,by kernel_rfl,?_⟩
                 show ival 8=ival (chk u l w ls); rw[chk_lie (by omega) (by omega) (by omega) (by omega) hb4 hb5 (by omega) (by omega) (by omega),hg.2,lie_8 (by omega) (.inr (by omega))]
                ·skip
                 have hc7:=of_decide_eq_false hc7
                 refine wt_seq ?_
                 refine wt_regL ?_
                 refine wl_seg 3 (P:=Tp) (ty:=Ty) (tt:=ttb) (k':=3) (te':=(mkE 97 [(1,.ptr 0 0),(5,vv (vi (↑i:Int))),(6,vv (vi (ls.getD i 0))),(69,.sl I64 ls .no),(70,vv (vi (↑ls.length:Int))),(71,vv (vi (↑i:Int))),(76,vv (vb (decide (ls.getD i 0>(3:Int))))),(84,vv (vi (↑i:Int))),(85,vv (vb (decide ((↑i:Int)>(0:Int))))),(86,vv (vb (decide ((↑i:Int)>(0:Int)))))])) (tS':=[TB.cells [.sl I64 u .no,.sl I64 l .no,vv (vi w),.sl I64 ls .no]]) (cp:=True∧True∧True∧True) (by kernel_rfl) ⟨trivial,⟨trivial,⟨trivial,trivial⟩⟩⟩ ?_
                 refine(Bool.eq_false_or_eq_true (decide ((↑i:Int)>(0:Int)))).elim (fun hb8 => ?_) (fun hb8 => ?_)
                 ·skip
                  refine wl_told (te1:=(mkE 97 [(1,.ptr 0 0),(5,vv (vi (↑i:Int))),(6,vv (vi (ls.getD i 0))),(69,.sl I64 ls .no),(70,vv (vi (↑ls.length:Int))),(71,vv (vi (↑i:Int))),(76,vv (vb (decide (ls.getD i 0>(3:Int))))),(84,vv (vi (↑i:Int))),(85,vv (vb true)),(86,vv (vb true))])) (by rw[hb8]) ?_
                  have hb8:=of_decide_eq_true hb8
                  refine wl_seg 1000 (P:=Tp) (ty:=Ty) (tt:=ttb) (k':=13) (te':=(mkE 97 [(1,.ptr 0 0),(5,vv (vi (↑i:Int))),(6,vv (vi (ls.getD i 0))),(69,.sl I64 ls .no),(70,vv (vi (↑ls.length:Int))),(71,vv (vi (↑i:Int))),(76,vv (vb (decide (ls.getD i 0>(3:Int))))),(83,vv (vb (decide (ls.getD i 0≤ls.getD (IntKind.i64.wrap ((↑i:Int)-(1:Int))).toNat I64.dft)))),(84,vv (vi (↑i:Int))),(85,vv (vb true)),(86,vv (vb true)),(87,vv (vi (ls.getD i 0))),(88,.ptr 0 3),(89,.sl I64 ls .no),(90,vv (vi (↑i:Int))),(91,vv (vi (IntKind.i64.wrap ((↑i:Int)-(1:Int))))),(92,.eptr I64 ls (IntKind.i64.wrap ((↑i:Int)-(1:Int))).toNat 0),(93,vv (vi (ls.getD (IntKind.i64.wrap ((↑i:Int)-(1:Int))).toNat (0:Int)))),(94,vv (vb (decide (ls.getD i 0≤ls.getD (IntKind.i64.wrap ((↑i:Int)-(1:Int))).toNat I64.dft)))),(95,vv (vb (decide (ls.getD i 0≤ls.getD (IntKind.i64.wrap ((↑i:Int)-(1:Int))).toNat I64.dft))))])) (tS':=[TB.cells [.sl I64 u .no,.sl I64 l .no,vv (vi w),.sl I64 ls .no]]) (cp:=True∧True∧True∧True∧True∧((0:Int)≤IntKind.i64.wrap ((↑i:Int)-(1:Int))∧IntKind.i64.wrap ((↑i:Int)-(1:Int))<(↑ls.length:Int))∧True∧True∧True∧True∧True) (by kernel_rfl) (by simp only[true_and,and_true]; rw[wr_i64 (n:=(↑i:Int)-(1:Int)) (by omega) (by omega)]; first | omega | (simp; omega) | (simp; done)) ?_
                  refine wl_done (te1:=(mkE 97 [(1,.ptr 0 0),(5,vv (vi (↑i:Int))),(6,vv (vi (ls.getD i 0))),(69,.sl I64 ls .no),(70,vv (vi (↑ls.length:Int))),(71,vv (vi (↑i:Int))),(83,vv (vb (decide (ls.getD i 0≤ls.getD (IntKind.i64.wrap ((↑i:Int)-(1:Int))).toNat I64.dft))))])) (tS1:=[TB.cells [.sl I64 u .no,.sl I64 l .no,vv (vi w),.sl I64 ls .no]]) [1,5,6,69,70,71,83] (by kernel_rfl) (by kernel_rfl) ?_
                  rw[wr_i64 (n:=(↑i:Int)-(1:Int)) (by omega) (by omega)]
                  refine wt_cond (t:=decide (ls.getD i 0≤ls.getD ((↑i:Int)-(1:Int)).toNat I64.dft)) (by kernel_rfl) (fun hc8 => ?_) (fun hc8 => ?_)
                  ·skip
                   have hc8:=of_decide_eq_true hc8
                   refine wt_seq ?_
                   refine zr [1,2,5,6,69,70,71] 1 (mkE 97 [(1,.ptr 0 0),(2,vv (vi 5)),(5,vv (vi (↑i:Int))),(6,vv (vi (ls.getD i 0))),(69,.sl I64 ls .no),(70,vv (vi (↑ls.length:Int))),(71,vv (vi (↑i:Int)))]) [TB.cells [.sl I64 u .no,.sl I64 l .no,vv (vi w),.sl I64 ls .no]] (by kernel_rfl) ?_
                   refine wt_ret ?_
                   refine⟨trivial,[vv (vi 5)],by kernel_rfl,by kernel_rfl,by kernel_rfl,?_⟩
                   show ival 5=ival (chk u l w ls); rw[chk_lie (by omega) (by omega) (by omega) (by omega) hb4 hb5 (by omega) (by omega) (by omega),hg.2,lie_5 (by omega) (by omega) ⟨by omega,by rw[show i-1=((i:Int)-1).toNat by omega]; exact hc8⟩]
                  ·skip
                   have hc8:=of_decide_eq_false hc8
                   refine wt_skip ?_
                   refine zr [1,5,6,69,70,71] 2 (mkE 97 [(1,.ptr 0 0),(5,vv (vi (↑i:Int))),(6,vv (vi (ls.getD i 0))),(69,.sl I64 ls .no),(70,vv (vi (↑ls.length:Int))),(71,vv (vi (IntKind.i64.wrap ((↑i:Int)+(1:Int)))))]) [TB.cells [.sl I64 u .no,.sl I64 l .no,vv (vi w),.sl I64 ls .no]] (by kernel_rfl) ?_
                   rw[wr_i64 (n:=(↑i:Int)+(1:Int)) (by omega) (by omega)]
                   refine⟨i+1,fits_of [1,69,70,71] [] [] 100 [] (by kernel_rfl) (by kernel_rfl) (by kernel_rfl) (by kernel_rfl) (by kernel_rfl),(by (try dsimp only); exact⟨by omega,hg.2.trans (lie_next (by omega) (by omega) (by rw[show i-1=((i:Int)-1).toNat by omega]; exact fun h=>hc8 h.2))⟩),(by (try dsimp only); omega)⟩
                 ·skip
                  refine wl_told (te1:=(mkE 97 [(1,.ptr 0 0),(5,vv (vi (↑i:Int))),(6,vv (vi (ls.getD i 0))),(69,.sl I64 ls .no),(70,vv (vi (↑ls.length:Int))),(71,vv (vi (↑i:Int))),(76,vv (vb (decide (ls.getD i 0>(3:Int))))),(84,vv (vi (↑i:Int))),(85,vv (vb false)),(86,vv (vb false))])) (by rw[hb8]) ?_
                  have hb8:=of_decide_eq_false hb8
                  refine ze [1,5,6,69,70,71,83] 2 (mkE 97 [(1,.ptr 0 0),(5,vv (vi (↑i:Int))),(6,vv (vi (ls.getD i 0))),(69,.sl I64 ls .no),(70,vv (vi (↑ls.length:Int))),(71,vv (vi (↑i:Int))),(83,vv (vb false))]) [TB.cells [.sl I64 u .no,.sl I64 l .no,vv (vi w),.sl I64 ls .no]] (by kernel_rfl) ?_
                  refine wt_cond (t:=false) (by kernel_rfl) (fun hno=>(by cases hno)) (fun _ => ?_)
                  refine wt_skip ?_
                  refine zr [1,5,6,69,70,71] 2 (mkE 97 [(1,.ptr 0 0),(5,vv (vi (↑i:Int))),(6,vv (vi (ls.getD i 0))),(69,.sl I64 ls .no),(70,vv (vi (↑ls.length:Int))),(71,vv (vi (IntKind.i64.wrap ((↑i:Int)+(1:Int)))))]) [TB.cells [.sl I64 u .no,.sl I64 l .no,vv (vi w),.sl I64 ls .no]] (by kernel_rfl) ?_
                  rw[wr_i64 (n:=(↑i:Int)+(1:Int)) (by omega) (by omega)]
                  refine⟨i+1,fits_of [1,69,70,71] [] [] 100 [] (by kernel_rfl) (by kernel_rfl) (by kernel_rfl) (by kernel_rfl) (by kernel_rfl),(by (try dsimp only); exact⟨by omega,hg.2.trans (lie_next (by omega) (by omega) (by omega))⟩),(by (try dsimp only); omega)⟩
              ·skip
               have hc6:=of_decide_eq_false hc6
               refine wt_exit ?_
               refine wt_seq ?_
               refine zr [1,2,69,70,71] 1 (mkE 97 [(1,.ptr 0 0),(2,vv (vi 0)),(69,.sl I64 ls .no),(70,vv (vi (↑ls.length:Int))),(71,vv (vi (↑i:Int)))]) [TB.cells [.sl I64 u .no,.sl I64 l .no,vv (vi w),.sl I64 ls .no]] (by kernel_rfl) ?_
               refine wt_ret ?_
               refine⟨trivial,[vv (vi 0)],by kernel_rfl,by kernel_rfl,by kernel_rfl,?_⟩
               show ival 0=ival (chk u l w ls); rw[chk_lie (by omega) (by omega) (by omega) (by omega) hb4 hb5 (by omega) (by omega) (by omega),hg.2,lie_0 (by omega)]
end Go.Tv
