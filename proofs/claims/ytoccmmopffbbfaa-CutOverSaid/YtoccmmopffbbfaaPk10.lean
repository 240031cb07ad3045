import Derived.Test.YtoccmmopffbbfaaPk05
import Derived.Test.YtoccmmopffbbfaaPk09
import Derived.Laws.StructEq
section
namespace Go.Tv
open Go Go.Di Go.Proofs
set_option maxRecDepth 100000
theorem all_inB {m:Int} {l:List Int}:l.all (inB m)=true↔∀ x∈l,0≤x∧x≤m:=by simp[inB]
theorem lieE_zero {ls:List Int}:∀ (n i:Nat),ls.length-i=n→(lieE ls i=0↔∀ j,i≤j→j<ls.length→(0≤ls.getD j 0∧ls.getD j 0≤3)∧(0<j→ls.getD (j-1) 0<ls.getD j 0)):=by
 intro n
 induction n with
 | zero=>intro i h; rw[lie_0 (by omega)]; exact⟨fun _ j h1 h2=>by omega,fun _=>rfl⟩
 | succ n ih =>
  intro i h
  by_cases h1:ls.getD i 0<0∨3<ls.getD i 0
  ·rw[lie_8 (by omega) h1]
   exact⟨fun e=>by omega,fun e=>by have:=(e i (Nat.le_refl _) (by omega)).1; omega⟩
  ·by_cases h2:0<i∧ls.getD i 0≤ls.getD (i-1) 0
   ·rw[lie_5 (by omega) h1 h2]
    exact⟨fun e=>by omega,fun e=>by have:=(e i (Nat.le_refl _) (by omega)).2 h2.1; omega⟩
   ·rw[lie_next (by omega) h1 h2,ih (i+1) (by omega)]
    refine⟨fun e j hj hj' => ?_,fun e j hj hj'=>e j (by omega) hj'⟩
    by_cases hij:j=i
    ·subst hij; exact⟨by omega,fun h3=>by omega⟩
    ·exact e j (by omega) hj'
theorem asc_of {ls:List Int} (h:∀ j,0<j→j<ls.length→ls.getD (j-1) 0<ls.getD j 0):ls.Pairwise (· < ·):=by
 rw[List.pairwise_iff_getElem]
 have key:∀ j i,i<j→(hj:j<ls.length)→ls.getD i 0<ls.getD j 0:=by
  intro j
  induction j with
  | zero=>intro i hi; omega
  | succ j ih =>
   intro i hi hj
   have h1:=h (j+1) (by omega) hj
   simp only[Nat.add_sub_cancel] at h1
   by_cases e:i=j
   ·subst e; exact h1
   ·have:=ih i (by omega) (by omega); omega
 intro i j hi hj hij
 have:=key j i hij hj
 rwa [getD_at hi,getD_at hj] at this
theorem of_asc {ls:List Int} (h:ls.Pairwise (· < ·)) {j:Nat} (h0:0<j) (hj:j<ls.length):ls.getD (j-1) 0<ls.getD j 0:=by
 rw[List.pairwise_iff_getElem] at h
 rw[getD_at hj,getD_at (by omega)]
 exact h _ _ _ _ (by omega)
theorem chk_ok {u l:List Int} {w:Int} {ls:List Int}:chk u l w ls=0↔Ok u l w ls:=by
 unfold chk
 constructor
 ·intro h
  split at h; omega
  split at h; omega
  split at h; omega
  split at h; omega
  split at h; omega
  split at h; omega
  rename_i h1 h2 h3 h4 h5 h6
  simp only[not_or,Bool.not_eq_false] at h5
  have hz:=(lieE_zero _ 0 rfl).1 h
  refine⟨by omega,by omega,by omega,all_inB.1 h5.1,all_inB.1 h5.2.1,by omega,by omega,fun e=>h6 (by rw[e]; rfl),fun x hx => ?_,asc_of fun j hj hj'=>(hz j (Nat.zero_le _) hj').2 hj⟩
  obtain⟨j,hj,rfl⟩:=List.getElem_of_mem hx
  have:=(hz j (Nat.zero_le _) hj).1
  rwa [getD_at hj] at this
 ·intro h
  have h1:=h.n3
  have h2:=h.n8
  have h3:=h.len
  have h4:=h.w0
  have h5:=h.w2
  have h6:ls.length≠0:=fun e=>h.ne (List.eq_nil_of_length_eq_zero e)
  rw[if_neg (by omega),if_neg (by omega),if_neg (by omega),if_neg (by omega),if_neg (by rw[all_inB.2 h.hu,all_inB.2 h.hl]; simp; omega),if_neg h6]
  exact(lieE_zero _ 0 rfl).2 fun j _ hj=>⟨h.lie _ (mem_getD hj),fun h0=>of_asc h.asc h0 hj⟩
def Sh (u l ls:List Int):Prop:=u.length≤1000∧l.length≤1000∧ls.length≤1000
theorem short2 {ua la lsa ub lb lsb:List Int} {wa wb:Int} (h1:Sh ua la lsa) (h2:Sh ub lb lsb):∀ p∈[pd ua la wa lsa,pd ub lb wb lsb],shortP p:=by
 intro p hp
 simp only[List.mem_cons,List.not_mem_nil,or_false] at hp
 rcases hp with rfl | rfl
 ·exact h1
 ·exact h2
theorem chkL_two {ua la lsa ub lb lsb:List Int} {wa wb:Int} (h:chkL [pd ua la wa lsa,pd ub lb wb lsb]=0):Ok ua la wa lsa∧Ok ub lb wb lsb:=by
 simp only[chkL] at h
 split at h
 ·rename_i h1; exact(h1 h).elim
 ·rename_i h1
  split at h
  ·rename_i h2; exact(h2 h).elim
  ·rename_i h2; exact⟨chk_ok.1 (Decidable.not_not.1 h1),chk_ok.1 (Decidable.not_not.1 h2)⟩
theorem two_chkL {ua la lsa ub lb lsb:List Int} {wa wb:Int} (h1:Ok ua la wa lsa) (h2:Ok ub lb wb lsb):chkL [pd ua la wa lsa,pd ub lb wb lsb]=0:=by
 have e1:chkP (pd ua la wa lsa)=0:=chk_ok.2 h1
 have e2:chkP (pd ub lb wb lsb)=0:=chk_ok.2 h2
 simp[chkL,e1,e2]
theorem Ok.num {u l:List Int} {w:Int} {ls:List Int} (h:Ok u l w ls):(3≤u.length∧u.length≤8∧l.length=u.length∧0≤w∧w≤2)∧inH u∧inH l:=⟨⟨h.n3,h.n8,h.len,h.w0,h.w2⟩,h.hu,h.hl⟩
theorem spec_23 {tab:IsoF} (tk:TabK tab) {n:Nat} (ua la:List Int) (wa:Int) (lsa ub lb:List Int) (wb:Int) (lsb:List Int) (a1:Sh ua la lsa) (a2:Sh ub lb lsb) (a3:chkL [pd ua la wa lsa,pd ub lb wb lsb]=0):ISpec (isoT tab (n+7)) 23 ([pcV ua la wa lsa,pcV ub lb wb lsb]) (fun v=>v = .tup [.sl I64 (shL la ub (wa+wb) (ub.length+la.length+1)) .no,ival 0]):=by
 refine ispec_of (fn:=Try.f23) (rts:=[some IntsT,some I64]) Try.func23 rfl (fun _=>tk.other _ _ (by decide) (by decide) (by decide)) ?_
 show WT _ _ _ _ _ _ _ _ _ _ (mkE 30 [(0,TV.agg [TV.sl I64 ua Ap.no,TV.sl I64 la Ap.no,vv (vi wa),TV.sl I64 lsa Ap.no]),(1,TV.agg [TV.sl I64 ub Ap.no,TV.sl I64 lb Ap.no,vv (vi wb),TV.sl I64 lsb Ap.no])]) [] _
 refine wt_seq ?_
 refine zr [0,1,2,3,4,5] 4 (mkE 30 [(0,.agg [.sl I64 ua .no,.sl I64 la .no,vv (vi wa),.sl I64 lsa .no]),(1,.agg [.sl I64 ub .no,.sl I64 lb .no,vv (vi wb),.sl I64 lsb .no]),(2,.ptr 0 0),(3,.ptr 1 0),(4,.sl I64 [] Ap.full),(5,vv (vi 0))]) [TB.cells [.sl I64 ua .no,.sl I64 la .no,vv (vi wa),.sl I64 lsa .no],TB.cells [.sl I64 ub .no,.sl I64 lb .no,vv (vi wb),.sl I64 lsb .no]] (by kernel_rfl) ?_
 refine wt_seq ?_
 refine wt_seq ?_
 refine wt_regL ?_
 refine zl 3 3 (mkE 30 [(0,.agg [.sl I64 ua .no,.sl I64 la .no,vv (vi wa),.sl I64 lsa .no]),(1,.agg [.sl I64 ub .no,.sl I64 lb .no,vv (vi wb),.sl I64 lsb .no]),(2,.ptr 0 0),(3,.ptr 1 0),(4,.sl I64 [] Ap.full),(5,vv (vi 0)),(7,.agg [.sl I64 ua .no,.sl I64 la .no,vv (vi wa),.sl I64 lsa .no]),(8,.agg [.sl I64 ub .no,.sl I64 lb .no,vv (vi wb),.sl I64 lsb .no]),(9,.sl (PieceT) [(ua,la,wa,lsa,()),(ub,lb,wb,lsb,())] Ap.full)]) [TB.cells [.sl I64 ua .no,.sl I64 la .no,vv (vi wa),.sl I64 lsa .no],TB.cells [.sl I64 ub .no,.sl I64 lb .no,vv (vi wb),.sl I64 lsb .no]] (by kernel_rfl) ?_
 refine wl_icall (tt:=ttb) (g:=59) (targs:=[.sl (PieceT) [(ua,la,wa,lsa,()),(ub,lb,wb,lsb,())] .no]) (dst:=some 10) (by kernel_rfl) (spec_59 tk _ (by first | exact short2 a1 a2 | (simp; done)) (by first | exact short2 a1 a2 | (simp; done))) ?_
 rintro _ rfl
 refine ze [0,1,2,3,4,5,6] 1 (mkE 30 [(0,.agg [.sl I64 ua .no,.sl I64 la .no,vv (vi wa),.sl I64 lsa .no]),(1,.agg [.sl I64 ub .no,.sl I64 lb .no,vv (vi wb),.sl I64 lsb .no]),(2,.ptr 0 0),(3,.ptr 1 0),(4,.sl I64 [] Ap.full),(5,vv (vi 0)),(6,vv (vi (chkL [(ua,la,wa,lsa,()),(ub,lb,wb,lsb,())])))]) [TB.cells [.sl I64 ua .no,.sl I64 la .no,vv (vi wa),.sl I64 lsa .no],TB.cells [.sl I64 ub .no,.sl I64 lb .no,vv (vi wb),.sl I64 lsb .no]] (by kernel_rfl) ?_
 refine wt_seq ?_
 refine zr [0,1,2,3,4,5,6,12] 2 (mkE 30 [(0,.agg [.sl I64 ua .no,.sl I64 la .no,vv (vi wa),.sl I64 lsa .no]),(1,.agg [.sl I64 ub .no,.sl I64 lb .no,vv (vi wb),.sl I64 lsb .no]),(2,.ptr 0 0),(3,.ptr 1 0),(4,.sl I64 [] Ap.full),(5,vv (vi 0)),(6,vv (vi (chkL [(ua,la,wa,lsa,()),(ub,lb,wb,lsb,())]))),(12,vv (vb (chkL [(ua,la,wa,lsa,()),(ub,lb,wb,lsb,())]!=(0:Int))))]) [TB.cells [.sl I64 ua .no,.sl I64 la .no,vv (vi wa),.sl I64 lsa .no],TB.cells [.sl I64 ub .no,.sl I64 lb .no,vv (vi wb),.sl I64 lsb .no]] (by kernel_rfl) ?_
 refine wt_cond (t:=chkL [(ua,la,wa,lsa,()),(ub,lb,wb,lsb,())]!=(0:Int)) (by kernel_rfl) (fun hc => ?_) (fun hc => ?_)
 ·exact absurd a3 (bne_of' hc)
 ·skip
  have hc:=beq_of' hc
  have hf: ((3≤ua.length∧ua.length≤8∧la.length=ua.length∧0≤wa∧wa≤2)∧inH ua∧inH la)∧((3≤ub.length∧ub.length≤8∧lb.length=ub.length∧0≤wb∧wb≤2)∧inH ub∧inH lb):=⟨(chkL_two a3).1.num,(chkL_two a3).2.num⟩
  refine wt_skip ?_
  refine wt_seq ?_
  refine wt_regL ?_
  refine zl 15 15 (mkE 30 [(0,.agg [.sl I64 ua .no,.sl I64 la .no,vv (vi wa),.sl I64 lsa .no]),(1,.agg [.sl I64 ub .no,.sl I64 lb .no,vv (vi wb),.sl I64 lsb .no]),(2,.ptr 0 0),(3,.ptr 1 0),(4,.sl I64 [] Ap.full),(5,vv (vi 0)),(6,vv (vi (chkL [(ua,la,wa,lsa,()),(ub,lb,wb,lsb,())]))),(12,vv (vb (chkL [(ua,la,wa,lsa,()),(ub,lb,wb,lsb,())]!=(0:Int)))),(14,.ptr 0 0),(15,.sl I64 ua .no),(16,.ptr 0 1),(17,.sl I64 la .no),(18,.agg [.sl I64 ua .no,.sl I64 la .no]),(19,.ptr 1 0),(20,.sl I64 ub .no),(21,.ptr 1 1),(22,.sl I64 lb .no),(23,.agg [.sl I64 ub .no,.sl I64 lb .no]),(24,.ptr 0 2),(25,vv (vi wa)),(26,.ptr 1 2),(27,vv (vi wb)),(28,vv (vi (IntKind.i64.wrap (wa+wb))))]) [TB.cells [.sl I64 ua .no,.sl I64 la .no,vv (vi wa),.sl I64 lsa .no],TB.cells [.sl I64 ub .no,.sl I64 lb .no,vv (vi wb),.sl I64 lsb .no]] (by kernel_rfl) ?_
  rw[wr_i64 (n:=wa+wb) (by omega) (by omega)]
  refine wl_icall (tt:=ttb) (g:=65) (targs:=[.agg [.sl I64 ua .no,.sl I64 la .no],.agg [.sl I64 ub .no,.sl I64 lb .no],vv (vi (wa+wb))]) (dst:=some 29) (by kernel_rfl) (spec_65 tk _ _ _ _ _ (by first | omega | exact hf.1.2.2 | exact hf.2.2.1) (by first | omega | exact hf.1.2.2 | exact hf.2.2.1) (by first | omega | exact hf.1.2.2 | exact hf.2.2.1) (by first | omega | exact hf.1.2.2 | exact hf.2.2.1)) ?_
  rintro _ rfl
  refine ze [0,1,2,3,4,5,6] 2 (mkE 30 [(0,.agg [.sl I64 ua .no,.sl I64 la .no,vv (vi wa),.sl I64 lsa .no]),(1,.agg [.sl I64 ub .no,.sl I64 lb .no,vv (vi wb),.sl I64 lsb .no]),(2,.ptr 0 0),(3,.ptr 1 0),(4,.sl I64 (shL la ub (wa+wb) (ub.length+la.length+1)) .no),(5,vv (vi 0)),(6,vv (vi (chkL [(ua,la,wa,lsa,()),(ub,lb,wb,lsb,())])))]) [TB.cells [.sl I64 ua .no,.sl I64 la .no,vv (vi wa),.sl I64 lsa .no],TB.cells [.sl I64 ub .no,.sl I64 lb .no,vv (vi wb),.sl I64 lsb .no]] (by kernel_rfl) ?_
  refine wt_ret ?_
  refine⟨trivial,[.sl I64 (shL la ub (wa+wb) (ub.length+la.length+1)) .no,vv (vi 0)],by kernel_rfl,by kernel_rfl,by kernel_rfl,?_⟩
  rfl
theorem spec_21 {tab:IsoF} (tk:TabK tab) {n:Nat} (ua la:List Int) (wa:Int) (lsa ub lb:List Int) (wb:Int) (lsb:List Int) (a1:Sh ua la lsa) (a2:Sh ub lb lsb) (s:Int) (a3:chkL [pd ua la wa lsa,pd ub lb wb lsb]=0) (a4:fitsAt la ub (wa+wb) s=true) (a5 : -1000≤s) (a6:s≤1000):ISpec (isoT tab (n+7)) 21 ([pcV ua la wa lsa,pcV ub lb wb lsb,ival s]) (fun v=>v = .tup [.agg [ival (stF (colL la ub s ub.length)).2.1,ival ((stF (colL la ub s ub.length)).1+wa+wb)],ival 0]):=by
 refine ispec_of (fn:=Try.f21) (rts:=[some RangeT,some I64]) Try.func21 rfl (fun _=>tk.other _ _ (by decide) (by decide) (by decide)) ?_
 show WT _ _ _ _ _ _ _ _ _ _ (mkE 60 [(0,TV.agg [TV.sl I64 ua Ap.no,TV.sl I64 la Ap.no,vv (vi wa),TV.sl I64 lsa Ap.no]),(1,TV.agg [TV.sl I64 ub Ap.no,TV.sl I64 lb Ap.no,vv (vi wb),TV.sl I64 lsb Ap.no]),(2,vv (vi s))]) [] _
 refine wt_seq ?_
 refine zr [0,1,2,3,4,6,7] 4 (mkE 60 [(0,.agg [.sl I64 ua .no,.sl I64 la .no,vv (vi wa),.sl I64 lsa .no]),(1,.agg [.sl I64 ub .no,.sl I64 lb .no,vv (vi wb),.sl I64 lsb .no]),(2,vv (vi s)),(3,.ptr 0 0),(4,.ptr 1 0),(6,.ptr 2 0),(7,vv (vi 0))]) [TB.cells [.sl I64 ua .no,.sl I64 la .no,vv (vi wa),.sl I64 lsa .no],TB.cells [.sl I64 ub .no,.sl I64 lb .no,vv (vi wb),.sl I64 lsb .no],TB.cells [vv (vi 0),vv (vi 0)]] (by kernel_rfl) ?_
 refine wt_seq ?_
 refine wt_seq ?_
 refine wt_regL ?_
 refine zl 3 3 (mkE 60 [(0,.agg [.sl I64 ua .no,.sl I64 la .no,vv (vi wa),.sl I64 lsa .no]),(1,.agg [.sl I64 ub .no,.sl I64 lb .no,vv (vi wb),.sl I64 lsb .no]),(2,vv (vi s)),(3,.ptr 0 0),(4,.ptr 1 0),(6,.ptr 2 0),(7,vv (vi 0)),(12,.agg [.sl I64 ua .no,.sl I64 la .no,vv (vi wa),.sl I64 lsa .no]),(13,.agg [.sl I64 ub .no,.sl I64 lb .no,vv (vi wb),.sl I64 lsb .no]),(14,.sl (PieceT) [(ua,la,wa,lsa,()),(ub,lb,wb,lsb,())] Ap.full)]) [TB.cells [.sl I64 ua .no,.sl I64 la .no,vv (vi wa),.sl I64 lsa .no],TB.cells [.sl I64 ub .no,.sl I64 lb .no,vv (vi wb),.sl I64 lsb .no],TB.cells [vv (vi 0),vv (vi 0)]] (by kernel_rfl) ?_
 refine wl_icall (tt:=ttb) (g:=59) (targs:=[.sl (PieceT) [(ua,la,wa,lsa,()),(ub,lb,wb,lsb,())] .no]) (dst:=some 15) (by kernel_rfl) (spec_59 tk _ (by first | exact short2 a1 a2 | (simp; done)) (by first | exact short2 a1 a2 | (simp; done))) ?_
 rintro _ rfl
 refine ze [0,1,2,3,4,6,7,8] 1 (mkE 60 [(0,.agg [.sl I64 ua .no,.sl I64 la .no,vv (vi wa),.sl I64 lsa .no]),(1,.agg [.sl I64 ub .no,.sl I64 lb .no,vv (vi wb),.sl I64 lsb .no]),(2,vv (vi s)),(3,.ptr 0 0),(4,.ptr 1 0),(6,.ptr 2 0),(7,vv (vi 0)),(8,vv (vi (chkL [(ua,la,wa,lsa,()),(ub,lb,wb,lsb,())])))]) [TB.cells [.sl I64 ua .no,.sl I64 la .no,vv (vi wa),.sl I64 lsa .no],TB.cells [.sl I64 ub .no,.sl I64 lb .no,vv (vi wb),.sl I64 lsb .no],TB.cells [vv (vi 0),vv (vi 0)]] (by kernel_rfl) ?_
 refine wt_seq ?_
 refine zr [0,1,2,3,4,6,7,8,17] 2 (mkE 60 [(0,.agg [.sl I64 ua .no,.sl I64 la .no,vv (vi wa),.sl I64 lsa .no]),(1,.agg [.sl I64 ub .no,.sl I64 lb .no,vv (vi wb),.sl I64 lsb .no]),(2,vv (vi s)),(3,.ptr 0 0),(4,.ptr 1 0),(6,.ptr 2 0),(7,vv (vi 0)),(8,vv (vi (chkL [(ua,la,wa,lsa,()),(ub,lb,wb,lsb,())]))),(17,vv (vb (chkL [(ua,la,wa,lsa,()),(ub,lb,wb,lsb,())]!=(0:Int))))]) [TB.cells [.sl I64 ua .no,.sl I64 la .no,vv (vi wa),.sl I64 lsa .no],TB.cells [.sl I64 ub .no,.sl I64 lb .no,vv (vi wb),.sl I64 lsb .no],TB.cells [vv (vi 0),vv (vi 0)]] (by kernel_rfl) ?_
 refine wt_cond (t:=chkL [(ua,la,wa,lsa,()),(ub,lb,wb,lsb,())]!=(0:Int)) (by kernel_rfl) (fun hc => ?_) (fun hc => ?_)
 ·exact absurd a3 (bne_of' hc)
 ·skip
  have hc:=beq_of' hc
  have hf: ((3≤ua.length∧ua.length≤8∧la.length=ua.length∧0≤wa∧wa≤2)∧inH ua∧inH la)∧((3≤ub.length∧ub.length≤8∧lb.length=ub.length∧0≤wb∧wb≤2)∧inH ub∧inH lb):=⟨(chkL_two a3).1.num,(chkL_two a3).2.num⟩
  refine wt_skip ?_
  refine wt_seq ?_
  refine wt_regL ?_
  refine zl 11 11 (mkE 60 [(0,.agg [.sl I64 ua .no,.sl I64 la .no,vv (vi wa),.sl I64 lsa .no]),(1,.agg [.sl I64 ub .no,.sl I64 lb .no,vv (vi wb),.sl I64 lsb .no]),(2,vv (vi s)),(3,.ptr 0 0),(4,.ptr 1 0),(6,.ptr 2 0),(7,vv (vi 0)),(8,vv (vi (chkL [(ua,la,wa,lsa,()),(ub,lb,wb,lsb,())]))),(17,vv (vb (chkL [(ua,la,wa,lsa,()),(ub,lb,wb,lsb,())]!=(0:Int)))),(21,.ptr 0 0),(22,.sl I64 ua .no),(23,.ptr 0 1),(24,.sl I64 la .no),(25,.agg [.sl I64 ua .no,.sl I64 la .no]),(26,.ptr 1 0),(27,.sl I64 ub .no),(28,.ptr 1 1),(29,.sl I64 lb .no),(30,.agg [.sl I64 ub .no,.sl I64 lb .no]),(31,vv (vi s))]) [TB.cells [.sl I64 ua .no,.sl I64 la .no,vv (vi wa),.sl I64 lsa .no],TB.cells [.sl I64 ub .no,.sl I64 lb .no,vv (vi wb),.sl I64 lsb .no],TB.cells [vv (vi 0),vv (vi 0)]] (by kernel_rfl) ?_
  refine wl_icall (tt:=ttb) (g:=60) (targs:=[.agg [.sl I64 ua .no,.sl I64 la .no],.agg [.sl I64 ub .no,.sl I64 lb .no],vv (vi s)]) (dst:=some 32) (by kernel_rfl) (spec_60 tk _ _ _ _ _ (by first | omega | exact hf.1.2.2 | exact hf.2.2.1) (by first | omega | exact hf.1.2.2 | exact hf.2.2.1) (by first | omega | exact hf.1.2.2 | exact hf.2.2.1) (by first | omega | exact hf.1.2.2 | exact hf.2.2.1) (by first | omega | exact hf.1.2.2 | exact hf.2.2.1) (by first | omega | exact hf.1.2.2 | exact hf.2.2.1)) ?_
  rintro _ rfl
  have hf1: (0≤(stF (colL la ub s ub.length)).1∧(stF (colL la ub s ub.length)).1≤18∧0≤(stF (colL la ub s ub.length)).2.1∧(stF (colL la ub s ub.length)).2.1≤18∧0≤(stF (colL la ub s ub.length)).2.2)∧(3≤(stF (colL la ub s ub.length)).2.2∧(stF (colL la ub s ub.length)).2.1-(stF (colL la ub s ub.length)).1≤wa+wb):=⟨stA_in _ hf.1.2.2 hf.2.2.1,of_decide_eq_true a4⟩
  refine ze [0,1,2,3,4,6,7,8,9,10,11] 7 (mkE 60 [(0,.agg [.sl I64 ua .no,.sl I64 la .no,vv (vi wa),.sl I64 lsa .no]),(1,.agg [.sl I64 ub .no,.sl I64 lb .no,vv (vi wb),.sl I64 lsb .no]),(2,vv (vi s)),(3,.ptr 0 0),(4,.ptr 1 0),(6,.ptr 2 0),(7,vv (vi 0)),(8,vv (vi (chkL [(ua,la,wa,lsa,()),(ub,lb,wb,lsb,())]))),(9,vv (vi (stF (colL la ub s ub.length)).fst)),(10,vv (vi (stF (colL la ub s ub.length)).snd.fst)),(11,vv (vi (stF (colL la ub s ub.length)).snd.snd))]) [TB.cells [.sl I64 ua .no,.sl I64 la .no,vv (vi wa),.sl I64 lsa .no],TB.cells [.sl I64 ub .no,.sl I64 lb .no,vv (vi wb),.sl I64 lsb .no],TB.cells [vv (vi 0),vv (vi 0)]] (by kernel_rfl) ?_
  refine wt_seq ?_
  refine wt_block ?_
  refine wt_seq ?_
  refine zr [0,1,2,3,4,6,7,8,9,10,11,36] 3 (mkE 60 [(0,.agg [.sl I64 ua .no,.sl I64 la .no,vv (vi wa),.sl I64 lsa .no]),(1,.agg [.sl I64 ub .no,.sl I64 lb .no,vv (vi wb),.sl I64 lsb .no]),(2,vv (vi s)),(3,.ptr 0 0),(4,.ptr 1 0),(6,.ptr 2 0),(7,vv (vi 0)),(8,vv (vi (chkL [(ua,la,wa,lsa,()),(ub,lb,wb,lsb,())]))),(9,vv (vi (stF (colL la ub s ub.length)).fst)),(10,vv (vi (stF (colL la ub s ub.length)).snd.fst)),(11,vv (vi (stF (colL la ub s ub.length)).snd.snd)),(36,vv (vb (decide ((stF (colL la ub s ub.length)).snd.snd<(3:Int)))))]) [TB.cells [.sl I64 ua .no,.sl I64 la .no,vv (vi wa),.sl I64 lsa .no],TB.cells [.sl I64 ub .no,.sl I64 lb .no,vv (vi wb),.sl I64 lsb .no],TB.cells [vv (vi 0),vv (vi 0)]] (by kernel_rfl) ?_
  refine wt_cond (t:=decide ((stF (colL la ub s ub.length)).snd.snd<(3:Int))) (by kernel_rfl) (fun hc1 => ?_) (fun hc1 => ?_)
  ·skip
   have hc1:=of_decide_eq_true hc1
   exfalso; omega
  ·skip
   have hc1:=of_decide_eq_false hc1
   refine wt_seq ?_
   refine zr [0,1,2,3,4,6,7,8,9,10,11,40] 10 (mkE 60 [(0,.agg [.sl I64 ua .no,.sl I64 la .no,vv (vi wa),.sl I64 lsa .no]),(1,.agg [.sl I64 ub .no,.sl I64 lb .no,vv (vi wb),.sl I64 lsb .no]),(2,vv (vi s)),(3,.ptr 0 0),(4,.ptr 1 0),(6,.ptr 2 0),(7,vv (vi 0)),(8,vv (vi (chkL [(ua,la,wa,lsa,()),(ub,lb,wb,lsb,())]))),(9,vv (vi (stF (colL la ub s ub.length)).fst)),(10,vv (vi (stF (colL la ub s ub.length)).snd.fst)),(11,vv (vi (stF (colL la ub s ub.length)).snd.snd)),(40,vv (vb (decide (IntKind.i64.wrap ((stF (colL la ub s ub.length)).snd.fst-(stF (colL la ub s ub.length)).fst)>IntKind.i64.wrap (wa+wb)))))]) [TB.cells [.sl I64 ua .no,.sl I64 la .no,vv (vi wa),.sl I64 lsa .no],TB.cells [.sl I64 ub .no,.sl I64 lb .no,vv (vi wb),.sl I64 lsb .no],TB.cells [vv (vi 0),vv (vi 0)]] (by kernel_rfl) ?_
   rw[wr_i64 (n:=(stF (colL la ub s ub.length)).snd.fst-(stF (colL la ub s ub.length)).fst) (by omega) (by omega)]
   rw[wr_i64 (n:=wa+wb) (by omega) (by omega)]
   refine wt_cond (t:=decide ((stF (colL la ub s ub.length)).snd.fst-(stF (colL la ub s ub.length)).fst>wa+wb)) (by kernel_rfl) (fun hc2 => ?_) (fun hc2 => ?_)
   ·skip
    have hc2:=of_decide_eq_true hc2
    exfalso; omega
   ·skip
    have hc2:=of_decide_eq_false hc2
    refine wt_skip ?_
    refine wt_seq ?_
    refine zr [0,1,2,3,4,6,7,8,9,10,11] 11 (mkE 60 [(0,.agg [.sl I64 ua .no,.sl I64 la .no,vv (vi wa),.sl I64 lsa .no]),(1,.agg [.sl I64 ub .no,.sl I64 lb .no,vv (vi wb),.sl I64 lsb .no]),(2,vv (vi s)),(3,.ptr 0 0),(4,.ptr 1 0),(6,.ptr 2 0),(7,vv (vi 0)),(8,vv (vi (chkL [(ua,la,wa,lsa,()),(ub,lb,wb,lsb,())]))),(9,vv (vi (stF (colL la ub s ub.length)).fst)),(10,vv (vi (stF (colL la ub s ub.length)).snd.fst)),(11,vv (vi (stF (colL la ub s ub.length)).snd.snd))]) [TB.cells [.sl I64 ua .no,.sl I64 la .no,vv (vi wa),.sl I64 lsa .no],TB.cells [.sl I64 ub .no,.sl I64 lb .no,vv (vi wb),.sl I64 lsb .no],TB.cells [vv (vi (stF (colL la ub s ub.length)).snd.fst),vv (vi (IntKind.i64.wrap (IntKind.i64.wrap ((stF (colL la ub s ub.length)).fst+wa)+wb)))]] (by kernel_rfl) ?_
    rw[wr_i64 (n:=(stF (colL la ub s ub.length)).fst+wa) (by omega) (by omega)]
    rw[wr_i64 (n:=(stF (colL la ub s ub.length)).fst+wa+wb) (by omega) (by omega)]
    refine wt_ret ?_
    refine⟨trivial,[.agg [vv (vi (stF (colL la ub s ub.length)).snd.fst),vv (vi ((stF (colL la ub s ub.length)).fst+wa+wb))],vv (vi 0)],by kernel_rfl,by kernel_rfl,by kernel_rfl,?_⟩
    rfl
end Go.Tv
end
section
namespace Go.Tv
open Go Go.Di Go.Proofs
set_option maxRecDepth 100000
def cutD (la ub:List Int) (wa wb s:Int):RangeT.den:=((stF (colL la ub s ub.length)).2.1,(stF (colL la ub s ub.length)).1+wa+wb,())
theorem cut_snoc {la ub l:List Int} {wa wb:Int} {i:Nat} (h:i<l.length):(l.take i).map (cutD la ub wa wb)++[((stF (colL la ub (l.getD i 0) ub.length)).2.1,(stF (colL la ub (l.getD i 0) ub.length)).1+wa+wb,())]=(l.take (i+1)).map (cutD la ub wa wb):=by
 rw[take_one h,List.map_append]; rfl
theorem mem_shL {la ub:List Int} {wear s:Int} {k:Nat} (h:s∈shL la ub wear k):fitsAt la ub wear s=true ∧ -(ub.length:Int)≤s∧s<(k:Int)-ub.length:=by
 simp only[shL,List.mem_filter,List.mem_map,List.mem_range] at h
 obtain⟨⟨j,hj,rfl⟩,h⟩:=h
 exact⟨h,by omega,by omega⟩
theorem fitsAt_first {la ub:List Int} {wear:Int}:fitsAt la ub wear (-(ub.length:Int))=false:=by
 refine decide_eq_false fun h => ?_
 rw[colL_none (.inl (Int.le_refl _))] at h
 have h1:=h.1
 have:(stF []).2.2=0:=rfl
 rw[this] at h1
 exact absurd h1 (by omega)
theorem shL_le {la ub:List Int} {wear:Int} (k:Nat):(shL la ub wear (k+1)).length≤k:=by
 induction k with
 | zero =>
  rw[← shL_no (k:=0) (by rw[show ((0:Nat):Int)-(ub.length:Int) = -(ub.length:Int) by omega]; exact fitsAt_first)]
  exact shL_len la ub wear 0
 | succ k ih =>
  cases h:fitsAt la ub wear (((k+1:Nat):Int)-(ub.length:Int)) with
  | true=>rw[← shL_yes h,List.length_append]; simpa using ih
  | false=>rw[← shL_no h]; omega
theorem spec_28 {tab:IsoF} (tk:TabK tab) {n:Nat} (ua la:List Int) (wa:Int) (lsa ub lb:List Int) (wb:Int) (lsb:List Int) (a1:Sh ua la lsa) (a2:Sh ub lb lsb) (a3:chkL [pd ua la wa lsa,pd ub lb wb lsb]=0) (a4:la.length≤8) (a5:ub.length≤8):ISpec (isoT tab (n+8)) 28 ([pcV ua la wa lsa,pcV ub lb wb lsb]) (fun v=>v = .tup [.sl I64 (shL la ub (wa+wb) (ub.length+la.length+1)) .no,.sl RangeT ((shL la ub (wa+wb) (ub.length+la.length+1)).map (cutD la ub wa wb)) .no,bval true]):=by
 refine ispec_of (fn:=Try.f28) (rts:=[some IntsT,some (.sl RangeT),some .bool]) Try.func28 rfl (fun _=>tk.other _ _ (by decide) (by decide) (by decide)) ?_
 show WT _ _ _ _ _ _ _ _ _ _ (mkE 50 [(0,TV.agg [TV.sl I64 ua Ap.no,TV.sl I64 la Ap.no,vv (vi wa),TV.sl I64 lsa Ap.no]),(1,TV.agg [TV.sl I64 ub Ap.no,TV.sl I64 lb Ap.no,vv (vi wb),TV.sl I64 lsb Ap.no])]) [] _
 refine wt_seq ?_
 refine zr [0,1,2,3,4,5,6] 5 (mkE 50 [(0,TV.agg [TV.sl I64 ua Ap.no,TV.sl I64 la Ap.no,vv (vi wa),TV.sl I64 lsa Ap.no]),(1,TV.agg [TV.sl I64 ub Ap.no,TV.sl I64 lb Ap.no,vv (vi wb),TV.sl I64 lsb Ap.no]),(2,TV.ptr (0:Nat) (0:Nat)),(3,TV.ptr (1:Nat) (0:Nat)),(4,TV.sl I64 [] Ap.full),(5,TV.sl (RangeT) [] Ap.full),(6,vv (vb false))]) [TB.cells [TV.sl I64 ua Ap.no,TV.sl I64 la Ap.no,vv (vi wa),TV.sl I64 lsa Ap.no],TB.cells [TV.sl I64 ub Ap.no,TV.sl I64 lb Ap.no,vv (vi wb),TV.sl I64 lsb Ap.no]] (by kernel_rfl) ?_
 refine wt_seq ?_
 refine wt_regL ?_
 refine zl 2 2 (mkE 50 [(0,TV.agg [TV.sl I64 ua Ap.no,TV.sl I64 la Ap.no,vv (vi wa),TV.sl I64 lsa Ap.no]),(1,TV.agg [TV.sl I64 ub Ap.no,TV.sl I64 lb Ap.no,vv (vi wb),TV.sl I64 lsb Ap.no]),(2,TV.ptr (0:Nat) (0:Nat)),(3,TV.ptr (1:Nat) (0:Nat)),(4,TV.sl I64 [] Ap.full),(5,TV.sl (RangeT) [] Ap.full),(6,vv (vb false)),(14,TV.agg [TV.sl I64 ua Ap.no,TV.sl I64 la Ap.no,vv (vi wa),TV.sl I64 lsa Ap.no]),(15,TV.agg [TV.sl I64 ub Ap.no,TV.sl I64 lb Ap.no,vv (vi wb),TV.sl I64 lsb Ap.no])]) [TB.cells [TV.sl I64 ua Ap.no,TV.sl I64 la Ap.no,vv (vi wa),TV.sl I64 lsa Ap.no],TB.cells [TV.sl I64 ub Ap.no,TV.sl I64 lb Ap.no,vv (vi wb),TV.sl I64 lsb Ap.no]] (by kernel_rfl) ?_
 refine wl_icall (tt:=ttb) (g:=23) (targs:=[TV.agg [TV.sl I64 ua Ap.no,TV.sl I64 (la,wa,lsa,()).fst Ap.no,vv (vi (la,wa,lsa,()).snd.fst),TV.sl I64 (la,wa,lsa,()).snd.snd.fst Ap.no],TV.agg [TV.sl I64 ub Ap.no,TV.sl I64 (lb,wb,lsb,()).fst Ap.no,vv (vi (lb,wb,lsb,()).snd.fst),TV.sl I64 (lb,wb,lsb,()).snd.snd.fst Ap.no]]) (dst:=some (16:Nat)) (by kernel_rfl) (spec_23 tk _ _ _ _ _ _ _ _ (by first | exact a1 | exact a2 | exact a3) (by first | exact a1 | exact a2 | exact a3) (by first | exact a1 | exact a2 | exact a3)) ?_
 rintro _ rfl
 have hf: (shL la ub (wa+wb) (ub.length+la.length+1)).length≤16:=Nat.le_trans (shL_le _) (by omega)
 refine ze [0,1,2,3,4,5,6,7,8] 5 (mkE 50 [(0,TV.agg [TV.sl I64 ua Ap.no,TV.sl I64 la Ap.no,vv (vi wa),TV.sl I64 lsa Ap.no]),(1,TV.agg [TV.sl I64 ub Ap.no,TV.sl I64 lb Ap.no,vv (vi wb),TV.sl I64 lsb Ap.no]),(2,TV.ptr (0:Nat) (0:Nat)),(3,TV.ptr (1:Nat) (0:Nat)),(4,TV.sl I64 [] Ap.full),(5,TV.sl (RangeT) [] Ap.full),(6,vv (vb false)),(7,TV.sl I64 (shL la ub (wa+wb) (ub.length+la.length+(1:Nat))) Ap.no),(8,vv (vi (0:Int)))]) [TB.cells [TV.sl I64 ua Ap.no,TV.sl I64 la Ap.no,vv (vi wa),TV.sl I64 lsa Ap.no],TB.cells [TV.sl I64 ub Ap.no,TV.sl I64 lb Ap.no,vv (vi wb),TV.sl I64 lsb Ap.no]] (by kernel_rfl) ?_
 refine wt_seq ?_
 refine wt_seq ?_
 refine zr [0,1,2,3,4,5,6,7,8,25] 7 (mkE 50 [(0,TV.agg [TV.sl I64 ua Ap.no,TV.sl I64 la Ap.no,vv (vi wa),TV.sl I64 lsa Ap.no]),(1,TV.agg [TV.sl I64 ub Ap.no,TV.sl I64 lb Ap.no,vv (vi wb),TV.sl I64 lsb Ap.no]),(2,TV.ptr (0:Nat) (0:Nat)),(3,TV.ptr (1:Nat) (0:Nat)),(4,TV.sl I64 [] Ap.full),(5,TV.sl (RangeT) [] Ap.full),(6,vv (vb false)),(7,TV.sl I64 (shL la ub (wa+wb) (ub.length+la.length+(1:Nat))) Ap.no),(8,vv (vi (0:Int))),(25,vv (vb (decide ((↑(shL la ub (wa+wb) (ub.length+la.length+(1:Nat))).length:Int)>(16:Int)))))]) [TB.cells [TV.sl I64 ua Ap.no,TV.sl I64 la Ap.no,vv (vi wa),TV.sl I64 lsa Ap.no],TB.cells [TV.sl I64 ub Ap.no,TV.sl I64 lb Ap.no,vv (vi wb),TV.sl I64 lsb Ap.no]] (by kernel_rfl) ?_
 refine wt_cond (t:=decide ((↑(shL la ub (wa+wb) (ub.length+la.length+(1:Nat))).length:Int)>(16:Int))) (by kernel_rfl) (fun hc => ?_) (fun hc => ?_)
 ·skip
  have hc:=of_decide_eq_true hc
  exfalso; omega
 ·skip
  have hc:=of_decide_eq_false hc
  refine wt_skip ?_
  refine wt_seq ?_
  refine zr [0,1,2,3,4,5,6,7,8,9] 1 (mkE 50 [(0,TV.agg [TV.sl I64 ua Ap.no,TV.sl I64 la Ap.no,vv (vi wa),TV.sl I64 lsa Ap.no]),(1,TV.agg [TV.sl I64 ub Ap.no,TV.sl I64 lb Ap.no,vv (vi wb),TV.sl I64 lsb Ap.no]),(2,TV.ptr (0:Nat) (0:Nat)),(3,TV.ptr (1:Nat) (0:Nat)),(4,TV.sl I64 [] Ap.full),(5,TV.sl (RangeT) [] Ap.full),(6,vv (vb false)),(7,TV.sl I64 (shL la ub (wa+wb) (ub.length+la.length+(1:Nat))) Ap.no),(8,vv (vi (0:Int))),(9,TV.sl (RangeT) [] Ap.full)]) [TB.cells [TV.sl I64 ua Ap.no,TV.sl I64 la Ap.no,vv (vi wa),TV.sl I64 lsa Ap.no],TB.cells [TV.sl I64 ub Ap.no,TV.sl I64 lb Ap.no,vv (vi wb),TV.sl I64 lsb Ap.no]] (by kernel_rfl) ?_
  refine wt_seq ?_
  refine wt_seq ?_
  refine zr [0,1,2,3,4,5,6,7,8,9,10] 1 (mkE 50 [(0,TV.agg [TV.sl I64 ua Ap.no,TV.sl I64 la Ap.no,vv (vi wa),TV.sl I64 lsa Ap.no]),(1,TV.agg [TV.sl I64 ub Ap.no,TV.sl I64 lb Ap.no,vv (vi wb),TV.sl I64 lsb Ap.no]),(2,TV.ptr (0:Nat) (0:Nat)),(3,TV.ptr (1:Nat) (0:Nat)),(4,TV.sl I64 [] Ap.full),(5,TV.sl (RangeT) [] Ap.full),(6,vv (vb false)),(7,TV.sl I64 (shL la ub (wa+wb) (ub.length+la.length+(1:Nat))) Ap.no),(8,vv (vi (0:Int))),(9,TV.sl (RangeT) [] Ap.full),(10,vv (vi (0:Int)))]) [TB.cells [TV.sl I64 ua Ap.no,TV.sl I64 la Ap.no,vv (vi wa),TV.sl I64 lsa Ap.no],TB.cells [TV.sl I64 ub Ap.no,TV.sl I64 lb Ap.no,vv (vi wb),TV.sl I64 lsb Ap.no]] (by kernel_rfl) ?_
  refine wt_block ?_
  refine wt_loop (σ:=Nat) (fun(i:Nat)=>(mkE 50 [(2,.ptr 0 0),(3,.ptr 1 0),(7,.sl I64 (shL la ub (wa+wb) (ub.length+la.length+1)) .no),(9,.sl RangeT (((shL la ub (wa+wb) (ub.length+la.length+1)).take i).map (cutD la ub wa wb)) (.lab 2)),(10,ival (i:Nat))],([.cells [.sl I64 ua .no,.sl I64 la .no,ival wa,.sl I64 lsa .no],.cells [.sl I64 ub .no,.sl I64 lb .no,ival wb,.sl I64 lsb .no],.own 43 2]:List TB))) (fun(i:Nat)=>i≤(shL la ub (wa+wb) (ub.length+la.length+1)).length) (fun(i:Nat)=>(shL la ub (wa+wb) (ub.length+la.length+1)).length-i) (0) (fits_of [2,3,7,9,10] [(9,RangeT,2)] [] 2 [(43,2)] (by kernel_rfl) (by kernel_rfl) (by kernel_rfl) (by kernel_rfl) (by kernel_rfl)) (by (try dsimp only); omega) (by (try dsimp only); unfold LL; omega) ?_
  intro i hg
  have hg:i≤(shL la ub (wa+wb) (ub.length+la.length+1)).length:=hg
  show WT _ _ _ _ _ _ _ _ _ _ (mkE 50 [(2,TV.ptr (0:Nat) (0:Nat)),(3,TV.ptr (1:Nat) (0:Nat)),(7,TV.sl I64 (shL la ub (wa+wb) (ub.length+la.length+(1:Nat))) Ap.no),(9,TV.sl (RangeT) (List.map (cutD la ub wa wb) (List.take i (shL la ub (wa+wb) (ub.length+la.length+(1:Nat))))) (Ap.lab (2:Nat))),(10,vv (vi (↑i:Int)))]) [TB.cells [TV.sl I64 ua Ap.no,TV.sl I64 la Ap.no,vv (vi wa),TV.sl I64 lsa Ap.no],TB.cells [TV.sl I64 ub Ap.no,TV.sl I64 lb Ap.no,vv (vi wb),TV.sl I64 lsb Ap.no],TB.own (43:Nat) (2:Nat)] _
  refine wt_seq ?_
  refine wt_seq ?_
  refine zr [2,3,7,9,10,29] 4 (mkE 50 [(2,TV.ptr (0:Nat) (0:Nat)),(3,TV.ptr (1:Nat) (0:Nat)),(7,TV.sl I64 (shL la ub (wa+wb) (ub.length+la.length+(1:Nat))) Ap.no),(9,TV.sl (RangeT) (List.map (cutD la ub wa wb) (List.take i (shL la ub (wa+wb) (ub.length+la.length+(1:Nat))))) (Ap.lab (2:Nat))),(10,vv (vi (↑i:Int))),(29,vv (vb (decide ((↑i:Int)<(↑(shL la ub (wa+wb) (ub.length+la.length+(1:Nat))).length:Int)))))]) [TB.cells [TV.sl I64 ua Ap.no,TV.sl I64 la Ap.no,vv (vi wa),TV.sl I64 lsa Ap.no],TB.cells [TV.sl I64 ub Ap.no,TV.sl I64 lb Ap.no,vv (vi wb),TV.sl I64 lsb Ap.no],TB.own (43:Nat) (2:Nat)] (by kernel_rfl) ?_
  refine wt_cond (t:=decide ((↑i:Int)<(↑(shL la ub (wa+wb) (ub.length+la.length+(1:Nat))).length:Int))) (by kernel_rfl) (fun hc1 => ?_) (fun hc1 => ?_)
  ·skip
   have hc1:=of_decide_eq_true hc1
   have hf1: fitsAt la ub (wa+wb) ((shL la ub (wa+wb) (ub.length+la.length+1)).getD i 0)=true ∧ -(ub.length:Int)≤(shL la ub (wa+wb) (ub.length+la.length+1)).getD i 0∧(shL la ub (wa+wb) (ub.length+la.length+1)).getD i 0<((ub.length+la.length+1:Nat):Int)-ub.length:=mem_shL (mem_getD (by omega))
   refine wt_skip ?_
   refine wt_seq ?_
   refine wt_block ?_
   refine wt_seq ?_
   refine wt_drawn (by kernel_rfl) (by kernel_rfl) ?_
   refine wd_seg 1000 (P:=Tp) (ty:=Ty) (tt:=ttb) (n0:=3) (k':=6) (te':=(mkE 50 [(2,TV.ptr (0:Nat) (0:Nat)),(3,TV.ptr (1:Nat) (0:Nat)),(7,TV.sl I64 (shL la ub (wa+wb) (ub.length+la.length+(1:Nat))) Ap.no),(9,TV.sl (RangeT) (List.map (cutD la ub wa wb) (List.take i (shL la ub (wa+wb) (ub.length+la.length+(1:Nat))))) (Ap.lab (2:Nat))),(10,vv (vi (↑i:Int))),(29,vv (vb (decide ((↑i:Int)<(↑(shL la ub (wa+wb) (ub.length+la.length+(1:Nat))).length:Int))))),(33,TV.agg [TV.sl I64 ua Ap.no,TV.sl I64 la Ap.no,vv (vi wa),TV.sl I64 lsa Ap.no]),(34,TV.agg [TV.sl I64 ub Ap.no,TV.sl I64 lb Ap.no,vv (vi wb),TV.sl I64 lsb Ap.no]),(35,TV.sl I64 (shL la ub (wa+wb) (ub.length+la.length+(1:Nat))) Ap.no),(36,vv (vi (↑i:Int))),(37,TV.eptr I64 (shL la ub (wa+wb) (ub.length+la.length+(1:Nat))) i (0:Nat)),(38,vv (vi ((shL la ub (wa+wb) (ub.length+la.length+(1:Nat))).getD i (0:Int))))])) (tS':=[TB.cells [TV.sl I64 ua Ap.no,TV.sl I64 la Ap.no,vv (vi wa),TV.sl I64 lsa Ap.no],TB.cells [TV.sl I64 ub Ap.no,TV.sl I64 lb Ap.no,vv (vi wb),TV.sl I64 lsb Ap.no],TB.own (43:Nat) (2:Nat),TB.none,TB.none,TB.none,TB.none,TB.none,TB.none,TB.none,TB.none,TB.none,TB.none,TB.none,TB.none,TB.none]) (fs':=[{ ids:=some [(0:Nat)],wr:=false },{ ids:=some [(1:Nat)],wr:=false },{ ids:=some [],wr:=false },{ ids:=some [],wr:=false },{ ids:=some [],wr:=false },{ ids:=some [],wr:=false }]) (cp:=True∧True∧True∧True∧((0:Int)≤(↑i:Int)∧(↑i:Int)<(↑(shL la ub (wa+wb) (ub.length+la.length+(1:Nat))).length:Int))∧True∧True) (by kernel_rfl) (by simp only[true_and,and_true]; first | omega | (simp; omega) | (simp; done)) ?_
   refine wd_icall (tt:=ttb) (g:=21) (targs:=[TV.agg [TV.sl I64 ua Ap.no,TV.sl I64 (la,wa,lsa,()).fst Ap.no,vv (vi (la,wa,lsa,()).snd.fst),TV.sl I64 (la,wa,lsa,()).snd.snd.fst Ap.no],TV.agg [TV.sl I64 ub Ap.no,TV.sl I64 (lb,wb,lsb,()).fst Ap.no,vv (vi (lb,wb,lsb,()).snd.fst),TV.sl I64 (lb,wb,lsb,()).snd.snd.fst Ap.no],vv (vi ((shL la ub (wa+wb) (ub.length+la.length+(1:Nat))).getD i (0:Int)))]) (dst:=some (39:Nat)) (nT:=3) (by kernel_rfl) (by kernel_rfl) (spec_21 tk _ _ _ _ _ _ _ _ (by first | exact a1 | exact a2 | exact a3 | exact hf1.1 | omega) (by first | exact a1 | exact a2 | exact a3 | exact hf1.1 | omega) _ (by first | exact a1 | exact a2 | exact a3 | exact hf1.1 | omega) (by first | exact a1 | exact a2 | exact a3 | exact hf1.1 | omega) (by first | exact a1 | exact a2 | exact a3 | exact hf1.1 | omega) (by first | exact a1 | exact a2 | exact a3 | exact hf1.1 | omega)) ?_
   rintro _ rfl
   refine wd_seg 1000 (P:=Tp) (ty:=Ty) (tt:=ttb) (n0:=3) (k':=13) (te':=(mkE 50 [(2,TV.ptr (0:Nat) (0:Nat)),(3,TV.ptr (1:Nat) (0:Nat)),(7,TV.sl I64 (shL la ub (wa+wb) (ub.length+la.length+(1:Nat))) Ap.no),(9,TV.sl (RangeT) (List.map (cutD la ub wa wb) (List.take i (shL la ub (wa+wb) (ub.length+la.length+(1:Nat))))) (Ap.lab (2:Nat))),(10,vv (vi (↑i:Int))),(11,TV.ptr (13:Nat) (0:Nat)),(12,vv (vi (0:Int))),(29,vv (vb (decide ((↑i:Int)<(↑(shL la ub (wa+wb) (ub.length+la.length+(1:Nat))).length:Int))))),(32,TV.tup [TV.agg [vv (vi (stF (colL la ub ((shL la ub (wa+wb) (ub.length+la.length+(1:Nat))).getD i (0:Int)) ub.length)).snd.fst),vv (vi ((stF (colL la ub ((shL la ub (wa+wb) (ub.length+la.length+(1:Nat))).getD i (0:Int)) ub.length)).fst+wa+wb))],vv (vi (0:Int))]),(33,TV.agg [TV.sl I64 ua Ap.no,TV.sl I64 la Ap.no,vv (vi wa),TV.sl I64 lsa Ap.no]),(34,TV.agg [TV.sl I64 ub Ap.no,TV.sl I64 lb Ap.no,vv (vi wb),TV.sl I64 lsb Ap.no]),(35,TV.sl I64 (shL la ub (wa+wb) (ub.length+la.length+(1:Nat))) Ap.no),(36,vv (vi (↑i:Int))),(37,TV.eptr I64 (shL la ub (wa+wb) (ub.length+la.length+(1:Nat))) i (0:Nat)),(38,vv (vi ((shL la ub (wa+wb) (ub.length+la.length+(1:Nat))).getD i (0:Int)))),(39,TV.tup [TV.agg [vv (vi (stF (colL la ub ((shL la ub (wa+wb) (ub.length+la.length+(1:Nat))).getD i (0:Int)) ub.length)).snd.fst),vv (vi ((stF (colL la ub ((shL la ub (wa+wb) (ub.length+la.length+(1:Nat))).getD i (0:Int)) ub.length)).fst+wa+wb))],vv (vi (0:Int))]),(40,TV.agg [vv (vi (stF (colL la ub ((shL la ub (wa+wb) (ub.length+la.length+(1:Nat))).getD i (0:Int)) ub.length)).snd.fst),vv (vi ((stF (colL la ub ((shL la ub (wa+wb) (ub.length+la.length+(1:Nat))).getD i (0:Int)) ub.length)).fst+wa+wb))]),(41,vv (vi (0:Int)))])) (tS':=[TB.cells [TV.sl I64 ua Ap.no,TV.sl I64 la Ap.no,vv (vi wa),TV.sl I64 lsa Ap.no],TB.cells [TV.sl I64 ub Ap.no,TV.sl I64 lb Ap.no,vv (vi wb),TV.sl I64 lsb Ap.no],TB.own (43:Nat) (2:Nat),TB.none,TB.none,TB.none,TB.none,TB.none,TB.none,TB.none,TB.none,TB.none,TB.none,TB.cells [vv (vi (stF (colL la ub ((shL la ub (wa+wb) (ub.length+la.length+(1:Nat))).getD i (0:Int)) ub.length)).snd.fst),vv (vi ((stF (colL la ub ((shL la ub (wa+wb) (ub.length+la.length+(1:Nat))).getD i (0:Int)) ub.length)).fst+wa+wb))],TB.none,TB.none]) (fs':=[{ ids:=some [],wr:=false },{ ids:=some [],wr:=false },{ ids:=some [],wr:=false },{ ids:=some [(13:Nat)],wr:=true },{ ids:=some [(13:Nat)],wr:=true },{ ids:=some [],wr:=false }]) (cp:=True∧True∧True∧True∧True∧True∧True) (by kernel_rfl) ⟨trivial,⟨trivial,⟨trivial,⟨trivial,⟨trivial,⟨trivial,trivial⟩⟩⟩⟩⟩⟩ ?_
   refine wd_done (te1:=(mkE 50 [(2,TV.ptr (0:Nat) (0:Nat)),(3,TV.ptr (1:Nat) (0:Nat)),(7,TV.sl I64 (shL la ub (wa+wb) (ub.length+la.length+(1:Nat))) Ap.no),(9,TV.sl (RangeT) (List.map (cutD la ub wa wb) (List.take i (shL la ub (wa+wb) (ub.length+la.length+(1:Nat))))) (Ap.lab (2:Nat))),(10,vv (vi (↑i:Int))),(11,TV.ptr (13:Nat) (0:Nat)),(12,vv (vi (0:Int)))])) (tS1:=[TB.cells [TV.sl I64 ua Ap.no,TV.sl I64 la Ap.no,vv (vi wa),TV.sl I64 lsa Ap.no],TB.cells [TV.sl I64 ub Ap.no,TV.sl I64 lb Ap.no,vv (vi wb),TV.sl I64 lsb Ap.no],TB.own (43:Nat) (2:Nat),TB.none,TB.none,TB.none,TB.none,TB.none,TB.none,TB.none,TB.none,TB.none,TB.none,TB.cells [vv (vi (stF (colL la ub ((shL la ub (wa+wb) (ub.length+la.length+(1:Nat))).getD i (0:Int)) ub.length)).snd.fst),vv (vi ((stF (colL la ub ((shL la ub (wa+wb) (ub.length+la.length+(1:Nat))).getD i (0:Int)) ub.length)).fst+wa+wb))]]) [2,3,7,9,10,11,12] (by kernel_rfl) (by kernel_rfl) (by kernel_rfl) ?_
   refine wt_seq ?_
   refine wt_seq ?_
   refine zr [2,3,7,9,10,11,12,43] 2 (mkE 50 [(2,TV.ptr (0:Nat) (0:Nat)),(3,TV.ptr (1:Nat) (0:Nat)),(7,TV.sl I64 (shL la ub (wa+wb) (ub.length+la.length+(1:Nat))) Ap.no),(9,TV.sl (RangeT) (List.map (cutD la ub wa wb) (List.take i (shL la ub (wa+wb) (ub.length+la.length+(1:Nat))))) (Ap.lab (2:Nat))),(10,vv (vi (↑i:Int))),(11,TV.ptr (13:Nat) (0:Nat)),(12,vv (vi (0:Int))),(43,vv (vb false))]) [TB.cells [TV.sl I64 ua Ap.no,TV.sl I64 la Ap.no,vv (vi wa),TV.sl I64 lsa Ap.no],TB.cells [TV.sl I64 ub Ap.no,TV.sl I64 lb Ap.no,vv (vi wb),TV.sl I64 lsb Ap.no],TB.own (43:Nat) (2:Nat),TB.none,TB.none,TB.none,TB.none,TB.none,TB.none,TB.none,TB.none,TB.none,TB.none,TB.cells [vv (vi (stF (colL la ub ((shL la ub (wa+wb) (ub.length+la.length+(1:Nat))).getD i (0:Int)) ub.length)).snd.fst),vv (vi ((stF (colL la ub ((shL la ub (wa+wb) (ub.length+la.length+(1:Nat))).getD i (0:Int)) ub.length)).fst+wa+wb))]] (by kernel_rfl) ?_
   refine wt_cond (t:=false) (by kernel_rfl) (fun hno=>(by cases hno)) (fun _ => ?_)
   refine wt_skip ?_
   refine wt_reg (P:=Tp) (ty:=Ty) (tt:=ttb) [2,3,7,9,10,11,12] (te1:=(mkE 50 [(2,TV.ptr (0:Nat) (0:Nat)),(3,TV.ptr (1:Nat) (0:Nat)),(7,TV.sl I64 (shL la ub (wa+wb) (ub.length+la.length+(1:Nat))) Ap.no),(9,TV.sl (RangeT) (List.map (cutD la ub wa wb) (List.take i (shL la ub (wa+wb) (ub.length+la.length+(1:Nat))))++[((stF (colL la ub ((shL la ub (wa+wb) (ub.length+la.length+(1:Nat))).getD i (0:Int)) ub.length)).snd.fst,(stF (colL la ub ((shL la ub (wa+wb) (ub.length+la.length+(1:Nat))).getD i (0:Int)) ub.length)).fst+wa+wb,())]) (Ap.lab (2:Nat))),(10,vv (vi (↑i:Int))),(11,TV.ptr (13:Nat) (0:Nat)),(12,vv (vi (0:Int)))])) (tS1:=[TB.cells [TV.sl I64 ua Ap.no,TV.sl I64 la Ap.no,vv (vi wa),TV.sl I64 lsa Ap.no],TB.cells [TV.sl I64 ub Ap.no,TV.sl I64 lb Ap.no,vv (vi wb),TV.sl I64 lsb Ap.no],TB.own (43:Nat) (2:Nat),TB.none,TB.none,TB.none,TB.none,TB.none,TB.none,TB.none,TB.none,TB.none,TB.none,TB.cells [vv (vi (stF (colL la ub ((shL la ub (wa+wb) (ub.length+la.length+(1:Nat))).getD i (0:Int)) ub.length)).snd.fst),vv (vi ((stF (colL la ub ((shL la ub (wa+wb) (ub.length+la.length+(1:Nat))).getD i (0:Int)) ub.length)).fst+wa+wb))]]) (cp:=True∧True∧True∧(List.map (cutD la ub wa wb) (List.take i (shL la ub (wa+wb) (ub.length+la.length+(1:Nat))))).length+(1:Nat)≤(1000000000:Nat)∧True∧True) (by kernel_rfl) (by simp only[true_and,and_true]; first | omega | (simp; omega) | (simp; done)) ?_
   refine zr [2,3,7,9,10,11,12] 3 (mkE 50 [(2,TV.ptr (0:Nat) (0:Nat)),(3,TV.ptr (1:Nat) (0:Nat)),(7,TV.sl I64 (shL la ub (wa+wb) (ub.length+la.length+(1:Nat))) Ap.no),(9,TV.sl (RangeT) (List.map (cutD la ub wa wb) (List.take i (shL la ub (wa+wb) (ub.length+la.length+(1:Nat))))++[((stF (colL la ub ((shL la ub (wa+wb) (ub.length+la.length+(1:Nat))).getD i (0:Int)) ub.length)).snd.fst,(stF (colL la ub ((shL la ub (wa+wb) (ub.length+la.length+(1:Nat))).getD i (0:Int)) ub.length)).fst+wa+wb,())]) (Ap.lab (2:Nat))),(10,vv (vi (IntKind.i64.wrap ((↑i:Int)+(1:Int))))),(11,TV.ptr (13:Nat) (0:Nat)),(12,vv (vi (0:Int)))]) [TB.cells [TV.sl I64 ua Ap.no,TV.sl I64 la Ap.no,vv (vi wa),TV.sl I64 lsa Ap.no],TB.cells [TV.sl I64 ub Ap.no,TV.sl I64 lb Ap.no,vv (vi wb),TV.sl I64 lsb Ap.no],TB.own (43:Nat) (2:Nat),TB.none,TB.none,TB.none,TB.none,TB.none,TB.none,TB.none,TB.none,TB.none,TB.none,TB.cells [vv (vi (stF (colL la ub ((shL la ub (wa+wb) (ub.length+la.length+(1:Nat))).getD i (0:Int)) ub.length)).snd.fst),vv (vi ((stF (colL la ub ((shL la ub (wa+wb) (ub.length+la.length+(1:Nat))).getD i (0:Int)) ub.length)).fst+wa+wb))]] (by kernel_rfl) ?_
   rw[wr_i64 (n:=(↑i:Int)+(1:Int)) (by omega) (by omega)]
   refine⟨i+1,fits_of [2,3,7,9,10] [] [] 3 [] (by rw[cut_snoc (by omega)]; kernel_rfl) (by kernel_rfl) (by kernel_rfl) (by kernel_rfl) (by kernel_rfl),(by (try dsimp only); omega),(by (try dsimp only); omega)⟩
  ·skip
   have hc1:=of_decide_eq_false hc1
   refine wt_exit ?_
   refine wt_seq ?_
   refine zr [2,3,4,5,6,7,9,10] 5 (mkE 50 [(2,TV.ptr (0:Nat) (0:Nat)),(3,TV.ptr (1:Nat) (0:Nat)),(4,TV.sl I64 (shL la ub (wa+wb) (ub.length+la.length+(1:Nat))) Ap.no),(5,TV.sl (RangeT) (List.map (cutD la ub wa wb) (List.take i (shL la ub (wa+wb) (ub.length+la.length+(1:Nat))))) (Ap.lab (2:Nat))),(6,vv (vb true)),(7,TV.sl I64 (shL la ub (wa+wb) (ub.length+la.length+(1:Nat))) Ap.no),(9,TV.sl (RangeT) (List.map (cutD la ub wa wb) (List.take i (shL la ub (wa+wb) (ub.length+la.length+(1:Nat))))) (Ap.lab (2:Nat))),(10,vv (vi (↑i:Int)))]) [TB.cells [TV.sl I64 ua Ap.no,TV.sl I64 la Ap.no,vv (vi wa),TV.sl I64 lsa Ap.no],TB.cells [TV.sl I64 ub Ap.no,TV.sl I64 lb Ap.no,vv (vi wb),TV.sl I64 lsb Ap.no],TB.own (43:Nat) (2:Nat)] (by kernel_rfl) ?_
   refine wt_ret ?_
   refine⟨trivial,[TV.sl I64 (shL la ub (wa+wb) (ub.length+la.length+(1:Nat))) Ap.no,TV.sl (RangeT) (List.map (cutD la ub wa wb) (List.take i (shL la ub (wa+wb) (ub.length+la.length+(1:Nat))))) (Ap.lab (2:Nat)),vv (vb true)],by kernel_rfl,by kernel_rfl,by kernel_rfl,?_⟩
   have hi:i=(shL la ub (wa+wb) (ub.length+la.length+1)).length:=by omega
   subst hi; rw[List.take_length]; rfl
end Go.Tv
end
section
namespace Go.Tv
open Go Go.Di Go.Proofs
variable {P:Program}
theorem pureS_bindE {α β:Type} (s:Sem α) (f:α→Sem β):pureS P (s >>= f)=(pureS P s).bind fun a=>pureS P (f a):=by
 change pureS P (s.bind f)=_
 cases s with
 | pure a=>rfl
 | program k =>
  simp only[Sem.bind,pureS]
  generalize k P=s'
  induction s' with
  | pure a=>rfl
  | program k ih=>simp only[Sem.bind,pureS]; exact ih P
  | _=>simp only[Sem.bind,pureS,Option.bind_none]
 | _=>simp only[Sem.bind,pureS,Option.bind_none]
theorem pureS_pure {α:Type} (a:α):pureS P (pure a:Sem α)=some a:=rfl
theorem pureS_program:pureS P program=some P:=rfl
theorem pureS_underlying {t:TypeId} {d:TypeDesc} (h:P.underlying t=some d):pureS P (underlying t)=some d:=by
 unfold underlying
 rw[pureS_bindE,pureS_program]
 simp only[Option.bind_some,h]
 rfl
theorem pureS_int (d:Nat) (t:TypeId) (k k':IntKind) (a b:Int) (h:P.underlying t=some (.int k')):pureS P (Op.equalIn (d+1) t (.int k a) (.int k b))=some (a==b):=by
 simp only[Op.equalIn,pureS_bindE,pureS_underlying h,Option.bind_some,if_true]
 rfl
theorem pureS_ite {α:Type} {c:Prop} [Decidable c] {a b:Sem α}:pureS P (if c then a else b)=if c then pureS P a else pureS P b:=by split<;>rfl
theorem pureS_struct (d:Nat) (t:TypeId) (xs ys:Array Value) (ht:P.underlying t=some (.struct (P.fieldsOf t))) (hp:P.stoodInHeld t=false) :
  pureS P (Op.equalIn (d+1) t (.agg xs) (.agg ys))=pureS P (Op.eqFields d xs ys (P.fieldsOf t).toList):=by
 simp only[Op.equalIn,pureS_bindE,pureS_underlying ht,Option.bind_some,pureS_program,hp,Bool.false_eq_true,if_false]
 rw[← Array.forIn_toList]
 generalize (P.fieldsOf t).toList=fs
 clear ht
 induction fs with
 | nil=>rfl
 | cons f fs ih =>
  simp only[List.forIn_cons,Op.eqFields,pureS_bindE,pureS_ite]
  split
  ·generalize pureS P (part f.type xs f.offset)=r1
   cases r1 with
   | none=>rfl
   | some a =>
    generalize pureS P (part f.type ys f.offset)=r2
    cases r2 with
    | none=>rfl
    | some b =>
     simp only[Option.bind_some]
     generalize pureS P (Op.equalIn d f.type a b)=r3
     cases r3 with
     | none=>rfl
     | some r =>
      cases r
      ·simp only[Option.bind_some,Bool.not_false,if_true,pureS_pure]
      ·simp only[Option.bind_some,Bool.not_true,Bool.false_eq_true,if_false,pureS_pure]
       exact ih
  ·simp only[pureS_pure,Option.bind_some]
   exact ih
theorem eqF_nil {d:Nat} {xs ys:Array Value}:pureS P (Op.eqFields d xs ys [])=some true:=rfl
theorem eqF_cons {d : Nat} {xs ys : Array Value} {f : Field} {fs : List Field} {k k' : IntKind} {a b : Int} {r : Bool} (hn : (f.name != "_") = true) (ha : pureS P (part f.type xs f.offset) = some (.int k a)) (hb : pureS P (part f.type ys f.offset) = some (.int k b)) (hu : P.underlying f.type = some (.int k')) (hr : pureS P (Op.eqFields (d + 1) xs ys fs) = some r) : pureS P (Op.eqFields (d + 1) xs ys (f :: fs)) = some ((a == b) && r) := by
 have hn' : f.name ≠ "_" := by simpa using hn
 simp only[Op.eqFields,hn',ne_eq,not_false_eq_true,if_true,pureS_bindE,ha,hb,Option.bind_some,pureS_int d _ _ _ _ _ hu]
 cases h:(a==b)
 ·rfl
 ·simp only[Bool.not_true,Bool.false_eq_true,if_false,Bool.true_and]; exact hr
theorem cmp_neq {t:TypeId} {xs ys:Array Value} {b:Bool} (ht:P.underlying t=some (.struct (P.fieldsOf t))) (hp:P.stoodInHeld t=false) (hm:P.eqGuardType P.depth t=false) (hf:pureS P (Op.eqFields 9999 xs ys (P.fieldsOf t).toList)=some b) (x y:Operand) :
  pureD P (do eqGuard .neq t x y (.agg xs) (.agg ys); binOp .neq t (.agg xs) (.agg ys))=some (.val (.bool !b)):=by
 have h1:pureS P (eqGuard .neq t x y (.agg xs) (.agg ys))=some ():=by
  simp only[eqGuard]
  simp only[Bool.not_true,Bool.false_eq_true,if_false,pureS_bindE,pureS_program,Option.bind_some,hm,Bool.not_false,if_true]
  rfl
 have h2:pureS P (binOp .neq t (.agg xs) (.agg ys))=some (.bool !b):=by
  simp only[binOp,pureS_bindE,Op.equal,Op.maxDepth,pureS_struct 9999 t xs ys ht hp,hf,Option.bind_some]
  rfl
 rw[pureD,pureS_bindE,h1,Option.bind_some,h2]
 rfl
variable {ty:Tys} {tt:TypeId→Option TT} {ι ι' w:Ids} {S S':Store} {te te1:List TV} {env:List DV} {tS tS1:List TB} {iso:IsoF} {call:CallF} {yf:YldF} {o:Oper} {nid nT B:Nat} {ops:Array Oper}
theorem wq_bin {k:Nat} {dst:Option Tmp} {op:BinOp} {t:TypeId} {x y:Operand} {u:TypeId} {a b v:Value} {Q:List TV→Prop} (ho:(ops[k]?).bind (fun o=>match o.op with | .binOp op t x y u=>if wantedT ops te o=some true then some (op,t,x,y,u,o.dst) else none | _=>none)=some (op,t,x,y,u,dst)) (hx:(evT te x).bind toValT=some a) (hy:(evT te y).bind toValT=some b)
  (hv:pureD P (do eqGuard op t x y a b; binOp op t a b)=some (.val v)) (h:WQ P ty iso call yf ops tS (k+1) (putTV te dst (.val v)) Q):WQ P ty iso call yf ops tS k te Q:=by
 simp only[Option.bind_eq_some_iff] at ho
 obtain⟨o,h1,h2⟩:=ho
 split at h2
 ·rename_i op' t' x' y' u' hop
  split at h2
  ·rename_i hw
   cases h2
   refine wq_pure (tt:=fun _=>none) (c:=True) h1 hw ?_ trivial h
   simp only[pureT,hop,hx,hy,hv,valT,Option.map_some]
  ·cases h2
 ·cases h2
theorem wl_bin {k:Nat} {dst:Option Tmp} {op:BinOp} {t:TypeId} {x y:Operand} {u:TypeId} {a b v:Value} {Q:List TV→List TB→Prop} (ho:(ops[k]?).bind (fun o=>match o.op with | .binOp op t x y u=>if wantedT ops te o=some true then some (op,t,x,y,u,o.dst) else none | _=>none)=some (op,t,x,y,u,dst)) (hx:(evT te x).bind toValT=some a) (hy:(evT te y).bind toValT=some b)
  (hv:pureD P (do eqGuard op t x y a b; binOp op t a b)=some (.val v)) (h:WL P ty iso call yf B ops (k+1) (putTV te dst (.val v)) tS Q):WL P ty iso call yf B ops k te tS Q:=by
 simp only[Option.bind_eq_some_iff] at ho
 obtain⟨o,h1,h2⟩:=ho
 split at h2
 ·rename_i op' t' x' y' u' hop
  split at h2
  ·rename_i hw
   cases h2
   have hst:stepT P ty (fun _=>none) te tS o tS.length=some ⟨.val v,te,tS,[],True⟩:=by
    simp only[stepT,pureT,hop,hx,hy,hv,valT,Option.map_some,readsT]
   refine wl_op h1 hw (does_step hst trivial false) ?_
   rintro v te' tS' ft ⟨rfl,rfl,rfl,-⟩
   exact h
  ·cases h2
 ·cases h2
theorem cmp_43 (a1 a2 b1 b2:Int) (x y:Operand):pureD Tp (do eqGuard .neq 43 x y (.agg #[.int .i64 a1,.int .i64 a2]) (.agg #[.int .i64 b1,.int .i64 b2]); binOp .neq 43 (.agg #[.int .i64 a1,.int .i64 a2]) (.agg #[.int .i64 b1,.int .i64 b2]))=some (.val (.bool !((a1==b1)&&((a2==b2)&&true)))):=by
 refine cmp_neq (by kernel_rfl) (by kernel_rfl) (by kernel_rfl) ?_ x y
 have e:(Tp.fieldsOf 43).toList=[(Tp.fieldsOf 43).toList.getD 0 default,(Tp.fieldsOf 43).toList.getD 1 default]:=by kernel_rfl
 rw[e]
 exact eqF_cons (k := .i64) (k' := .i64) (by kernel_rfl) (by kernel_rfl) (by kernel_rfl) (by kernel_rfl) (eqF_cons (k := .i64) (k' := .i64) (by kernel_rfl) (by kernel_rfl) (by kernel_rfl) (by kernel_rfl) eqF_nil)
end Go.Tv
end
