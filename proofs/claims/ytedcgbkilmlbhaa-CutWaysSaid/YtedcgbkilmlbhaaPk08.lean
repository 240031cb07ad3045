import Derived.Test.YtedcgbkilmlbhaaPk07
section
namespace Go.Tv
open Go Go.Di Go.Proofs
set_option maxRecDepth 100000
theorem getD_at {l:List Int} {i:Nat} (h:i<l.length):l.getD i 0=l[i]:=by simp[List.getD_eq_getElem?_getD,h]
theorem take_one {l:List Int} {i:Nat} (h:i<l.length):l.take (i+1)=l.take i++[l.getD i 0]:=by
 rw[getD_at h,List.take_append_getElem]
theorem drop_one {l:List Int} {i:Nat} (h:i<l.length):(l.drop (i+1)).reverse++[l.getD i 0]=(l.drop i).reverse:=by
 rw[getD_at h,List.drop_eq_getElem_cons h,List.reverse_cons]
theorem mem_getD {l:List Int} {i:Nat} (h:i<l.length):l.getD i 0∈l:=by
 rw[getD_at h]; exact List.getElem_mem _
def indexI (l:List Int) (x:Int):Int:=if x∈l then (l.idxOf x:Int) else -1
theorem indexI_at {l:List Int} {x:Int} {i:Nat} (h:i<l.length) (h1:x ∉ l.take i) (h2:l.getD i 0=x):indexI l x=i:=by
 have hm:x∈l:=by rw[← h2]; exact mem_getD h
 have e:l=l.take i++x::l.drop (i+1):=by
  rw[← h2,getD_at h,← List.drop_eq_getElem_cons h,List.take_append_drop]
 rw[indexI,if_pos hm]
 congr 1
 conv=>lhs; rw[e]
 rw[List.idxOf_append,if_neg h1,List.idxOf_cons_self,List.length_take]
 omega
abbrev dice (rest:List Int) (last:Int):List TV:=[.sl I64 rest .no,.val (.int .u64 last)]
theorem wrap_u64' (n:Int):IntKind.u64.wrap n=n % 18446744073709551616:=by simp[IntKind.wrap,IntKind.bits,IntKind.signed]
theorem u64_in (n:Int):0≤IntKind.u64.wrap n∧IntKind.u64.wrap n<18446744073709551616:=by rw[wrap_u64']; omega
theorem fdiv32 (a:Int):a.fdiv 4294967296=a / 4294967296:=Int.fdiv_eq_ediv_of_nonneg _ (by omega)
theorem hi_of {x n:Int} (h:IntKind.u64.wrap n=x):0≤x.fdiv 4294967296∧x.fdiv 4294967296<4294967296:=by
 have:=u64_in n
 rw[fdiv32,← h]; omega
theorem to_in {k m:Int} (hm:m≤1000) (h0:0<m) (hk:0≤k) (hk':k<4294967296):0≤IntKind.i64.wrap ((IntKind.u64.wrap (k*IntKind.u64.wrap (m+1))).fdiv 4294967296)∧(IntKind.i64.wrap ((IntKind.u64.wrap (k*IntKind.u64.wrap (m+1))).fdiv 4294967296)≤m∨IntKind.i64.wrap ((IntKind.u64.wrap (k*IntKind.u64.wrap (m+1))).fdiv 4294967296)=0):=by
 have h1:k*(m+1)≤4294967295*(m+1):=Int.mul_le_mul_of_nonneg_right (by omega) (by omega)
 have h2:0≤k*(m+1):=Int.mul_nonneg hk (by omega)
 rw[wrap_u64' (m+1),Int.emod_eq_of_lt (a:=m+1) (by omega) (by omega),fdiv32,wrap_u64']
 generalize k*(m+1)=p at *
 rw[Int.emod_eq_of_lt (by omega) (by omega),wr_i64 (by omega) (by omega)]
 omega
theorem all_snoc {α:Type} {P:α→Prop} {l:List α} {a:α} (h:∀ x∈l,P x) (ha:P a):∀ x∈l++[a],P x:=by
 intro x hx
 rcases List.mem_append.1 hx with hx | hx
 ·exact h x hx
 ·rw[List.mem_singleton.1 hx]; exact ha
theorem asc_snoc {l:List Int} {a:Int} (h:l.Pairwise (· < ·)) (ha:∀ x∈l,x<a):(l++[a]).Pairwise (· < ·):=by
 rw[List.pairwise_append]
 exact⟨h,List.pairwise_singleton _ _,fun x hx y hy=>by rw[List.mem_singleton.1 hy]; exact ha x hx⟩
theorem map_take_snoc {f:Int→Int} {l:List Int} {i:Nat} (h:i<l.length):(l.take i).map f++[f (l.getD i 0)]=(l.take (i+1)).map f:=by
 rw[take_one h,List.map_append]; rfl
abbrev pcV (u l:List Int) (w:Int) (ls:List Int):TV := .agg [.sl I64 u .no,.sl I64 l .no,ival w,.sl I64 ls .no]
abbrev Num (u l:List Int) (w:Int):Prop:=3≤u.length∧u.length≤8∧l.length=u.length∧0≤w∧w≤2
structure Ok (u l:List Int) (w:Int) (ls:List Int):Prop where
 n3:3≤u.length
 n8:u.length≤8
 len:l.length=u.length
 hu:∀ x∈u,0≤x∧x≤9
 hl:∀ x∈l,0≤x∧x≤9
 w0:0≤w
 w2:w≤2
 ne:ls≠[]
 lie:∀ x∈ls,0≤x∧x≤3
 asc:ls.Pairwise (· < ·)
def xorI (a b:Int):Int:=IntKind.i64.wrap ((BitVec.ofInt 64 a ^^^ BitVec.ofInt 64 b).toNat:Int)
def laidL (y:Int) (ls:List Int) (i:Nat):List Int:=((List.range i).map Int.ofNat).filter fun x=>decide (xorI x y∈ls)
theorem laidL_yes {y:Int} {ls:List Int} {i:Nat} (h:xorI i y∈ls):laidL y ls i++[(i:Int)]=laidL y ls (i+1):=by
 simp[laidL,List.range_succ,List.filter_append,h]
theorem laidL_no {y:Int} {ls:List Int} {i:Nat} (h:¬ xorI i y∈ls):laidL y ls i=laidL y ls (i+1):=by
 simp[laidL,List.range_succ,List.filter_append,h]
theorem laidL_len (y:Int) (ls:List Int) (i:Nat):(laidL y ls i).length≤i:=by
 unfold laidL
 refine Nat.le_trans (List.length_filter_le _ _) ?_
 simp
theorem laidL_asc (y:Int) (ls:List Int) (i:Nat):(laidL y ls i).Pairwise (· < ·):=by
 unfold laidL
 refine List.Pairwise.filter _ ?_
 rw[List.pairwise_map]
 exact(List.pairwise_lt_range (n:=i)).imp fun h=>Int.ofNat_lt.2 h
def inB (most x:Int):Bool:=decide (0≤x∧x≤most)
theorem all_one {most:Int} {l:List Int} {i:Nat} (h:i<l.length) (h1:(l.take i).all (inB most)=true) (h2:inB most (l.getD i 0)=true):(l.take (i+1)).all (inB most)=true:=by
 rw[take_one h,List.all_append,h1,List.all_cons,h2]; rfl
theorem not_all {most:Int} {l:List Int} {i:Nat} (h:i<l.length) (h2:inB most (l.getD i 0)=false):l.all (inB most)=false:=by
 refine Bool.eq_false_iff.2 fun h1 => ?_
 rw[List.all_eq_true.1 h1 _ (mem_getD h)] at h2
 cases h2
def lieE (ls:List Int) (i:Nat):Int:=if i<ls.length then (if ls.getD i 0<0∨3<ls.getD i 0 then 8 else if 0<i∧ls.getD i 0≤ls.getD (i-1) 0 then 5 else lieE ls (i+1)) else 0
 termination_by ls.length-i
def chk (u l:List Int) (w:Int) (ls:List Int):Int :=
 if u.length<3 then 7 else if 8<u.length then 6 else if l.length<u.length then 7 else if u.length<l.length then 6
 else if u.all (inB 9)=false∨l.all (inB 9)=false∨w<0∨2<w then 1 else if ls.length=0 then 7 else lieE ls 0
theorem lie_8 {ls:List Int} {i:Nat} (h:i<ls.length) (h1:ls.getD i 0<0∨3<ls.getD i 0):lieE ls i=8:=by rw[lieE,if_pos h,if_pos h1]
theorem lie_5 {ls:List Int} {i:Nat} (h:i<ls.length) (h1:¬ (ls.getD i 0<0∨3<ls.getD i 0)) (h2:0<i∧ls.getD i 0≤ls.getD (i-1) 0):lieE ls i=5:=by rw[lieE,if_pos h,if_neg h1,if_pos h2]
theorem lie_next {ls:List Int} {i:Nat} (h:i<ls.length) (h1:¬ (ls.getD i 0<0∨3<ls.getD i 0)) (h2:¬ (0<i∧ls.getD i 0≤ls.getD (i-1) 0)):lieE ls i=lieE ls (i+1):=by
 conv=>lhs; rw[lieE]
 rw[if_pos h,if_neg h1,if_neg h2]
theorem lie_0 {ls:List Int} {i:Nat} (h:¬ i<ls.length):lieE ls i=0:=by rw[lieE,if_neg h]
theorem chk_lie {u l:List Int} {w:Int} {ls:List Int} (h1:¬ u.length<3) (h2:¬ 8<u.length) (h3:¬ l.length<u.length) (h4:¬ u.length<l.length) (h5:(!u.all (inB 9))=false) (h6:(!l.all (inB 9))=false) (h7:¬ w<0) (h8:¬ 2<w) (h9:ls.length≠0):chk u l w ls=lieE ls 0:=by
 simp only[Bool.not_eq_eq_eq_not,Bool.not_false] at h5 h6
 rw[chk,if_neg h1,if_neg h2,if_neg h3,if_neg h4,if_neg (by rw[h5,h6]; simp[h7,h8]),if_neg h9]
abbrev PD:Type:=PieceT.den
abbrev pd (u l:List Int) (w:Int) (ls:List Int):PD:=(u,l,w,ls,())
def chkP (p:PD):Int:=chk p.1 p.2.1 p.2.2.1 p.2.2.2.1
def chkL:List PD→Int
 | []=>0
 | p::l=>if chkP p≠0 then chkP p else chkL l
theorem chkL_append {l m:List PD} (h:chkL l=0):chkL (l++m)=chkL m:=by
 induction l with
 | nil=>rfl
 | cons p l ih =>
  simp only[chkL] at h ⊢
  split at h
  ·rename_i h1; exact(h1 h).elim
  ·rename_i h1; simp only[List.cons_append,chkL,if_neg h1]; exact ih h
theorem chkL_at {l:List PD} {i:Nat} {d:PD} (h:i<l.length) (h1:chkL (l.take i)=0) (h2:chkP (l.getD i d)≠0):chkL l=chkP (l.getD i d):=by
 have e:l.getD i d=l[i]:=by simp[List.getD_eq_getElem?_getD,h]
 rw[e] at h2 ⊢
 conv=>lhs; rw[← List.take_append_drop i l,List.drop_eq_getElem_cons h]
 rw[chkL_append h1,chkL,if_pos h2]
theorem chkL_one {l:List PD} {i:Nat} {d:PD} (h:i<l.length) (h1:chkL (l.take i)=0) (h2:chkP (l.getD i d)=0):chkL (l.take (i+1))=0:=by
 have e:l.getD i d=l[i]:=by simp[List.getD_eq_getElem?_getD,h]
 rw[e] at h2
 rw[← List.take_append_getElem h,chkL_append h1,chkL,if_neg (by simp[h2])]; rfl
def shortP (p:PD):Prop:=p.1.length≤1000∧p.2.1.length≤1000∧p.2.2.2.1.length≤1000
theorem getD_all {P:PD→Prop} {l:List PD} {i:Nat} {d:PD} (h:i<l.length) (hl:∀ p∈l,P p):P (l.getD i d):=by
 have e:l.getD i d=l[i]:=by simp[List.getD_eq_getElem?_getD,h]
 rw[e]; exact hl _ (List.getElem_mem _)
abbrev edV (u l:List Int):TV := .agg [.sl I64 u .no,.sl I64 l .no]
def inH (l:List Int):Prop:=∀ x∈l,0≤x∧x≤9
theorem inH_at {l:List Int} {i:Nat} (h:inH l) (hi:i<l.length):0≤l.getD i 0∧l.getD i 0≤9:=h _ (mem_getD hi)
def colL (la ub:List Int) (s:Int):Nat→List Int
 | 0=>[]
 | i+1=>if 0≤(i:Int)+s∧(i:Int)+s<la.length then colL la ub s i++[ub.getD i 0+la.getD ((i:Int)+s).toNat 0] else colL la ub s i
def stS (st:Int×Int×Int) (x:Int):Int×Int×Int:=(if x<(if st.2.2=0 then x else st.1) then x else (if st.2.2=0 then x else st.1),if x>(if st.2.2=0 then x else st.2.1) then x else (if st.2.2=0 then x else st.2.1),st.2.2+1)
def stF (l:List Int):Int×Int×Int:=l.foldl stS (0,0,0)
theorem stF_snoc {l:List Int} {lo hi m x:Int} (h:stF l=(lo,hi,m)) (h0:m=0):stF (l++[x])=(if x<x then x else x,if x>x then x else x,m+1):=by
 subst h0
 rw[stF,List.foldl_append,← stF,h]; rfl
theorem stF_snoc' {l:List Int} {lo hi m x:Int} (h:stF l=(lo,hi,m)) (h0:m≠0):stF (l++[x])=(if x<lo then x else lo,if x>hi then x else hi,m+1):=by
 rw[stF,List.foldl_append,← stF,h]
 simp only[List.foldl_cons,List.foldl_nil,stS,if_neg h0]
theorem colL_none {la ub:List Int} {s:Int} (h:s ≤ -(ub.length:Int)∨(la.length:Int)≤s):colL la ub s ub.length=[]:=by
 have key:∀ i,i≤ub.length→colL la ub s i=[]:=by
  intro i
  induction i with
  | zero=>intro _; rfl
  | succ i ih=>intro hi; rw[colL,if_neg (by omega)]; exact ih (by omega)
 exact key _ (Nat.le_refl _)
abbrev stA (la ub:List Int) (s:Int):Int×Int×Int:=stF (colL la ub s ub.length)
def fitsAt (la ub:List Int) (wear s:Int):Bool:=decide (3≤(stF (colL la ub s ub.length)).2.2∧(stF (colL la ub s ub.length)).2.1-(stF (colL la ub s ub.length)).1≤wear)
def shL (la ub:List Int) (wear:Int) (k:Nat):List Int:=((List.range k).map fun(j:Nat)=>(j:Int)-(ub.length:Int)).filter (fitsAt la ub wear)
theorem shL_yes {la ub:List Int} {wear:Int} {k:Nat} (h:fitsAt la ub wear ((k:Int)-(ub.length:Int))=true):shL la ub wear k++[(k:Int)-(ub.length:Int)]=shL la ub wear (k+1):=by
 simp[shL,List.range_succ,List.filter_append,h]
theorem shL_no {la ub:List Int} {wear:Int} {k:Nat} (h:fitsAt la ub wear ((k:Int)-(ub.length:Int))=false):shL la ub wear k=shL la ub wear (k+1):=by
 simp[shL,List.range_succ,List.filter_append,h]
theorem shL_len (la ub:List Int) (wear:Int) (k:Nat):(shL la ub wear k).length≤k:=by
 unfold shL
 refine Nat.le_trans (List.length_filter_le _ _) ?_
 simp
theorem stF_in {l:List Int} (h:∀ x∈l,0≤x∧x≤18):0≤(stF l).1∧(stF l).1≤18∧0≤(stF l).2.1∧(stF l).2.1≤18∧0≤(stF l).2.2:=by
 have key:∀ (l:List Int) (st:Int×Int×Int),(∀ x∈l,0≤x∧x≤18)→(0≤st.1∧st.1≤18∧0≤st.2.1∧st.2.1≤18∧0≤st.2.2)→0≤(l.foldl stS st).1∧(l.foldl stS st).1≤18∧0≤(l.foldl stS st).2.1∧(l.foldl stS st).2.1≤18∧0≤(l.foldl stS st).2.2:=by
  intro l
  induction l with
  | nil=>intro st _ h; exact h
  | cons x l ih =>
   intro st hx h
   have h1:=hx x (by simp)
   refine ih _ (fun y hy=>hx y (by simp[hy])) ?_
   obtain⟨a,b,c⟩:=st
   simp only[stS] at h ⊢
   refine⟨?_,?_,?_,?_,?_⟩<;>(repeat' split)<;>omega
 exact key l _ h (by simp)
theorem colL_in {la ub:List Int} {s:Int} (h1:inH la) (h2:inH ub):∀ i,i≤ub.length→∀ x∈colL la ub s i,0≤x∧x≤18
 | 0,_,x,hx=>by cases hx
 | i+1,hi,x,hx=>by
  rw[colL] at hx
  split at hx
  ·rename_i hc
   rcases List.mem_append.1 hx with hx | hx
   ·exact colL_in h1 h2 i (by omega) x hx
   ·rw[List.mem_singleton] at hx
    have k1:=inH_at h2 (i:=i) (by omega)
    have k2:=inH_at h1 (i:=((i:Int)+s).toNat) (by omega)
    omega
  ·exact colL_in h1 h2 i (by omega) x hx
theorem stA_in {la ub:List Int} (s:Int) (h1:inH la) (h2:inH ub):0≤(stA la ub s).1∧(stA la ub s).1≤18∧0≤(stA la ub s).2.1∧(stA la ub s).2.1≤18∧0≤(stA la ub s).2.2:=stF_in (colL_in h1 h2 _ (Nat.le_refl _))
theorem all_inB {m:Int} {l:List Int}:l.all (inB m)=true↔∀ x∈l,0≤x∧x≤m:=by simp[inB]
theorem lieE_zero {ls:List Int}:∀ (n i:Nat),ls.length-i=n→(lieE ls i=0↔∀ j,i≤j→j<ls.length→(0≤ls.getD j 0∧ls.getD j 0≤3)∧(0<j→ls.getD (j-1) 0<ls.getD j 0)):=by
 intro n
 induction n with
 | zero=>intro i h; rw[lie_0 (by omega)]; exact⟨fun _ j h1 h2=>by omega,fun _=>rfl⟩
 | succ n ih =>
  intro i h
  by_cases h1:ls.getD i 0<0∨3<ls.getD i 0
  ·rw[lie_8 (by omega) h1]
   exact⟨fun e=>by omega,fun e=>by have:=(e i (Nat.le_refl _) (by omega)).1; omega⟩
  ·by_cases h2:0<i∧ls.getD i 0≤ls.getD (i-1) 0
   ·rw[lie_5 (by omega) h1 h2]
    exact⟨fun e=>by omega,fun e=>by have:=(e i (Nat.le_refl _) (by omega)).2 h2.1; omega⟩
   ·rw[lie_next (by omega) h1 h2,ih (i+1) (by omega)]
    refine⟨fun e j hj hj' => ?_,fun e j hj hj'=>e j (by omega) hj'⟩
    by_cases hij:j=i
    ·subst hij; exact⟨by omega,fun h3=>by omega⟩
    ·exact e j (by omega) hj'
theorem asc_of {ls:List Int} (h:∀ j,0<j→j<ls.length→ls.getD (j-1) 0<ls.getD j 0):ls.Pairwise (· < ·):=by
 rw[List.pairwise_iff_getElem]
 have key:∀ j i,i<j→(hj:j<ls.length)→ls.getD i 0<ls.getD j 0:=by
  intro j
  induction j with
  | zero=>intro i hi; omega
  | succ j ih =>
   intro i hi hj
   have h1:=h (j+1) (by omega) hj
   simp only[Nat.add_sub_cancel] at h1
   by_cases e:i=j
   ·subst e; exact h1
   ·have:=ih i (by omega) (by omega); omega
 intro i j hi hj hij
 have:=key j i hij hj
 rwa [getD_at hi,getD_at hj] at this
theorem of_asc {ls:List Int} (h:ls.Pairwise (· < ·)) {j:Nat} (h0:0<j) (hj:j<ls.length):ls.getD (j-1) 0<ls.getD j 0:=by
 rw[List.pairwise_iff_getElem] at h
 rw[getD_at hj,getD_at (by omega)]
 exact h _ _ _ _ (by omega)
theorem chk_ok {u l:List Int} {w:Int} {ls:List Int}:chk u l w ls=0↔Ok u l w ls:=by
 unfold chk
 constructor
 ·intro h
  split at h; omega
  split at h; omega
  split at h; omega
  split at h; omega
  split at h; omega
  split at h; omega
  rename_i h1 h2 h3 h4 h5 h6
  simp only[not_or,Bool.not_eq_false] at h5
  have hz:=(lieE_zero _ 0 rfl).1 h
  refine⟨by omega,by omega,by omega,all_inB.1 h5.1,all_inB.1 h5.2.1,by omega,by omega,fun e=>h6 (by rw[e]; rfl),fun x hx => ?_,asc_of fun j hj hj'=>(hz j (Nat.zero_le _) hj').2 hj⟩
  obtain⟨j,hj,rfl⟩:=List.getElem_of_mem hx
  have:=(hz j (Nat.zero_le _) hj).1
  rwa [getD_at hj] at this
 ·intro h
  have h1:=h.n3
  have h2:=h.n8
  have h3:=h.len
  have h4:=h.w0
  have h5:=h.w2
  have h6:ls.length≠0:=fun e=>h.ne (List.eq_nil_of_length_eq_zero e)
  rw[if_neg (by omega),if_neg (by omega),if_neg (by omega),if_neg (by omega),if_neg (by rw[all_inB.2 h.hu,all_inB.2 h.hl]; simp; omega),if_neg h6]
  exact(lieE_zero _ 0 rfl).2 fun j _ hj=>⟨h.lie _ (mem_getD hj),fun h0=>of_asc h.asc h0 hj⟩
def Sh (u l ls:List Int):Prop:=u.length≤1000∧l.length≤1000∧ls.length≤1000
theorem short2 {ua la lsa ub lb lsb:List Int} {wa wb:Int} (h1:Sh ua la lsa) (h2:Sh ub lb lsb):∀ p∈[pd ua la wa lsa,pd ub lb wb lsb],shortP p:=by
 intro p hp
 simp only[List.mem_cons,List.not_mem_nil,or_false] at hp
 rcases hp with rfl | rfl
 ·exact h1
 ·exact h2
theorem two_chkL {ua la lsa ub lb lsb:List Int} {wa wb:Int} (h1:Ok ua la wa lsa) (h2:Ok ub lb wb lsb):chkL [pd ua la wa lsa,pd ub lb wb lsb]=0:=by
 have e1:chkP (pd ua la wa lsa)=0:=chk_ok.2 h1
 have e2:chkP (pd ub lb wb lsb)=0:=chk_ok.2 h2
 simp[chkL,e1,e2]
theorem Ok.num {u l:List Int} {w:Int} {ls:List Int} (h:Ok u l w ls):(3≤u.length∧u.length≤8∧l.length=u.length∧0≤w∧w≤2)∧inH u∧inH l:=⟨⟨h.n3,h.n8,h.len,h.w0,h.w2⟩,h.hu,h.hl⟩
def cutD (la ub:List Int) (wa wb s:Int):RangeT.den:=((stF (colL la ub s ub.length)).2.1,(stF (colL la ub s ub.length)).1+wa+wb,())
theorem sh_ok {u l:List Int} {w:Int} {ls:List Int} (h:Ok u l w ls):Sh u l ls:=by
 refine⟨by have:=h.n8; omega,by have:=h.n8; have:=h.len; omega,?_⟩
 have key:∀ (ls:List Int) (m:Int),m≤4→(∀ x∈ls,m≤x∧x≤3)→ls.Pairwise (· < ·)→(ls.length:Int)≤4-m:=by
  intro ls
  induction ls with
  | nil=>intro m hm _ _; simp; omega
  | cons x ls ih =>
   intro m hm h1 h2
   rw[List.pairwise_cons] at h2
   have h3:=h1 x (by simp)
   have:=ih (x+1) (by omega) (fun y hy=>⟨by have:=h2.1 y hy; omega,(h1 y (by simp[hy])).2⟩) h2.2
   simp only[List.length_cons]
   omega
 have:=key ls 0 (by omega) h.lie h.asc
 omega
def colAt (la ub:List Int) (s:Int) (i:Nat):Option Int:=if 0≤(i:Int)+s∧(i:Int)+s<la.length then some (ub.getD i 0+la.getD ((i:Int)+s).toNat 0) else none
def layU (n:Int) (u l:List Int):List Int:=if n=1 then l.reverse else if n=2 then u.reverse else if n=3 then l else u
def layL (n:Int) (u l:List Int):List Int:=if n=1 then u.reverse else if n=2 then l.reverse else if n=3 then u else l
theorem ok_below {l a l1:List Int} {w:Int} {ls:List Int} (h:Ok a l1 w ls) (hn:l1.length=l.length) (hl:inH l):Ok (l.map (9-·)) l1 w ls where
 n3:=by have:=h.n3; have:=h.len; simp; omega
 n8:=by have:=h.n8; have:=h.len; simp; omega
 len:=by simp; omega
 hu:=fun x hx=>by
  simp only[List.mem_map] at hx
  obtain⟨y,hy,rfl⟩:=hx
  have:=hl y hy
  omega
 hl:=h.hl
 w0:=h.w0
 w2:=h.w2
 ne:=h.ne
 lie:=h.lie
 asc:=h.asc
def fitR (la ub:List Int) (w s:Int):Int×Int×Int:=if (stA la ub s).2.2<3 then (0,0,7) else if (stA la ub s).2.1-(stA la ub s).1>w then (0,0,11) else ((stA la ub s).2.1,(stA la ub s).1+w,0)
end Go.Tv
end
section
namespace Go.Tv
open Go Go.Di Go.Proofs
set_option maxRecDepth 100000
def D53:List TV→Dn
  | [.sl (.int .i64) l .no,.val (.int .i64 x)]=>some ([l.length≤1000],.res (bval (decide (x∈l))) [] [],[(3,.ex Nat fun i => .st { sl:=[(5,ival i)],good:=[i≤l.length,x ∉ l.take i],m:=l.length-i })])
  | _=>none
theorem v53:VI T0 Try.f35 [some .bool] D53:=by
  intro a p s j h hp
  unfold D53 at h
  split at h<;>cases h
  rename_i l x
  have h1:=hp.1
  refine vcp (A:=(∃ (a:Nat),(0:Int)=(↑a:Int)∧a≤l.length∧¬x∈List.take a l∧l.length-a<(1000000:Nat))∧∀ (a:Nat),a≤l.length→¬x∈List.take a l→vcIf (decide ((↑a:Int)<(↑l.length:Int))) (((0:Int)≤(↑a:Int)∧(↑a:Int)<(↑l.length:Int))∧vcIf (l.getD a (0:Int)==x) (true=decide (x∈l)∧True) (rng ((↑a:Int)+(1:Int))∧∃ (a_3:Nat),l=l∧x=x∧(↑a:Int)+(1:Int)=(↑a_3:Int)∧a_3≤l.length∧¬x∈List.take a_3 l∧l.length-a_3<l.length-a)) (false=decide (x∈l)∧True)) (by kernel_rfl) ?_
  simp only[vc_dec,vc_beq,vc_bne,vc_not,nil_e,rng,and_true,true_and,eq_self]
  refine⟨⟨0,by omega,by omega,by simp,by omega⟩,fun i h2 h3=>⟨fun h4=>⟨by omega,fun h5 => ?_,fun h5=>⟨by omega,i+1,by omega,by omega,?_,by omega⟩⟩,fun h4 => ?_⟩⟩
  · rw[decide_eq_true]; rw[← h5]; exact mem_getD (by omega)
  · rw[take_one (by omega)]; simp only[List.mem_append,List.mem_singleton,not_or]; exact⟨h3,fun e=>h5 e.symm⟩
  · rw[show i=l.length by omega,List.take_length] at h3; rw[decide_eq_false h3]
def D52:List TV→Dn
  | [.sl (.int .i64) l .no]=>some ([l.length≤1000],.res (.sl I64 l.reverse .no) [] [],[(4,.ex Nat fun i => .st { sl:=[(3,.sl I64 ((l.drop i).reverse) (.lab 0)),(4,ival ((i:Nat)-1:Int))],own:=[(3,1)],good:=[i≤l.length],m:=i })])
  | _=>none
theorem v52:VI T0 Try.f34 [some IntsT] D52:=by
  intro a p s j h hp
  unfold D52 at h
  split at h<;>cases h
  rename_i l
  have h1:=hp.1
  refine vcp (A:=rng ((↑l.length:Int)-(1:Int))∧(∃ (a:Nat),[]=(List.drop a l).reverse∧(↑l.length:Int)-(1:Int)=(↑a:Int)-(1:Int)∧a≤l.length∧a<(1000000:Nat))∧∀ (a:Nat),a≤l.length→vcIf (decide ((↑a:Int)-(1:Int)≥(0:Int))) (((0:Int)≤(↑a:Int)-(1:Int)∧(↑a:Int)-(1:Int)<(↑l.length:Int))∧(List.drop a l).reverse.length+(1:Nat)≤(1000000000:Nat)∧rng ((↑a:Int)-(1:Int)-(1:Int))∧∃ (a_2:Nat),l=l∧nilE I64.den∧(List.drop a l).reverse++[l.getD ((↑a:Int)-(1:Int)).toNat (0:Int)]=(List.drop a_2 l).reverse∧(↑a:Int)-(1:Int)-(1:Int)=(↑a_2:Int)-(1:Int)∧a_2≤l.length∧a_2<a) ((List.drop a l).reverse=l.reverse∧True)) (by kernel_rfl) ?_
  simp only[vc_dec,vc_beq,vc_bne,vc_not,nil_e,rng,and_true,true_and,eq_self]
  refine⟨by omega,⟨l.length,by simp,by omega,by omega,by omega⟩,fun i h2=>⟨fun h3=>⟨by omega,by simp; omega,by omega,i-1,?_,by omega,by omega,by omega⟩,fun h3 => ?_⟩⟩
  · obtain⟨j,rfl⟩:∃ j,i=j+1:=⟨i-1,by omega⟩
    rw[show ((j+1:Nat):Int)-1=(j:Int) by omega,Int.toNat_natCast,drop_one (by omega)]; rfl
  · rw[show i=0 by omega,List.drop_zero]
def D97:List TV→List TV→Dn
  | [.val (.int .i64 x),.ptr 0 0],[.val (.int .i64 most)]=>some ([],.res (bval (!inB most x)) [ival most] [],[])
  | _,_=>none
theorem v97:VC T0 Try.f103 [some .bool] [some I64] D97:=by
  intro a cs p s j h hp
  unfold D97 at h
  split at h<;>cases h
  rename_i x most
  refine vcp (A:=vcIf (decide (x<(0:Int))) (true = !inB most x∧most=most∧True) (decide (x>most) = !inB most x∧most=most∧True)) (by kernel_rfl) ?_
  simp only[vc_dec,vc_beq,vc_bne,vc_not,nil_e,rng,and_true,true_and,eq_self]
  refine⟨fun h => ?_,fun h => ?_⟩
  · rw[inB,decide_eq_false (by omega)]; rfl
  · rw[inB,← decide_not,decide_eq_decide]; omega
def T1:Tbl:=((T0.addI 35 fun a=>dS (D53 a)).addI 34 fun a=>dS (D52 a)).addC 103 fun a c=>dS (D97 a c)
def D109:List TV→List TV→Dn
  | [.sl (.int .i64) l .no,.fn 103 [] [.ptr 0 0]],[.val (.int .i64 most)]=>some ([l.length≤1000],.ex Int fun k => .res (ival k) [ival most] [if l.all (inB most) then k = -1 else 0≤k],[(3,.ex Nat fun i => .st { sl:=[(8,ival i)],good:=[i≤l.length,(l.take i).all (inB most)=true],m:=l.length-i })])
  | _,_=>none
theorem v109:VC T1 Try.f105 [some I64] [some I64] D109:=by
  intro a cs p s j h hp
  unfold D109 at h
  split at h<;>cases h
  rename_i l most
  have h1:=hp.1
  refine vcp (A:=(∃ (a:Nat),(0:Int)=(↑a:Int)∧a≤l.length∧(List.take a l).all (inB most)=true∧l.length-a<(1000000:Nat))∧∀ (a:Nat),a≤l.length→(List.take a l).all (inB most)=true→vcIf (decide ((↑a:Int)<(↑l.length:Int))) (((0:Int)≤(↑a:Int)∧(↑a:Int)<(↑l.length:Int))∧vcIf (!inB most (l.getD a (0:Int))) (∃ (a_3:Int),(↑a:Int)=a_3∧most=most∧(if l.all (inB most)=true then a_3=(-1:Int) else (0:Int)≤a_3)∧True) (rng ((↑a:Int)+(1:Int))∧∃ (a_3:Nat),l=l∧(↑l.length:Int)=(↑l.length:Int)∧(↑a:Int)+(1:Int)=(↑a_3:Int)∧most=most∧a_3≤l.length∧(List.take a_3 l).all (inB most)=true∧l.length-a_3<l.length-a)) (∃ (a:Int),(-1:Int)=a∧most=most∧(if l.all (inB most)=true then a=(-1:Int) else (0:Int)≤a)∧True)) (by kernel_rfl) ?_
  simp only[vc_dec,vc_beq,vc_bne,vc_not,nil_e,rng,and_true,true_and,eq_self]
  refine⟨⟨0,by omega,by omega,by simp,by omega⟩,fun i h2 h3=>⟨fun h4=>⟨by omega,?_⟩,fun h4 => ?_⟩⟩
  · rw[vc_iff]
    refine⟨fun h5=>⟨by omega,i+1,by omega,by omega,all_one (by omega) h3 h5,by omega⟩,fun h5=>⟨_,rfl,?_⟩⟩
    rw[not_all (i:=i) (by omega) h5]; simp
  · rw[show i=l.length by omega,List.take_length] at h3; exact⟨_,rfl,by rw[h3]; simp⟩
def D16:List TV→Dn
  | [.agg [.sl (.int .i64) u .no,.sl (.int .i64) l .no,.val (.int .i64 w),.sl (.int .i64) ls .no],.val (.int .i64 n)]=>some ([u.length≤1000,l.length≤1000,ls.length≤1000,0≤n,n≤3],.res (pcV (layU n u l) (layL n u l) w (laidL n ls 4)) [] [],
    [(2,.ex (List Int) fun u1 => .ex (List Int) fun l1 => .st { sl:=[(5,.ptr 13 0)],pl:=[(13,[.sl I64 u1 .no,.sl I64 l1 .no,ival w,.nils])],good:=[u1=if n=1∨n=3 then l.reverse else u,l1=if n=1∨n=3 then u.reverse else l] }),
     (4,.st { sl:=[(5,.ptr 13 0)],pl:=[(13,[.sl I64 (layU n u l) .no,.sl I64 (layL n u l) .no,ival w,.nils])] }),
     (8,.ex Nat fun i => .st { sl:=[(6,ival i)],pl:=[(13,[.sl I64 (layU n u l) .no,.sl I64 (layL n u l) .no,ival w,.sl I64 (laidL n ls i) (.lab 14)])],own:=[(3,1)],good:=[i≤4],m:=4-i })])
  | _=>none
theorem v16:VI T1 Try.f12 [some PieceT] D16:=by
  intro a p s j h hp
  unfold D16 at h
  split at h<;>cases h
  rename_i u l w ls n
  obtain⟨h1,h2,h3,h4,h5,-⟩:=hp
  refine vcp (A:=(0:Nat)+u.length≤(1000000000:Nat)∧(0:Nat)+l.length≤(1000000000:Nat)∧vcIf (n==(1:Int)) (l.length≤(1000:Nat)∧u.length≤(1000:Nat)∧∃ (a:List Int),∃ (a_1:List Int),n=n∧u=u∧l=l∧w=w∧ls=ls∧(0:Int)=(0:Int)∧l.reverse=a∧u.reverse=a_1∧w=w∧(a=if n=(1:Int)∨n=(3:Int) then l.reverse else u)∧(a_1=if n=(1:Int)∨n=(3:Int) then u.reverse else l)∧True) (vcIf (n==(3:Int)) (l.length≤(1000:Nat)∧u.length≤(1000:Nat)∧∃ (a:List Int),∃ (a_1:List Int),n=n∧u=u∧l=l∧w=w∧ls=ls∧(0:Int)=(0:Int)∧l.reverse=a∧u.reverse=a_1∧w=w∧(a=if n=(1:Int)∨n=(3:Int) then l.reverse else u)∧(a_1=if n=(1:Int)∨n=(3:Int) then u.reverse else l)∧True) (∃ (a:List Int),∃ (a_1:List Int),n=n∧u=u∧l=l∧w=w∧ls=ls∧(0:Int)=(0:Int)∧u=a∧l=a_1∧w=w∧(a=if n=(1:Int)∨n=(3:Int) then l.reverse else u)∧(a_1=if n=(1:Int)∨n=(3:Int) then u.reverse else l)∧True))∧∀ (a a_1:List Int),(a=if n=(1:Int)∨n=(3:Int) then l.reverse else u)→(a_1=if n=(1:Int)∨n=(3:Int) then u.reverse else l)→vcIf (n==(2:Int)) (a.length≤(1000:Nat)∧a_1.length≤(1000:Nat)∧n=n∧u=u∧l=l∧w=w∧ls=ls∧(0:Int)=(0:Int)∧a.reverse=layU n u l∧a_1.reverse=layL n u l∧w=w∧True) (vcIf (n==(3:Int)) (a.length≤(1000:Nat)∧a_1.length≤(1000:Nat)∧n=n∧u=u∧l=l∧w=w∧ls=ls∧(0:Int)=(0:Int)∧a.reverse=layU n u l∧a_1.reverse=layL n u l∧w=w∧True) (n=n∧u=u∧l=l∧w=w∧ls=ls∧(0:Int)=(0:Int)∧a=layU n u l∧a_1=layL n u l∧w=w∧True))∧(∃ (a:Nat),(0:Int)=(↑a:Int)∧layU n u l=layU n u l∧layL n u l=layL n u l∧w=w∧[]=laidL n ls a∧a≤(4:Nat)∧(4:Nat)-a<(1000000:Nat))∧∀ (a:Nat),a≤(4:Nat)→vcIf (decide ((↑a:Int)≤(3:Int))) (ls.length≤(1000:Nat)∧vcIf (decide (IntKind.i64.wrap (↑(BitVec.ofInt (64:Nat) (↑a:Int) ^^^ BitVec.ofInt (64:Nat) n).toNat:Int)∈ls)) ((laidL n ls a).length+(1:Nat)≤(1000000000:Nat)∧rng ((↑a:Int)+(1:Int))∧∃ (a_5:Nat),n=n∧(↑a:Int)+(1:Int)=(↑a_5:Int)∧u=u∧l=l∧w=w∧ls=ls∧(0:Int)=(0:Int)∧layU n u l=layU n u l∧layL n u l=layL n u l∧w=w∧laidL n ls a++[(↑a:Int)]=laidL n ls a_5∧a_5≤(4:Nat)∧(4:Nat)-a_5<(4:Nat)-a) (rng ((↑a:Int)+(1:Int))∧∃ (a_5:Nat),n=n∧(↑a:Int)+(1:Int)=(↑a_5:Int)∧u=u∧l=l∧w=w∧ls=ls∧(0:Int)=(0:Int)∧layU n u l=layU n u l∧layL n u l=layL n u l∧w=w∧laidL n ls a=laidL n ls a_5∧a_5≤(4:Nat)∧(4:Nat)-a_5<(4:Nat)-a)) (layU n u l=layU n u l∧layL n u l=layL n u l∧w=w∧laidL n ls a=laidL n ls (4:Nat)∧True)) (by kernel_rfl) ?_
  simp only[vc_dec,vc_beq,vc_bne,rng,and_true,true_and,eq_self]
  refine⟨by omega,by omega,⟨fun e=>⟨h2,h1,_,_,rfl,rfl,by simp[e],by simp[e]⟩,fun e=>⟨fun e1=>⟨h2,h1,_,_,rfl,rfl,by simp[e1],by simp[e1]⟩,fun e1=>⟨_,_,rfl,rfl,by simp[e,e1],by simp[e,e1]⟩⟩⟩,?_⟩
  rintro _ _ rfl rfl
  refine⟨⟨fun e=>⟨by split<;>simp_all,by split<;>simp_all,by simp[e,layU],by simp[e,layL]⟩,fun e=>⟨fun e1=>⟨by split<;>simp_all,by split<;>simp_all,by simp[e1,layU],by simp[e1,layL]⟩,fun e1=>⟨by simp[e,e1,layU],by simp[e,e1,layL]⟩⟩⟩,⟨0,rfl,rfl,by omega,by omega⟩,fun i hi=>⟨fun h=>⟨h3,?_⟩,fun h=>by rw[show i=4 by omega]⟩⟩
  have hx:=laidL_len n ls i
  change (xorI i n∈ls→_)∧(¬ xorI i n∈ls→_)
  exact⟨fun h=>⟨by omega,by omega,i+1,by omega,laidL_yes h,by omega,by omega⟩,fun h=>⟨by omega,i+1,by omega,laidL_no h,by omega,by omega⟩⟩
section
variable {tab:IsoF} (tk:TabK tab)
include tk
theorem tok1:TOK tab 1 T1:=mkC (tok_0 tk) Try.func103 rfl v97 (mkI tk (tok_0 tk) (by decide) Try.func34 rfl v52 (mkI tk (tok_0 tk) (by decide) Try.func35 rfl v53 (tok_up (tok_0 tk))))
end
end Go.Tv
end
section
namespace Go.Tv
open Go Go.Di Go.Proofs
set_option maxRecDepth 100000
abbrev diceS (v:Int→TV) (f:Int→List Prop):SpT := .ex Int fun k => .ex (List Int) fun r => .ex Int fun z => .res (v k) (dice r z) (f k)
def D81:List TV→List TV→Dn
 | [.ptr 0 0],[.sl (.int .i64) _ .no,.val (.int .u64 z)]=>some ([],diceS (fun k => .val (.int .u64 k)) fun k=>[0≤k,k<4294967296],[(2,.ex Int fun k => .ex (List Int) fun r => .st { sl:=[(3,.val (.int .u64 k))],pl:=[(0,dice r z)] })])
 | _,_=>none
theorem v81:VC T0 Try.f55 [some (.int .u64)] [some IntsT,some (.int .u64)] D81:=by
 intro a cs p s j h hp
 unfold D81 at h
 split at h<;>cases h
 rename_i r z
 refine vcp (A:=vcIf (decide ((↑r.length:Int)>(0:Int))) (((0:Int)≤(0:Int)∧(0:Int)<(↑r.length:Int))∧((0:Int)≤(1:Int)∧(1:Int)≤(↑r.length:Int))∧∃ (a:Int),∃ (a_1:List Int),(0:Int)=(0:Int)∧IntKind.u64.wrap (r.getD (0:Nat) (0:Int))=a∧List.drop (1:Nat) r=a_1∧z=z∧True) (∃ (a:Int),∃ (a_1:List Int),(0:Int)=(0:Int)∧(0:Int)=a∧r=a_1∧z=z∧True)∧∀ (a:Int) (a_1:List Int),∃ (a_2:Int),∃ (a_3:List Int),∃ (a_4:Int),(IntKind.u64.wrap (IntKind.u64.wrap (↑(BitVec.ofInt (64:Nat) (IntKind.u64.wrap (↑(BitVec.ofInt (64:Nat) (IntKind.u64.wrap (IntKind.u64.wrap (IntKind.u64.wrap (z+a)+(6364136223846793005:Int))*(15074714826142052245:Int))) ^^^ BitVec.ofInt (64:Nat) ((IntKind.u64.wrap (IntKind.u64.wrap (IntKind.u64.wrap (z+a)+(6364136223846793005:Int))*(15074714826142052245:Int))).fdiv (536870912:Int))).toNat:Int)) ^^^ BitVec.ofInt (64:Nat) ((IntKind.u64.wrap (↑(BitVec.ofInt (64:Nat) (IntKind.u64.wrap (IntKind.u64.wrap (IntKind.u64.wrap (z+a)+(6364136223846793005:Int))*(15074714826142052245:Int))) ^^^ BitVec.ofInt (64:Nat) ((IntKind.u64.wrap (IntKind.u64.wrap (IntKind.u64.wrap (z+a)+(6364136223846793005:Int))*(15074714826142052245:Int))).fdiv (536870912:Int))).toNat:Int)).fdiv (8589934592:Int))).toNat:Int)*(18397679294719823053:Int))).fdiv (4294967296:Int)=a_2∧a_1=a_3∧IntKind.u64.wrap (↑(BitVec.ofInt (64:Nat) (IntKind.u64.wrap (IntKind.u64.wrap (IntKind.u64.wrap (z+a)+(6364136223846793005:Int))*(15074714826142052245:Int))) ^^^ BitVec.ofInt (64:Nat) ((IntKind.u64.wrap (IntKind.u64.wrap (IntKind.u64.wrap (z+a)+(6364136223846793005:Int))*(15074714826142052245:Int))).fdiv (536870912:Int))).toNat:Int)=a_4∧(0:Int)≤a_2∧a_2<(4294967296:Int)∧True) (by kernel_rfl) ?_
 simp only[vc_dec,vc_beq,vc_bne,vc_not,nil_e,rng,and_true,true_and,eq_self]
 refine⟨⟨fun h=>⟨by omega,by omega,_,_,rfl,rfl⟩,fun h=>⟨_,_,rfl,rfl⟩⟩,fun k r1=>⟨_,_,_,rfl,rfl,rfl,(hi_of rfl).1,(hi_of rfl).2⟩⟩
def D11:List TV→Dn
 | [.sl (.int .i64) l .no]=>some ([],.res .unk (dice l 1) [],[])
 | _=>none
theorem v11:VN T0 Try.f7 [some IntsT,some (.int .u64)] D11:=by
 intro a p s j h hp
 unfold D11 at h
 split at h<;>cases h
 rename_i l
 refine vcp (A:=l=l∧(1:Int)=(1:Int)∧True) (by kernel_rfl) ?_
 exact⟨rfl,rfl,trivial⟩
def D60:List TV→Dn
 | [.agg [.sl (.int .i64) ua .no,.sl (.int .i64) la .no],.agg [.sl (.int .i64) ub .no,.sl (.int .i64) lb .no],.val (.int .i64 s)]=>some ([la.length≤1000,ub.length≤1000,inH la,inH ub],.res (.tup [ival (stA la ub s).1,ival (stA la ub s).2.1,ival (stA la ub s).2.2]) [] [],
  [(6,.ex Nat fun i => .ex Int fun lo => .ex Int fun hi => .ex Int fun m => .st { sl:=[(6,ival lo),(7,ival hi),(8,ival m),(29,ival i)],good:=[i≤ub.length,0≤m,m≤i,stF (colL la ub s i)=(lo,hi,m)],m:=ub.length-i })])
 | _=>none
theorem v60:VI T0 Try.f51 [some I64,some I64,some I64] D60:=by
 intro a p s j h hp
 unfold D60 at h
 split at h<;>cases h
 rename_i ua la ub lb s
 obtain⟨h1,h2,h5,h6,-⟩:=hp
 refine vcp (A:=rng (-(↑ub.length:Int))∧vcIf (decide (s ≤ -(↑ub.length:Int))) ((0:Int)=(stA la ub s).fst∧(0:Int)=(stA la ub s).snd.fst∧(0:Int)=(stA la ub s).snd.snd∧True) (vcIf (decide (s≥(↑la.length:Int))) ((0:Int)=(stA la ub s).fst∧(0:Int)=(stA la ub s).snd.fst∧(0:Int)=(stA la ub s).snd.snd∧True) ((∃ (a:Nat),∃ (a_1:Int),∃ (a_2:Int),∃ (a_3:Int),(0:Int)=a_1∧(0:Int)=a_2∧(0:Int)=a_3∧(0:Int)=(↑a:Int)∧a≤ub.length∧(0:Int)≤a_3∧a_3≤(↑a:Int)∧stF (colL la ub s a)=(a_1,a_2,a_3)∧ub.length-a<(1000000:Nat))∧∀ (a:Nat) (a_1 a_2 a_3:Int),a≤ub.length→(0:Int)≤a_3→a_3≤(↑a:Int)→stF (colL la ub s a)=(a_1,a_2,a_3)→vcIf (decide ((↑a:Int)<(↑ub.length:Int))) (((0:Int)≤(↑a:Int)∧(↑a:Int)<(↑ub.length:Int))∧rng ((↑a:Int)+s)∧vcIf (decide ((↑a:Int)+s<(0:Int))) (rng ((↑a:Int)+(1:Int))∧∃ (a_8:Nat),∃ (a_9:Int),∃ (a_10:Int),∃ (a_11:Int),s=s∧a_1=a_9∧a_2=a_10∧a_3=a_11∧ub=ub∧(↑ub.length:Int)=(↑ub.length:Int)∧(↑a:Int)+(1:Int)=(↑a_8:Int)∧ua=ua∧la=la∧ub=ub∧lb=lb∧a_8≤ub.length∧(0:Int)≤a_11∧a_11≤(↑a_8:Int)∧stF (colL la ub s a_8)=(a_9,a_10,a_11)∧ub.length-a_8<ub.length-a) (vcIf (decide ((↑a:Int)+s≥(↑la.length:Int))) (rng ((↑a:Int)+(1:Int))∧∃ (a_8:Nat),∃ (a_9:Int),∃ (a_10:Int),∃ (a_11:Int),s=s∧a_1=a_9∧a_2=a_10∧a_3=a_11∧ub=ub∧(↑ub.length:Int)=(↑ub.length:Int)∧(↑a:Int)+(1:Int)=(↑a_8:Int)∧ua=ua∧la=la∧ub=ub∧lb=lb∧a_8≤ub.length∧(0:Int)≤a_11∧a_11≤(↑a_8:Int)∧stF (colL la ub s a_8)=(a_9,a_10,a_11)∧ub.length-a_8<ub.length-a) (((0:Int)≤(↑a:Int)+s∧(↑a:Int)+s<(↑la.length:Int))∧rng (ub.getD a (0:Int)+la.getD ((↑a:Int)+s).toNat (0:Int))∧vcIf (a_3==(0:Int)) (rng (a_3+(1:Int))∧rng ((↑a:Int)+(1:Int))∧∃ (a_8:Nat),∃ (a_9:Int),∃ (a_10:Int),∃ (a_11:Int),s=s∧(if ub.getD a (0:Int)+la.getD ((↑a:Int)+s).toNat (0:Int)<ub.getD a (0:Int)+la.getD ((↑a:Int)+s).toNat (0:Int) then ub.getD a (0:Int)+la.getD ((↑a:Int)+s).toNat (0:Int) else ub.getD a (0:Int)+la.getD ((↑a:Int)+s).toNat (0:Int))=a_9∧(if ub.getD a (0:Int)+la.getD ((↑a:Int)+s).toNat (0:Int)>ub.getD a (0:Int)+la.getD ((↑a:Int)+s).toNat (0:Int) then ub.getD a (0:Int)+la.getD ((↑a:Int)+s).toNat (0:Int) else ub.getD a (0:Int)+la.getD ((↑a:Int)+s).toNat (0:Int))=a_10∧a_3+(1:Int)=a_11∧ub=ub∧(↑ub.length:Int)=(↑ub.length:Int)∧(↑a:Int)+(1:Int)=(↑a_8:Int)∧ua=ua∧la=la∧ub=ub∧lb=lb∧a_8≤ub.length∧(0:Int)≤a_11∧a_11≤(↑a_8:Int)∧stF (colL la ub s a_8)=(a_9,a_10,a_11)∧ub.length-a_8<ub.length-a) (rng (a_3+(1:Int))∧rng ((↑a:Int)+(1:Int))∧∃ (a_8:Nat),∃ (a_9:Int),∃ (a_10:Int),∃ (a_11:Int),s=s∧(if ub.getD a (0:Int)+la.getD ((↑a:Int)+s).toNat (0:Int)<a_1 then ub.getD a (0:Int)+la.getD ((↑a:Int)+s).toNat (0:Int) else a_1)=a_9∧(if ub.getD a (0:Int)+la.getD ((↑a:Int)+s).toNat (0:Int)>a_2 then ub.getD a (0:Int)+la.getD ((↑a:Int)+s).toNat (0:Int) else a_2)=a_10∧a_3+(1:Int)=a_11∧ub=ub∧(↑ub.length:Int)=(↑ub.length:Int)∧(↑a:Int)+(1:Int)=(↑a_8:Int)∧ua=ua∧la=la∧ub=ub∧lb=lb∧a_8≤ub.length∧(0:Int)≤a_11∧a_11≤(↑a_8:Int)∧stF (colL la ub s a_8)=(a_9,a_10,a_11)∧ub.length-a_8<ub.length-a)))) (a_1=(stA la ub s).fst∧a_2=(stA la ub s).snd.fst∧a_3=(stA la ub s).snd.snd∧True)))) (by kernel_rfl) ?_
 simp only[vc_dec,stA,vc_beq,vc_bne,vc_not,nil_e,rng,and_true,true_and,eq_self]
 refine⟨by omega,fun h=>by rw[colL_none (.inl h)]; exact⟨rfl,rfl,rfl⟩,fun _=>⟨fun h=>by rw[colL_none (.inr h)]; exact⟨rfl,rfl,rfl⟩,fun h=>⟨⟨0,0,0,0,rfl,rfl,rfl,rfl,by omega,by omega,by omega,rfl,by omega⟩,fun i lo hi m k1 k2 k3 k4=>⟨fun k5=>⟨by omega,by omega,fun k6=>⟨by omega,i+1,lo,hi,m,rfl,rfl,rfl,by omega,by omega,by omega,by omega,by rw[colL,if_neg (by omega)]; exact k4,by omega⟩,fun k6=>⟨fun k7=>⟨by omega,i+1,lo,hi,m,rfl,rfl,rfl,by omega,by omega,by omega,by omega,by rw[colL,if_neg (by omega)]; exact k4,by omega⟩,fun k7 => ?_⟩⟩,fun k5 => ?_⟩⟩⟩⟩
 ·have e1:=inH_at h6 (i:=i) (by omega)
  have e2:=inH_at h5 (i:=((i:Int)+s).toNat) (by omega)
  exact⟨by omega,by omega,fun k8=>⟨by omega,by omega,i+1,_,_,_,rfl,rfl,rfl,by omega,by omega,by omega,by omega,by rw[colL,if_pos (by omega)]; exact stF_snoc k4 k8,by omega⟩,fun k8=>⟨by omega,by omega,i+1,_,_,_,rfl,rfl,rfl,by omega,by omega,by omega,by omega,by rw[colL,if_pos (by omega)]; exact stF_snoc' k4 k8,by omega⟩⟩
 ·rw[show i=ub.length by omega] at k4
  rw[k4]; exact⟨rfl,rfl,rfl⟩
def T1b:Tbl:=((T1.addC 55 fun a c=>dS (D81 a c)).addN 7 fun a=>dS (D11 a)).addI 51 fun a=>dS (D60 a)
def D46:List TV→List TV→Dn
 | [.ptr 0 0,.val (.int .i64 m)],[.sl (.int .i64) _ .no,.val (.int .u64 _)]=>some ([m≤1000,-10000≤m],diceS ival fun k=>[0≤k,k≤m∨k=0],[])
 | _,_=>none
theorem v46:VC T1b Try.f28 [some I64] [some IntsT,some (.int .u64)] D46:=by
 intro a cs p s j h hp
 unfold D46 at h
 split at h<;>cases h
 rename_i m r z
 obtain⟨h1,h2,-⟩:=hp
 refine vcp (A:=vcIf (decide (m≤(0:Int))) (∃ (a:Int),∃ (a_1:List Int),∃ (a_2:Int),(0:Int)=a∧r=a_1∧z=a_2∧(0:Int)≤a∧(a≤m∨a=(0:Int))∧True) (∀ (a:Int) (a_1:List Int) (a_2:Int),(0:Int)≤a→a<(4294967296:Int)→rng (m+(1:Int))∧∃ (a_5:Int),∃ (a_6:List Int),∃ (a_7:Int),IntKind.i64.wrap ((IntKind.u64.wrap (a*IntKind.u64.wrap (m+(1:Int)))).fdiv (4294967296:Int))=a_5∧a_1=a_6∧a_2=a_7∧(0:Int)≤a_5∧(a_5≤m∨a_5=(0:Int))∧True)) (by kernel_rfl) ?_
 simp only[vc_dec,vc_beq,vc_bne,vc_not,nil_e,rng,and_true,true_and,eq_self]
 exact⟨fun h=>⟨0,_,_,rfl,rfl,rfl,by omega,by omega⟩,fun h k r1 z1 h3 h4=>⟨by omega,_,_,_,rfl,rfl,rfl,(to_in h1 (by omega) h3 h4).1,(to_in h1 (by omega) h3 h4).2⟩⟩
def D65:List TV→Dn
 | [.agg [.sl (.int .i64) ua .no,.sl (.int .i64) la .no],.agg [.sl (.int .i64) ub .no,.sl (.int .i64) lb .no],.val (.int .i64 w)]=>some ([la.length≤100,ub.length≤100,inH la,inH ub],.res (.sl I64 (shL la ub w (ub.length+la.length+1)) .no) [] [],
  [(4,.ex Nat fun k => .st { sl:=[(7,.sl I64 (shL la ub w k) (.lab 2)),(8,ival ((k:Int)-(ub.length:Int)))],own:=[(3,1)],good:=[k≤ub.length+la.length+1],m:=ub.length+la.length+1-k })])
 | _=>none
theorem v65:VI T1b Try.f59 [some IntsT] D65:=by
 intro a p s j h hp
 unfold D65 at h
 split at h<;>cases h
 rename_i ua la ub lb w
 obtain⟨h1,h2,h3,h4,-⟩:=hp
 refine vcp (A:=rng (-(↑ub.length:Int))∧(∃ (a:Nat),[]=shL la ub w a ∧ -(↑ub.length:Int)=(↑a:Int)-(↑ub.length:Int)∧a≤ub.length+la.length+(1:Nat)∧ub.length+la.length+(1:Nat)-a<(1000000:Nat))∧∀ (a:Nat),a≤ub.length+la.length+(1:Nat)→vcIf (decide ((↑a:Int)-(↑ub.length:Int)≤(↑la.length:Int))) (la.length≤(1000:Nat)∧ub.length≤(1000:Nat)∧inH la∧inH ub∧vcIf (decide ((stA la ub ((↑a:Int)-(↑ub.length:Int))).snd.snd≥(3:Int))) (rng ((stA la ub ((↑a:Int)-(↑ub.length:Int))).snd.fst-(stA la ub ((↑a:Int)-(↑ub.length:Int))).fst)∧vcIf (decide ((stA la ub ((↑a:Int)-(↑ub.length:Int))).snd.fst-(stA la ub ((↑a:Int)-(↑ub.length:Int))).fst≤w)) ((shL la ub w a).length+(1:Nat)≤(1000000000:Nat)∧rng ((↑a:Int)-(↑ub.length:Int)+(1:Int))∧∃ (a_2:Nat),w=w∧nilE I64.den∧shL la ub w a++[(↑a:Int)-(↑ub.length:Int)]=shL la ub w a_2∧(↑a:Int)-(↑ub.length:Int)+(1:Int)=(↑a_2:Int)-(↑ub.length:Int)∧ua=ua∧la=la∧ub=ub∧lb=lb∧a_2≤ub.length+la.length+(1:Nat)∧ub.length+la.length+(1:Nat)-a_2<ub.length+la.length+(1:Nat)-a) (rng ((↑a:Int)-(↑ub.length:Int)+(1:Int))∧∃ (a_2:Nat),w=w∧nilE I64.den∧shL la ub w a=shL la ub w a_2∧(↑a:Int)-(↑ub.length:Int)+(1:Int)=(↑a_2:Int)-(↑ub.length:Int)∧ua=ua∧la=la∧ub=ub∧lb=lb∧a_2≤ub.length+la.length+(1:Nat)∧ub.length+la.length+(1:Nat)-a_2<ub.length+la.length+(1:Nat)-a)) (rng ((↑a:Int)-(↑ub.length:Int)+(1:Int))∧∃ (a_2:Nat),w=w∧nilE I64.den∧shL la ub w a=shL la ub w a_2∧(↑a:Int)-(↑ub.length:Int)+(1:Int)=(↑a_2:Int)-(↑ub.length:Int)∧ua=ua∧la=la∧ub=ub∧lb=lb∧a_2≤ub.length+la.length+(1:Nat)∧ub.length+la.length+(1:Nat)-a_2<ub.length+la.length+(1:Nat)-a)) (shL la ub w a=shL la ub w (ub.length+la.length+(1:Nat))∧True)) (by kernel_rfl) ?_
 simp only[vc_dec,stA,vc_beq,vc_bne,vc_not,nil_e,rng,and_true,true_and,eq_self]
 refine⟨by omega,⟨0,rfl,by omega,by omega,by omega⟩,fun k hk=>⟨fun h=>⟨by omega,by omega,h3,h4,?_⟩,fun h=>by rw[show k=ub.length+la.length+1 by omega]⟩⟩
 have e:=stA_in (ub:=ub) ((k:Int)-ub.length) h3 h4
 simp only[stA] at e
 have hl:=shL_len la ub w k
 exact⟨fun h5=>⟨by omega,fun h6=>⟨by omega,by omega,k+1,shL_yes (decide_eq_true ⟨h5,h6⟩),by omega,by omega,by omega⟩,fun h6=>⟨by omega,k+1,shL_no (decide_eq_false fun e=>h6 e.2),by omega,by omega,by omega⟩⟩,fun h5=>⟨by omega,k+1,shL_no (decide_eq_false fun e=>h5 e.1),by omega,by omega,by omega⟩⟩
def T2:Tbl:=(((T1b.addC 28 fun a c=>dS (D46 a c)).addI 12 fun a=>dS (D16 a)).addC 105 fun a c=>dS (D109 a c)).addI 59 fun a=>dS (D65 a)
def D19:List TV→List TV→Dn
 | [.ptr 0 0,.val (.int .i64 lo),.val (.int .i64 hi)],[.sl (.int .i64) _ .no,.val (.int .u64 _)]=>some ([-1000≤lo,lo≤1000,-1000≤hi,hi≤1000+lo,hi≤5000],diceS ival fun k=>[lo≤k,k≤hi∨k=lo],[])
 | _,_=>none
theorem v19:VC T2 Try.f24 [some I64] [some IntsT,some (.int .u64)] D19:=by
 intro a cs p s j h hp
 unfold D19 at h
 split at h<;>cases h
 rename_i lo hi r z
 obtain⟨h1,h2,h3,h4,h5,-⟩:=hp
 refine vcp (A:=rng (hi-lo)∧hi-lo≤(1000:Int)∧(-10000:Int)≤hi-lo∧∀ (a:Int) (a_1:List Int) (a_2:Int),(0:Int)≤a→a≤hi-lo∨a=(0:Int)→rng (lo+a)∧∃ (a_5:Int),∃ (a_6:List Int),∃ (a_7:Int),lo+a=a_5∧a_1=a_6∧a_2=a_7∧lo≤a_5∧(a_5≤hi∨a_5=lo)∧True) (by kernel_rfl) ?_
 simp only[vc_dec,vc_beq,vc_bne,vc_not,nil_e,rng,and_true,true_and,eq_self]
 exact⟨by omega,by omega,by omega,fun k r1 z1 h6 h7=>⟨by omega,_,_,_,rfl,rfl,rfl,by omega,by omega⟩⟩
def D27:List TV→List TV→Dn
 | [.ptr 0 0,.val (.int .i64 m)],[.sl (.int .i64) _ .no,.val (.int .u64 _)]=>some ([m≤1000,0≤m],.ex Bool fun b=>diceS (fun _=>bval b) fun _=>[],[])
 | _,_=>none
theorem v27:VC T2 Try.f41 [some .bool] [some IntsT,some (.int .u64)] D27:=by
 intro a cs p s j h hp
 unfold D27 at h
 split at h<;>cases h
 rename_i m r z
 obtain⟨h1,h2,-⟩:=hp
 refine vcp (A:=rng (m-(1:Int))∧m-(1:Int)≤(1000:Int)∧(-10000:Int)≤m-(1:Int)∧∀ (a:Int) (a_1:List Int) (a_2:Int),(0:Int)≤a→a≤m-(1:Int)∨a=(0:Int)→∃ (a_5:Bool),∃ (a_6:Int),∃ (a_7:List Int),∃ (a_8:Int),(a==IntKind.i64.wrap (m.tdiv (2:Int)))=a_5∧a_1=a_7∧a_2=a_8∧True) (by kernel_rfl) ?_
 simp only[vc_dec,vc_beq,vc_bne,vc_not,nil_e,rng,and_true,true_and,eq_self]
 exact⟨by omega,by omega,by omega,fun k r1 z1 _ _=>⟨_,0,_,_,rfl,rfl,rfl⟩⟩
def D45:List TV→List TV→Dn
 | [.ptr 0 0,.sl (.int .i64) l .no],[.sl (.int .i64) _ .no,.val (.int .u64 _)]=>some ([0<l.length,l.length≤1000],diceS ival fun k=>[k∈l],[])
 | _,_=>none
theorem v45:VC T2 Try.f27 [some I64] [some IntsT,some (.int .u64)] D45:=by
 intro a cs p s j h hp
 unfold D45 at h
 split at h<;>cases h
 rename_i l r z
 obtain⟨h1,h2,-⟩:=hp
 refine vcp (A:=rng ((↑l.length:Int)-(1:Int))∧(↑l.length:Int)-(1:Int)≤(1000:Int)∧(-10000:Int)≤(↑l.length:Int)-(1:Int)∧∀ (a:Int) (a_1:List Int) (a_2:Int),(0:Int)≤a→a≤(↑l.length:Int)-(1:Int)∨a=(0:Int)→((0:Int)≤a∧a<(↑l.length:Int))∧∃ (a_5:Int),∃ (a_6:List Int),∃ (a_7:Int),l.getD a.toNat (0:Int)=a_5∧a_1=a_6∧a_2=a_7∧a_5∈l∧True) (by kernel_rfl) ?_
 simp only[vc_dec,vc_beq,vc_bne,vc_not,nil_e,rng,and_true,true_and,eq_self]
 exact⟨by omega,by omega,by omega,fun k r1 z1 h3 h4=>⟨by omega,_,_,_,rfl,rfl,rfl,mem_getD (by omega)⟩⟩
def D96:List TV→List TV→Dn
 | [.sl (.int .i64) l .no,.fn 103 [] [.ptr 0 0]],[.val (.int .i64 most)]=>some ([l.length≤1000],.res (bval (!l.all (inB most))) [ival most] [],[])
 | _,_=>none
theorem v96:VC T2 Try.f102 [some .bool] [some I64] D96:=by
 intro a cs p s j h hp
 unfold D96 at h
 split at h<;>cases h
 rename_i l most
 have h1:=hp.1
 refine vcp (A:=l.length≤(1000:Nat)∧∀ (a:Int),(if l.all (inB most)=true then a=(-1:Int) else (0:Int)≤a)→decide (a≥(0:Int)) = !l.all (inB most)∧most=most∧True) (by kernel_rfl) ?_
 simp only[vc_dec,vc_beq,vc_bne,vc_not,nil_e,rng,and_true,true_and,eq_self]
 refine⟨h1,fun k hk => ?_⟩
 cases hl:l.all (inB most)<;>simp[hl] at hk ⊢<;>omega
def T3:Tbl:=(((T2.addC 24 fun a c=>dS (D19 a c)).addC 41 fun a c=>dS (D27 a c)).addC 27 fun a c=>dS (D45 a c)).addC 102 fun a c=>dS (D96 a c)
def D44:List TV→List TV→Dn
 | [.ptr 0 0,.val (.int .i64 c)],[.sl (.int .i64) _ .no,.val (.int .u64 _)]=>some ([0≤c,c≤100],.ex (List Int) fun o => .ex (List Int) fun r => .ex Int fun z => .res (.sl I64 o .no) (dice r z) [(o.length:Int)=c,inH o],
  [(5,.ex Nat fun i => .ex (List Int) fun o => .ex (List Int) fun r => .ex Int fun z => .st { sl:=[(6,.sl I64 o (.lab 1)),(7,ival i)],pl:=[(0,dice r z)],own:=[(3,1)],good:=[(i:Int)≤c,o.length=i,inH o],m:=c.toNat-i })])
 | _,_=>none
theorem v44:VC T3 Try.f26 [some IntsT] [some IntsT,some (.int .u64)] D44:=by
 intro a cs p s j h hp
 unfold D44 at h
 split at h<;>cases h
 rename_i c r z
 obtain⟨h1,h2,-⟩:=hp
 refine vcp (A:=(7:Int)≤(1000:Int)∧(-10000:Int)≤(7:Int)∧∀ (a:Int) (a_1:List Int) (a_2:Int),(0:Int)≤a→a≤(7:Int)∨a=(0:Int)→(0:Nat)<(3:Nat)∧(3:Nat)≤(1000:Nat)∧∀ (a_5:Int) (a_6:List Int) (a_7:Int),a_5∈[(0:Int),(2:Int),a]→(∃ (a:Nat),∃ (a_8:List Int),∃ (a_9:List Int),∃ (a_10:Int),[]=a_8∧(0:Int)=(↑a:Int)∧a_6=a_9∧a_7=a_10∧(↑a:Int)≤c∧a_8.length=a∧inH a_8∧c.toNat-a<(1000000:Nat))∧∀ (a:Nat) (a_8 a_9:List Int) (a_10:Int),(↑a:Int)≤c→a_8.length=a→inH a_8→vcIf (decide ((↑a:Int)<c)) ((0:Nat)<(4:Nat)∧(4:Nat)≤(1000:Nat)∧∀ (a_14:Int) (a_15:List Int) (a_16:Int),a_14∈[(0:Int),(0:Int),(1:Int),(2:Int)]→rng (a_5+a_14)∧a_8.length+(1:Nat)≤(1000000000:Nat)∧rng ((↑a:Int)+(1:Int))∧∃ (a_18:Nat),∃ (a_19:List Int),∃ (a_20:List Int),∃ (a_21:Int),c=c∧nilE I64.den∧a_5=a_5∧a_8++[a_5+a_14]=a_19∧(↑a:Int)+(1:Int)=(↑a_18:Int)∧a_15=a_20∧a_16=a_21∧(↑a_18:Int)≤c∧a_19.length=a_18∧inH a_19∧c.toNat-a_18<c.toNat-a) (∃ (a:List Int),∃ (a_14:List Int),∃ (a_15:Int),a_8=a∧a_9=a_14∧a_10=a_15∧(↑a.length:Int)=c∧inH a∧True)) (by kernel_rfl) ?_
 simp only[vc_dec,vc_beq,vc_bne,vc_not,nil_e,rng,and_true,true_and,eq_self]
 refine⟨by omega,by omega,fun k1 r1 z1 h3 h4=>⟨by omega,by omega,fun k2 r2 z2 h5 => ?_⟩⟩
 have h6:0≤k2∧k2≤7:=by simp at h5; omega
 refine⟨⟨0,[],r2,z2,rfl,rfl,rfl,rfl,h1,rfl,by simp[inH],by omega⟩,fun i o r3 z3 h6 h7 h8=>⟨fun h9=>⟨by omega,by omega,fun k4 r4 z4 h10 => ?_⟩,fun h9=>⟨_,_,_,rfl,rfl,rfl,by omega,h8⟩⟩⟩
 have h11:0≤k4∧k4≤2:=by simp at h10; omega
 exact⟨by omega,by omega,by omega,i+1,_,_,_,rfl,by omega,rfl,rfl,by omega,by simp[h7],all_snoc h8 (by omega),by omega⟩
def D47:List TV→List TV→Dn
 | [.ptr 0 0],[.sl (.int .i64) _ .no,.val (.int .u64 _)]=>some ([],.ex (List Int) fun o => .ex (List Int) fun r => .ex Int fun z => .res (.sl I64 o .no) (dice r z) [o≠[],∀ x∈o,0≤x∧x≤3,o.Pairwise (· < ·)],
  [(4,.ex Nat fun i => .ex (List Int) fun o => .ex (List Int) fun r => .ex Int fun z => .st { sl:=[(3,.sl I64 o (.lab 1)),(4,ival i)],pl:=[(0,dice r z)],own:=[(3,1)],good:=[i≤4,o.length≤i,∀ x∈o,0≤x∧x<i,o.Pairwise (· < ·)],m:=4-i })])
 | _,_=>none
theorem v47:VC T3 Try.f29 [some IntsT] [some IntsT,some (.int .u64)] D47:=by
 intro a cs p s j h hp
 unfold D47 at h
 split at h<;>cases h
 rename_i r z
 refine vcp (A:=(∃ (a:Nat),∃ (a_1:List Int),∃ (a_2:List Int),∃ (a_3:Int),[]=a_1∧(0:Int)=(↑a:Int)∧r=a_2∧z=a_3∧a≤(4:Nat)∧a_1.length≤a∧(∀ (x:Int),x∈a_1→(0:Int)≤x∧x<(↑a:Int))∧List.Pairwise (fun(x1 x2:Int)=>x1<x2) a_1∧(4:Nat)-a<(1000000:Nat))∧∀ (a:Nat) (a_1 a_2:List Int) (a_3:Int),a≤(4:Nat)→a_1.length≤a→(∀ (x:Int),x∈a_1→(0:Int)≤x∧x<(↑a:Int))→List.Pairwise (fun(x1 x2:Int)=>x1<x2) a_1→vcIf (decide ((↑a:Int)≤(3:Int))) ((2:Int)≤(1000:Int)∧(0:Int)≤(2:Int)∧∀ (a_8:Bool) (a_9:Int) (a_10:List Int) (a_11:Int),vcIf a_8 (a_1.length+(1:Nat)≤(1000000000:Nat)∧rng ((↑a:Int)+(1:Int))∧∃ (a_12:Nat),∃ (a_13:List Int),∃ (a_14:List Int),∃ (a_15:Int),nilE I64.den∧a_1++[(↑a:Int)]=a_13∧(↑a:Int)+(1:Int)=(↑a_12:Int)∧a_10=a_14∧a_11=a_15∧a_12≤(4:Nat)∧a_13.length≤a_12∧(∀ (x:Int),x∈a_13→(0:Int)≤x∧x<(↑a_12:Int))∧List.Pairwise (fun(x1 x2:Int)=>x1<x2) a_13∧(4:Nat)-a_12<(4:Nat)-a) (rng ((↑a:Int)+(1:Int))∧∃ (a_12:Nat),∃ (a_13:List Int),∃ (a_14:List Int),∃ (a_15:Int),nilE I64.den∧a_1=a_13∧(↑a:Int)+(1:Int)=(↑a_12:Int)∧a_10=a_14∧a_11=a_15∧a_12≤(4:Nat)∧a_13.length≤a_12∧(∀ (x:Int),x∈a_13→(0:Int)≤x∧x<(↑a_12:Int))∧List.Pairwise (fun(x1 x2:Int)=>x1<x2) a_13∧(4:Nat)-a_12<(4:Nat)-a)) (vcIf ((↑a_1.length:Int)==(0:Int)) ((3:Int)≤(1000:Int)∧(-10000:Int)≤(3:Int)∧∀ (a:Int) (a_8:List Int) (a_9:Int),(0:Int)≤a→a≤(3:Int)∨a=(0:Int)→∃ (a_12:List Int),∃ (a_13:List Int),∃ (a_14:Int),[a]=a_12∧a_8=a_13∧a_9=a_14∧a_12≠[]∧(∀ (x:Int),x∈a_12→(0:Int)≤x∧x≤(3:Int))∧List.Pairwise (fun(x1 x2:Int)=>x1<x2) a_12∧True) (∃ (a:List Int),∃ (a_8:List Int),∃ (a_9:Int),a_1=a∧a_2=a_8∧a_3=a_9∧a≠[]∧(∀ (x:Int),x∈a→(0:Int)≤x∧x≤(3:Int))∧List.Pairwise (fun(x1 x2:Int)=>x1<x2) a∧True))) (by kernel_rfl) ?_
 simp only[vc_dec,vc_beq,vc_bne,vc_not,nil_e,rng,and_true,true_and,eq_self]
 refine⟨⟨0,[],_,_,rfl,rfl,rfl,rfl,by omega,by simp,by simp,by simp,by omega⟩,fun i o r1 z1 h1 h2 h3 h4=>⟨fun h5=>⟨by omega,by omega,fun b _ r2 z2 => ?_⟩,fun h5=>⟨fun h6=>⟨by omega,by omega,fun k r2 z2 h7 h8=>⟨_,_,_,rfl,rfl,rfl,by simp,by simp; omega,by simp⟩⟩,fun h6=>⟨_,_,_,rfl,rfl,rfl,fun e=>h6 (by rw[e]; rfl),fun x hx=>by have:=h3 x hx; omega,h4⟩⟩⟩⟩
 rw[vc_iff]
 exact⟨fun _=>⟨by omega,by omega,i+1,_,_,_,rfl,by omega,rfl,rfl,by omega,by simp; omega,all_snoc (fun x hx=>by have:=h3 x hx; omega) (by omega),asc_snoc h4 (fun x hx=>(h3 x hx).2),by omega⟩,fun _=>⟨by omega,i+1,_,_,_,rfl,by omega,rfl,rfl,by omega,by omega,fun x hx=>by have:=h3 x hx; omega,h4,by omega⟩⟩
def D78:List TV→Dn
 | [.sl (.int .i64) l .no,.val (.int .i64 most)]=>some ([l.length≤1000],.res (bval (l.all (inB most))) [] [],[])
 | _=>none
theorem v78:VI T3 Try.f94 [some .bool] D78:=by
 intro a p s j h hp
 unfold D78 at h
 split at h<;>cases h
 rename_i l most
 have h1:=hp.1
 refine vcp (A:=l.length≤(1000:Nat)∧(!!l.all (inB most))=l.all (inB most)∧True) (by kernel_rfl) ?_
 exact⟨h1,Bool.not_not _,trivial⟩
def T4:Tbl:=((T3.addC 26 fun a c=>dS (D44 a c)).addC 29 fun a c=>dS (D47 a c)).addI 94 fun a=>dS (D78 a)
section
variable {tab:IsoF} (tk:TabK tab)
include tk
theorem tok1b:TOK tab 1 T1b:=mkI tk (tok_0 tk) (by decide) Try.func51 rfl v60 (mkN tk (tok_0 tk) (by decide) Try.func7 rfl v11 (mkC (tok_0 tk) Try.func55 rfl v81 (tok1 tk)))
theorem tok2:TOK tab 2 T2:=mkI tk (tok1b tk) (by decide) Try.func59 rfl v65 (mkC (tok1 tk) Try.func105 rfl v109 (mkI tk (tok1 tk) (by decide) Try.func12 rfl v16 (mkC (tok1b tk) Try.func28 rfl v46 (tok_up (tok1b tk)))))
theorem tok3:TOK tab 3 T3:=mkC (tok2 tk) Try.func102 rfl v96 (mkC (tok2 tk) Try.func27 rfl v45 (mkC (tok2 tk) Try.func41 rfl v27 (mkC (tok2 tk) Try.func24 rfl v19 (tok_up (tok2 tk)))))
theorem tok4:TOK tab 4 T4:=mkI tk (tok3 tk) (by decide) Try.func94 rfl v78 (mkC (tok3 tk) Try.func29 rfl v47 (mkC (tok3 tk) Try.func26 rfl v44 (tok_up (tok3 tk))))
end
end Go.Tv
end
