import Derived.Test.YtoccmmopffbbfaaPk11
namespace Go.Tv
open Go Go.Di Go.Proofs
set_option maxRecDepth 100000
theorem col_nine {la ub:List Int} (h:la.length=ub.length) (h9:∀ i,i<ub.length→ub.getD i 0+la.getD i 0=9):∀ n,n≤ub.length→colL la ub 0 n=List.replicate n 9
 | 0,_=>rfl
 | n+1,hn=>by
  rw[colL,if_pos (by omega),col_nine h h9 n (by omega),List.replicate_succ']
  congr 2
  rw[show ((n:Int)+0).toNat=n by omega]
  exact h9 n (by omega)
theorem st_nine:∀ n:Nat,stF (List.replicate (n+1) 9)=(9,9,(n:Int)+1)
 | 0=>rfl
 | n+1=>by
  rw[List.replicate_succ',stF_snoc' (st_nine n) (by omega)]
  simp
theorem stA_nine {la ub:List Int} (h:la.length=ub.length) (h3:3≤ub.length) (h9:∀ i,i<ub.length→ub.getD i 0+la.getD i 0=9):stA la ub 0=(9,9,(ub.length:Int)):=by
 unfold stA
 rw[col_nine h h9 _ (Nat.le_refl _)]
 obtain⟨n,hn⟩:∃ n,ub.length=n+1:=⟨ub.length-1,by omega⟩
 rw[hn,st_nine]
 simp
theorem st_le:∀ (l:List Int) (st:Int×Int×Int),0≤st.2.2→(st.2.2≠0→st.1≤st.2.1)→0≤(l.foldl stS st).2.2∧((l.foldl stS st).2.2≠0→(l.foldl stS st).1≤(l.foldl stS st).2.1)
 | [],st,h1,h2=>⟨h1,h2⟩
 | x::l,(a,b,c),h1,h2=>by
  simp only at h1 h2
  refine st_le l _ ?_ fun _ => ?_
  ·simp only[stS]; omega
  ·simp only[stS]
   by_cases hc:c=0
   ·simp[hc]
   ·have:=h2 hc
    simp only[if_neg hc]
    split<;>split<;>omega
theorem wearsS_nn {la ub:List Int} {nb k:Nat} {x:Int} (h:x∈wearsS la ub nb k):0≤x:=by
 simp only[wearsS,List.mem_filterMap] at h
 obtain⟨s,-,h⟩:=h
 split at h
 ·rename_i h3
  cases h
  have:=(st_le (colL la ub s ub.length) (0,0,0) (Int.le_refl _) fun h=>(h rfl).elim).2
  change (stA la ub s).2.2≠0→(stA la ub s).1≤(stA la ub s).2.1 at this
  have:=this (by omega)
  omega
 ·cases h
theorem wearsS_nine {la ub:List Int} {k:Nat} (hk:ub.length<k) (h:la.length=ub.length) (h3:3≤ub.length) (h9:∀ i,i<ub.length→ub.getD i 0+la.getD i 0=9):(0:Int)∈wearsS la ub ub.length k:=by
 simp only[wearsS,List.mem_filterMap]
 refine⟨0,List.mem_map.2 ⟨ub.length,List.mem_range.2 hk,by omega⟩,?_⟩
 rw[stA_nine h h3 h9,if_pos (by simp only; omega)]
 rfl
theorem wears_nn {ua la lsa ub lb lsb:List Int} {x:Int} (h:x∈wears ua la lsa ub lb lsb):0≤x:=by
 simp only[wears,wearsX,wearsY,List.mem_flatMap] at h
 obtain⟨_,-,_,-,h⟩:=h
 exact wearsS_nn h
theorem wears_at {ua la lsa ub lb lsb:List Int} {q:Int} (h1:q∈lsa) (h2:q∈lsb) (hl:(layL q ua la).length=(layU q ub lb).length) (hu:(layU q ub lb).length=ub.length) (h3:3≤ub.length) (h9:∀ i,i<(layU q ub lb).length→(layU q ub lb).getD i 0+(layL q ua la).getD i 0=9):(0:Int)∈wears ua la lsa ub lb lsb:=by
 simp only[wears,wearsX,wearsY,List.mem_flatMap]
 refine⟨q,h1,q,h2,?_⟩
 rw[← hu]
 exact wearsS_nine (by omega) hl (by omega) h9
theorem map_get {f:Int→Int} {l:List Int} {i:Nat} (h:i<l.length):(l.map f).getD i 0=f (l.getD i 0):=by
 rw[getD_at (by simpa using h),getD_at h,List.getElem_map]
theorem nine_one (c:List Int):∀ i,i<(c.map fun x=>9-x).length→(c.map fun x=>9-x).getD i 0+c.getD i 0=9:=fun i h=>by
 rw[map_get (by simpa using h)]; omega
theorem nine_two (c:List Int):∀ i,i<c.length→c.getD i 0+(c.map fun x=>9-x).getD i 0=9:=fun i h=>by
 rw[map_get h]; omega
theorem both_self (q:List Int):bothL q q=q:=List.filter_eq_self.2 fun x hx=>by simp[hx]
theorem split_zero {u l c q:List Int} {w:Int} (h:Ok u l w q) (hc:c.length=u.length):(0:Int)∈wears (c.map fun x=>9-x) l q u c q++wears u c q (c.map fun x=>9-x) l q:=by
 obtain⟨x,hx⟩:=List.exists_mem_of_ne_nil _ h.ne
 have hx3:=h.lie x hx
 have hn:=h.n3
 have e:x=0∨x=1∨x=2∨x=3:=by omega
 have m1:(c.map fun x=>9-x).reverse=c.reverse.map fun x=>9-x:=by rw[List.map_reverse]
 rcases e with rfl | rfl | rfl | rfl
 ·exact List.mem_append_right _ (wears_at hx hx (by simp[layL,layU]) (by simp[layU]) (by simp; omega) (nine_one c))
 ·refine List.mem_append_left _ (wears_at hx hx (by simp[layL,layU]) (by simp[layU,hc]) (by omega) ?_)
  change ∀ i,i<c.reverse.length→c.reverse.getD i 0+(c.map fun x=>9-x).reverse.getD i 0=9
  rw[m1]; exact nine_two c.reverse
 ·refine List.mem_append_right _ (wears_at hx hx (by simp[layL,layU]) (by simp[layU]) (by simp; omega) ?_)
  change ∀ i,i<(c.map fun x=>9-x).reverse.length→(c.map fun x=>9-x).reverse.getD i 0+c.reverse.getD i 0=9
  rw[m1]; exact nine_one c.reverse
 ·exact List.mem_append_left _ (wears_at hx hx (by simp[layL,layU]) (by simp[layU,hc]) (by omega) (nine_two c))
theorem split_least {u l c q:List Int} {w m:Int} (h:Ok u l w q) (hc:c.length=u.length) (hm:Least (wears (c.map fun x=>9-x) l q u c q++wears u c q (c.map fun x=>9-x) l q) m):m=0:=by
 have h0:0≤m:=by
  rcases List.mem_append.1 hm.1 with h | h<;>exact wears_nn h
 have:=hm.2 0 (split_zero h hc)
 omega
theorem split_ne {u l c q:List Int} {w:Int} (h:Ok u l w q) (hc:c.length=u.length):wears (c.map fun x=>9-x) l q u c q++wears u c q (c.map fun x=>9-x) l q≠[]:=fun e=>by
 have:=split_zero h hc
 rw[e] at this
 cases this
theorem split_st {u l c q:List Int} {w:Int} (h:Ok u l w q) (hc:c.length=u.length):stA c (c.map fun x=>9-x) 0=(9,9,(c.length:Int)):=by
 have h3:=h.n3
 rw[stA_nine (by simp) (by simp; omega) (nine_one c)]
 simp
theorem split_up {u l c q:List Int} {w:Int} (h:Ok u l w q) (hc:c.length=u.length) (hh:inH c):Ok u c w q:=⟨h.n3,h.n8,hc,h.hu,hh,h.w0,h.w2,h.ne,h.lie,h.asc⟩
theorem split_low {u l c q:List Int} {w:Int} (h:Ok u l w q) (hc:c.length=u.length) (hh:inH c):Ok (c.map fun x=>9-x) l w q:=by
 have h1:=h.n3
 have h2:=h.n8
 have h3:=h.len
 refine⟨by simp; omega,by simp; omega,by simp; omega,fun x hx => ?_,h.hl,h.w0,h.w2,h.ne,h.lie,h.asc⟩
 obtain⟨y,hy,rfl⟩:=List.mem_map.1 hx
 have:=hh y hy
 omega
def D10:List TV→Dn
 | [.sl (.int .i64) _ .no]=>some ([],.res (bval true) [] [],[])
 | _=>none
theorem v10:VI W12 Try.f10 [some .bool] D10:=by
 refine vi_of fun a => ?_
 unfold D10
 split
 rotate_left
 ·trivial
 rename_i nums
 intro hp
 refine vcq (A:=(3:Int)≤(8:Int)∧(8:Int)≤(8:Int)∧∀ (a a_1:List Int) (a_2:Int) (a_3 a_4:List Int) (a_5:Int),Ok a a_1 a_2 a_3→(↑a.length:Int)≤(8:Int)→Ok a a_1 a_2 a_3∧∀ (a_8 a_9:List Int) (a_10:Int),a_8.length=a.length→inH a_8→Ok a a_1 a_2 a_3∧a_8.length=a.length∧inH a_8∧(2:Nat)≤(1000:Nat)∧(∀ (p:(PieceT).den),p∈[(a,a_8,a_2,a_3,()),(List.map (fun(x:Int)=>(9:Int)-x) a_8,a_1,a_2,a_3,())]→shortP p)∧vcIf ((if (4:Nat)<(2:Nat) then (6:Int) else chkL [(a,a_8,a_2,a_3,()),(List.map (fun(x:Int)=>(9:Int)-x) a_8,a_1,a_2,a_3,())])!=(0:Int)) (false=true∧True) (Sh a a_8 a_3∧Sh (List.map (fun(x:Int)=>(9:Int)-x) a_8) a_1 a_3∧∀ (a_13:Int×Int×Int),(a_13=if chkL [pd a a_8 a_2 a_3,pd (List.map (fun(x:Int)=>(9:Int)-x) a_8) a_1 a_2 a_3]=(0:Int) then fitR a_8 (List.map (fun(x:Int)=>(9:Int)-x) a_8) (a_2+a_2) (0:Int) else ((0:Int),(0:Int),chkL [pd a a_8 a_2 a_3,pd (List.map (fun(x:Int)=>(9:Int)-x) a_8) a_1 a_2 a_3]))→Ok a a_8 a_2 a_3∧Ok (List.map (fun(x:Int)=>(9:Int)-x) a_8) a_1 a_2 a_3∧a.length=(List.map (fun(x:Int)=>(9:Int)-x) a_8).length∧(stA a_8 (List.map (fun(x:Int)=>(9:Int)-x) a_8) (0:Int)).snd.fst-(stA a_8 (List.map (fun(x:Int)=>(9:Int)-x) a_8) (0:Int)).fst≤a_2+a_2∧bothL a_3 a_3≠[]∧∀ (a_15:Int),(a_15=if a_2<a_2 then a_2 else a_2)→Ok (List.map (fun(x:Int)=>(9:Int)-x) a_8) a_1 a_2 a_3∧Ok a a_8 a_2 a_3∧(0:Int)=(0:Int)∧(1:Int)=(1:Int)∧wears (List.map (fun(x:Int)=>(9:Int)-x) a_8) a_1 a_3 a a_8 a_3++wears a a_8 a_3 (List.map (fun(x:Int)=>(9:Int)-x) a_8) a_1 a_3≠[]∧∀ (a_17:Int),Least (wears (List.map (fun(x:Int)=>(9:Int)-x) a_8) a_1 a_3 a a_8 a_3++wears a a_8 a_3 (List.map (fun(x:Int)=>(9:Int)-x) a_8) a_1 a_3) a_17→vcIf (a_13.snd.snd==(0:Int)) (vcIf (a_17==(0:Int)) (rng ((2:Int)*a_2)∧rng ((9:Int)+(2:Int)*a_2)∧vcIf (a_13.fst==(9:Int)&&(a_13.snd.fst==(9:Int)+(2:Int)*a_2&&true)) (Sh a a_1 (bothL a_3 a_3)∧Sh a a_1 a_3∧vcIf (decide (a=a∧a_1=a_1∧a_15=a_2∧bothL a_3 a_3=a_3)) (true=true∧True) (false=true∧True)) (false=true∧True)) (false=true∧True)) (false=true∧True))) (by kernel_rfl) ?_
 simp only[vc_dec,vc_beq,vc_bne,vc_not,vc_and,vc_tt,nil_e,rng,and_true,true_and,eq_self,Bool.false_eq_true]
 refine⟨by omega,by omega,fun u l w q r z h _=>⟨h,fun c r1 z1 hc hh => ?_⟩⟩
 have hU:=split_up h hc hh
 have hL:=split_low h hc hh
 have sU:=sh_ok hU
 have sL:=sh_ok hL
 have h0:=two_chkL hU hL
 have hst:=split_st h hc
 have n1:=h.n3
 have n2:=h.n8
 have w0:=h.w0
 have w2:=h.w2
 refine⟨h,hc,hh,by omega,short2 (wa:=w) (wb:=w) sU sL,fun _=>⟨sU,sL,fun f hf => ?_⟩,fun e=>absurd ?_ e⟩
 ·rw[if_pos h0,fitR,hst,if_neg (by simp only; omega),if_neg (by simp only; omega)] at hf
  subst hf
  refine⟨hU,hL,by simp[hc],by rw[hst]; simp only; omega,by rw[both_self]; exact h.ne,fun k hk=>⟨hL,hU,split_ne h hc,fun m hm => ?_⟩⟩
  have hm:=split_least h hc hm
  subst hm
  simp only[both_self]
  have hkw:k=w:=by rw[hk,if_neg (by omega)]
  have s0:=sh_ok h
  exact⟨fun _=>⟨fun _=>⟨⟨by omega,by omega⟩,⟨by omega,by omega⟩,fun _=>⟨fun _=>⟨s0,s0,fun _=>trivial,fun e=>e ⟨hkw,trivial⟩⟩,fun e=>e (by omega)⟩,fun e=>e trivial⟩,fun e=>e trivial⟩,fun e=>e trivial⟩
 ·rw[if_neg (by omega)]; exact h0
end Go.Tv
