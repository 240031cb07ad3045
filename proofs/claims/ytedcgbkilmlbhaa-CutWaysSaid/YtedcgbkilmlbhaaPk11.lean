import Derived.Test.YtedcgbkilmlbhaaPk10
section
namespace Go.Tv
open Go Go.Di Go.Proofs
theorem four {x:Int} (h:0≤x∧x≤3):x=0∨x=1∨x=2∨x=3:=by omega
theorem xor_in {x n:Int} (hx:0≤x∧x≤3) (hn:0≤n∧n≤3):(0≤xorI x n∧xorI x n≤3)∧xorI (xorI x n) n=x:=by
 rcases four hx with rfl | rfl | rfl | rfl<;>rcases four hn with rfl | rfl | rfl | rfl<;>decide
theorem nodup_asc {l:List Int} (h:l.Pairwise (· < ·)):l.Nodup:=h.imp fun h=>by omega
theorem mem_laid {n x:Int} {q:List Int}:x∈laidL n q 4↔(0≤x∧x≤3)∧xorI x n∈q:=by
 simp only[laidL,List.mem_filter,List.mem_map,List.mem_range,decide_eq_true_eq]
 constructor
 ·rintro⟨⟨k,hk,rfl⟩,h⟩
  exact⟨by simp only[Int.ofNat_eq_natCast]; omega,h⟩
 ·rintro⟨h1,h2⟩
  exact⟨⟨x.toNat,by omega,by simp only[Int.ofNat_eq_natCast]; omega⟩,h2⟩
theorem lay_xor {x y:Int} {u l:List Int} (hx:0≤x∧x≤3) (hy:0≤y∧y≤3):layU y (layU x u l) (layL x u l)=layU (xorI x y) u l∧layL y (layU x u l) (layL x u l)=layL (xorI x y) u l:=by
 rcases four hx with rfl | rfl | rfl | rfl<;>rcases four hy with rfl | rfl | rfl | rfl<;>simp[layU,layL,show xorI 0 0=0 by decide,show xorI 0 1=1 by decide,show xorI 0 2=2 by decide,show xorI 0 3=3 by decide,show xorI 1 0=1 by decide,show xorI 1 1=0 by decide,show xorI 1 2=3 by decide,show xorI 1 3=2 by decide,show xorI 2 0=2 by decide,show xorI 2 1=3 by decide,show xorI 2 2=0 by decide,show xorI 2 3=1 by decide,show xorI 3 0=3 by decide,show xorI 3 1=2 by decide,show xorI 3 2=1 by decide,show xorI 3 3=0 by decide]
theorem xor_comm4 {x y:Int} (hx:0≤x∧x≤3) (hy:0≤y∧y≤3):xorI x y=xorI y x:=by
 rcases four hx with rfl | rfl | rfl | rfl<;>rcases four hy with rfl | rfl | rfl | rfl<;>decide
theorem ok_lay {u l q:List Int} {w n:Int} (h:Ok u l w q) (hn:0≤n∧n≤3):Ok (layU n u l) (layL n u l) w (laidL n q 4):=by
 have h1:=h.n3
 have h2:=h.n8
 have h3:=h.len
 have hlen:(layU n u l).length=u.length∧(layL n u l).length=u.length:=by
  rcases four hn with rfl | rfl | rfl | rfl<;>simp[layU,layL,h3]
 have hm:(∀ x∈layU n u l,x∈u∨x∈l)∧∀ x∈layL n u l,x∈u∨x∈l:=by
  rcases four hn with rfl | rfl | rfl | rfl<;>simp[layU,layL]<;>exact⟨fun x h=>by simp[h],fun x h=>by simp[h]⟩
 refine⟨by omega,by omega,by omega,fun x hx=>(hm.1 x hx).elim (h.hu x) (h.hl x),fun x hx=>(hm.2 x hx).elim (h.hu x) (h.hl x),h.w0,h.w2,?_,fun x hx=>(mem_laid.1 hx).1,laidL_asc _ _ _⟩
 obtain⟨y,hy⟩:=List.exists_mem_of_ne_nil _ h.ne
 have:=xor_in (h.lie y hy) hn
 intro e
 have:xorI y n∈laidL n q 4:=mem_laid.2 ⟨this.1,by rw[this.2]; exact hy⟩
 rw[e] at this
 cases this
structure Grp (g1 g2 g3:WayD→WayD) (Dom:WayD→Prop):Prop where
 dom:∀ w,Dom w→Dom (g1 w)∧Dom (g2 w)∧Dom (g3 w)
 nd:∀ w,Dom w→[w,g1 w,g2 w,g3 w].Nodup
 m1:∀ w,Dom w→g1 (g1 w)=w∧g2 (g1 w)=g3 w∧g3 (g1 w)=g2 w
 m2:∀ w,Dom w→g1 (g2 w)=g3 w∧g2 (g2 w)=w∧g3 (g2 w)=g1 w
 m3:∀ w,Dom w→g1 (g3 w)=g2 w∧g2 (g3 w)=g1 w∧g3 (g3 w)=w
def orb (g1 g2 g3:WayD→WayD) (w:WayD):List WayD:=[w,g1 w,g2 w,g3 w]
def stp (g1 g2 g3:WayD→WayD) (q:List WayD×Int) (w:WayD):List WayD×Int :=
 (insD WayT w q.1,bif memD WayT (g1 w) (insD WayT w q.1) then q.2 else bif (!eqW (g2 w) w&&memD WayT (g2 w) (insD WayT w q.1)) then q.2 else bif memD WayT (g3 w) (insD WayT w q.1) then q.2 else q.2+1)
section
variable {g1 g2 g3:WayD→WayD} {Dom:WayD→Prop}
theorem orb_same (G:Grp g1 g2 g3 Dom) {w v:WayD} (hw:Dom w) (hv:v∈orb g1 g2 g3 w):Dom v∧∀ x,x∈orb g1 g2 g3 v↔x∈orb g1 g2 g3 w:=by
 have d:=G.dom w hw
 have a:=G.m1 w hw
 have b:=G.m2 w hw
 have c:=G.m3 w hw
 simp only[orb,List.mem_cons,List.not_mem_nil,or_false] at hv
 rcases hv with rfl | rfl | rfl | rfl
 ·exact⟨hw,fun x=>Iff.rfl⟩
 ·refine⟨d.1,fun x => ?_⟩
  simp only[orb,List.mem_cons,List.not_mem_nil,or_false,a.1,a.2.1,a.2.2]
  constructor<;>(rintro(h | h | h | h)<;>simp[h])
 ·refine⟨d.2.1,fun x => ?_⟩
  simp only[orb,List.mem_cons,List.not_mem_nil,or_false,b.1,b.2.1,b.2.2]
  constructor<;>(rintro(h | h | h | h)<;>simp[h])
 ·refine⟨d.2.2,fun x => ?_⟩
  simp only[orb,List.mem_cons,List.not_mem_nil,or_false,c.1,c.2.1,c.2.2]
  constructor<;>(rintro(h | h | h | h)<;>simp[h])
theorem mem_ins {x w:WayD} {S:List WayD}:memD WayT x (insD WayT w S)=true↔x=w∨x∈S:=by
 rw[memD_iff,insD]
 cases h:memD WayT w S
 ·simp[or_comm]
 ·have:=memD_iff.1 h
  simp only[cond_true]
  exact⟨.inr,fun h=>h.elim (fun e=>e▸this) id⟩
theorem eqW_iff {x y:WayD}:eqW x y=true↔x=y:=by
 obtain⟨t,⟨u,l,s,c⟩,c'⟩:=x
 obtain⟨t2,⟨u2,l2,s2,c2⟩,c3⟩:=y
 simp only[eqW,Bool.and_eq_true,beq_iff_eq,and_true,Prod.mk.injEq]
theorem ins_mem {x w:WayD} {S:List WayD}:x∈insD WayT w S↔x=w∨x∈S:=by rw[← memD_iff,mem_ins]
theorem fold_inv (G:Grp g1 g2 g3 Dom):∀ (W pre S:List WayD) (n:Int) (O:List WayD),(pre++W).Nodup→(∀ w∈pre++W,Dom w)→(∀ x,x∈S↔x∈pre)→O.Nodup→(O.length:Int)=4*n→(∀ x,x∈O↔∃ v∈pre,x∈orb g1 g2 g3 v) →
  ∃ O':List WayD,O'.Nodup∧(O'.length:Int)=4*(W.foldl (stp g1 g2 g3) (S,n)).2∧∀ x,x∈O'↔∃ v∈pre++W,x∈orb g1 g2 g3 v
 | [],pre,S,n,O,h1,h2,h3,h4,h5,h6=>⟨O,h4,h5,by simpa using h6⟩
 | w::W,pre,S,n,O,h1,h2,h3,h4,h5,h6=>by
  have dw:Dom w:=h2 w (by simp)
  have hpre:∀ v∈pre,Dom v:=fun v hv=>h2 v (by simp[hv])
  have hnw:w ∉ pre:=fun hm=>by
   have:=(List.nodup_append.1 h1).2.2
   exact this w hm w (by simp) rfl
  have e:pre++w::W=(pre++[w])++W:=by simp
  rw[e] at h1 h2
  have hS:∀ x,x∈insD WayT w S↔x∈pre++[w]:=fun x=>by rw[ins_mem,h3]; simp[or_comm]
  have nd:=G.nd w dw
  simp only[List.nodup_cons,List.mem_cons,List.not_mem_nil,or_false,not_or,not_false_eq_true,List.nodup_nil,and_true] at nd
  obtain⟨⟨n1,n2,n3⟩,-,-⟩:=nd
  have old:∀ v∈pre,v∈orb g1 g2 g3 w→∃ O':List WayD,O'.Nodup∧(O'.length:Int)=4*(W.foldl (stp g1 g2 g3) (insD WayT w S,n)).2∧∀ x,x∈O'↔∃ v∈(pre++[w])++W,x∈orb g1 g2 g3 v:=fun v hv ho=>by
   refine fold_inv G W (pre++[w]) _ n O h1 h2 hS h4 h5 fun x => ?_
   rw[h6]
   constructor
   ·rintro⟨u,hu,hx⟩; exact⟨u,by simp[hu],hx⟩
   ·rintro⟨u,hu,hx⟩
    rcases List.mem_append.1 hu with hu | hu
    ·exact⟨u,hu,hx⟩
    ·rw[List.mem_singleton.1 hu] at hx
     exact⟨v,hv,((orb_same G dw ho).2 x).2 hx⟩
  have o1:g1 w∈orb g1 g2 g3 w:=by simp[orb]
  have o2:g2 w∈orb g1 g2 g3 w:=by simp[orb]
  have o3:g3 w∈orb g1 g2 g3 w:=by simp[orb]
  have inp:∀ {x},x≠w→memD WayT x (insD WayT w S)=true→x∈pre:=fun hx hm=>by
   rcases mem_ins.1 hm with h | h
   ·exact(hx h).elim
   ·exact(h3 _).1 h
  have nin:∀ {x},memD WayT x (insD WayT w S)=false→x ∉ pre:=fun hm hp=>by
   rw[mem_ins.2 (.inr ((h3 _).2 hp))] at hm; cases hm
  rw[e]
  simp only[List.foldl_cons]
  have hq:(!eqW (g2 w) w)=true:=by
   cases h:eqW (g2 w) w
   ·rfl
   ·exact absurd (eqW_iff.1 h).symm n2
  cases c1:memD WayT (g1 w) (insD WayT w S) with
  | true =>
   rw[show stp g1 g2 g3 (S,n) w=(insD WayT w S,n) by simp only[stp,c1,cond_true]]
   exact old _ (inp (Ne.symm n1) c1) o1
  | false =>
   cases c2:memD WayT (g2 w) (insD WayT w S) with
   | true =>
    rw[show stp g1 g2 g3 (S,n) w=(insD WayT w S,n) by simp only[stp,c1,c2,hq,Bool.and_self,cond_true,cond_false]]
    exact old _ (inp (Ne.symm n2) c2) o2
   | false =>
    cases c3:memD WayT (g3 w) (insD WayT w S) with
    | true =>
     rw[show stp g1 g2 g3 (S,n) w=(insD WayT w S,n) by simp only[stp,c1,c2,c3,Bool.and_false,cond_true,cond_false]]
     exact old _ (inp (Ne.symm n3) c3) o3
    | false =>
     rw[show stp g1 g2 g3 (S,n) w=(insD WayT w S,n+1) by simp only[stp,c1,c2,c3,Bool.and_false,cond_false]]
     have hno:∀ x∈orb g1 g2 g3 w,x ∉ O:=fun x hx ho=>by
      obtain⟨v,hv,hxv⟩:=(h6 x).1 ho
      have k1:=(orb_same G (hpre v hv) hxv).2
      have k2:=(orb_same G dw hx).2
      have:v∈orb g1 g2 g3 w:=(k2 v).1 ((k1 v).2 (by simp[orb]))
      simp only[orb,List.mem_cons,List.not_mem_nil,or_false] at this
      rcases this with rfl | rfl | rfl | rfl
      ·exact hnw hv
      ·exact nin c1 hv
      ·exact nin c2 hv
      ·exact nin c3 hv
     refine fold_inv G W (pre++[w]) _ (n+1) (O++orb g1 g2 g3 w) h1 h2 hS ?_ ?_ fun x => ?_
     ·rw[List.nodup_append]
      exact⟨h4,G.nd w dw,fun a ha b hb hab=>hno b hb (hab▸ha)⟩
     ·rw[List.length_append,show (orb g1 g2 g3 w).length=4 from rfl]; omega
     ·rw[List.mem_append,h6]
      constructor
      ·rintro(⟨v,hv,hx⟩ | hx)
       ·exact⟨v,by simp[hv],hx⟩
       ·exact⟨w,by simp,hx⟩
      ·rintro⟨v,hv,hx⟩
       rcases List.mem_append.1 hv with hv | hv
       ·exact .inl ⟨v,hv,hx⟩
       ·rw[List.mem_singleton.1 hv] at hx; exact .inr hx
theorem fold_orb (G:Grp g1 g2 g3 Dom) {W:List WayD} (h1:W.Nodup) (h2:∀ w∈W,Dom w):∃ O:List WayD,O.Nodup∧(O.length:Int)=4*(W.foldl (stp g1 g2 g3) ([],0)).2∧∀ x,x∈O↔∃ v∈W,x∈orb g1 g2 g3 v :=
 fold_inv G W [] [] 0 [] h1 h2 (fun x=>Iff.rfl) List.nodup_nil rfl (fun x=>by simp)
theorem nodup_sub {α:Type}:∀ {l m:List α},l.Nodup→(∀ x∈l,x∈m)→l.length≤m.length
 | [],_,_,_=>Nat.zero_le _
 | a::l,m,h,hs=>by
  obtain⟨m1,m2,rfl⟩:=List.append_of_mem (hs a (by simp))
  rw[List.nodup_cons] at h
  have:=nodup_sub (l:=l) (m:=m1++m2) h.2 fun x hx=>by
   have:=hs x (by simp[hx])
   rcases List.mem_append.1 this with k | k
   ·simp[k]
   ·rcases List.mem_cons.1 k with k | k
    ·subst k; exact(h.1 hx).elim
    ·simp[k]
  simp only[List.length_append,List.length_cons] at this ⊢
  omega
theorem fold_ge (G:Grp g1 g2 g3 Dom) {W:List WayD} (h1:W.Nodup) (h2:∀ w∈W,Dom w):(W.length:Int)≤4*(W.foldl (stp g1 g2 g3) ([],0)).2:=by
 obtain⟨O,k1,k2,k3⟩:=fold_orb G h1 h2
 have:=nodup_sub h1 fun x hx=>(k3 x).2 ⟨x,hx,by simp[orb]⟩
 omega
theorem fold_eq {g1' g2' g3':WayD→WayD} (G:Grp g1 g2 g3 Dom) (G':Grp g1' g2' g3' Dom) {W W':List WayD} (h1:W.Nodup) (h2:∀ w∈W,Dom w) (h1':W'.Nodup) (h2':∀ w∈W',Dom w) {φ:WayD→WayD} (hφ:∀ v,Dom v→φ (φ v)=v) (hm:∀ w,w∈W'↔∃ v∈W,w=φ v)
  (hc:∀ v,Dom v→g1' (φ v)=φ (g1 v)∧g2' (φ v)=φ (g2 v)∧g3' (φ v)=φ (g3 v)):(W'.foldl (stp g1' g2' g3') ([],0)).2=(W.foldl (stp g1 g2 g3) ([],0)).2:=by
 obtain⟨O,k1,k2,k3⟩:=fold_orb G h1 h2
 obtain⟨O',k1',k2',k3'⟩:=fold_orb G' h1' h2'
 have hd:∀ x∈O,Dom x:=fun x hx=>by
  obtain⟨v,hv,hx⟩:=(k3 x).1 hx
  exact(orb_same G (h2 v hv) hx).1
 have hmem:∀ y,y∈O'↔y∈O.map φ:=fun y=>by
  rw[k3',List.mem_map]
  constructor
  ·rintro⟨v',hv',hy⟩
   obtain⟨v,hv,rfl⟩:=(hm v').1 hv'
   have c:=hc v (h2 v hv)
   simp only[orb,List.mem_cons,List.not_mem_nil,or_false,c.1,c.2.1,c.2.2] at hy
   rcases hy with rfl | rfl | rfl | rfl
   ·exact⟨v,(k3 _).2 ⟨v,hv,by simp[orb]⟩,rfl⟩
   ·exact⟨g1 v,(k3 _).2 ⟨v,hv,by simp[orb]⟩,rfl⟩
   ·exact⟨g2 v,(k3 _).2 ⟨v,hv,by simp[orb]⟩,rfl⟩
   ·exact⟨g3 v,(k3 _).2 ⟨v,hv,by simp[orb]⟩,rfl⟩
  ·rintro⟨x,hx,rfl⟩
   obtain⟨v,hv,hx⟩:=(k3 x).1 hx
   have c:=hc v (h2 v hv)
   refine⟨φ v,(hm _).2 ⟨v,hv,rfl⟩,?_⟩
   simp only[orb,List.mem_cons,List.not_mem_nil,or_false] at hx
   rcases hx with rfl | rfl | rfl | rfl<;>simp[orb,c.1,c.2.1,c.2.2]
 have nd:(O.map φ).Nodup:=by
  rw[List.nodup_iff_pairwise_ne,List.pairwise_map]
  refine List.Pairwise.imp_of_mem (fun {a b} ha hb hab he=>hab ?_) (List.nodup_iff_pairwise_ne.1 k1)
  rw[← hφ a (hd a ha),← hφ b (hd b hb),he]
 have l1:=nodup_sub k1' fun x hx=>(hmem x).1 hx
 have l2:=nodup_sub nd fun x hx=>(hmem x).2 hx
 rw[List.length_map] at l1 l2
 omega
end
end Go.Tv
end
section
namespace Go.Tv
open Go Go.Di Go.Proofs
abbrev SmW:=Int×Int×Int×Unit
def G1 (na nb:Int) (w:WayD):WayD:=bif w.1 then o1 nb na w else o1 na nb w
def G2 (na nb:Int) (w:WayD):WayD:=bif w.1 then o2 nb na w else o2 na nb w
def DomW (w:WayD):Prop:=(0≤w.2.1.1∧w.2.1.1≤3)∧0≤w.2.1.2.1∧w.2.1.2.1≤3
theorem xx {u:Int} (h:0≤u∧u≤3):xorI (xorI u 1) 1=u∧xorI (xorI u 1) 2=xorI u 3∧xorI (xorI u 1) 3=xorI u 2∧xorI (xorI u 2) 1=xorI u 3∧xorI (xorI u 2) 2=u∧xorI (xorI u 2) 3=xorI u 1∧xorI (xorI u 3) 1=xorI u 2∧xorI (xorI u 3) 2=xorI u 1∧xorI (xorI u 3) 3=u:=by
 rcases four h with rfl | rfl | rfl | rfl<;>decide
theorem xn {u:Int} (h:0≤u∧u≤3):u≠xorI u 2∧xorI u 1≠xorI u 3∧(0≤xorI u 1∧xorI u 1≤3)∧(0≤xorI u 2∧xorI u 2≤3)∧(0≤xorI u 3∧xorI u 3≤3):=by
 rcases four h with rfl | rfl | rfl | rfl<;>decide
theorem way_ext {t t':Bool} {u l s u' l' s':Int} (h1:t=t') (h2:u=u') (h3:l=l') (h4:s=s'):((t,(u,l,s,()),()):WayD)=(t',(u',l',s',()),()):=by subst h1 h2 h3 h4; rfl
theorem grpW (na nb:Int):Grp (G1 na nb) (G2 na nb) o3 DomW where
 dom:=fun w h=>by
  obtain⟨t,⟨u,l,s,c⟩,c'⟩:=w
  have a:=xn h.1
  have b:=xn h.2
  cases t<;>exact⟨⟨b.2.2.1,a.2.2.1⟩,⟨a.2.2.2.1,b.2.2.2.1⟩,⟨b.2.2.2.2,a.2.2.2.2⟩⟩
 nd:=fun w h=>by
  obtain⟨t,⟨u,l,s,c⟩,c'⟩:=w
  have a:=xn h.1
  have b:=xn h.2
  simp only at a b
  cases t<;>simp[G1,G2,o1,o2,o3,a.1,a.2.1,b.1,b.2.1]
 m1:=fun w h=>by
  obtain⟨t,⟨u,l,s,c⟩,c'⟩:=w
  obtain⟨a1,a2,a3,-⟩:=xx h.1
  obtain⟨b1,b2,b3,-⟩:=xx h.2
  cases t<;>exact⟨way_ext rfl a1 b1 (by first | omega | (simp only[G1,G2,o1,o2,o3,Bool.not_true,Bool.not_false,cond_true,cond_false]; omega)),way_ext rfl b2 a2 (by first | omega | (simp only[G1,G2,o1,o2,o3,Bool.not_true,Bool.not_false,cond_true,cond_false]; omega)),way_ext rfl a3 b3 (by first | omega | (simp only[G1,G2,o1,o2,o3,Bool.not_true,Bool.not_false,cond_true,cond_false]; omega))⟩
 m2:=fun w h=>by
  obtain⟨t,⟨u,l,s,c⟩,c'⟩:=w
  obtain⟨-,-,-,a1,a2,a3,-⟩:=xx h.1
  obtain⟨-,-,-,b1,b2,b3,-⟩:=xx h.2
  cases t<;>exact⟨way_ext rfl b1 a1 (by first | omega | (simp only[G1,G2,o1,o2,o3,Bool.not_true,Bool.not_false,cond_true,cond_false]; omega)),way_ext rfl a2 b2 (by first | omega | (simp only[G1,G2,o1,o2,o3,Bool.not_true,Bool.not_false,cond_true,cond_false]; omega)),way_ext rfl b3 a3 (by first | omega | (simp only[G1,G2,o1,o2,o3,Bool.not_true,Bool.not_false,cond_true,cond_false]; omega))⟩
 m3:=fun w h=>by
  obtain⟨t,⟨u,l,s,c⟩,c'⟩:=w
  obtain⟨-,-,-,-,-,-,a1,a2,a3⟩:=xx h.1
  obtain⟨-,-,-,-,-,-,b1,b2,b3⟩:=xx h.2
  cases t<;>exact⟨way_ext rfl a1 b1 (by first | omega | (simp only[G1,G2,o1,o2,o3,Bool.not_true,Bool.not_false,cond_true,cond_false]; omega)),way_ext rfl b2 a2 (by first | omega | (simp only[G1,G2,o1,o2,o3,Bool.not_true,Bool.not_false,cond_true,cond_false]; omega)),way_ext rfl a3 b3 (by first | omega | (simp only[G1,G2,o1,o2,o3,Bool.not_true,Bool.not_false,cond_true,cond_false]; omega))⟩
def wayL (L M:List SmW):List WayD:=L.map (fun s=>(false,s,()))++M.map fun s=>(true,s,())
theorem fold_way {na nb:Int} {L M:List SmW}:(wAll nb na true (wAll na nb false ([],0) L) M).2=((wayL L M).foldl (stp (G1 na nb) (G2 na nb) o3) ([],0)).2:=by
 rw[wayL,List.foldl_append,List.foldl_map,List.foldl_map]
 rfl
theorem mem_way {L M:List SmW} {t:Bool} {s:SmW} {c:Unit}:(t,s,c)∈wayL L M↔(t=false∧s∈L)∨(t=true∧s∈M):=by
 simp only[wayL,List.mem_append,List.mem_map,Prod.mk.injEq]
 constructor
 ·rintro(⟨a,h,rfl,rfl,-⟩ | ⟨a,h,rfl,rfl,-⟩)
  ·exact .inl ⟨rfl,h⟩
  ·exact .inr ⟨rfl,h⟩
 ·rintro(⟨rfl,h⟩ | ⟨rfl,h⟩)
  ·exact .inl ⟨s,h,rfl,rfl,trivial⟩
  ·exact .inr ⟨s,h,rfl,rfl,trivial⟩
theorem nodup_map' {α β:Type} {f:α→β} (hf:∀ a b,f a=f b→a=b) {l:List α} (h:l.Nodup):(l.map f).Nodup:=by
 rw[List.nodup_iff_pairwise_ne,List.pairwise_map]
 exact(List.nodup_iff_pairwise_ne.1 h).imp fun h e=>h (hf _ _ e)
theorem nodup_way {L M:List SmW} (h1:L.Nodup) (h2:M.Nodup):(wayL L M).Nodup:=by
 rw[wayL,List.nodup_append]
 refine⟨nodup_map' (fun a b e => ?_) h1,nodup_map' (fun a b e => ?_) h2,fun a ha b hb hab => ?_⟩
 ·simp only[Prod.mk.injEq,true_and,and_true] at e; exact e
 ·simp only[Prod.mk.injEq,true_and,and_true] at e; exact e
 ·subst hab
  simp only[List.mem_map] at ha hb
  obtain⟨x,-,rfl⟩:=ha
  obtain⟨y,-,h⟩:=hb
  cases h
section
variable {ua la qa ub lb qb:List Int} {w wa wb:Int}
theorem mem_seam {s:SmW}:s∈seamT ua la qa ub lb qb w↔s.1∈qa∧s.2.1∈qb∧s.2.2.1∈shL (layL s.1 ua la) (layU s.2.1 ub lb) w (ub.length+ua.length+1):=by
 obtain⟨u,l,s,c⟩:=s
 simp only[seamT,List.mem_flatMap,List.mem_map,Prod.mk.injEq]
 constructor
 ·rintro⟨x,hx,y,hy,k,hk,rfl,rfl,rfl,-⟩; exact⟨hx,hy,hk⟩
 ·rintro⟨hx,hy,hk⟩; exact⟨u,hx,l,hy,s,hk,rfl,rfl,rfl,trivial⟩
theorem nodup_sh {a b:List Int} {v:Int} {k:Nat}:(shL a b v k).Nodup:=by
 rw[shL]
 refine List.Nodup.sublist List.filter_sublist (nodup_map' (fun a b e=>by omega) List.nodup_range)
theorem nodup_seam (ha:Ok ua la wa qa) (hb:Ok ub lb wb qb):(seamT ua la qa ub lb qb w).Nodup:=by
 have na:=List.nodup_iff_pairwise_ne.1 (nodup_asc ha.asc)
 have nb:=List.nodup_iff_pairwise_ne.1 (nodup_asc hb.asc)
 rw[List.nodup_iff_pairwise_ne,seamT,List.pairwise_flatMap]
 refine⟨fun x _ => ?_,na.imp fun hne p hp q hq e=>hne ?_⟩
 ·rw[List.pairwise_flatMap]
  refine⟨fun y _ => ?_,nb.imp fun hne p hp q hq e=>hne ?_⟩
  ·refine List.nodup_iff_pairwise_ne.1 (nodup_map' (fun a b e => ?_) nodup_sh)
   simp only[Prod.mk.injEq,true_and,and_true] at e; exact e
  ·simp only[List.mem_map] at hp hq
   obtain⟨_,_,rfl⟩:=hp
   obtain⟨_,_,rfl⟩:=hq
   simp only[Prod.mk.injEq] at e
   exact e.2.1
 ·simp only[List.mem_flatMap,List.mem_map] at hp hq
  obtain⟨_,_,_,_,rfl⟩:=hp
  obtain⟨_,_,_,_,rfl⟩:=hq
  simp only[Prod.mk.injEq] at e
  exact e.1
theorem dom_way {wa' wb':Int} (ha:Ok ua la wa qa) (hb:Ok ub lb wb qb):∀ x∈wayL (seamT ua la qa ub lb qb wa') (seamT ub lb qb ua la qa wb'),DomW x:=fun x hx=>by
 obtain⟨t,s,c⟩:=x
 rcases mem_way.1 hx with ⟨-,h⟩ | ⟨-,h⟩
 ·have:=mem_seam.1 h
  exact⟨ha.lie _ this.1,hb.lie _ this.2.1⟩
 ·have:=mem_seam.1 h
  exact⟨hb.lie _ this.1,ha.lie _ this.2.1⟩
theorem ways_fold (ha:Ok ua la wa qa) (hb:Ok ub lb wb qb):waysN ua la qa ub lb qb wa wb=((wayL (seamT ua la qa ub lb qb (wa+wb)) (seamT ub lb qb ua la qa (wb+wa))).foldl (stp (G1 ua.length ub.length) (G2 ua.length ub.length) o3) ([],0)).2:=by
 rw[waysN,fold_way]
theorem ways_sym (ha:Ok ua la wa qa) (hb:Ok ub lb wb qb):waysN ub lb qb ua la qa wb wa=waysN ua la qa ub lb qb wa wb:=by
 rw[ways_fold ha hb,ways_fold hb ha]
 refine fold_eq (grpW _ _) (grpW _ _) (nodup_way (nodup_seam ha hb) (nodup_seam hb ha)) (dom_way ha hb) (nodup_way (nodup_seam hb ha) (nodup_seam ha hb)) (dom_way hb ha) (φ:=fun x=>(!x.1,x.2)) (fun v _=>by simp) (fun x => ?_) (fun v _ => ?_)
 ·obtain⟨t,s,c⟩:=x
  rw[mem_way]
  constructor
  ·rintro(⟨rfl,h⟩ | ⟨rfl,h⟩)
   ·exact⟨(true,s,c),mem_way.2 (.inr ⟨rfl,h⟩),rfl⟩
   ·exact⟨(false,s,c),mem_way.2 (.inl ⟨rfl,h⟩),rfl⟩
  ·rintro⟨⟨t',s',c'⟩,h,e⟩
   simp only[Prod.mk.injEq] at e
   obtain⟨rfl,rfl,-⟩:=e
   rcases mem_way.1 h with ⟨rfl,k⟩ | ⟨rfl,k⟩
   ·exact .inr ⟨rfl,k⟩
   ·exact .inl ⟨rfl,k⟩
 ·obtain⟨t,s,c⟩:=v
  cases t<;>exact⟨rfl,rfl,rfl⟩
theorem ways_le (ha:Ok ua la wa qa) (hb:Ok ub lb wb qb):waysN ua la qa ub lb qb wa wb≤((seamT ua la qa ub lb qb (wa+wb)).length:Int)+(seamT ub lb qb ua la qa (wb+wa)).length∧0≤waysN ua la qa ub lb qb wa wb:=by
 have h1:=all_le (na:=(ua.length:Int)) (nb:=(ub.length:Int)) (t:=false) (seamT ua la qa ub lb qb (wa+wb)) ([],0)
 have h2:=all_le (na:=(ub.length:Int)) (nb:=(ua.length:Int)) (t:=true) (seamT ub lb qb ua la qa (wb+wa)) (wAll ua.length ub.length false ([],0) (seamT ua la qa ub lb qb (wa+wb)))
 simp only at h1
 rw[waysN]
 omega
theorem ways_ge (ha:Ok ua la wa qa) (hb:Ok ub lb wb qb):((seamT ua la qa ub lb qb (wa+wb)).length:Int)+(seamT ub lb qb ua la qa (wb+wa)).length≤4*waysN ua la qa ub lb qb wa wb:=by
 have:=fold_ge (grpW ua.length ub.length) (nodup_way (nodup_seam (w:=wa+wb) ha hb) (nodup_seam (w:=wb+wa) hb ha)) (dom_way ha hb)
 rw[← ways_fold ha hb,wayL,List.length_append,List.length_map,List.length_map] at this
 omega
def layW (x:Int) (v:WayD):WayD:=bif v.1 then (true,(v.2.1.1,xorI v.2.1.2.1 x,v.2.1.2.2.1,()),()) else (false,(xorI v.2.1.1 x,v.2.1.2.1,v.2.1.2.2.1,()),())
theorem xc {u x:Int} (h:0≤u∧u≤3) (hx:0≤x∧x≤3):xorI (xorI u x) 1=xorI (xorI u 1) x∧xorI (xorI u x) 2=xorI (xorI u 2) x∧xorI (xorI u x) 3=xorI (xorI u 3) x:=by
 rcases four h with rfl | rfl | rfl | rfl<;>rcases four hx with rfl | rfl | rfl | rfl<;>decide
theorem ways_lay (ha:Ok ua la wa qa) (hb:Ok ub lb wb qb) {x:Int} (hx:0≤x∧x≤3):waysN (layU x ua la) (layL x ua la) (laidL x qa 4) ub lb qb wa wb=waysN ua la qa ub lb qb wa wb:=by
 have hc:=ok_lay ha hx
 have hlen:=lay_len (n:=x) ha.len
 rw[ways_fold ha hb,ways_fold hc hb,hlen.1]
 have key:∀ {u:Int},0≤u∧u≤3→layU u (layU x ua la) (layL x ua la)=layU (xorI u x) ua la∧layL u (layU x ua la) (layL x ua la)=layL (xorI u x) ua la:=fun hu=>by
  have:=lay_xor (u:=ua) (l:=la) hx hu
  rw[xor_comm4 hx hu] at this
  exact this
 have s1:∀ {u l s:Int},(u,l,s,())∈seamT (layU x ua la) (layL x ua la) (laidL x qa 4) ub lb qb (wa+wb)↔(0≤u∧u≤3)∧(xorI u x,l,s,())∈seamT ua la qa ub lb qb (wa+wb):=fun {u l s}=>by
  rw[mem_seam,mem_seam,mem_laid,hlen.1]
  constructor
  ·rintro⟨⟨h1,h2⟩,h3,h4⟩
   exact⟨h1,h2,h3,by rw[(key h1).2] at h4; exact h4⟩
  ·rintro⟨h1,h2,h3,h4⟩
   exact⟨⟨h1,h2⟩,h3,by rw[(key h1).2]; exact h4⟩
 have s2:∀ {u l s:Int},(u,l,s,())∈seamT ub lb qb (layU x ua la) (layL x ua la) (laidL x qa 4) (wb+wa)↔(0≤l∧l≤3)∧(u,xorI l x,s,())∈seamT ub lb qb ua la qa (wb+wa):=fun {u l s}=>by
  rw[mem_seam,mem_seam,mem_laid,hlen.1]
  constructor
  ·rintro⟨h1,⟨h2,h3⟩,h4⟩
   exact⟨h2,h1,h3,by rw[(key h2).1] at h4; exact h4⟩
  ·rintro⟨h2,h1,h3,h4⟩
   exact⟨h1,⟨h2,h3⟩,by rw[(key h2).1]; exact h4⟩
 have inv:∀ v,DomW v→layW x (layW x v)=v:=fun v hv=>by
  obtain⟨t,⟨u,l,s,c⟩,c'⟩:=v
  cases t
  ·exact way_ext rfl (xor_in hv.1 hx).2 rfl rfl
  ·exact way_ext rfl rfl (xor_in hv.2 hx).2 rfl
 refine fold_eq (grpW _ _) (grpW _ _) (nodup_way (nodup_seam ha hb) (nodup_seam hb ha)) (dom_way ha hb) (nodup_way (nodup_seam hc hb) (nodup_seam hb hc)) (dom_way hc hb) (φ:=layW x) inv (fun v => ?_) (fun v hv => ?_)
 ·constructor
  ·intro h
   have hd:=dom_way hc hb v h
   refine⟨layW x v,?_,(inv v hd).symm⟩
   obtain⟨t,⟨u,l,s,c⟩,c'⟩:=v
   rcases mem_way.1 h with ⟨rfl,k⟩ | ⟨rfl,k⟩
   ·exact mem_way.2 (.inl ⟨rfl,(s1.1 k).2⟩)
   ·exact mem_way.2 (.inr ⟨rfl,(s2.1 k).2⟩)
  ·rintro⟨v,h,rfl⟩
   have hd:=dom_way ha hb v h
   obtain⟨t,⟨u,l,s,c⟩,c'⟩:=v
   rcases mem_way.1 h with ⟨rfl,k⟩ | ⟨rfl,k⟩
   ·have:=xor_in hd.1 hx
    exact mem_way.2 (.inl ⟨rfl,s1.2 ⟨this.1,by rw[this.2]; exact k⟩⟩)
   ·have:=xor_in hd.2 hx
    exact mem_way.2 (.inr ⟨rfl,s2.2 ⟨this.1,by rw[this.2]; exact k⟩⟩)
 ·obtain⟨t,⟨u,l,s,c⟩,c'⟩:=v
  have a:=xc hv.1 hx
  have b:=xc hv.2 hx
  cases t
  ·exact⟨way_ext rfl rfl a.1 rfl,way_ext rfl a.2.1 rfl rfl,way_ext rfl rfl a.2.2 rfl⟩
  ·exact⟨way_ext rfl b.1 rfl rfl,way_ext rfl rfl b.2.1 rfl,way_ext rfl b.2.2 rfl rfl⟩
end
end Go.Tv
end
section
namespace Go.Tv
open Go Go.Di Go.Proofs
set_option maxRecDepth 100000
def D42 : List TV → Dn
 | [.sl (.pair (.sl (.int .i64)) (.pair (.sl (.int .i64)) (.pair (.int .i64) (.pair (.sl (.int .i64)) .unit)))) l .no] => some ([l.length ≤ 1000, ∀ p ∈ l, shortP p], .res (ival (if 4 < l.length then 6 else chkL l)) [] [], [])
 | _ => none
theorem v42 : VI T6 Try.f43 [some I64] D42 := by
 refine vi_of fun a => ?_
 unfold D42
 split
 rotate_left
 ·trivial
 rename_i l
 intro hp
 refine vcq (A := vcIf (decide ((↑l.length : Int) > (4 : Int))) (((6 : Int) = if (4 : Nat) < l.length then (6 : Int) else chkL l) ∧ True) (l.length ≤ (1000 : Nat) ∧ (∀ (p : (PieceT).den), p ∈ l → shortP p) ∧ (chkL l = if (4 : Nat) < l.length then (6 : Int) else chkL l) ∧ True)) (by kernel_rfl) ?_
 obtain ⟨h1, h2, -⟩ := hp
 simp only [vc_dec, and_true]
 exact ⟨fun h => by rw [if_pos (by omega)], fun h => ⟨by omega, h2, by rw [if_neg (by omega)]⟩⟩
def F0 : Tbl := T6.addI 43 fun a => dS (D42 a)
def D48 : List TV → Dn
 | [.sl (.pair (.sl (.int .i64)) (.pair (.sl (.int .i64)) (.pair (.int .i64) (.pair (.sl (.int .i64)) .unit)))) l .no, .val (.int .i64 a), .val (.int .i64 b)] => some ([l.length ≤ 4, ∀ p ∈ l, shortP p, chkL l = 0, 0 ≤ a, a < l.length, 0 ≤ b, b < l.length, a ≠ b], .res (ival 0) [] [], [])
 | _ => none
theorem v48 : VI F0 Try.f30 [some I64] D48 := by
 refine vi_of fun a => ?_
 unfold D48
 split
 rotate_left
 ·trivial
 rename_i l x y
 intro hp
 refine vcq (A := l.length ≤ (1000 : Nat) ∧ (∀ (p : (PieceT).den), p ∈ l → shortP p) ∧ vcIf ((if (4 : Nat) < l.length then (6 : Int) else chkL l) != (0 : Int)) ((if (4 : Nat) < l.length then (6 : Int) else chkL l) = (0 : Int) ∧ True) (vcIf (decide (x < (0 : Int))) ((3 : Int) = (0 : Int) ∧ True) (vcIf (decide (y < (0 : Int))) ((3 : Int) = (0 : Int) ∧ True) (vcIf (decide (x ≥ (↑l.length : Int))) ((3 : Int) = (0 : Int) ∧ True) (vcIf (decide (y ≥ (↑l.length : Int))) ((3 : Int) = (0 : Int) ∧ True) (vcIf (x == y) ((4 : Int) = (0 : Int) ∧ True) ((0 : Int) = (0 : Int) ∧ True))))))) (by kernel_rfl) ?_
 obtain ⟨h1, h2, h3, h4, h5, h6, h7, h8, -⟩ := hp
 rw [if_neg (by omega), h3]
 simp only [vc_dec, vc_beq, vc_bne, and_true]
 exact ⟨by omega, h2, fun _ => ⟨fun h => by omega, fun _ => ⟨fun h => by omega, fun _ => ⟨fun h => by omega, fun _ => ⟨fun h => by omega, fun _ => ⟨fun h => absurd h h8, fun _ => trivial⟩⟩⟩⟩⟩, fun h => absurd trivial h⟩
def F2 : Tbl := (((F0.addI 32 fun a => dS (D50 a)).addI 30 fun a => dS (D48 a)).addI 33 S60).addI 31 fun a => dS (D31 a)
def E11 : List TV → Dn
 | [.sl (.pair (.sl (.int .i64)) (.pair (.sl (.int .i64)) (.pair (.int .i64) (.pair (.sl (.int .i64)) .unit)))) [(ua, la, wa, qa, _), (ub, lb, wb, qb, _)] .no, .val (.int .i64 0), .val (.int .i64 1)] => some ([Ok ua la wa qa, Ok ub lb wb qb], .res (.tup [.sl SeamT (seamT ua la qa ub lb qb (wa + wb)) .no, ival 0]) [] [], [])
 | [.sl (.pair (.sl (.int .i64)) (.pair (.sl (.int .i64)) (.pair (.int .i64) (.pair (.sl (.int .i64)) .unit)))) [(ua, la, wa, qa, _), (ub, lb, wb, qb, _)] .no, .val (.int .i64 1), .val (.int .i64 0)] => some ([Ok ua la wa qa, Ok ub lb wb qb], .res (.tup [.sl SeamT (seamT ub lb qb ua la qa (wb + wa)) .no, ival 0]) [] [], [])
 | _ => none
theorem w11 : VI F2 Try.f11 [some (.sl SeamT), some I64] E11 := by
 refine vi_of fun a => ?_
 unfold E11
 split
 rotate_left 2
 ·trivial
 ·rename_i ua la wa qa za ub lb wb qb zb
  intro hp
  obtain ⟨h1, h2, -⟩ := hp
  refine vcq (A := (2 : Nat) ≤ (4 : Nat) ∧ (∀ (p : (PieceT).den), p ∈ [(ua, la, wa, qa, za), (ub, lb, wb, qb, zb)] → shortP p) ∧ chkL [(ua, la, wa, qa, za), (ub, lb, wb, qb, zb)] = (0 : Int) ∧ (0 : Int) ≤ (0 : Int) ∧ (0 : Int) < (↑(2 : Nat) : Int) ∧ (0 : Int) ≤ (1 : Int) ∧ (1 : Int) < (↑(2 : Nat) : Int) ∧ (0 : Int) ≠ (1 : Int) ∧ ((0 : Int) ≤ (0 : Int) ∧ (0 : Int) < (↑(2 : Nat) : Int)) ∧ List.length ua ≤ (1000 : Nat) ∧ List.length la ≤ (1000 : Nat) ∧ ((0 : Int) ≤ (1 : Int) ∧ (1 : Int) < (↑(2 : Nat) : Int)) ∧ List.length ub ≤ (1000 : Nat) ∧ List.length lb ≤ (1000 : Nat) ∧ Ok ua la wa qa ∧ Ok ub lb wb qb ∧ ua = ua ∧ la = la ∧ List.reverse la = List.reverse la ∧ List.reverse ua = List.reverse ua ∧ List.reverse ua = List.reverse ua ∧ List.reverse la = List.reverse la ∧ la = la ∧ ua = ua ∧ ub = ub ∧ lb = lb ∧ List.reverse lb = List.reverse lb ∧ List.reverse ub = List.reverse ub ∧ List.reverse ub = List.reverse ub ∧ List.reverse lb = List.reverse lb ∧ lb = lb ∧ ub = ub ∧ seamT ua la qa ub lb qb (wa + wb) = seamT ua la qa ub lb qb (wa + wb) ∧ (0 : Int) = (0 : Int) ∧ True) (by kernel_rfl) ?_
  have s1 := sh_ok h1
  have s2 := sh_ok h2
  simp only [eq_self, and_true]
  exact ⟨by omega, short2 (wa := wa) (wb := wb) s1 s2, two_chkL h1 h2, by omega, by omega, by omega, by omega, by omega, ⟨by omega, by omega⟩, s1.1, s1.2.1, ⟨by omega, by omega⟩, s2.1, s2.2.1, h1, h2⟩
 ·rename_i ua la wa qa za ub lb wb qb zb
  intro hp
  obtain ⟨h1, h2, -⟩ := hp
  refine vcq (A := (2 : Nat) ≤ (4 : Nat) ∧ (∀ (p : (PieceT).den), p ∈ [(ua, la, wa, qa, za), (ub, lb, wb, qb, zb)] → shortP p) ∧ chkL [(ua, la, wa, qa, za), (ub, lb, wb, qb, zb)] = (0 : Int) ∧ (0 : Int) ≤ (1 : Int) ∧ (1 : Int) < (↑(2 : Nat) : Int) ∧ (0 : Int) ≤ (0 : Int) ∧ (0 : Int) < (↑(2 : Nat) : Int) ∧ (1 : Int) ≠ (0 : Int) ∧ ((0 : Int) ≤ (1 : Int) ∧ (1 : Int) < (↑(2 : Nat) : Int)) ∧ List.length ub ≤ (1000 : Nat) ∧ List.length lb ≤ (1000 : Nat) ∧ ((0 : Int) ≤ (0 : Int) ∧ (0 : Int) < (↑(2 : Nat) : Int)) ∧ List.length ua ≤ (1000 : Nat) ∧ List.length la ≤ (1000 : Nat) ∧ Ok ub lb wb qb ∧ Ok ua la wa qa ∧ ub = ub ∧ lb = lb ∧ List.reverse lb = List.reverse lb ∧ List.reverse ub = List.reverse ub ∧ List.reverse ub = List.reverse ub ∧ List.reverse lb = List.reverse lb ∧ lb = lb ∧ ub = ub ∧ ua = ua ∧ la = la ∧ List.reverse la = List.reverse la ∧ List.reverse ua = List.reverse ua ∧ List.reverse ua = List.reverse ua ∧ List.reverse la = List.reverse la ∧ la = la ∧ ua = ua ∧ seamT ub lb qb ua la qa (wb + wa) = seamT ub lb qb ua la qa (wb + wa) ∧ (0 : Int) = (0 : Int) ∧ True) (by kernel_rfl) ?_
  have s1 := sh_ok h1
  have s2 := sh_ok h2
  simp only [eq_self, and_true]
  exact ⟨by omega, short2 (wa := wa) (wb := wb) s1 s2, two_chkL h1 h2, by omega, by omega, by omega, by omega, by omega, ⟨by omega, by omega⟩, s2.1, s2.2.1, ⟨by omega, by omega⟩, s1.1, s1.2.1, h2, h1⟩
def E10 : List TV → Dn
 | [.sl (.pair (.sl (.int .i64)) (.pair (.sl (.int .i64)) (.pair (.int .i64) (.pair (.sl (.int .i64)) .unit)))) [(ua, la, wa, qa, _), (ub, lb, wb, qb, _)] .no, .val (.int .i64 0), .val (.int .i64 1)] => some ([Ok ua la wa qa, Ok ub lb wb qb], .res (.tup [ival (waysN ua la qa ub lb qb wa wb), ival 0]) [] [], [])
 | [.sl (.pair (.sl (.int .i64)) (.pair (.sl (.int .i64)) (.pair (.int .i64) (.pair (.sl (.int .i64)) .unit)))) [(ua, la, wa, qa, _), (ub, lb, wb, qb, _)] .no, .val (.int .i64 1), .val (.int .i64 0)] => some ([Ok ua la wa qa, Ok ub lb wb qb], .res (.tup [ival (waysN ub lb qb ua la qa wb wa), ival 0]) [] [], [])
 | _ => none
theorem w10 : VI F2 Try.f10 [some I64, some I64] E10 := by
 refine vi_of fun a => ?_
 unfold E10
 split
 rotate_left 2
 ·trivial
 ·rename_i ua la wa qa za ub lb wb qb zb
  intro hp
  obtain ⟨h1, h2, -⟩ := hp
  refine vcq (A := (2 : Nat) ≤ (4 : Nat) ∧ (∀ (p : (PieceT).den), p ∈ [(ua, la, wa, qa, za), (ub, lb, wb, qb, zb)] → shortP p) ∧ chkL [(ua, la, wa, qa, za), (ub, lb, wb, qb, zb)] = (0 : Int) ∧ (0 : Int) ≤ (0 : Int) ∧ (0 : Int) < (↑(2 : Nat) : Int) ∧ (0 : Int) ≤ (1 : Int) ∧ (1 : Int) < (↑(2 : Nat) : Int) ∧ (0 : Int) ≠ (1 : Int) ∧ ((0 : Int) ≤ (0 : Int) ∧ (0 : Int) < (↑(2 : Nat) : Int)) ∧ List.length ua ≤ (1000 : Nat) ∧ List.length la ≤ (1000 : Nat) ∧ ((0 : Int) ≤ (1 : Int) ∧ (1 : Int) < (↑(2 : Nat) : Int)) ∧ List.length ub ≤ (1000 : Nat) ∧ List.length lb ≤ (1000 : Nat) ∧ Ok ua la wa qa ∧ Ok ub lb wb qb ∧ ua = ua ∧ la = la ∧ List.reverse la = List.reverse la ∧ List.reverse ua = List.reverse ua ∧ List.reverse ua = List.reverse ua ∧ List.reverse la = List.reverse la ∧ la = la ∧ ua = ua ∧ ub = ub ∧ lb = lb ∧ List.reverse lb = List.reverse lb ∧ List.reverse ub = List.reverse ub ∧ List.reverse ub = List.reverse ub ∧ List.reverse lb = List.reverse lb ∧ lb = lb ∧ ub = ub ∧ waysN ua la qa ub lb qb wa wb = waysN ua la qa ub lb qb wa wb ∧ (0 : Int) = (0 : Int) ∧ True) (by kernel_rfl) ?_
  have s1 := sh_ok h1
  have s2 := sh_ok h2
  simp only [eq_self, and_true]
  exact ⟨by omega, short2 (wa := wa) (wb := wb) s1 s2, two_chkL h1 h2, by omega, by omega, by omega, by omega, by omega, ⟨by omega, by omega⟩, s1.1, s1.2.1, ⟨by omega, by omega⟩, s2.1, s2.2.1, h1, h2⟩
 ·rename_i ua la wa qa za ub lb wb qb zb
  intro hp
  obtain ⟨h1, h2, -⟩ := hp
  refine vcq (A := (2 : Nat) ≤ (4 : Nat) ∧ (∀ (p : (PieceT).den), p ∈ [(ua, la, wa, qa, za), (ub, lb, wb, qb, zb)] → shortP p) ∧ chkL [(ua, la, wa, qa, za), (ub, lb, wb, qb, zb)] = (0 : Int) ∧ (0 : Int) ≤ (1 : Int) ∧ (1 : Int) < (↑(2 : Nat) : Int) ∧ (0 : Int) ≤ (0 : Int) ∧ (0 : Int) < (↑(2 : Nat) : Int) ∧ (1 : Int) ≠ (0 : Int) ∧ ((0 : Int) ≤ (1 : Int) ∧ (1 : Int) < (↑(2 : Nat) : Int)) ∧ List.length ub ≤ (1000 : Nat) ∧ List.length lb ≤ (1000 : Nat) ∧ ((0 : Int) ≤ (0 : Int) ∧ (0 : Int) < (↑(2 : Nat) : Int)) ∧ List.length ua ≤ (1000 : Nat) ∧ List.length la ≤ (1000 : Nat) ∧ Ok ub lb wb qb ∧ Ok ua la wa qa ∧ ub = ub ∧ lb = lb ∧ List.reverse lb = List.reverse lb ∧ List.reverse ub = List.reverse ub ∧ List.reverse ub = List.reverse ub ∧ List.reverse lb = List.reverse lb ∧ lb = lb ∧ ub = ub ∧ ua = ua ∧ la = la ∧ List.reverse la = List.reverse la ∧ List.reverse ua = List.reverse ua ∧ List.reverse ua = List.reverse ua ∧ List.reverse la = List.reverse la ∧ la = la ∧ ua = ua ∧ waysN ub lb qb ua la qa wb wa = waysN ub lb qb ua la qa wb wa ∧ (0 : Int) = (0 : Int) ∧ True) (by kernel_rfl) ?_
  have s1 := sh_ok h1
  have s2 := sh_ok h2
  simp only [eq_self, and_true]
  exact ⟨by omega, short2 (wa := wa) (wb := wb) s1 s2, two_chkL h1 h2, by omega, by omega, by omega, by omega, by omega, ⟨by omega, by omega⟩, s2.1, s2.2.1, ⟨by omega, by omega⟩, s1.1, s1.2.1, h2, h1⟩
def F3 : Tbl := ((T6.addI 12 fun a => dS (D16 a)).addI 11 fun a => dS (E11 a)).addI 10 fun a => dS (E10 a)
def withP (te : List TV) (k : Int → List PieceT.den → LA) : LA :=
 match te.getD 4 .unk with
 | .sl (.pair (.sl (.int .i64)) (.pair (.sl (.int .i64)) (.pair (.int .i64) (.pair (.sl (.int .i64)) .unit)))) [(ua, la, wa, qa, _), (ub, lb, wb, qb, _)] _ => k (waysN ua la qa ub lb qb wa wb) [(ua, la, wa, qa, ()), (ub, lb, wb, qb, ())]
 | _ => .un 0
def D3 : List TV → Dn
 | [.sl (.int .i64) _ .no] => some ([], .res (bval true) [] [], [(13, .dep fun te _ => withP te fun n P => .ex Nat fun x => .st { sl := [(4, .sl PieceT P .no), (5, ival n), (13, ival x)], good := [x ≤ 4], m := 4 - x })])
 | _ => none
theorem v3 : VI F3 Try.f3 [some .bool] D3 := by
 refine vi_of fun a => ?_
 unfold D3
 split
 rotate_left
 ·trivial
 rename_i nums
 intro hp
 refine vcq (A := (3 : Int) ≤ (5 : Int) ∧ (5 : Int) ≤ (8 : Int) ∧ ∀ (a a_1 : List Int) (a_2 : Int) (a_3 a_4 : List Int) (a_5 : Int), Ok a a_1 a_2 a_3 → (↑a.length : Int) ≤ (5 : Int) → ((0 : Int) ≤ (0 : Int) ∧ (0 : Int) < (↑(1 : Nat) : Int)) ∧ Ok a a_1 a_2 a_3 ∧ ∀ (a_8 a_9 : List Int) (a_10 : Int) (a_11 a_12 : List Int) (a_13 : Int), Ok a_8 a_9 a_10 a_11 → a_8 = List.map (fun (x : I64.den) => (9 : I64.den) - x) a_1 → (1 : Nat) + (1 : Nat) ≤ (1000000000 : Nat) ∧ Ok a a_1 a_2 a_3 ∧ Ok a_8 a_9 a_10 a_11 ∧ Ok a a_1 a_2 a_3 ∧ Ok a_8 a_9 a_10 a_11 ∧ Ok a a_1 a_2 a_3 ∧ Ok a_8 a_9 a_10 a_11 ∧ Ok a a_1 a_2 a_3 ∧ Ok a_8 a_9 a_10 a_11 ∧ vcIf (waysN a a_1 a_3 a_8 a_9 a_11 a_2 a_10 != waysN a_8 a_9 a_11 a a_1 a_3 a_10 a_2) (false = true ∧ True) (rng ((↑(seamT a a_1 a_3 a_8 a_9 a_11 (a_2 + a_10)).length : Int) + (↑(seamT a_8 a_9 a_11 a a_1 a_3 (a_10 + a_2)).length : Int)) ∧ vcIf (decide (waysN a a_1 a_3 a_8 a_9 a_11 a_2 a_10 > (↑(seamT a a_1 a_3 a_8 a_9 a_11 (a_2 + a_10)).length : Int) + (↑(seamT a_8 a_9 a_11 a a_1 a_3 (a_10 + a_2)).length : Int))) (false = true ∧ True) (rng ((4 : Int) * waysN a a_1 a_3 a_8 a_9 a_11 a_2 a_10) ∧ rng ((↑(seamT a a_1 a_3 a_8 a_9 a_11 (a_2 + a_10)).length : Int) + (↑(seamT a_8 a_9 a_11 a a_1 a_3 (a_10 + a_2)).length : Int)) ∧ vcIf (decide ((4 : Int) * waysN a a_1 a_3 a_8 a_9 a_11 a_2 a_10 < (↑(seamT a a_1 a_3 a_8 a_9 a_11 (a_2 + a_10)).length : Int) + (↑(seamT a_8 a_9 a_11 a a_1 a_3 (a_10 + a_2)).length : Int))) (false = true ∧ True) ((∃ (a_16 : Nat), [(a, a_1, a_2, a_3, ())] ++ [(a_8, a_9, a_10, a_11, ())] = [(a, a_1, a_2, a_3, ()), (a_8, a_9, a_10, a_11, ())] ∧ waysN a a_1 a_3 a_8 a_9 a_11 a_2 a_10 = waysN a a_1 a_3 a_8 a_9 a_11 a_2 a_10 ∧ (0 : Int) = (↑a_16 : Int) ∧ a_16 ≤ (4 : Nat) ∧ ((4 : Nat) - a_16) < (1000000 : Nat)) ∧ ∀ (a_16 : Nat), a_16 ≤ (4 : Nat) → vcIf (decide ((↑a_16 : Int) ≤ (3 : Int))) (((0 : Int) ≤ (0 : Int) ∧ (0 : Int) < (↑(2 : Nat) : Int)) ∧ a.length ≤ (1000 : Nat) ∧ a_1.length ≤ (1000 : Nat) ∧ a_3.length ≤ (1000 : Nat) ∧ (0 : Int) ≤ (↑a_16 : Int) ∧ (↑a_16 : Int) ≤ (3 : Int) ∧ ((0 : Int) ≤ (1 : Int) ∧ (1 : Int) < (↑(2 : Nat) : Int)) ∧ Ok (layU (↑a_16 : Int) a a_1) (layL (↑a_16 : Int) a a_1) a_2 (laidL (↑a_16 : Int) a_3 (4 : Nat)) ∧ Ok a_8 a_9 a_10 a_11 ∧ vcIf (waysN (layU (↑a_16 : Int) a a_1) (layL (↑a_16 : Int) a a_1) (laidL (↑a_16 : Int) a_3 (4 : Nat)) a_8 a_9 a_11 a_2 a_10 != waysN a a_1 a_3 a_8 a_9 a_11 a_2 a_10) (false = true ∧ True) (rng ((↑a_16 : Int) + (1 : Int)) ∧ ∃ (a_18 : Nat), [(a, a_1, a_2, a_3, ()), (a_8, a_9, a_10, a_11, ())] = [(a, a_1, a_2, a_3, ()), (a_8, a_9, a_10, a_11, ())] ∧ waysN a a_1 a_3 a_8 a_9 a_11 a_2 a_10 = waysN a a_1 a_3 a_8 a_9 a_11 a_2 a_10 ∧ (↑a_16 : Int) + (1 : Int) = (↑a_18 : Int) ∧ a_12 = a_12 ∧ a_13 = a_13 ∧ a_18 ≤ (4 : Nat) ∧ ((4 : Nat) - a_18) < ((4 : Nat) - a_16))) (true = true ∧ True))))) (by kernel_rfl) ?_
 simp only [vc_dec, vc_bne, eq_self, true_and, and_true, Bool.false_eq_true, rng]
 refine ⟨by omega, by omega, fun u l w q r z h _ => ⟨⟨by omega, by omega⟩, h, fun u2 l2 w2 q2 r2 z2 h2 _ => ?_⟩⟩
 have e1 := ways_sym h h2
 have e2 := ways_le h h2
 have e3 := ways_ge h h2
 have s1 := seam_len (w := w + w2) h h2
 have s2 := seam_len (w := w2 + w) h2 h
 have sp := sh_ok h
 refine ⟨by omega, h, h2, h, h2, h, h2, h, h2, fun _ => ⟨⟨by omega, by omega⟩, fun e => absurd e (by omega), fun _ => ⟨⟨by omega, by omega⟩, ⟨by omega, by omega⟩, fun e => absurd e (by omega), fun _ => ⟨⟨0, rfl, rfl, by omega, by first | omega | (dsimp only; omega)⟩, fun x hx => ⟨fun hx3 => ?_, fun _ => trivial⟩⟩⟩⟩, fun e => e e1.symm⟩
 have hx' : 0 ≤ (x : Int) ∧ (x : Int) ≤ 3 := by omega
 exact ⟨⟨by omega, by omega⟩, sp.1, sp.2.1, sp.2.2, by omega, by omega, ⟨by omega, by omega⟩, ok_lay h hx', h2, fun _ => ⟨⟨by omega, by omega⟩, x + 1, by omega, by omega, by first | omega | (dsimp only; omega)⟩, fun e => e (ways_lay h h2 hx')⟩
section
variable {tab : IsoF} (tk : TabK tab) (tr : TabR tab) (ts : TabS tab)
theorem add60 {T : Tbl} {k : Nat} (ts : TabS tab) (hT : TOK tab k T) : TOK tab k (T.addI 33 S60) := tok_i hT fun n a p s hs hp => by
 unfold S60 at hs
 split at hs
 ·cases hs
  obtain ⟨o1, o2, rfl, rfl, rfl, rfl, rfl, rfl, rfl, rfl, rfl, rfl, rfl, rfl, rfl, rfl, rfl, rfl, -⟩ := hp
  intro dargs hd
  obtain ⟨d1, _, rfl, h1, h2⟩ := rtl_cases hd
  obtain ⟨d2, _, rfl, h2, h3⟩ := rtl_cases h2
  rw [rtl_nil' h3]
  obtain ⟨r, k1, k2, k3⟩ := ts.seams _ _ _ _ _ _ _ _ d1 d2 o1 o2 h1 h2
  exact ⟨r, _, by simp only [isoN, isoOf, k1, k2, if_true], k2, k3, rfl, rfl, trivial⟩
 ·cases hs
include tk
theorem fok0 : TOK tab 7 F0 := mkI tk (tok6 tk) (by decide) Try.func43 rfl v42 (tok_up (tok6 tk))
include ts
theorem fok1 : TOK tab 1 F1 := add60 ts (mkI tk (tok_0 tk) (by decide) Try.func56 rfl v56 (tok_up (tok_0 tk)))
include tr
theorem fok2 : TOK tab 8 F2 := mkI tk (tok_le (fok1 tk ts) 6) (by decide) Try.func31 rfl v31 (add60 ts (mkI tk (fok0 tk) (by decide) Try.func30 rfl v48 (mkI tk (tok_le (uok2 tk tr) 5) (by decide) Try.func32 rfl v50 (tok_up (fok0 tk)))))
theorem fok3 : TOK tab 9 F3 := mkI tk (fok2 tk tr ts) (by decide) Try.func10 rfl w10 (mkI tk (fok2 tk tr ts) (by decide) Try.func11 rfl w11 (mkI tk (tok_le (tok1 tk) 7) (by decide) Try.func12 rfl v16 (tok_le (tok6 tk) 3)))
end
end Go.Tv
end
