import Derived.Test.YtedcgbkilmlbhaaPk12
section
namespace Go.Tv
open Go Go.Di Go.Proofs
set_option maxRecDepth 100000
def S58:List TV→Sp
 | [.sl (.int .i64) l .no]=>some ([l.length≤1000],.res (.sl cv l .no) [] [])
 | _=>none
def T0d:gN:=T0.dQ 67 S58
def D20:List TV→Dn
 | [.agg [.sl (.int .i64) au .no,.sl (.int .i64) al .no,.val (.int .i64 aw),.sl (.int .i64) aq .no]]=>some ([Sh au al aq],.res (pcV au al aw aq) [] [],[])
 | _=>none
theorem v20:VI T0d Try.f42 [some gI] D20:=by
 refine nN fun a => ?_
 unfold D20
 split
 rotate_left
 ·trivial
 rename_i u l w ls
 intro hp
 refine G3 (A:=u.length≤(1000:Nat)∧l.length≤(1000:Nat)∧ls.length≤(1000:Nat)∧u=u∧l=l∧w=w∧ls=ls∧True) (by kernel_rfl) ?_
 obtain⟨h1,h2,h3⟩:=hp.1
 exact⟨h1,h2,h3,rfl,rfl,rfl,rfl,trivial⟩
structure Qj (aZ:bq):Prop where
 dup:∀ (l:List Int) d,l.length≤1000→RT eD [] (.sl cv l .no) d→∃ r,aZ 67 [d]=some r∧r.pure=true∧RT eD [] (.sl cv l .no) r
section
variable {aZ:bq} (tk:sC aZ) (tu:Qj aZ)
theorem Z8 {T:gN} {k:Nat} (tu:Qj aZ) (hT:lg aZ k T):lg aZ k (T.dQ 67 S58):=Hp hT fun n a p s hs hp=>by
 unfold S58 at hs
 split at hs
 ·rename_i l
  cases hs
  intro bY hd
  obtain⟨d,_,rfl,h1,h2⟩:=aj hd
  rw[aM h2]
  obtain⟨r,k1,k2,k3⟩:=tu.dup l d hp.1 h1
  exact⟨r,_,by simp only[vY,iC,k1,k2,if_true],k2,k3,rfl,rfl,trivial⟩
 ·cases hs
end
end Go.Tv
end
section
namespace Go.Tv
open Go Go.Di Go.Proofs
theorem IF {w:Int}:∀ (l:List Int) (z:Int),l.foldl mn z≤w↔z≤w∨∃ v∈l,v≤w
 | [],z=>by simp
 | a::l,z=>by
  rw[List.foldl_cons,IF l]
  have e:mn z a≤w↔z≤w∨a≤w:=by unfold mn; split<;>omega
  rw[e]
  simp only[List.mem_cons,exists_eq_or_imp,or_assoc]
theorem Rg {w:Int} {l:List Int} (h:1≤l.length):(l.drop 1).foldl mn (l.getD 0 0)≤w↔∃ v∈l,v≤w:=by
 cases l with
 | nil=>simp at h
 | cons a l =>
  rw[IF]
  simp
section
variable {ua la qa ub lb qb:List Int} {w wa wb:Int}
theorem FU {v:Int}:v∈bR ua la qa ub lb qb↔∃ x∈qa,∃ y∈qb,∃ k,k<ub.length+ua.length+1∧3≤(stA (aT x ua la) (aR y ub lb) ((k:Int)-ub.length)).2.2∧v=(stA (aT x ua la) (aR y ub lb) ((k:Int)-ub.length)).2.1-(stA (aT x ua la) (aR y ub lb) ((k:Int)-ub.length)).1:=by
 simp only[bR,lY,nZ,List.mem_flatMap,List.mem_range]
 constructor
 ·rintro⟨x,hx,y,hy,k,hk,h⟩
  split at h
  ·rename_i h3
   exact⟨x,hx,y,hy,k,hk,h3,List.mem_singleton.1 h⟩
  ·cases h
 ·rintro⟨x,hx,y,hy,k,hk,h3,rfl⟩
  exact⟨x,hx,y,hy,k,hk,by rw[if_pos h3]; exact List.mem_singleton.2 rfl⟩
theorem HV (hb:Ok ub lb wb qb):(∃ v∈bR ua la qa ub lb qb,v≤w)↔ai ua la qa ub lb qb w≠[]:=by
 have hl:∀ y,(aR y ub lb).length=ub.length:=fun y=>(sV hb.len).1
 constructor
 ·rintro⟨v,hv,hw⟩
  obtain⟨x,hx,y,hy,k,hk,h3,rfl⟩:=FU.1 hv
  refine List.ne_nil_of_mem (a:=(x,y,(k:Int)-ub.length,())) (jA.2 ⟨hx,hy,?_⟩)
  simp only[pe,List.mem_filter,List.mem_map,List.mem_range]
  exact⟨⟨k,hk,by rw[hl]⟩,decide_eq_true ⟨h3,hw⟩⟩
 ·intro h
  obtain⟨s,hs⟩:=List.exists_mem_of_ne_nil _ h
  obtain⟨hx,hy,h4⟩:=jA.1 hs
  simp only[pe,List.mem_filter,List.mem_map,List.mem_range] at h4
  obtain⟨⟨k,hk,e⟩,h5⟩:=h4
  have h5:=of_decide_eq_true h5
  have e2:s.2.2.1=(k:Int)-ub.length:=by rw[← e,hl]
  rw[e2] at h5
  exact⟨_,FU.2 ⟨s.1,hx,s.2.1,hy,k,hk,h5.1,rfl⟩,h5.2⟩
theorem AK {v:Int} (h:v∈bR ua la qa ub lb qb):0≤v:=by
 obtain⟨x,hx,y,hy,k,hk,h3,rfl⟩:=FU.1 h
 have hne:gK (aT x ua la) (aR y ub lb) ((k:Int)-ub.length) (aR y ub lb).length≠[]:=by
  intro e
  rw[HT,e] at h3
  simp at h3
 have h:=Ny hne
 have:=h.1.2 _ h.2.1.1
 simp only[stA]
 omega
theorem Ou (ha:Ok ua la wa qa) (hb:Ok ub lb wb qb):0≤kN ua la qa ub lb qb∧(kN ua la qa ub lb qb≤wa+wb↔0<dD ua la qa ub lb qb wa wb):=by
 have hne:1≤(bR ua la qa ub lb qb++bR ub lb qb ua la qa).length:=by
  rw[List.length_append]
  by_cases hw:ub.length≤ua.length
  ·have:=wJ ha hb hw; omega
  ·have:=wJ hb ha (by omega); omega
 have e:=fun w=>Rg (w:=w) hne
 refine⟨?_,?_⟩
 ·by_cases h:kN ua la qa ub lb qb ≤ -1
  ·obtain⟨v,hv,h1⟩:=(e (-1)).1 h
   rcases List.mem_append.1 hv with k | k
   ·have:=AK k; omega
   ·have:=AK k; omega
  ·omega
 ·rw[kN,e]
  have h1:=HN ha hb
  have h2:=HO ha hb
  have s1:=HV (ua:=ua) (la:=la) (qa:=qa) (w:=wa+wb) hb
  have s2:=HV (ua:=ub) (la:=lb) (qa:=qb) (w:=wb+wa) ha
  constructor
  ·rintro⟨v,hv,hw⟩
   rcases List.mem_append.1 hv with k | k
   ·have:=List.length_pos_iff.2 (s1.1 ⟨v,k,hw⟩); omega
   ·have:=List.length_pos_iff.2 (s2.1 ⟨v,k,by omega⟩); omega
  ·intro h
   by_cases k:ai ua la qa ub lb qb (wa+wb)=[]
   ·have k2:ai ub lb qb ua la qa (wb+wa)≠[]:=fun k2=>by rw[k,k2] at h1; simp at h1; omega
    obtain⟨v,hv,hw⟩:=s2.2 k2
    exact⟨v,List.mem_append.2 (.inr hv),by omega⟩
   ·obtain⟨v,hv,hw⟩:=s1.2 k
    exact⟨v,List.mem_append.2 (.inl hv),hw⟩
theorem yt {α β:Type} {f g:α→List β} (h:∀ x,(f x).Sublist (g x)):∀ l:List α,(l.flatMap f).Sublist (l.flatMap g)
 | [] => .slnil
 | x::l=>by rw[List.flatMap_cons,List.flatMap_cons]; exact(h x).append (yt h l)
theorem NP {w':Int} (h:w≤w'):(ai ua la qa ub lb qb w).Sublist (ai ua la qa ub lb qb w'):=by
 refine yt (fun x=>yt (fun y=>List.Sublist.map _ ?_) _) _
 have e:pe (aT x ua la) (aR y ub lb) w (ub.length+ua.length+1)=(pe (aT x ua la) (aR y ub lb) w' (ub.length+ua.length+1)).filter (oG (aT x ua la) (aR y ub lb) w):=by
  rw[pe,pe,List.filter_filter]
  refine List.filter_congr fun s _ => ?_
  cases hf:oG (aT x ua la) (aR y ub lb) w s
  ·rfl
  ·have:=of_decide_eq_true hf
   rw[show oG (aT x ua la) (aR y ub lb) w' s=true from decide_eq_true ⟨this.1,by omega⟩]
   rfl
 rw[e]
 exact List.filter_sublist
end
theorem Ns {α:Type} {l m:List α} {x y:α} (h:(x::l).Sublist (y::m)):(x=y→l.Sublist m)∧(x≠y→(x::l).Sublist m):=by
 constructor
 ·rintro rfl
  exact List.cons_sublist_cons.1 h
 ·intro hne
  cases h with
  | cons _ h=>exact h
  | cons_cons _ h=>exact(hne rfl).elim
end Go.Tv
end
section
namespace Go.Tv
open Go Go.Di Go.Proofs
set_option maxRecDepth 100000
noncomputable def F6 : gN := (((((T6.qp 24 fun a c => dS (D19 a c)).dQ 11 fun a => dS (E11 a)).dQ 10 fun a => dS (E10 a)).dQ 25 fun a => dS (E25 a)).dQ 42 fun a => dS (D20 a)).LH 15 Try.f15 [(4, .un 3)]
def Y0 (te : List TV) (k : List jw.den → List jw.den → LA) : LA :=
 match te.getD 6 .unk, te.getD 8 .unk with
 | .sl (.pair (.int .i64) (.pair (.int .i64) (.pair (.int .i64) .unit))) l _, .sl (.pair (.int .i64) (.pair (.int .i64) (.pair (.int .i64) .unit))) m _ => k l m
 | _, _ => .un 0
def D6 : List TV → Dn
 | [.sl (.int .i64) _ .no] => some ([], .res (mX true) [] [], [(16, .dep fun te _ => Y0 te fun f m => .ex Nat fun i => .ex Nat fun j => .st { sl := [(16, bX i), (17, bX j)], eE := [i ≤ f.length, j ≤ m.length, (f.drop i).Sublist (m.drop j)], m := m.length - j })])
 | _ => none
theorem uR {α : Type} {l : List α} {i : Nat} (d : α) (h : i < l.length) : l.drop i = l.getD i d :: l.drop (i + 1) := by
 rw [List.drop_eq_getElem_cons h, List.getD_eq_getElem?_getD, List.getElem?_eq_getElem h]
 rfl
theorem Io {u l q : List Int} {w w' : Int} (h : Ok u l w q) (h1 : w ≤ w') (h2 : w' ≤ 2 ∨ w' = w) : Ok u l w' q :=
 { h with w0 := by have := h.w0; omega, w2 := by have := h.w2; omega }
theorem VG {f m : List jw.den} {i j : Nat} (d : jw.den) (h : (f.drop i).Sublist (m.drop j)) (hi : i < f.length) (hj : j < m.length) : (m.getD j d = f.getD i d → (f.drop (i + 1)).Sublist (m.drop (j + 1))) ∧ (m.getD j d ≠ f.getD i d → (f.drop i).Sublist (m.drop (j + 1))) := by
 rw [uR d hi, uR d hj] at h
 have := Ns h
 exact ⟨fun e => this.1 e.symm, fun e => by rw [uR d hi]; exact this.2 fun k => e k.symm⟩
theorem QO {x y : jw.den} : (x.1 = y.1 ∧ x.2.1 = y.2.1 ∧ x.2.2.1 = y.2.2.1) ↔ x = y := by
 obtain ⟨a, b, c, _⟩ := x
 obtain ⟨a', b', c', _⟩ := y
 constructor
 ·rintro ⟨h1, h2, h3⟩
  simp only at h1 h2 h3
  subst h1 h2 h3
  rfl
 ·rintro ⟨⟩
  exact ⟨rfl, rfl, rfl⟩
def v6.q1 (p0 : Nat) (p1 p2 p3 p4 p5 p6 : List Int) (p7 p8 p9 gB : Int) (tX : List Int) (Ff : Int) (Fe : Nat) (R5 : Int) : Prop := cq ((↑p0 : Int) + (1 : Int)) ∧ ∃ (a : Nat), ∃ (a_1 : Nat), false = false ∧ ai p1 p2 p3 p4 p5 p6 (p7 + p8) = ai p1 p2 p3 p4 p5 p6 (p7 + p8) ∧ ai p1 p2 p3 p4 p5 p6 (p9 + gB) = ai p1 p2 p3 p4 p5 p6 (p9 + gB) ∧ R5 = (↑a : Int) ∧ (↑p0 : Int) + (1 : Int) = (↑a_1 : Int) ∧ tX = tX ∧ Ff = Ff ∧ [(p1, p2, p9, p3, ()), (p4, p5, gB, p6, ())] = [(p1, p2, p9, p3, ()), (p4, p5, gB, p6, ())] ∧ a ≤ (ai p1 p2 p3 p4 p5 p6 (p7 + p8)).length ∧ a_1 ≤ (ai p1 p2 p3 p4 p5 p6 (p9 + gB)).length ∧ (List.drop a (ai p1 p2 p3 p4 p5 p6 (p7 + p8))).Sublist (List.drop a_1 (ai p1 p2 p3 p4 p5 p6 (p9 + gB))) ∧ ((ai p1 p2 p3 p4 p5 p6 (p9 + gB)).length - a_1) < ((ai p1 p2 p3 p4 p5 p6 (p9 + gB)).length - p0)
def v6.q2 (p0 : Int) (p1 : Nat) : Prop := (0 : Int) ≤ p0 ∧ p0 < (↑p1 : Int)
theorem v6 : VI F6 Try.f6 [some .bool] D6 1 := by
 refine nN fun a => ?_
 unfold D6
 split
 rotate_left
 ·trivial
 rename_i fe
 intro hp
 refine G3 (A := (3 : Int) ≤ (5 : Int) ∧ (5 : Int) ≤ (8 : Int) ∧ ∀ (a a_1 : List Int) (a_2 : Int) (a_3 a_4 : List Int) (a_5 : Int), Ok a a_1 a_2 a_3 → (↑a.length : Int) ≤ (5 : Int) → (3 : Int) ≤ (5 : Int) ∧ (5 : Int) ≤ (8 : Int) ∧ ∀ (a_6 a_7 : List Int) (a_8 : Int) (a_9 a_10 : List Int) (a_11 : Int), Ok a_6 a_7 a_8 a_9 → (↑a_6.length : Int) ≤ (5 : Int) → v6.q2 (0 : Int) (2 : Nat) ∧ Sh a a_1 a_3 ∧ (1 : Nat) ≤ (1000000000 : Nat) ∧ cq (1 : Int) ∧ v6.q2 (1 : Int) (2 : Nat) ∧ Sh a_6 a_7 a_9 ∧ (1 : Nat) + (1 : Nat) ≤ (1000000000 : Nat) ∧ cq (2 : Int) ∧ v6.q2 (0 : Int) (2 : Nat) ∧ (-1000 : Int) ≤ a_2 ∧ a_2 ≤ (1000 : Int) ∧ (-1000 : Int) ≤ (2 : Int) ∧ (2 : Int) ≤ (1000 : Int) + a_2 ∧ (2 : Int) ≤ (5000 : Int) ∧ ∀ (a_12 : Int) (a_13 : List Int) (a_14 : Int), a_2 ≤ a_12 → a_12 ≤ (2 : Int) ∨ a_12 = a_2 → v6.q2 (1 : Int) (2 : Nat) ∧ (-1000 : Int) ≤ a_8 ∧ a_8 ≤ (1000 : Int) ∧ (-1000 : Int) ≤ (2 : Int) ∧ (2 : Int) ≤ (1000 : Int) + a_8 ∧ (2 : Int) ≤ (5000 : Int) ∧ ∀ (a_15 : Int) (a_16 : List Int) (a_17 : Int), a_8 ≤ a_15 → a_15 ≤ (2 : Int) ∨ a_15 = a_8 → v6.q2 (0 : Int) (2 : Nat) ∧ True ∧ True ∧ v6.q2 (1 : Int) (2 : Nat) ∧ True ∧ True ∧ Ok a a_1 a_2 a_3 ∧ Ok a_6 a_7 a_8 a_9 ∧ Ok a a_1 a_12 a_3 ∧ Ok a_6 a_7 a_15 a_9 ∧ Ok a a_1 a_2 a_3 ∧ Ok a_6 a_7 a_8 a_9 ∧ Ok a a_1 a_2 a_3 ∧ Ok a_6 a_7 a_8 a_9 ∧ Ok a a_1 a_12 a_3 ∧ Ok a_6 a_7 a_15 a_9 ∧ aL (kN a a_1 a_3 a_6 a_7 a_9 != kN a a_1 a_3 a_6 a_7 a_9) (false = true ∧ True) (v6.q2 (0 : Int) (2 : Nat) ∧ v6.q2 (1 : Int) (2 : Nat) ∧ cq (a_2 + a_8) ∧ aL (!decide (kN a a_1 a_3 a_6 a_7 a_9 ≤ a_2 + a_8) == decide (dD a a_1 a_3 a_6 a_7 a_9 a_2 a_8 > (0 : Int))) (false = true ∧ True) (aL (decide (kN a a_1 a_3 a_6 a_7 a_9 < (0 : Int))) (false = true ∧ True) ((∃ (a_18 : Nat), ∃ (a_19 : Nat), (0 : Int) = (↑a_18 : Int) ∧ (0 : Int) = (↑a_19 : Int) ∧ a_18 ≤ (ai a a_1 a_3 a_6 a_7 a_9 (a_2 + a_8)).length ∧ a_19 ≤ (ai a a_1 a_3 a_6 a_7 a_9 (a_12 + a_15)).length ∧ (List.drop a_18 (ai a a_1 a_3 a_6 a_7 a_9 (a_2 + a_8))).Sublist (List.drop a_19 (ai a a_1 a_3 a_6 a_7 a_9 (a_12 + a_15))) ∧ ((ai a a_1 a_3 a_6 a_7 a_9 (a_12 + a_15)).length - a_19) < (1000000 : Nat)) ∧ ∀ (a_18 a_19 : Nat), a_18 ≤ (ai a a_1 a_3 a_6 a_7 a_9 (a_2 + a_8)).length → a_19 ≤ (ai a a_1 a_3 a_6 a_7 a_9 (a_12 + a_15)).length → (List.drop a_18 (ai a a_1 a_3 a_6 a_7 a_9 (a_2 + a_8))).Sublist (List.drop a_19 (ai a a_1 a_3 a_6 a_7 a_9 (a_12 + a_15))) → aL (decide ((↑a_19 : Int) < (↑(ai a a_1 a_3 a_6 a_7 a_9 (a_12 + a_15)).length : Int))) (aL (decide ((↑a_18 : Int) < (↑(ai a a_1 a_3 a_6 a_7 a_9 (a_2 + a_8)).length : Int))) (v6.q2 (↑a_19 : Int) (ai a a_1 a_3 a_6 a_7 a_9 (a_12 + a_15)).length ∧ v6.q2 (↑a_18 : Int) (ai a a_1 a_3 a_6 a_7 a_9 (a_2 + a_8)).length ∧ aL (((ai a a_1 a_3 a_6 a_7 a_9 (a_12 + a_15)).getD a_19 ((0 : Int), (0 : Int), (0 : Int), ())).fst == ((ai a a_1 a_3 a_6 a_7 a_9 (a_2 + a_8)).getD a_18 ((0 : Int), (0 : Int), (0 : Int), ())).fst && (((ai a a_1 a_3 a_6 a_7 a_9 (a_12 + a_15)).getD a_19 ((0 : Int), (0 : Int), (0 : Int), ())).snd.fst == ((ai a a_1 a_3 a_6 a_7 a_9 (a_2 + a_8)).getD a_18 ((0 : Int), (0 : Int), (0 : Int), ())).snd.fst && (((ai a a_1 a_3 a_6 a_7 a_9 (a_12 + a_15)).getD a_19 ((0 : Int), (0 : Int), (0 : Int), ())).snd.snd.fst == ((ai a a_1 a_3 a_6 a_7 a_9 (a_2 + a_8)).getD a_18 ((0 : Int), (0 : Int), (0 : Int), ())).snd.snd.fst && true))) (cq ((↑a_18 : Int) + (1 : Int)) ∧ v6.q1 a_19 a a_1 a_3 a_6 a_7 a_9 a_2 a_8 a_12 a_15 a_16 a_17 a_18 ((↑a_18 : Int) + (1 : Int))) (v6.q1 a_19 a a_1 a_3 a_6 a_7 a_9 a_2 a_8 a_12 a_15 a_16 a_17 a_18 (↑a_18 : Int))) (aL ((↑a_18 : Int) == (↑(ai a a_1 a_3 a_6 a_7 a_9 (a_2 + a_8)).length : Int)) (true = true ∧ True) (false = true ∧ True))) (aL ((↑a_18 : Int) == (↑(ai a a_1 a_3 a_6 a_7 a_9 (a_2 + a_8)).length : Int)) (true = true ∧ True) (false = true ∧ True)))))) (by kernel_rfl) ?_
 unfold v6.q2 v6.q1
 simp only [cZ, dK, eL, Y5, eq_self, true_and, and_true, Bool.false_eq_true, cq]
 refine ⟨by omega, by omega, fun ua la wa qa r z ha _ => ⟨by omega, by omega, fun ub lb wb qb r2 z2 hb _ => ?_⟩⟩
 have sa := lq ha
 have sb := lq hb
 have na := ha.num.1
 have nb := hb.num.1
 obtain ⟨e1, e2⟩ := Ou ha hb
 refine ⟨⟨by omega, by omega⟩, sa, by omega, ⟨by omega, by omega⟩, ⟨by omega, by omega⟩, sb, by omega, ⟨by omega, by omega⟩, ⟨by omega, by omega⟩, by omega, by omega, by omega, by omega, by omega, fun w1 r3 z3 h1 h2 => ⟨⟨by omega, by omega⟩, by omega, by omega, by omega, by omega, by omega, fun w2 r4 z4 h3 h4 => ?_⟩⟩
 have ka := Io ha h1 h2
 have kb := Io hb h3 h4
 have hs := NP (ua := ua) (la := la) (qa := qa) (ub := ub) (lb := lb) (qb := qb) (w := wa + wb) (w' := w1 + w2) (by omega)
 have l1 := mz (w := wa + wb) ha hb
 have l2 := mz (w := w1 + w2) ha hb
 revert hs l1 l2
 generalize ai ua la qa ub lb qb (wa + wb) = f
 generalize ai ua la qa ub lb qb (w1 + w2) = m
 intro hs l1 l2
 refine ⟨⟨by omega, by omega⟩, ⟨by omega, by omega⟩, ha, hb, ka, kb, ha, hb, ha, hb, ka, kb, fun _ => ⟨⟨by omega, by omega⟩, ⟨by omega, by omega⟩, ⟨by omega, by omega⟩, ?_⟩, fun e => (e trivial).elim⟩
 refine jH.2 ⟨fun _ => ⟨fun h => absurd h (by omega), fun _ => ?_⟩, fun e => ?_⟩
 ·refine ⟨⟨0, 0, rfl, rfl, Nat.zero_le _, Nat.zero_le _, hs, by first | omega | (dsimp only; omega)⟩, fun i j hi hj h => ⟨fun g1 => ⟨fun g2 => ⟨⟨by omega, by omega⟩, ⟨by omega, by omega⟩, ?_⟩, fun g2 => ?_⟩, fun g1 => ?_⟩⟩
  ·have g := VG (0, 0, 0, ()) h (by omega) (by omega)
   have hx := QO (x := m.getD j (0, 0, 0, ())) (y := f.getD i (0, 0, 0, ()))
   refine jH.2 ⟨fun e => ⟨⟨by omega, by omega⟩, ⟨by omega, by omega⟩, i + 1, j + 1, by omega, by omega, by omega, by omega, g.1 (hx.1 ?_), by omega⟩, fun e => ⟨⟨by omega, by omega⟩, i, j + 1, rfl, by omega, by omega, by omega, g.2 (fun e' => ?_), by omega⟩⟩
   ·simpa using e
   ·have := hx.2 e'
    simp_all
  ·exact jH.2 ⟨fun _ => trivial, fun e => by simp at e; omega⟩
  ·have hn : f.drop i = [] := by
    have := h.length_le
    rw [List.length_drop, List.length_drop] at this
    exact List.drop_eq_nil_of_le (by omega)
   have := List.drop_eq_nil_iff.1 hn
   exact jH.2 ⟨fun _ => trivial, fun e => by simp at e; omega⟩
 ·simp only [beq_eq_false_iff_ne, ne_eq, decide_eq_decide] at e
  exact (e ⟨fun h => by have := e2.1 h; omega, fun h => e2.2 (by omega)⟩).elim
end Go.Tv
end
