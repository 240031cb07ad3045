import Derived.Test.YtedcgbkilmlbhaaGreatPk08
section
namespace Go.Tv
open Go Go.Di Go.Proofs
set_option maxRecDepth 100000
def D25:List TV→Dn
 | [.sl (.int .i64) l .no,.sl (.int .i64) m .no]=>some ([l.length≤1000,m.length≤1000],.res (bval (decide (l=m))) [] [],[(4,.ex Nat fun i => .ex Bool fun b => .st { sl:=[(5,bval b),(6,ival i)],good:=[i≤l.length,b=decide (l.length=m.length∧l.take i=m.take i)],m:=l.length-i })])
 | _=>none
theorem v25:VI T0 Tryz.f49 [some .bool] D25:=by
 refine vi_of fun a => ?_
 unfold D25
 split
 rotate_left
 ·trivial
 rename_i l m
 intro hp
 refine vcq (A:=(∃ (a:Nat),∃ (a_1:Bool),((↑l.length:Int)==(↑m.length:Int))=a_1∧(0:Int)=(↑a:Int)∧a≤l.length∧a_1=decide (l.length=m.length∧List.take a l=List.take a m)∧l.length-a<(1000000:Nat))∧∀ (a:Nat) (a_1:Bool),a≤l.length→a_1=decide (l.length=m.length∧List.take a l=List.take a m)→vcIf a_1 (vcIf (decide ((↑a:Int)<(↑l.length:Int))) (((0:Int)≤(↑a:Int)∧(↑a:Int)<(↑l.length:Int))∧((0:Int)≤(↑a:Int)∧(↑a:Int)<(↑m.length:Int))∧rng ((↑a:Int)+(1:Int))∧∃ (a_4:Nat),∃ (a_5:Bool),l=l∧m=m∧false=false∧(l.getD a (0:Int)==m.getD a (0:Int))=a_5∧(↑a:Int)+(1:Int)=(↑a_4:Int)∧a_4≤l.length∧a_5=decide (l.length=m.length∧List.take a_4 l=List.take a_4 m)∧l.length-a_4<l.length-a) (a_1=decide (l=m)∧True)) (a_1=decide (l=m)∧True)) (by kernel_rfl) ?_
 obtain⟨h1,h2,-⟩:=hp
 simp only[vc_dec,vc_beq,rng,and_true,true_and,eq_self]
 refine⟨⟨0,_,rfl,rfl,by omega,?_,by omega⟩,fun i b h3 h4 => ?_⟩
 ·rw[Bool.eq_iff_iff]; simp; omega
 rw[vc_iff]
 subst h4
 simp only[decide_eq_true_eq,decide_eq_false_iff_not]
 refine⟨fun h5=>⟨fun h6=>⟨by omega,by omega,by omega,i+1,_,rfl,by omega,by omega,?_,by omega⟩,fun h6 => ?_⟩,fun h5 => ?_⟩
 ·rw[Bool.eq_iff_iff,decide_eq_true_eq,take_one (by omega),take_one (by omega),beq_iff_eq]
  refine⟨fun h=>⟨h5.1,by rw[h5.2,h]⟩,fun h => ?_⟩
  have:=List.append_inj_right' h.2 rfl
  simpa using this
 ·rw[decide_eq_decide]
  have e1:=h5.2
  rw[List.take_of_length_le (by omega),List.take_of_length_le (by omega)] at e1
  exact⟨fun _=>e1,fun h=>h5⟩
 ·rw[decide_eq_decide]
  exact⟨fun h=>absurd h h5,fun h=>by subst h; exact absurd ⟨rfl,rfl⟩ h5⟩
def G7:Tbl:=T0.addI 49 fun a=>dS (D25 a)
def D26:List TV→Dn
 | [.agg [.sl (.int .i64) au .no,.sl (.int .i64) al .no,.val (.int .i64 aw),.sl (.int .i64) aq .no],.agg [.sl (.int .i64) bu .no,.sl (.int .i64) bl .no,.val (.int .i64 bw),.sl (.int .i64) bq .no]]=>some ([Sh au al aq,Sh bu bl bq],.res (bval (decide (au=bu∧al=bl∧aw=bw∧aq=bq))) [] [],[])
 | _=>none
theorem v26:VI G7 Tryz.f48 [some .bool] D26:=by
 refine vi_of fun a => ?_
 unfold D26
 split
 rotate_left
 ·trivial
 rename_i u l w ls u2 l2 w2 ls2
 intro hp
 refine vcq (A:=u.length≤(1000:Nat)∧u2.length≤(1000:Nat)∧vcIf (decide (u=u2)) (l.length≤(1000:Nat)∧l2.length≤(1000:Nat)∧vcIf (decide (l=l2)) (vcIf (w==w2) (ls.length≤(1000:Nat)∧ls2.length≤(1000:Nat)∧decide (ls=ls2)=decide (u=u2∧l=l2∧w=w2∧ls=ls2)∧True) (false=decide (u=u2∧l=l2∧w=w2∧ls=ls2)∧True)) (false=decide (u=u2∧l=l2∧w=w2∧ls=ls2)∧True)) (false=decide (u=u2∧l=l2∧w=w2∧ls=ls2)∧True)) (by kernel_rfl) ?_
 obtain⟨⟨a1,a2,a3⟩,⟨b1,b2,b3⟩,-⟩:=hp
 simp only[vc_dec,vc_beq,and_true]
 refine⟨a1,b1,fun h1=>⟨a2,b2,fun h2=>⟨fun h3=>⟨a3,b3,?_⟩,fun h3 => ?_⟩,fun h2 => ?_⟩,fun h1 => ?_⟩
 ·rw[decide_eq_decide]; exact⟨fun h=>⟨h1,h2,h3,h⟩,fun h=>h.2.2.2⟩
 ·rw[decide_eq_false fun h=>h3 h.2.2.1]
 ·rw[decide_eq_false fun h=>h2 h.2.1]
 ·rw[decide_eq_false fun h=>h1 h.1]
def D42:List TV→Dn
 | [.sl (.pair (.sl (.int .i64)) (.pair (.sl (.int .i64)) (.pair (.int .i64) (.pair (.sl (.int .i64)) .unit)))) l .no]=>some ([l.length≤1000,∀ p∈l,shortP p],.res (ival (if 4<l.length then 6 else chkL l)) [] [],[])
 | _=>none
theorem v42:VI T6 Tryz.f50 [some I64] D42:=by
 refine vi_of fun a => ?_
 unfold D42
 split
 rotate_left
 ·trivial
 rename_i l
 intro hp
 refine vcq (A:=vcIf (decide ((↑l.length:Int)>(4:Int))) (((6:Int)=if (4:Nat)<l.length then (6:Int) else chkL l)∧True) (l.length≤(1000:Nat)∧(∀ (p:(PieceT).den),p∈l→shortP p)∧(chkL l=if (4:Nat)<l.length then (6:Int) else chkL l)∧True)) (by kernel_rfl) ?_
 obtain⟨h1,h2,-⟩:=hp
 simp only[vc_dec,and_true]
 exact⟨fun h=>by rw[if_pos (by omega)],fun h=>⟨by omega,h2,by rw[if_neg (by omega)]⟩⟩
def E1:Tbl:=((T8.addI 50 fun a=>dS (D42 a)).addI 49 fun a=>dS (D25 a)).addI 48 fun a=>dS (D26 a)
section
variable {tab:IsoF} (tk:TabK tab)
include tk
theorem gok7:TOK tab 1 G7:=mkI tk (tok_0 tk) (by decide) Tryz.func49 rfl v25 (tok_up (tok_0 tk))
theorem eok1:TOK tab 8 E1:=mkI tk (tok_le (gok7 tk) 6) (by decide) Tryz.func48 rfl v26 (mkI tk (tok_le (tok_0 tk) 7) (by decide) Tryz.func49 rfl v25 (mkI tk (tok_le (tok6 tk) 1) (by decide) Tryz.func50 rfl v42 (tok8 tk)))
end
end Go.Tv
end
section
namespace Go.Tv
open Go Go.Di Go.Proofs
def xorL (n:Int) (q:List Int):List Int:=q.map fun x=>xorI x n
def sortI (l:List Int):List Int:=l.mergeSort fun x y=>decide (x≤y)
theorem four {x:Int} (h:0≤x∧x≤3):x=0∨x=1∨x=2∨x=3:=by omega
theorem xor_in {x n:Int} (hx:0≤x∧x≤3) (hn:0≤n∧n≤3):(0≤xorI x n∧xorI x n≤3)∧xorI (xorI x n) n=x:=by
 rcases four hx with rfl | rfl | rfl | rfl<;>rcases four hn with rfl | rfl | rfl | rfl<;>decide
theorem nodup_asc {l:List Int} (h:l.Pairwise (· < ·)):l.Nodup:=h.imp fun h=>by omega
theorem mem_laid {n x:Int} {q:List Int}:x∈laidL n q 4↔(0≤x∧x≤3)∧xorI x n∈q:=by
 simp only[laidL,List.mem_filter,List.mem_map,List.mem_range,decide_eq_true_eq]
 constructor
 ·rintro⟨⟨k,hk,rfl⟩,h⟩
  exact⟨by simp only[Int.ofNat_eq_natCast]; omega,h⟩
 ·rintro⟨h1,h2⟩
  exact⟨⟨x.toNat,by omega,by simp only[Int.ofNat_eq_natCast]; omega⟩,h2⟩
theorem sort_laid {q:List Int} {n:Int} (hl:∀ x∈q,0≤x∧x≤3) (ha:q.Pairwise (· < ·)) (hn:0≤n∧n≤3):sortI (xorL n q)=laidL n q 4:=by
 have h1:(xorL n q).Nodup:=by
  have:=nodup_asc ha
  unfold xorL
  rw[List.Nodup,List.pairwise_map]
  refine this.imp_of_mem fun {a b} ha hb hab e=>hab ?_
  rw[← (xor_in (hl a ha) hn).2,← (xor_in (hl b hb) hn).2,e]
 have h2:=laidL_asc n q 4
 have hp:(xorL n q).Perm (laidL n q 4):=(List.perm_ext_iff_of_nodup h1 (nodup_asc h2)).2 fun x=>by
  rw[mem_laid,xorL,List.mem_map]
  constructor
  ·rintro⟨y,hy,rfl⟩
   have:=xor_in (hl y hy) hn
   exact⟨this.1,by rw[this.2]; exact hy⟩
  ·rintro⟨hx,h⟩
   exact⟨_,h,(xor_in hx hn).2⟩
 refine List.Perm.eq_of_pairwise (le:=fun a b:Int=>a≤b) (fun a b _ _ h1 h2=>by omega) ?_ (h2.imp fun h=>by omega) ((List.mergeSort_perm _ _).trans hp)
 have:=List.pairwise_mergeSort (le:=fun x y:Int=>decide (x≤y)) (fun a b c h1 h2=>by simp at *; omega) (fun a b=>by simp; omega) (xorL n q)
 exact this.imp fun h=>by simpa using h
end Go.Tv
end
section
namespace Go.Tv
open Go Go.Di Go.Proofs
set_option maxRecDepth 100000
def lft : Code → Code
 | .seq a _ => a
 | _ => .skip
def rgt : Code → Code
 | .seq _ b => b
 | _ => .skip
def seqs : List Code → Code → Code
 | [], r => r
 | c :: l, r => .seq c (seqs l r)
noncomputable def y0 : Code := bodyC Tryz.f52
noncomputable def y5 : Code := rgt (rgt (rgt (rgt (rgt y0))))
noncomputable def preY : List Code := [lft y0, lft (rgt y0), lft (rgt (rgt y0)), lft (rgt (rgt (rgt y0))), lft (rgt (rgt (rgt (rgt y0)))), lft (lft y5)]
noncomputable def loopY : Code := rgt (lft y5)
noncomputable def sortY : Code := lft (rgt y5)
noncomputable def endY : Code := rgt (rgt y5)
theorem y0_eq : y0 = seqs [lft y0, lft (rgt y0), lft (rgt (rgt y0)), lft (rgt (rgt (rgt y0))), lft (rgt (rgt (rgt (rgt y0))))] (.seq (.seq (lft (lft y5)) loopY) (.seq sortY endY)) := by kernel_rfl
def LT : Tbl := U2.addI 89 fun a => dS (D77 a)
abbrev pcV4 (u l : TV) (w : Int) (q : TV) : List TV := [u, l, ival w, q]
def te0Y (u l q : List Int) (w n : Int) : List TV := padT 60 [pcV u l w q, ival n]
def zeroV : List TV := [.nils, .nils, ival 0, .nils]
def te1Y (q : List Int) (n : Int) : List TV := ((((((List.replicate 60 TV.unk).set 1 (ival n)).set 4 (.ptr 1 0)).set 8 (.ptr 12 0)).set 41 (.sl I64 q .no)).set 42 (ival q.length)).set 43 (ival 0)
def te2Y : List TV := ((List.replicate 60 TV.unk).set 4 (.ptr 1 0)).set 8 (.ptr 12 0)
def tSY (c : List TV) : List TB := ((List.replicate 13 TB.none).set 1 (.cells zeroV)).set 12 (.cells c)
def endB (B : List Nat) (te1 : List TV) (tS1 : List TB) (e : DX) (te : List TV) (tS : List TB) : Prop :=
 match e with
 | .normal => backK B te1 tS1 { sl := [] } te tS True
 | _ => False
theorem ok_chk {u l q : List Int} {w : Int} (h : Ok u l w q) : chk u l w q = 0 := by
 exact chk_ok.2 h
theorem layU_ne {u l q : List Int} {w : Int} (h : Ok u l w q) (n : Int) : layU n u l ≠ [] ∧ (layU n u l).length ≤ 1000 := by
 have h1 := h.n3
 have h2 := h.n8
 have h3 := h.len
 have : (layU n u l).length = u.length := by unfold layU; (repeat' split) <;> simp [h3]
 exact ⟨fun e => by rw [e] at this; simp at this; omega, by omega⟩
theorem layL_ne {u l q : List Int} {w : Int} (h : Ok u l w q) (n : Int) : layL n u l ≠ [] ∧ (layL n u l).length ≤ 1000 := by
 have h1 := h.n3
 have h2 := h.n8
 have h3 := h.len
 have : (layL n u l).length = u.length := by unfold layL; (repeat' split) <;> simp [h3]
 exact ⟨fun e => by rw [e] at this; simp at this; omega, by omega⟩
theorem xA1 (u l q : List Int) (w n : Int) (h : Ok u l w q) (hn : 0 ≤ n ∧ n ≤ 3) : Hd (vcC Tp Ty ttb LT (inlD Tp Ty ttb LT 0) [] [] (seqs preY .skip) 0 0 (te0Y u l q w n) [] (endB [] (te1Y q n) (tSY [.sl I64 (layU n u l) .no, .sl I64 (layL n u l) .no, ival w, .nils]))) := by
 refine vcq (A := Sh u l q ∧ vcIf (chk u l w q != (0 : Int)) False (vcIf (decide (n < (0 : Int))) False (vcIf (decide (n > (3 : Int))) False (u.length ≤ (1000 : Nat) ∧ l.length ≤ (1000 : Nat) ∧ (0 : Int) ≤ n ∧ n ≤ (3 : Int) ∧ layU n u l ≠ [] ∧ (layU n u l).length ≤ (1000 : Nat) ∧ layL n u l ≠ [] ∧ (layL n u l).length ≤ (1000 : Nat) ∧ n = n ∧ q = q ∧ (↑q.length : Int) = (↑q.length : Int) ∧ (0 : Int) = (0 : Int) ∧ (0 : Int) = (0 : Int) ∧ layU n u l = layU n u l ∧ layL n u l = layL n u l ∧ w = w ∧ True)))) (by kernel_rfl) ?_
 have hc := ok_chk h
 have hs := sh_ok h
 have hU := layU_ne h n
 have hL := layL_ne h n
 simp only [vc_dec, vc_bne, and_true, true_and, eq_self]
 exact ⟨hs, fun _ => ⟨fun e => absurd e (by omega), fun _ => ⟨fun e => absurd e (by omega), fun _ => ⟨hs.1, hs.2.1, hn.1, hn.2, hU.1, hU.2, hL.1, hL.2⟩⟩⟩, fun e => e hc⟩
theorem xor_snoc {n : Int} {q : List Int} {k : Nat} (h : k < q.length) : xorL n (q.take k) ++ [xorI (q.getD k 0) n] = xorL n (q.take (k + 1)) := by
 rw [xorL, xorL, List.take_add_one, List.map_append]
 simp [List.getD_eq_getElem?_getD, h]
def hdV (a : Option Addr) (k c : Nat) : TV := .val (.slice a k c)
def jY (q : List Int) (w n : Int) (a0 a1 : Option Addr) (k0 c0 k1 c1 : Nat) : List (Nat × LA) := [(0, .ex Nat fun k => .st { sl := [(43, ival k)], pl := [(12, [hdV a0 k0 c0, hdV a1 k1 c1, ival w, .sl I64 (xorL n (q.take k)) (.lab 13)])], own := [(3, 1)], good := [k ≤ q.length], m := q.length - k })]
theorem xA2 (q : List Int) (w n : Int) (a0 a1 : Option Addr) (k0 c0 k1 c1 : Nat) (hq : q.length ≤ 1000) : Hd (vcC Tp Ty ttb LT (inlD Tp Ty ttb LT 0) [1, 12] (jY q w n a0 a1 k0 c0 k1 c1) loopY 0 272 (te1Y q n) (tSY [hdV a0 k0 c0, hdV a1 k1 c1, ival w, .nils]) (endB [1, 12] te2Y (tSY [hdV a0 k0 c0, hdV a1 k1 c1, ival w, .sl I64 (xorL n q) (.lab 13)] ++ [.own 3 1]))) := by
 refine vcq (A := (∃ (a : Nat), (0 : Int) = (↑a : Int) ∧ Value.slice a0 k0 c0 = Value.slice a0 k0 c0 ∧ Value.slice a1 k1 c1 = Value.slice a1 k1 c1 ∧ w = w ∧ [] = xorL n (List.take a q) ∧ a ≤ q.length ∧ (q.length - a) < (1000000 : Nat)) ∧ ∀ (a : Nat), a ≤ q.length → vcIf (decide ((↑a : Int) < (↑q.length : Int))) (((0 : Int) ≤ (↑a : Int) ∧ (↑a : Int) < (↑q.length : Int)) ∧ (xorL n (List.take a q)).length + (1 : Nat) ≤ (1000000000 : Nat) ∧ rng ((↑a : Int) + (1 : Int)) ∧ ∃ (a_2 : Nat), n = n ∧ q = q ∧ (↑q.length : Int) = (↑q.length : Int) ∧ (↑a : Int) + (1 : Int) = (↑a_2 : Int) ∧ (0 : Int) = (0 : Int) ∧ Value.slice a0 k0 c0 = Value.slice a0 k0 c0 ∧ Value.slice a1 k1 c1 = Value.slice a1 k1 c1 ∧ w = w ∧ xorL n (List.take a q) ++ [IntKind.i64.wrap (↑(BitVec.ofInt (64 : Nat) (q.getD a (0 : Int)) ^^^ BitVec.ofInt (64 : Nat) n).toNat : Int)] = xorL n (List.take a_2 q) ∧ a_2 ≤ q.length ∧ (q.length - a_2) < (q.length - a)) ((0 : Int) = (0 : Int) ∧ Value.slice a0 k0 c0 = Value.slice a0 k0 c0 ∧ Value.slice a1 k1 c1 = Value.slice a1 k1 c1 ∧ w = w ∧ xorL n (List.take a q) = xorL n q ∧ True)) (by kernel_rfl) ?_
 simp only [vc_dec, rng, and_true, true_and, eq_self]
 refine ⟨⟨0, by omega, by simp [xorL], by omega, by show q.length - 0 < 1000000; omega⟩, fun k hk => ⟨fun h1 => ⟨by omega, by simp [xorL]; omega, by omega, k + 1, by omega, xor_snoc (by omega), by omega, by show q.length - (k + 1) < q.length - k; omega⟩, fun h1 => ?_⟩⟩
 rw [show k = q.length by omega, List.take_length]
theorem xA3 (u l q : List Int) (w : Int) : Hd (vcC Tp Ty ttb LT (inlD Tp Ty ttb LT 0) [] [] endY 0 0 te2Y (tSY [.sl I64 u .no, .sl I64 l .no, ival w, .sl I64 q .no]) (endF (finI Ty (Tryz.f52.results.toList) [some PieceT, some I64] (.res (.tup [.agg [.sl I64 u .no, .sl I64 l .no, ival w, .sl I64 q .no], ival 0]) [] [])))) := by
 refine vcq (A := u = u ∧ l = l ∧ w = w ∧ q = q ∧ (0 : Int) = (0 : Int) ∧ True) (by kernel_rfl) ?_
 exact ⟨rfl, rfl, rfl, rfl, rfl, trivial⟩
section
variable {tab : IsoF} (tk : TabK tab) (tr : TabR tab)
include tk tr
theorem lok : TOK tab 5 LT := mkI tk (tok4 tk) (by decide) Tryz.func89 rfl v77 (tok_le (uok2 tk tr) 3)
end
end Go.Tv
end
section
namespace Go.Tv
open Go Go.Di Go.Proofs
set_option maxRecDepth 100000
structure TabL (tab:IsoF):Prop where
 lay:∀ (u l q:List Int) (w n:Int) d1 d2,Ok u l w q→0≤n∧n≤3→RT noIds [] (pcV u l w q) d1→RT noIds [] (ival n) d2→∃ r,tab 52 [d1,d2]=some r∧r.pure=true∧RT noIds [] (.tup [pcV (layU n u l) (layL n u l) w (laidL n q 4),ival 0]) r
def S52:List TV→Sp
 | [.agg [.sl (.int .i64) u .no,.sl (.int .i64) l .no,.val (.int .i64 w),.sl (.int .i64) q .no],.val (.int .i64 n)]=>some ([Ok u l w q,0≤n∧n≤3],.res (.tup [pcV (layU n u l) (layL n u l) w (laidL n q 4),ival 0]) [] [])
 | _=>none
theorem asc_ext {l m:List Int} (h1:l.Pairwise (· < ·)) (h2:m.Pairwise (· < ·)) (h:∀ x,x∈l↔x∈m):l=m :=
 List.Perm.eq_of_pairwise (le:=fun a b:Int=>a<b) (fun a b _ _ h1 h2=>by omega) h1 h2 ((List.perm_ext_iff_of_nodup (nodup_asc h1) (nodup_asc h2)).2 h)
theorem laid_zero {q:List Int} (hl:∀ x∈q,0≤x∧x≤3) (ha:q.Pairwise (· < ·)):laidL 0 q 4=q :=
 asc_ext (laidL_asc _ _ _) ha fun z=>by
  rw[mem_laid]
  have e:∀ z:Int,0≤z∧z≤3→xorI z 0=z:=fun z hz=>by rcases four hz with rfl | rfl | rfl | rfl<;>decide
  exact⟨fun⟨h1,h2⟩=>by rwa [e z h1] at h2,fun h=>⟨hl z h,by rw[e z (hl z h)]; exact h⟩⟩
theorem ok_lay {u l q:List Int} {w n:Int} (h:Ok u l w q) (hn:0≤n∧n≤3):Ok (layU n u l) (layL n u l) w (laidL n q 4):=by
 have h1:=h.n3
 have h2:=h.n8
 have h3:=h.len
 have hlen:(layU n u l).length=u.length∧(layL n u l).length=u.length:=by
  rcases four hn with rfl | rfl | rfl | rfl<;>simp[layU,layL,h3]
 have hm:(∀ x∈layU n u l,x∈u∨x∈l)∧∀ x∈layL n u l,x∈u∨x∈l:=by
  rcases four hn with rfl | rfl | rfl | rfl<;>simp[layU,layL]<;>exact⟨fun x h=>by simp[h],fun x h=>by simp[h]⟩
 refine⟨by omega,by omega,by omega,fun x hx=>(hm.1 x hx).elim (h.hu x) (h.hl x),fun x hx=>(hm.2 x hx).elim (h.hu x) (h.hl x),h.w0,h.w2,?_,fun x hx=>(mem_laid.1 hx).1,laidL_asc _ _ _⟩
 obtain⟨y,hy⟩:=List.exists_mem_of_ne_nil _ h.ne
 have:=xor_in (h.lie y hy) hn
 intro e
 have:xorI y n∈laidL n q 4:=mem_laid.2 ⟨this.1,by rw[this.2]; exact hy⟩
 rw[e] at this
 cases this
def Z1:Tbl:=E1.addI 52 S52
section
variable {tab:IsoF} (tk:TabK tab) (tl:TabL tab)
theorem add52 {T:Tbl} {k:Nat} (tl:TabL tab) (hT:TOK tab k T):TOK tab k (T.addI 52 S52):=tok_i hT fun n a p s hs hp=>by
 unfold S52 at hs
 split at hs
 ·rename_i u l w q m
  cases hs
  intro dargs hd
  obtain⟨d1,_,rfl,h1,h2⟩:=rtl_cases hd
  obtain⟨d2,_,rfl,h2,h3⟩:=rtl_cases h2
  rw[rtl_nil' h3]
  obtain⟨r,k1,k2,k3⟩:=tl.lay u l q w m d1 d2 hp.1 hp.2.1 h1 h2
  exact⟨r,_,by simp only[isoN,isoOf,k1,k2,if_true],k2,k3,rfl,rfl,trivial⟩
 ·cases hs
include tk tl
theorem zok1:TOK tab 8 Z1:=add52 tl (eok1 tk)
end
end Go.Tv
end
section
namespace Go.Tv
open Go Go.Di Go.Proofs
set_option maxRecDepth 100000
def shK (la ub:List Int) (w:Int) (k:Nat):List Int:=((List.range k).map fun(j:Nat)=>(j:Int)-8).filter (fitsAt la ub w)
theorem shK_yes {la ub:List Int} {w:Int} {k:Nat} (h:fitsAt la ub w ((k:Int)-8)=true):shK la ub w k++[(k:Int)-8]=shK la ub w (k+1):=by
 simp[shK,List.range_succ,h]
theorem shK_no {la ub:List Int} {w:Int} {k:Nat} (h:fitsAt la ub w ((k:Int)-8)=false):shK la ub w k=shK la ub w (k+1):=by
 simp[shK,List.range_succ,h]
theorem shK_le (la ub:List Int) (w:Int) (k:Nat):(shK la ub w k).length≤k:=by
 refine Nat.le_trans (List.length_filter_le _ _) ?_
 simp
theorem fits_low {la ub:List Int} {w s:Int} (h:s ≤ -(ub.length:Int)∨(la.length:Int)≤s):fitsAt la ub w s=false:=by
 rw[fitsAt,colL_none h,decide_eq_false_iff_not]
 exact fun h=>absurd h.1 (by decide)
theorem shK_sh {la ub:List Int} {w:Int} (h1:la.length≤8) (h2:ub.length≤8):shK la ub w 17=shL la ub w (ub.length+la.length+1):=by
 have e:(17:Nat)=(8-ub.length)+((ub.length+la.length+1)+(8-la.length)):=by omega
 have e0:∀ (l:List Int),(∀ s∈l,fitsAt la ub w s=false)→l.filter (fitsAt la ub w)=[]:=fun l h=>List.filter_eq_nil_iff.2 fun s hs=>by rw[h s hs]; decide
 have f1:((List.range (8-ub.length)).map fun(j:Nat)=>(j:Int)-8).filter (fitsAt la ub w)=[]:=e0 _ fun s hs=>by
  simp only[List.mem_map,List.mem_range] at hs
  obtain⟨j,hj,rfl⟩:=hs
  exact fits_low (.inl (by omega))
 have f2:((List.range (8-la.length)).map fun(j:Nat)=>(((8-ub.length)+((ub.length+la.length+1)+j):Nat):Int)-8).filter (fitsAt la ub w)=[]:=e0 _ fun s hs=>by
  simp only[List.mem_map,List.mem_range] at hs
  obtain⟨j,hj,rfl⟩:=hs
  exact fits_low (.inr (by omega))
 rw[shK,e,List.range_add,List.range_add]
 simp only[List.map_append,List.filter_append,List.map_map,Function.comp_def]
 rw[f1,f2,List.nil_append,List.append_nil,shL]
 congr 1
 refine List.map_congr_left fun j _ => ?_
 omega
def D48:List TV→Dn
 | [.sl (.pair (.sl (.int .i64)) (.pair (.sl (.int .i64)) (.pair (.int .i64) (.pair (.sl (.int .i64)) .unit)))) l .no,.val (.int .i64 a),.val (.int .i64 b)]=>some ([l.length≤4,∀ p∈l,shortP p,chkL l=0,0≤a,a<l.length,0≤b,b<l.length,a≠b],.res (ival 0) [] [],[])
 | _=>none
theorem v48:VI E1 Tryz.f59 [some I64] D48:=by
 refine vi_of fun a => ?_
 unfold D48
 split
 rotate_left
 ·trivial
 rename_i l x y
 intro hp
 refine vcq (A:=l.length≤(1000:Nat)∧(∀ (p:(PieceT).den),p∈l→shortP p)∧vcIf ((if (4:Nat)<l.length then (6:Int) else chkL l)!=(0:Int)) ((if (4:Nat)<l.length then (6:Int) else chkL l)=(0:Int)∧True) (vcIf (decide (x<(0:Int))) ((3:Int)=(0:Int)∧True) (vcIf (decide (y<(0:Int))) ((3:Int)=(0:Int)∧True) (vcIf (decide (x≥(↑l.length:Int))) ((3:Int)=(0:Int)∧True) (vcIf (decide (y≥(↑l.length:Int))) ((3:Int)=(0:Int)∧True) (vcIf (x==y) ((4:Int)=(0:Int)∧True) ((0:Int)=(0:Int)∧True))))))) (by kernel_rfl) ?_
 obtain⟨h1,h2,h3,h4,h5,h6,h7,h8,-⟩:=hp
 rw[if_neg (by omega),h3]
 simp only[vc_dec,vc_beq,vc_bne,and_true]
 exact⟨by omega,h2,fun _=>⟨fun h=>by omega,fun _=>⟨fun h=>by omega,fun _=>⟨fun h=>by omega,fun _=>⟨fun h=>by omega,fun _=>⟨fun h=>absurd h h8,fun _=>trivial⟩⟩⟩⟩⟩,fun h=>absurd trivial h⟩
def seamT (ua la qa ub lb qb:List Int) (w:Int):List (Int×Int×Int×Unit):=qa.flatMap fun x=>qb.flatMap fun y=>(shL (layL x ua la) (layU y ub lb) w (ub.length+ua.length+1)).map fun s=>(x,y,s,())
structure TabS (tab:IsoF):Prop where
 seams:∀ (ua la qa ub lb qb:List Int) (wa wb:Int) d1 d2,Ok ua la wa qa→Ok ub lb wb qb→RT noIds [] (wkV ua la wa qa) d1→RT noIds [] (wkV ub lb wb qb) d2→∃ r,tab 60 [d1,d2]=some r∧r.pure=true∧RT noIds [] (.sl SeamT (seamT ua la qa ub lb qb (wa+wb)) .no) r
def S60:List TV→Sp
 | [.agg [.sl (.int .i64) ua .no,.sl (.int .i64) la .no,.val (.int .i64 wa),.sl (.int .i64) qa .no,.sl (.int .i64) a0 .no,.sl (.int .i64) a1 .no,.sl (.int .i64) a2 .no,.sl (.int .i64) a3 .no,.sl (.int .i64) a4 .no,.sl (.int .i64) a5 .no,.sl (.int .i64) a6 .no,.sl (.int .i64) a7 .no],.agg [.sl (.int .i64) ub .no,.sl (.int .i64) lb .no,.val (.int .i64 wb),.sl (.int .i64) qb .no,.sl (.int .i64) b0 .no,.sl (.int .i64) b1 .no,.sl (.int .i64) b2 .no,.sl (.int .i64) b3 .no,.sl (.int .i64) b4 .no,.sl (.int .i64) b5 .no,.sl (.int .i64) b6 .no,.sl (.int .i64) b7 .no]]=>some ([Ok ua la wa qa,Ok ub lb wb qb,a0=ua,a1=la,a2=la.reverse,a3=ua.reverse,a4=ua.reverse,a5=la.reverse,a6=la,a7=ua,b0=ub,b1=lb,b2=lb.reverse,b3=ub.reverse,b4=ub.reverse,b5=lb.reverse,b6=lb,b7=ub],.res (.sl SeamT (seamT ua la qa ub lb qb (wa+wb)) .no) [] [])
 | _=>none
def E2:Tbl:=((Z1.addI 61 fun a=>dS (D50 a)).addI 59 fun a=>dS (D48 a)).addI 60 S60
def D17:List TV→Dn
 | [.sl (.pair (.sl (.int .i64)) (.pair (.sl (.int .i64)) (.pair (.int .i64) (.pair (.sl (.int .i64)) .unit)))) [(ua,la,wa,qa,_),(ub,lb,wb,qb,_)] .no,.val (.int .i64 a),.val (.int .i64 b)]=>some ([Ok ua la wa qa,Ok ub lb wb qb,a=0,b=1],.res (.tup [.sl SeamT (seamT ua la qa ub lb qb (wa+wb)) .no,ival 0]) [] [],[])
 | _=>none
theorem v17:VI E2 Tryz.f17 [some (.sl SeamT),some I64] D17:=by
 refine vi_of fun a => ?_
 unfold D17
 split
 rotate_left
 ·trivial
 rename_i ua la wa qa za ub lb wb qb zb a b
 intro hp
 obtain⟨h1,h2,rfl,rfl,-⟩:=hp
 refine vcq (A:=(2:Nat)≤(4:Nat)∧(∀ (p:(PieceT).den),p∈[(ua,la,wa,qa,za),(ub,lb,wb,qb,zb)]→shortP p)∧chkL [(ua,la,wa,qa,za),(ub,lb,wb,qb,zb)]=(0:Int)∧(0:Int)≤(0:Int)∧(0:Int)<(↑(2:Nat):Int)∧(0:Int)≤(1:Int)∧(1:Int)<(↑(2:Nat):Int)∧(0:Int)≠(1:Int)∧((0:Int)≤(0:Int)∧(0:Int)<(↑(2:Nat):Int))∧List.length ua≤(1000:Nat)∧List.length la≤(1000:Nat)∧((0:Int)≤(1:Int)∧(1:Int)<(↑(2:Nat):Int))∧List.length ub≤(1000:Nat)∧List.length lb≤(1000:Nat)∧Ok ua la wa qa∧Ok ub lb wb qb∧ua=ua∧la=la∧List.reverse la=List.reverse la∧List.reverse ua=List.reverse ua∧List.reverse ua=List.reverse ua∧List.reverse la=List.reverse la∧la=la∧ua=ua∧ub=ub∧lb=lb∧List.reverse lb=List.reverse lb∧List.reverse ub=List.reverse ub∧List.reverse ub=List.reverse ub∧List.reverse lb=List.reverse lb∧lb=lb∧ub=ub∧seamT ua la qa ub lb qb (wa+wb)=seamT ua la qa ub lb qb (wa+wb)∧(0:Int)=(0:Int)∧True) (by kernel_rfl) ?_
 have s1:=sh_ok h1
 have s2:=sh_ok h2
 exact⟨by omega,short2 (wa:=wa) (wb:=wb) s1 s2,two_chkL h1 h2,by omega,by omega,by omega,by omega,by omega,⟨by omega,by omega⟩,s1.1,s1.2.1,⟨by omega,by omega⟩,s2.1,s2.2.1,h1,h2,rfl,rfl,rfl,rfl,rfl,rfl,rfl,rfl,rfl,rfl,rfl,rfl,rfl,rfl,rfl,rfl,rfl,rfl,trivial⟩
def E3:Tbl:=E2.addI 17 fun a=>dS (D17 a)
section
variable {tab:IsoF} (tk:TabK tab) (tr:TabR tab) (tl:TabL tab) (ts:TabS tab)
theorem add60 {T:Tbl} {k:Nat} (ts:TabS tab) (hT:TOK tab k T):TOK tab k (T.addI 60 S60):=tok_i hT fun n a p s hs hp=>by
 unfold S60 at hs
 split at hs
 ·cases hs
  obtain⟨o1,o2,rfl,rfl,rfl,rfl,rfl,rfl,rfl,rfl,rfl,rfl,rfl,rfl,rfl,rfl,rfl,rfl,-⟩:=hp
  intro dargs hd
  obtain⟨d1,_,rfl,h1,h2⟩:=rtl_cases hd
  obtain⟨d2,_,rfl,h2,h3⟩:=rtl_cases h2
  rw[rtl_nil' h3]
  obtain⟨r,k1,k2,k3⟩:=ts.seams _ _ _ _ _ _ _ _ d1 d2 o1 o2 h1 h2
  exact⟨r,_,by simp only[isoN,isoOf,k1,k2,if_true],k2,k3,rfl,rfl,trivial⟩
 ·cases hs
include tk tr tl ts
theorem eok2:TOK tab 9 E2:=add60 ts (mkI tk (eok1 tk) (by decide) Tryz.func59 rfl v48 (mkI tk (tok_le (uok2 tk tr) 6) (by decide) Tryz.func61 rfl v50 (tok_up (zok1 tk tl))))
theorem eok3:TOK tab 10 E3:=mkI tk (eok2 tk tr tl ts) (by decide) Tryz.func17 rfl v17 (tok_up (eok2 tk tr tl ts))
end
end Go.Tv
end
section
namespace Go.Tv
open Go Go.Di Go.Proofs
abbrev SmD:=Int×Int×Int×Unit
def rowA (ua la ub lb:List Int) (w:Int) (x y k:Nat):List SmD:=(shK (layL x ua la) (layU y ub lb) w k).map fun s=>((x:Int),(y:Int),s,())
def rowB (ua la qa ub lb qb:List Int) (w:Int) (x y k:Nat):List SmD:=if (x:Int)∈qa∧(y:Int)∈qb then rowA ua la ub lb w x y k else []
def lineA (ua la qa ub lb qb:List Int) (w:Int) (x y:Nat):List SmD:=(List.range y).flatMap fun j=>rowB ua la qa ub lb qb w x j 17
def allA (ua la qa ub lb qb:List Int) (w:Int) (x:Nat):List SmD:=(List.range x).flatMap fun i=>lineA ua la qa ub lb qb w i 4
def cntA (ua la qa ub lb qb:List Int) (w:Int) (x y k:Nat):List SmD:=allA ua la qa ub lb qb w x++(lineA ua la qa ub lb qb w x y++rowB ua la qa ub lb qb w x y k)
section
variable {ua la qa ub lb qb:List Int} {w:Int} {x y k:Nat}
theorem rowB_zero:rowB ua la qa ub lb qb w x y 0=[]:=by simp[rowB,rowA,shK]
theorem cnt_line:cntA ua la qa ub lb qb w x y 17=cntA ua la qa ub lb qb w x (y+1) 0:=by
 simp[cntA,lineA,rowB_zero,List.range_succ]
theorem cnt_skip (h:¬ ((x:Int)∈qa∧(y:Int)∈qb)):cntA ua la qa ub lb qb w x y 0=cntA ua la qa ub lb qb w x (y+1) 0:=by
 rw[← cnt_line]
 simp[cntA,rowB,h]
theorem cnt_all:cntA ua la qa ub lb qb w x 4 0=cntA ua la qa ub lb qb w (x+1) 0 0:=by
 simp[cntA,allA,rowB_zero,List.range_succ,lineA]
theorem cnt_zero:cntA ua la qa ub lb qb w 0 0 0=[]:=by simp[cntA,allA,lineA,rowB_zero]
theorem cnt_yes (hx:(x:Int)∈qa) (hy:(y:Int)∈qb) (h:fitsAt (layL x ua la) (layU y ub lb) w ((k:Int)-8)=true):cntA ua la qa ub lb qb w x y (k+1)=cntA ua la qa ub lb qb w x y k++[((x:Int),(y:Int),(k:Int)-8,())]:=by
 simp only[cntA,rowB,hx,hy,and_self,if_true,rowA,← shK_yes h,List.map_append,List.map_cons,List.map_nil,List.append_assoc]
theorem cnt_no (h:fitsAt (layL x ua la) (layU y ub lb) w ((k:Int)-8)=false):cntA ua la qa ub lb qb w x y (k+1)=cntA ua la qa ub lb qb w x y k:=by
 simp only[cntA,rowB,rowA,← shK_no h]
theorem rng_pre {α:Type} {f:Nat→List α} {a:Nat}:∀ {b:Nat},a<b→∃ t,(List.range a).flatMap f++(f a++t)=(List.range b).flatMap f
 | 0,h=>absurd h (by omega)
 | b+1,h=>by
  rcases Nat.lt_or_eq_of_le (Nat.le_of_lt_succ h) with h1 | rfl
  ·obtain⟨t,ht⟩:=rng_pre (f:=f) h1
   exact⟨t++f b,by rw[List.range_succ,List.flatMap_append,← ht]; simp⟩
  ·exact⟨[],by rw[List.range_succ,List.flatMap_append]; simp⟩
theorem row_pre (hk:k≤17):∃ t,rowB ua la qa ub lb qb w x y k++t=rowB ua la qa ub lb qb w x y 17:=by
 unfold rowB
 split
 ·have:∀ n,∃ t,shK (layL x ua la) (layU y ub lb) w k++t=shK (layL x ua la) (layU y ub lb) w (k+n):=fun n=>by
   induction n with
   | zero=>exact⟨[],by simp⟩
   | succ n ih =>
    obtain⟨t,ht⟩:=ih
    cases h:fitsAt (layL x ua la) (layU y ub lb) w (((k+n:Nat):Int)-8) with
    | true=>exact⟨t++[((k+n:Nat):Int)-8],by rw[← List.append_assoc,ht,shK_yes h]; rfl⟩
    | false=>exact⟨t,by rw[ht,shK_no h]; rfl⟩
  obtain⟨t,ht⟩:=this (17-k)
  rw[show k+(17-k)=17 by omega] at ht
  exact⟨t.map fun s=>((x:Int),(y:Int),s,()),by rw[rowA,rowA,← ht,List.map_append]⟩
 ·exact⟨[],rfl⟩
theorem cnt_pre (hx:x≤3) (hy:y≤3) (hk:k≤17):∃ t,cntA ua la qa ub lb qb w x y k++t=cntA ua la qa ub lb qb w 4 0 0:=by
 obtain⟨t1,h1⟩:=row_pre (ua:=ua) (la:=la) (qa:=qa) (ub:=ub) (lb:=lb) (qb:=qb) (w:=w) (x:=x) (y:=y) hk
 obtain⟨t2,h2⟩:=rng_pre (f:=fun j=>rowB ua la qa ub lb qb w x j 17) (show y<4 by omega)
 obtain⟨t3,h3⟩:=rng_pre (f:=fun i=>lineA ua la qa ub lb qb w i 4) (show x<4 by omega)
 refine⟨t1++(t2++t3),?_⟩
 have e:cntA ua la qa ub lb qb w 4 0 0=(List.range 4).flatMap fun i=>lineA ua la qa ub lb qb w i 4:=by
  simp only[cntA,lineA,rowB_zero,allA,List.range_zero,List.flatMap_nil,List.append_nil]
 rw[e,← h3,cntA,allA]
 simp only[List.append_assoc]
 congr 1
 have h2':lineA ua la qa ub lb qb w x y++(rowB ua la qa ub lb qb w x y 17++t2)=lineA ua la qa ub lb qb w x 4:=h2
 rw[← h2',← h1]
 simp
theorem lie_flat {α:Type} {q:List Int} (f:Int→List α) (hl:∀ x∈q,0≤x∧x≤3) (ha:q.Pairwise (· < ·)):q.flatMap f=(List.range 4).flatMap fun(i:Nat)=>if (i:Int)∈q then f (i:Int) else []:=by
 have e:=laid_zero hl ha
 have h0:laidL 0 q 4=((List.range 4).map Int.ofNat).filter fun x=>decide (x∈q):=by
  unfold laidL
  apply List.filter_congr
  intro z hz
  simp only[List.mem_map,List.mem_range] at hz
  obtain⟨i,hi,rfl⟩:=hz
  have:xorI (Int.ofNat i) 0=Int.ofNat i:=by
   rcases four (x:=Int.ofNat i) (by simp only[Int.ofNat_eq_natCast]; omega) with h | h | h | h<;>rw[h]<;>decide
  rw[this]
 rw[h0] at e
 conv=>lhs; rw[← e]
 simp only[List.range_succ,List.range_zero,List.nil_append,List.cons_append,List.map_cons,List.map_nil,List.filter_cons,List.filter_nil,List.flatMap_cons,List.flatMap_nil,List.append_nil]
 by_cases h0:(Int.ofNat 0)∈q<;>by_cases h1:(Int.ofNat 1)∈q<;>by_cases h2:(Int.ofNat 2)∈q<;>by_cases h3:(Int.ofNat 3)∈q<;>simp_all
theorem cnt_seam {wa wb:Int} (ha:Ok ua la wa qa) (hb:Ok ub lb wb qb):cntA ua la qa ub lb qb w 4 0 0=seamT ua la qa ub lb qb w:=by
 have e:cntA ua la qa ub lb qb w 4 0 0=(List.range 4).flatMap fun i=>lineA ua la qa ub lb qb w i 4:=by
  simp only[cntA,lineA,rowB_zero,allA,List.range_zero,List.flatMap_nil,List.append_nil]
 rw[e,seamT,lie_flat _ ha.lie ha.asc]
 congr 1
 funext i
 unfold lineA
 split
 ·rename_i hi
  rw[lie_flat _ hb.lie hb.asc]
  congr 1
  funext j
  unfold rowB rowA
  simp only[hi,true_and]
  split
  ·rename_i hj
   have o1:=ok_lay ha (ha.lie i hi)
   have o2:=ok_lay hb (hb.lie j hj)
   have l1:(layL i ua la).length=ua.length:=by
    have h3:=ha.len
    rcases four (ha.lie i hi) with h | h | h | h<;>simp[h,layL,h3]
   have l2:(layU j ub lb).length=ub.length:=by
    have h3:=hb.len
    rcases four (hb.lie j hj) with h | h | h | h<;>simp[h,layU,h3]
   rw[shK_sh (by have:=ha.n8; omega) (by have:=hb.n8; omega),l1,l2]
  ·rfl
 ·rename_i hi
  simp[rowB,hi]
theorem cnt_at {wa wb:Int} (ha:Ok ua la wa qa) (hb:Ok ub lb wb qb) (hx:(x:Int)∈qa) (hy:(y:Int)∈qb) (hk:k<17) (h:fitsAt (layL x ua la) (layU y ub lb) w ((k:Int)-8)=true) :
  (cntA ua la qa ub lb qb w x y k).length<(seamT ua la qa ub lb qb w).length∧(seamT ua la qa ub lb qb w).getD (cntA ua la qa ub lb qb w x y k).length (0,0,0,())=((x:Int),(y:Int),(k:Int)-8,()):=by
 have h3:=(ha.lie _ hx).2
 have h4:=(hb.lie _ hy).2
 obtain⟨t,ht⟩:=cnt_pre (ua:=ua) (la:=la) (qa:=qa) (ub:=ub) (lb:=lb) (qb:=qb) (w:=w) (show x≤3 by omega) (show y≤3 by omega) (show k+1≤17 by omega)
 rw[cnt_seam ha hb,cnt_yes hx hy h] at ht
 rw[← ht]
 constructor
 ·simp only[List.length_append,List.length_cons,List.length_nil]; omega
 ·simp[List.getD_eq_getElem?_getD]
theorem fits_yes {a b:List Int} {v s:Int} (h1:(fitR a b v s).2.2≠11) (h2:(fitR a b v s).2.2≠7):fitsAt a b v s=true∧(fitR a b v s).2.2=0:=by
 unfold fitR at *
 split at h1
 ·rename_i h; rw[if_pos h] at h2; exact absurd rfl h2
 ·rename_i h
  split at h1
  ·exact absurd rfl h1
  ·rename_i h'
   refine⟨decide_eq_true ⟨by simp only[stA] at h; omega,by simp only[stA] at h'; omega⟩,by rw[if_neg h,if_neg h']⟩
theorem fits_not {a b:List Int} {v s:Int} (h:(fitR a b v s).2.2=11∨(fitR a b v s).2.2=7):fitsAt a b v s=false:=by
 cases hf:fitsAt a b v s with
 | false=>rfl
 | true =>
  rw[fitR_ok hf] at h
  simp only at h
  omega
theorem flat_le {α β:Type} {f:α→List β} {c:Nat}:∀ {l:List α},(∀ x∈l,(f x).length≤c)→(l.flatMap f).length≤l.length*c
 | [],_=>by simp
 | x::l,h=>by
  have h1:=h x (by simp)
  have h2:=flat_le (f:=f) (l:=l) fun y hy=>h y (by simp[hy])
  rw[List.flatMap_cons,List.length_append,List.length_cons,Nat.add_mul]
  omega
theorem seam_len {wa wb:Int} (ha:Ok ua la wa qa) (hb:Ok ub lb wb qb):(seamT ua la qa ub lb qb w).length≤272:=by
 rw[← cnt_seam ha hb]
 have e:cntA ua la qa ub lb qb w 4 0 0=(List.range 4).flatMap fun i=>lineA ua la qa ub lb qb w i 4:=by
  simp only[cntA,lineA,rowB_zero,allA,List.range_zero,List.flatMap_nil,List.append_nil]
 rw[e]
 refine Nat.le_trans (flat_le (c:=68) fun i _ => ?_) (by simp)
 refine Nat.le_trans (flat_le (c:=17) fun j _ => ?_) (by simp)
 unfold rowB
 split
 ·rw[rowA,List.length_map]; exact shK_le _ _ _ _
 ·simp
end
end Go.Tv
end
