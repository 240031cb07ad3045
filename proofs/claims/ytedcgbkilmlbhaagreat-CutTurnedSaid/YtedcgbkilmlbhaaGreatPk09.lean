import Derived.Test.YtedcgbkilmlbhaaGreatPk08
section
namespace Go.Tv
open Go Go.Di Go.Proofs
set_option maxRecDepth 100000
def D25:List TV→Dn
 | [.sl (.int .i64) l .no,.sl (.int .i64) m .no]=>some ([l.length≤1000,m.length≤1000],.res (bval (decide (l=m))) [] [],[(4,.ex Nat fun i => .ex Bool fun b => .st { sl:=[(5,bval b),(6,ival i)],good:=[i≤l.length,b=decide (l.length=m.length∧l.take i=m.take i)],m:=l.length-i })])
 | _=>none
theorem v25:VI T0 Tryz.f49 [some .bool] D25:=by
 refine vi_of fun a => ?_
 unfold D25
 split
 rotate_left
 ·trivial
 rename_i l m
 intro hp
 refine vcq (A:=(∃ (a:Nat),∃ (a_1:Bool),((↑l.length:Int)==(↑m.length:Int))=a_1∧(0:Int)=(↑a:Int)∧a≤l.length∧a_1=decide (l.length=m.length∧List.take a l=List.take a m)∧l.length-a<(1000000:Nat))∧∀ (a:Nat) (a_1:Bool),a≤l.length→a_1=decide (l.length=m.length∧List.take a l=List.take a m)→vcIf a_1 (vcIf (decide ((↑a:Int)<(↑l.length:Int))) (((0:Int)≤(↑a:Int)∧(↑a:Int)<(↑l.length:Int))∧((0:Int)≤(↑a:Int)∧(↑a:Int)<(↑m.length:Int))∧rng ((↑a:Int)+(1:Int))∧∃ (a_4:Nat),∃ (a_5:Bool),l=l∧m=m∧false=false∧(l.getD a (0:Int)==m.getD a (0:Int))=a_5∧(↑a:Int)+(1:Int)=(↑a_4:Int)∧a_4≤l.length∧a_5=decide (l.length=m.length∧List.take a_4 l=List.take a_4 m)∧l.length-a_4<l.length-a) (a_1=decide (l=m)∧True)) (a_1=decide (l=m)∧True)) (by kernel_rfl) ?_
 obtain⟨h1,h2,-⟩:=hp
 simp only[vc_dec,vc_beq,rng,and_true,true_and,eq_self]
 refine⟨⟨0,_,rfl,rfl,by omega,?_,by omega⟩,fun i b h3 h4 => ?_⟩
 ·rw[Bool.eq_iff_iff]; simp; omega
 rw[vc_iff]
 subst h4
 simp only[decide_eq_true_eq,decide_eq_false_iff_not]
 refine⟨fun h5=>⟨fun h6=>⟨by omega,by omega,by omega,i+1,_,rfl,by omega,by omega,?_,by omega⟩,fun h6 => ?_⟩,fun h5 => ?_⟩
 ·rw[Bool.eq_iff_iff,decide_eq_true_eq,take_one (by omega),take_one (by omega),beq_iff_eq]
  refine⟨fun h=>⟨h5.1,by rw[h5.2,h]⟩,fun h => ?_⟩
  have:=List.append_inj_right' h.2 rfl
  simpa using this
 ·rw[decide_eq_decide]
  have e1:=h5.2
  rw[List.take_of_length_le (by omega),List.take_of_length_le (by omega)] at e1
  exact⟨fun _=>e1,fun h=>h5⟩
 ·rw[decide_eq_decide]
  exact⟨fun h=>absurd h h5,fun h=>by subst h; exact absurd ⟨rfl,rfl⟩ h5⟩
def G7:Tbl:=T0.addI 49 fun a=>dS (D25 a)
def D26:List TV→Dn
 | [.agg [.sl (.int .i64) au .no,.sl (.int .i64) al .no,.val (.int .i64 aw),.sl (.int .i64) aq .no],.agg [.sl (.int .i64) bu .no,.sl (.int .i64) bl .no,.val (.int .i64 bw),.sl (.int .i64) bq .no]]=>some ([Sh au al aq,Sh bu bl bq],.res (bval (decide (au=bu∧al=bl∧aw=bw∧aq=bq))) [] [],[])
 | _=>none
theorem v26:VI G7 Tryz.f48 [some .bool] D26:=by
 refine vi_of fun a => ?_
 unfold D26
 split
 rotate_left
 ·trivial
 rename_i u l w ls u2 l2 w2 ls2
 intro hp
 refine vcq (A:=u.length≤(1000:Nat)∧u2.length≤(1000:Nat)∧vcIf (decide (u=u2)) (l.length≤(1000:Nat)∧l2.length≤(1000:Nat)∧vcIf (decide (l=l2)) (vcIf (w==w2) (ls.length≤(1000:Nat)∧ls2.length≤(1000:Nat)∧decide (ls=ls2)=decide (u=u2∧l=l2∧w=w2∧ls=ls2)∧True) (false=decide (u=u2∧l=l2∧w=w2∧ls=ls2)∧True)) (false=decide (u=u2∧l=l2∧w=w2∧ls=ls2)∧True)) (false=decide (u=u2∧l=l2∧w=w2∧ls=ls2)∧True)) (by kernel_rfl) ?_
 obtain⟨⟨a1,a2,a3⟩,⟨b1,b2,b3⟩,-⟩:=hp
 simp only[vc_dec,vc_beq,and_true]
 refine⟨a1,b1,fun h1=>⟨a2,b2,fun h2=>⟨fun h3=>⟨a3,b3,?_⟩,fun h3 => ?_⟩,fun h2 => ?_⟩,fun h1 => ?_⟩
 ·rw[decide_eq_decide]; exact⟨fun h=>⟨h1,h2,h3,h⟩,fun h=>h.2.2.2⟩
 ·rw[decide_eq_false fun h=>h3 h.2.2.1]
 ·rw[decide_eq_false fun h=>h2 h.2.1]
 ·rw[decide_eq_false fun h=>h1 h.1]
def D42:List TV→Dn
 | [.sl (.pair (.sl (.int .i64)) (.pair (.sl (.int .i64)) (.pair (.int .i64) (.pair (.sl (.int .i64)) .unit)))) l .no]=>some ([l.length≤1000,∀ p∈l,shortP p],.res (ival (if 4<l.length then 6 else chkL l)) [] [],[])
 | _=>none
theorem v42:VI T6 Tryz.f50 [some I64] D42:=by
 refine vi_of fun a => ?_
 unfold D42
 split
 rotate_left
 ·trivial
 rename_i l
 intro hp
 refine vcq (A:=vcIf (decide ((↑l.length:Int)>(4:Int))) (((6:Int)=if (4:Nat)<l.length then (6:Int) else chkL l)∧True) (l.length≤(1000:Nat)∧(∀ (p:(PieceT).den),p∈l→shortP p)∧(chkL l=if (4:Nat)<l.length then (6:Int) else chkL l)∧True)) (by kernel_rfl) ?_
 obtain⟨h1,h2,-⟩:=hp
 simp only[vc_dec,and_true]
 exact⟨fun h=>by rw[if_pos (by omega)],fun h=>⟨by omega,h2,by rw[if_neg (by omega)]⟩⟩
def E1:Tbl:=((T8.addI 50 fun a=>dS (D42 a)).addI 49 fun a=>dS (D25 a)).addI 48 fun a=>dS (D26 a)
section
variable {tab:IsoF} (tk:TabK tab)
include tk
theorem gok7:TOK tab 1 G7:=mkI tk (tok_0 tk) (by decide) Tryz.func49 rfl v25 (tok_up (tok_0 tk))
theorem eok1:TOK tab 8 E1:=mkI tk (tok_le (gok7 tk) 6) (by decide) Tryz.func48 rfl v26 (mkI tk (tok_le (tok_0 tk) 7) (by decide) Tryz.func49 rfl v25 (mkI tk (tok_le (tok6 tk) 1) (by decide) Tryz.func50 rfl v42 (tok8 tk)))
end
end Go.Tv
end
section
namespace Go.Tv
open Go Go.Di Go.Proofs
def xorL (n:Int) (q:List Int):List Int:=q.map fun x=>xorI x n
def sortI (l:List Int):List Int:=l.mergeSort fun x y=>decide (x≤y)
theorem four {x:Int} (h:0≤x∧x≤3):x=0∨x=1∨x=2∨x=3:=by omega
theorem xor_in {x n:Int} (hx:0≤x∧x≤3) (hn:0≤n∧n≤3):(0≤xorI x n∧xorI x n≤3)∧xorI (xorI x n) n=x:=by
 rcases four hx with rfl | rfl | rfl | rfl<;>rcases four hn with rfl | rfl | rfl | rfl<;>decide
theorem nodup_asc {l:List Int} (h:l.Pairwise (· < ·)):l.Nodup:=h.imp fun h=>by omega
theorem mem_laid {n x:Int} {q:List Int}:x∈laidL n q 4↔(0≤x∧x≤3)∧xorI x n∈q:=by
 simp only[laidL,List.mem_filter,List.mem_map,List.mem_range,decide_eq_true_eq]
 constructor
 ·rintro⟨⟨k,hk,rfl⟩,h⟩
  exact⟨by simp only[Int.ofNat_eq_natCast]; omega,h⟩
 ·rintro⟨h1,h2⟩
  exact⟨⟨x.toNat,by omega,by simp only[Int.ofNat_eq_natCast]; omega⟩,h2⟩
theorem sort_laid {q:List Int} {n:Int} (hl:∀ x∈q,0≤x∧x≤3) (ha:q.Pairwise (· < ·)) (hn:0≤n∧n≤3):sortI (xorL n q)=laidL n q 4:=by
 have h1:(xorL n q).Nodup:=by
  have:=nodup_asc ha
  unfold xorL
  rw[List.Nodup,List.pairwise_map]
  refine this.imp_of_mem fun {a b} ha hb hab e=>hab ?_
  rw[← (xor_in (hl a ha) hn).2,← (xor_in (hl b hb) hn).2,e]
 have h2:=laidL_asc n q 4
 have hp:(xorL n q).Perm (laidL n q 4):=(List.perm_ext_iff_of_nodup h1 (nodup_asc h2)).2 fun x=>by
  rw[mem_laid,xorL,List.mem_map]
  constructor
  ·rintro⟨y,hy,rfl⟩
   have:=xor_in (hl y hy) hn
   exact⟨this.1,by rw[this.2]; exact hy⟩
  ·rintro⟨hx,h⟩
   exact⟨_,h,(xor_in hx hn).2⟩
 refine List.Perm.eq_of_pairwise (le:=fun a b:Int=>a≤b) (fun a b _ _ h1 h2=>by omega) ?_ (h2.imp fun h=>by omega) ((List.mergeSort_perm _ _).trans hp)
 have:=List.pairwise_mergeSort (le:=fun x y:Int=>decide (x≤y)) (fun a b c h1 h2=>by simp at *; omega) (fun a b=>by simp; omega) (xorL n q)
 exact this.imp fun h=>by simpa using h
end Go.Tv
end
section
namespace Go.Tv
open Go Go.Di Go.Proofs
set_option maxRecDepth 100000
def lft : Code → Code
 | .seq a _ => a
 | _ => .skip
def rgt : Code → Code
 | .seq _ b => b
 | _ => .skip
def seqs : List Code → Code → Code
 | [], r => r
 | c :: l, r => .seq c (seqs l r)
noncomputable def y0 : Code := bodyC Tryz.f52
noncomputable def y5 : Code := rgt (rgt (rgt (rgt (rgt y0))))
noncomputable def preY : List Code := [lft y0, lft (rgt y0), lft (rgt (rgt y0)), lft (rgt (rgt (rgt y0))), lft (rgt (rgt (rgt (rgt y0)))), lft (lft y5)]
noncomputable def loopY : Code := rgt (lft y5)
noncomputable def sortY : Code := lft (rgt y5)
noncomputable def endY : Code := rgt (rgt y5)
theorem y0_eq : y0 = seqs [lft y0, lft (rgt y0), lft (rgt (rgt y0)), lft (rgt (rgt (rgt y0))), lft (rgt (rgt (rgt (rgt y0))))] (.seq (.seq (lft (lft y5)) loopY) (.seq sortY endY)) := by kernel_rfl
def LT : Tbl := U2.addI 89 fun a => dS (D77 a)
abbrev pcV4 (u l : TV) (w : Int) (q : TV) : List TV := [u, l, ival w, q]
def te0Y (u l q : List Int) (w n : Int) : List TV := padT 60 [pcV u l w q, ival n]
def zeroV : List TV := [.nils, .nils, ival 0, .nils]
def te1Y (q : List Int) (n : Int) : List TV := ((((((List.replicate 60 TV.unk).set 1 (ival n)).set 4 (.ptr 1 0)).set 8 (.ptr 12 0)).set 41 (.sl I64 q .no)).set 42 (ival q.length)).set 43 (ival 0)
def te2Y : List TV := ((List.replicate 60 TV.unk).set 4 (.ptr 1 0)).set 8 (.ptr 12 0)
def tSY (c : List TV) : List TB := ((List.replicate 13 TB.none).set 1 (.cells zeroV)).set 12 (.cells c)
def endB (B : List Nat) (te1 : List TV) (tS1 : List TB) (e : DX) (te : List TV) (tS : List TB) : Prop :=
 match e with
 | .normal => backK B te1 tS1 { sl := [] } te tS True
 | _ => False
theorem ok_chk {u l q : List Int} {w : Int} (h : Ok u l w q) : chk u l w q = 0 := by
 exact chk_ok.2 h
theorem layU_ne {u l q : List Int} {w : Int} (h : Ok u l w q) (n : Int) : layU n u l ≠ [] ∧ (layU n u l).length ≤ 1000 := by
 have h1 := h.n3
 have h2 := h.n8
 have h3 := h.len
 have : (layU n u l).length = u.length := by unfold layU; (repeat' split) <;> simp [h3]
 exact ⟨fun e => by rw [e] at this; simp at this; omega, by omega⟩
theorem layL_ne {u l q : List Int} {w : Int} (h : Ok u l w q) (n : Int) : layL n u l ≠ [] ∧ (layL n u l).length ≤ 1000 := by
 have h1 := h.n3
 have h2 := h.n8
 have h3 := h.len
 have : (layL n u l).length = u.length := by unfold layL; (repeat' split) <;> simp [h3]
 exact ⟨fun e => by rw [e] at this; simp at this; omega, by omega⟩
theorem xA1 (u l q : List Int) (w n : Int) (h : Ok u l w q) (hn : 0 ≤ n ∧ n ≤ 3) : Hd (vcC Tp Ty ttb LT (inlD Tp Ty ttb LT 0) [] [] (seqs preY .skip) 0 0 (te0Y u l q w n) [] (endB [] (te1Y q n) (tSY [.sl I64 (layU n u l) .no, .sl I64 (layL n u l) .no, ival w, .nils]))) := by
 refine vcq (A := Sh u l q ∧ vcIf (chk u l w q != (0 : Int)) False (vcIf (decide (n < (0 : Int))) False (vcIf (decide (n > (3 : Int))) False (u.length ≤ (1000 : Nat) ∧ l.length ≤ (1000 : Nat) ∧ (0 : Int) ≤ n ∧ n ≤ (3 : Int) ∧ layU n u l ≠ [] ∧ (layU n u l).length ≤ (1000 : Nat) ∧ layL n u l ≠ [] ∧ (layL n u l).length ≤ (1000 : Nat) ∧ n = n ∧ q = q ∧ (↑q.length : Int) = (↑q.length : Int) ∧ (0 : Int) = (0 : Int) ∧ (0 : Int) = (0 : Int) ∧ layU n u l = layU n u l ∧ layL n u l = layL n u l ∧ w = w ∧ True)))) (by kernel_rfl) ?_
 have hc := ok_chk h
 have hs := sh_ok h
 have hU := layU_ne h n
 have hL := layL_ne h n
 simp only [vc_dec, vc_bne, and_true, true_and, eq_self]
 exact ⟨hs, fun _ => ⟨fun e => absurd e (by omega), fun _ => ⟨fun e => absurd e (by omega), fun _ => ⟨hs.1, hs.2.1, hn.1, hn.2, hU.1, hU.2, hL.1, hL.2⟩⟩⟩, fun e => e hc⟩
theorem xor_snoc {n : Int} {q : List Int} {k : Nat} (h : k < q.length) : xorL n (q.take k) ++ [xorI (q.getD k 0) n] = xorL n (q.take (k + 1)) := by
 rw [xorL, xorL, List.take_add_one, List.map_append]
 simp [List.getD_eq_getElem?_getD, h]
def hdV (a : Option Addr) (k c : Nat) : TV := .val (.slice a k c)
def jY (q : List Int) (w n : Int) (a0 a1 : Option Addr) (k0 c0 k1 c1 : Nat) : List (Nat × LA) := [(0, .ex Nat fun k => .st { sl := [(43, ival k)], pl := [(12, [hdV a0 k0 c0, hdV a1 k1 c1, ival w, .sl I64 (xorL n (q.take k)) (.lab 13)])], own := [(3, 1)], good := [k ≤ q.length], m := q.length - k })]
theorem xA2 (q : List Int) (w n : Int) (a0 a1 : Option Addr) (k0 c0 k1 c1 : Nat) (hq : q.length ≤ 1000) : Hd (vcC Tp Ty ttb LT (inlD Tp Ty ttb LT 0) [1, 12] (jY q w n a0 a1 k0 c0 k1 c1) loopY 0 272 (te1Y q n) (tSY [hdV a0 k0 c0, hdV a1 k1 c1, ival w, .nils]) (endB [1, 12] te2Y (tSY [hdV a0 k0 c0, hdV a1 k1 c1, ival w, .sl I64 (xorL n q) (.lab 13)] ++ [.own 3 1]))) := by
 refine vcq (A := (∃ (a : Nat), (0 : Int) = (↑a : Int) ∧ Value.slice a0 k0 c0 = Value.slice a0 k0 c0 ∧ Value.slice a1 k1 c1 = Value.slice a1 k1 c1 ∧ w = w ∧ [] = xorL n (List.take a q) ∧ a ≤ q.length ∧ (q.length - a) < (1000000 : Nat)) ∧ ∀ (a : Nat), a ≤ q.length → vcIf (decide ((↑a : Int) < (↑q.length : Int))) (((0 : Int) ≤ (↑a : Int) ∧ (↑a : Int) < (↑q.length : Int)) ∧ (xorL n (List.take a q)).length + (1 : Nat) ≤ (1000000000 : Nat) ∧ rng ((↑a : Int) + (1 : Int)) ∧ ∃ (a_2 : Nat), n = n ∧ q = q ∧ (↑q.length : Int) = (↑q.length : Int) ∧ (↑a : Int) + (1 : Int) = (↑a_2 : Int) ∧ (0 : Int) = (0 : Int) ∧ Value.slice a0 k0 c0 = Value.slice a0 k0 c0 ∧ Value.slice a1 k1 c1 = Value.slice a1 k1 c1 ∧ w = w ∧ xorL n (List.take a q) ++ [IntKind.i64.wrap (↑(BitVec.ofInt (64 : Nat) (q.getD a (0 : Int)) ^^^ BitVec.ofInt (64 : Nat) n).toNat : Int)] = xorL n (List.take a_2 q) ∧ a_2 ≤ q.length ∧ (q.length - a_2) < (q.length - a)) ((0 : Int) = (0 : Int) ∧ Value.slice a0 k0 c0 = Value.slice a0 k0 c0 ∧ Value.slice a1 k1 c1 = Value.slice a1 k1 c1 ∧ w = w ∧ xorL n (List.take a q) = xorL n q ∧ True)) (by kernel_rfl) ?_
 simp only [vc_dec, rng, and_true, true_and, eq_self]
 refine ⟨⟨0, by omega, by simp [xorL], by omega, by show q.length - 0 < 1000000; omega⟩, fun k hk => ⟨fun h1 => ⟨by omega, by simp [xorL]; omega, by omega, k + 1, by omega, xor_snoc (by omega), by omega, by show q.length - (k + 1) < q.length - k; omega⟩, fun h1 => ?_⟩⟩
 rw [show k = q.length by omega, List.take_length]
theorem xA3 (u l q : List Int) (w : Int) : Hd (vcC Tp Ty ttb LT (inlD Tp Ty ttb LT 0) [] [] endY 0 0 te2Y (tSY [.sl I64 u .no, .sl I64 l .no, ival w, .sl I64 q .no]) (endF (finI Ty (Tryz.f52.results.toList) [some PieceT, some I64] (.res (.tup [.agg [.sl I64 u .no, .sl I64 l .no, ival w, .sl I64 q .no], ival 0]) [] [])))) := by
 refine vcq (A := u = u ∧ l = l ∧ w = w ∧ q = q ∧ (0 : Int) = (0 : Int) ∧ True) (by kernel_rfl) ?_
 exact ⟨rfl, rfl, rfl, rfl, rfl, trivial⟩
section
variable {tab : IsoF} (tk : TabK tab) (tr : TabR tab)
include tk tr
theorem lok : TOK tab 5 LT := mkI tk (tok4 tk) (by decide) Tryz.func89 rfl v77 (tok_le (uok2 tk tr) 3)
end
end Go.Tv
end
section
namespace Go.Tv
open Go Go.Di Go.Proofs
set_option maxRecDepth 100000
structure TabL (tab:IsoF):Prop where
 lay:∀ (u l q:List Int) (w n:Int) d1 d2,Ok u l w q→0≤n∧n≤3→RT noIds [] (pcV u l w q) d1→RT noIds [] (ival n) d2→∃ r,tab 52 [d1,d2]=some r∧r.pure=true∧RT noIds [] (.tup [pcV (layU n u l) (layL n u l) w (laidL n q 4),ival 0]) r
def S52:List TV→Sp
 | [.agg [.sl (.int .i64) u .no,.sl (.int .i64) l .no,.val (.int .i64 w),.sl (.int .i64) q .no],.val (.int .i64 n)]=>some ([Ok u l w q,0≤n∧n≤3],.res (.tup [pcV (layU n u l) (layL n u l) w (laidL n q 4),ival 0]) [] [])
 | _=>none
theorem lay_xor {x y:Int} {u l:List Int} (hx:0≤x∧x≤3) (hy:0≤y∧y≤3):layU y (layU x u l) (layL x u l)=layU (xorI x y) u l∧layL y (layU x u l) (layL x u l)=layL (xorI x y) u l:=by
 rcases four hx with rfl | rfl | rfl | rfl<;>rcases four hy with rfl | rfl | rfl | rfl<;>simp[layU,layL,show xorI 0 0=0 by decide,show xorI 0 1=1 by decide,show xorI 0 2=2 by decide,show xorI 0 3=3 by decide,show xorI 1 0=1 by decide,show xorI 1 1=0 by decide,show xorI 1 2=3 by decide,show xorI 1 3=2 by decide,show xorI 2 0=2 by decide,show xorI 2 1=3 by decide,show xorI 2 2=0 by decide,show xorI 2 3=1 by decide,show xorI 3 0=3 by decide,show xorI 3 1=2 by decide,show xorI 3 2=1 by decide,show xorI 3 3=0 by decide]
theorem xor_comm4 {x y:Int} (hx:0≤x∧x≤3) (hy:0≤y∧y≤3):xorI x y=xorI y x:=by
 rcases four hx with rfl | rfl | rfl | rfl<;>rcases four hy with rfl | rfl | rfl | rfl<;>decide
theorem xor_assoc4 {x y z:Int} (hx:0≤x∧x≤3) (hy:0≤y∧y≤3) (hz:0≤z∧z≤3):xorI (xorI x y) z=xorI x (xorI y z):=by
 rcases four hx with rfl | rfl | rfl | rfl<;>rcases four hy with rfl | rfl | rfl | rfl<;>rcases four hz with rfl | rfl | rfl | rfl<;>decide
theorem asc_ext {l m:List Int} (h1:l.Pairwise (· < ·)) (h2:m.Pairwise (· < ·)) (h:∀ x,x∈l↔x∈m):l=m :=
 List.Perm.eq_of_pairwise (le:=fun a b:Int=>a<b) (fun a b _ _ h1 h2=>by omega) h1 h2 ((List.perm_ext_iff_of_nodup (nodup_asc h1) (nodup_asc h2)).2 h)
theorem laid_laid {x y:Int} {q:List Int} (hx:0≤x∧x≤3) (hy:0≤y∧y≤3):laidL y (laidL x q 4) 4=laidL (xorI x y) q 4 :=
 asc_ext (laidL_asc _ _ _) (laidL_asc _ _ _) fun z=>by
  rw[mem_laid,mem_laid,mem_laid]
  constructor
  ·rintro⟨h1,h2,h3⟩
   exact⟨h1,by rw[xor_assoc4 h1 hy hx,xor_comm4 hy hx] at h3; exact h3⟩
  ·rintro⟨h1,h3⟩
   exact⟨h1,(xor_in h1 hy).1,by rw[xor_assoc4 h1 hy hx,xor_comm4 hy hx]; exact h3⟩
theorem laid_zero {q:List Int} (hl:∀ x∈q,0≤x∧x≤3) (ha:q.Pairwise (· < ·)):laidL 0 q 4=q :=
 asc_ext (laidL_asc _ _ _) ha fun z=>by
  rw[mem_laid]
  have e:∀ z:Int,0≤z∧z≤3→xorI z 0=z:=fun z hz=>by rcases four hz with rfl | rfl | rfl | rfl<;>decide
  exact⟨fun⟨h1,h2⟩=>by rwa [e z h1] at h2,fun h=>⟨hl z h,by rw[e z (hl z h)]; exact h⟩⟩
theorem ok_lay {u l q:List Int} {w n:Int} (h:Ok u l w q) (hn:0≤n∧n≤3):Ok (layU n u l) (layL n u l) w (laidL n q 4):=by
 have h1:=h.n3
 have h2:=h.n8
 have h3:=h.len
 have hlen:(layU n u l).length=u.length∧(layL n u l).length=u.length:=by
  rcases four hn with rfl | rfl | rfl | rfl<;>simp[layU,layL,h3]
 have hm:(∀ x∈layU n u l,x∈u∨x∈l)∧∀ x∈layL n u l,x∈u∨x∈l:=by
  rcases four hn with rfl | rfl | rfl | rfl<;>simp[layU,layL]<;>exact⟨fun x h=>by simp[h],fun x h=>by simp[h]⟩
 refine⟨by omega,by omega,by omega,fun x hx=>(hm.1 x hx).elim (h.hu x) (h.hl x),fun x hx=>(hm.2 x hx).elim (h.hu x) (h.hl x),h.w0,h.w2,?_,fun x hx=>(mem_laid.1 hx).1,laidL_asc _ _ _⟩
 obtain⟨y,hy⟩:=List.exists_mem_of_ne_nil _ h.ne
 have:=xor_in (h.lie y hy) hn
 intro e
 have:xorI y n∈laidL n q 4:=mem_laid.2 ⟨this.1,by rw[this.2]; exact hy⟩
 rw[e] at this
 cases this
theorem xor_of {x y:Int} (hx:0≤x∧x≤3) (hy:0≤y∧y≤3):0≤xorI x y∧xorI x y≤3:=(xor_in hx hy).1
theorem xor_self4 {x:Int} (hx:0≤x∧x≤3):xorI x x=0:=by
 rcases four hx with rfl | rfl | rfl | rfl<;>decide
def Z1:Tbl:=E1.addI 52 S52
section
variable {tab:IsoF} (tk:TabK tab) (tl:TabL tab)
theorem add52 {T:Tbl} {k:Nat} (tl:TabL tab) (hT:TOK tab k T):TOK tab k (T.addI 52 S52):=tok_i hT fun n a p s hs hp=>by
 unfold S52 at hs
 split at hs
 ·rename_i u l w q m
  cases hs
  intro dargs hd
  obtain⟨d1,_,rfl,h1,h2⟩:=rtl_cases hd
  obtain⟨d2,_,rfl,h2,h3⟩:=rtl_cases h2
  rw[rtl_nil' h3]
  obtain⟨r,k1,k2,k3⟩:=tl.lay u l q w m d1 d2 hp.1 hp.2.1 h1 h2
  exact⟨r,_,by simp only[isoN,isoOf,k1,k2,if_true],k2,k3,rfl,rfl,trivial⟩
 ·cases hs
include tk tl
theorem zok1:TOK tab 8 Z1:=add52 tl (eok1 tk)
end
end Go.Tv
end
section
namespace Go.Tv
open Go Go.Di Go.Proofs
set_option maxRecDepth 100000
def D8:List TV→Dn
 | [.sl (.int .i64) _ .no]=>some ([],.res (bval true) [] [],[(4,.ex Int fun x => .st { sl:=[(4,ival x)],good:=[0≤x,x≤4],m:=(4-x).toNat }),(13,.ex Int fun y => .st { sl:=[(7,ival y)],good:=[0≤y,y≤4],m:=(4-y).toNat })])
 | _=>none
theorem v8:VI Z1 Tryz.f8 [some .bool] D8:=by
 refine vi_of fun a => ?_
 unfold D8
 split
 rotate_left
 ·trivial
 rename_i nums
 intro hp
 refine vcq (A:=(3:Int)≤(6:Int)∧(6:Int)≤(8:Int)∧∀ (a a_1:List Int) (a_2:Int) (a_3 a_4:List Int) (a_5:Int),Ok a a_1 a_2 a_3→(↑a.length:Int)≤(6:Int)→(∃ (a:Int),(0:Int)=a∧(0:Int)≤a∧a≤(4:Int)∧(((4:Int)-a).toNat)<(1000000:Nat))∧∀ (a_8:Int),(0:Int)≤a_8→a_8≤(4:Int)→vcIf (decide (a_8≤(3:Int))) (Ok a a_1 a_2 a_3∧((0:Int)≤a_8∧a_8≤(3:Int))∧(1:Nat)≤(1000:Nat)∧(∀ (p:(PieceT).den),p∈[(layU a_8 a a_1,layL a_8 a a_1,a_2,laidL a_8 a_3 (4:Nat),())]→shortP p)∧vcIf ((if (4:Nat)<(1:Nat) then (6:Int) else chkL [(layU a_8 a a_1,layL a_8 a a_1,a_2,laidL a_8 a_3 (4:Nat),())])!=(0:Int)) (false=true∧True) (vcIf ((↑(layU a_8 a a_1).length:Int)!=(↑a.length:Int)) (false=true∧True) ((∃ (a:Int),(0:Int)=a∧(0:Int)≤a∧a≤(4:Int)∧(((4:Int)-a).toNat)<(1000000:Nat))∧∀ (a_11:Int),(0:Int)≤a_11→a_11≤(4:Int)→vcIf (decide (a_11≤(3:Int))) (Ok (layU a_8 a a_1) (layL a_8 a a_1) a_2 (laidL a_8 a_3 (4:Nat))∧((0:Int)≤a_11∧a_11≤(3:Int))∧Ok a a_1 a_2 a_3∧((0:Int)≤IntKind.i64.wrap (↑(BitVec.ofInt (64:Nat) a_8 ^^^ BitVec.ofInt (64:Nat) a_11).toNat:Int)∧IntKind.i64.wrap (↑(BitVec.ofInt (64:Nat) a_8 ^^^ BitVec.ofInt (64:Nat) a_11).toNat:Int)≤(3:Int))∧Sh (layU a_11 (layU a_8 a a_1) (layL a_8 a a_1)) (layL a_11 (layU a_8 a a_1) (layL a_8 a a_1)) (laidL a_11 (laidL a_8 a_3 (4:Nat)) (4:Nat))∧Sh (layU (IntKind.i64.wrap (↑(BitVec.ofInt (64:Nat) a_8 ^^^ BitVec.ofInt (64:Nat) a_11).toNat:Int)) a a_1) (layL (IntKind.i64.wrap (↑(BitVec.ofInt (64:Nat) a_8 ^^^ BitVec.ofInt (64:Nat) a_11).toNat:Int)) a a_1) (laidL (IntKind.i64.wrap (↑(BitVec.ofInt (64:Nat) a_8 ^^^ BitVec.ofInt (64:Nat) a_11).toNat:Int)) a_3 (4:Nat))∧vcIf (!decide (layU a_11 (layU a_8 a a_1) (layL a_8 a a_1)=layU (IntKind.i64.wrap (↑(BitVec.ofInt (64:Nat) a_8 ^^^ BitVec.ofInt (64:Nat) a_11).toNat:Int)) a a_1∧layL a_11 (layU a_8 a a_1) (layL a_8 a a_1)=layL (IntKind.i64.wrap (↑(BitVec.ofInt (64:Nat) a_8 ^^^ BitVec.ofInt (64:Nat) a_11).toNat:Int)) a a_1∧a_2=a_2∧laidL a_11 (laidL a_8 a_3 (4:Nat)) (4:Nat)=laidL (IntKind.i64.wrap (↑(BitVec.ofInt (64:Nat) a_8 ^^^ BitVec.ofInt (64:Nat) a_11).toNat:Int)) a_3 (4:Nat))) (false=true∧True) (vcIf (a_8==a_11) (Sh (layU a_11 (layU a_8 a a_1) (layL a_8 a a_1)) (layL a_11 (layU a_8 a a_1) (layL a_8 a a_1)) (laidL a_11 (laidL a_8 a_3 (4:Nat)) (4:Nat))∧Sh a a_1 a_3∧vcIf (!decide (layU a_11 (layU a_8 a a_1) (layL a_8 a a_1)=a∧layL a_11 (layU a_8 a a_1) (layL a_8 a a_1)=a_1∧a_2=a_2∧laidL a_11 (laidL a_8 a_3 (4:Nat)) (4:Nat)=a_3)) (false=true∧True) (rng (a_11+(1:Int))∧∃ (a_14:Int),a_8=a_8∧(0:Int)=(0:Int)∧a_11+(1:Int)=a_14∧a_8=a_8∧true=true∧layU a_8 a a_1=layU a_8 a a_1∧layL a_8 a a_1=layL a_8 a a_1∧a_2=a_2∧laidL a_8 a_3 (4:Nat)=laidL a_8 a_3 (4:Nat)∧(0:Int)=(0:Int)∧a=a∧a_1=a_1∧a_2=a_2∧a_3=a_3∧a_8=a_8∧layU a_8 a a_1=layU a_8 a a_1∧layL a_8 a a_1=layL a_8 a a_1∧a_2=a_2∧laidL a_8 a_3 (4:Nat)=laidL a_8 a_3 (4:Nat)∧(0:Int)=(0:Int)∧layU a_8 a a_1=layU a_8 a a_1∧layL a_8 a a_1=layL a_8 a a_1∧a_2=a_2∧laidL a_8 a_3 (4:Nat)=laidL a_8 a_3 (4:Nat)∧(0:Int)=(0:Int)∧(0:Int)=(0:Int)∧false=false∧false=false∧layU a_8 a a_1=layU a_8 a a_1∧layL a_8 a a_1=layL a_8 a a_1∧a_2=a_2∧laidL a_8 a_3 (4:Nat)=laidL a_8 a_3 (4:Nat)∧[(layU a_8 a a_1,layL a_8 a a_1,a_2,laidL a_8 a_3 (4:Nat),())]=[(layU a_8 a a_1,layL a_8 a a_1,a_2,laidL a_8 a_3 (4:Nat),())]∧((if (4:Nat)<(1:Nat) then (6:Int) else chkL [(layU a_8 a a_1,layL a_8 a a_1,a_2,laidL a_8 a_3 (4:Nat),())])=if (4:Nat)<(1:Nat) then (6:Int) else chkL [(layU a_8 a a_1,layL a_8 a a_1,a_2,laidL a_8 a_3 (4:Nat),())])∧((if (4:Nat)<(1:Nat) then (6:Int) else chkL [(layU a_8 a a_1,layL a_8 a a_1,a_2,laidL a_8 a_3 (4:Nat),())])!=(0:Int))=((if (4:Nat)<(1:Nat) then (6:Int) else chkL [(layU a_8 a a_1,layL a_8 a a_1,a_2,laidL a_8 a_3 (4:Nat),())])!=(0:Int))∧((if (4:Nat)<(1:Nat) then (6:Int) else chkL [(layU a_8 a a_1,layL a_8 a a_1,a_2,laidL a_8 a_3 (4:Nat),())])!=(0:Int))=((if (4:Nat)<(1:Nat) then (6:Int) else chkL [(layU a_8 a a_1,layL a_8 a a_1,a_2,laidL a_8 a_3 (4:Nat),())])!=(0:Int))∧false=false∧layU a_8 a a_1=layU a_8 a a_1∧(↑(layU a_8 a a_1).length:Int)=(↑(layU a_8 a a_1).length:Int)∧a=a∧(↑a.length:Int)=(↑a.length:Int)∧((↑(layU a_8 a a_1).length:Int)!=(↑a.length:Int))=((↑(layU a_8 a a_1).length:Int)!=(↑a.length:Int))∧false=false∧a_4=a_4∧a_5=a_5∧a=a∧a_1=a_1∧a_2=a_2∧a_3=a_3∧layU a_8 a a_1=layU a_8 a a_1∧layL a_8 a a_1=layL a_8 a a_1∧a_2=a_2∧laidL a_8 a_3 (4:Nat)=laidL a_8 a_3 (4:Nat)∧(0:Int)≤a_14∧a_14≤(4:Int)∧(((4:Int)-a_14).toNat)<(((4:Int)-a_11).toNat))) (rng (a_11+(1:Int))∧∃ (a_14:Int),a_8=a_8∧(0:Int)=(0:Int)∧a_11+(1:Int)=a_14∧a_8=a_8∧true=true∧layU a_8 a a_1=layU a_8 a a_1∧layL a_8 a a_1=layL a_8 a a_1∧a_2=a_2∧laidL a_8 a_3 (4:Nat)=laidL a_8 a_3 (4:Nat)∧(0:Int)=(0:Int)∧a=a∧a_1=a_1∧a_2=a_2∧a_3=a_3∧a_8=a_8∧layU a_8 a a_1=layU a_8 a a_1∧layL a_8 a a_1=layL a_8 a a_1∧a_2=a_2∧laidL a_8 a_3 (4:Nat)=laidL a_8 a_3 (4:Nat)∧(0:Int)=(0:Int)∧layU a_8 a a_1=layU a_8 a a_1∧layL a_8 a a_1=layL a_8 a a_1∧a_2=a_2∧laidL a_8 a_3 (4:Nat)=laidL a_8 a_3 (4:Nat)∧(0:Int)=(0:Int)∧(0:Int)=(0:Int)∧false=false∧false=false∧layU a_8 a a_1=layU a_8 a a_1∧layL a_8 a a_1=layL a_8 a a_1∧a_2=a_2∧laidL a_8 a_3 (4:Nat)=laidL a_8 a_3 (4:Nat)∧[(layU a_8 a a_1,layL a_8 a a_1,a_2,laidL a_8 a_3 (4:Nat),())]=[(layU a_8 a a_1,layL a_8 a a_1,a_2,laidL a_8 a_3 (4:Nat),())]∧((if (4:Nat)<(1:Nat) then (6:Int) else chkL [(layU a_8 a a_1,layL a_8 a a_1,a_2,laidL a_8 a_3 (4:Nat),())])=if (4:Nat)<(1:Nat) then (6:Int) else chkL [(layU a_8 a a_1,layL a_8 a a_1,a_2,laidL a_8 a_3 (4:Nat),())])∧((if (4:Nat)<(1:Nat) then (6:Int) else chkL [(layU a_8 a a_1,layL a_8 a a_1,a_2,laidL a_8 a_3 (4:Nat),())])!=(0:Int))=((if (4:Nat)<(1:Nat) then (6:Int) else chkL [(layU a_8 a a_1,layL a_8 a a_1,a_2,laidL a_8 a_3 (4:Nat),())])!=(0:Int))∧((if (4:Nat)<(1:Nat) then (6:Int) else chkL [(layU a_8 a a_1,layL a_8 a a_1,a_2,laidL a_8 a_3 (4:Nat),())])!=(0:Int))=((if (4:Nat)<(1:Nat) then (6:Int) else chkL [(layU a_8 a a_1,layL a_8 a a_1,a_2,laidL a_8 a_3 (4:Nat),())])!=(0:Int))∧false=false∧layU a_8 a a_1=layU a_8 a a_1∧(↑(layU a_8 a a_1).length:Int)=(↑(layU a_8 a a_1).length:Int)∧a=a∧(↑a.length:Int)=(↑a.length:Int)∧((↑(layU a_8 a a_1).length:Int)!=(↑a.length:Int))=((↑(layU a_8 a a_1).length:Int)!=(↑a.length:Int))∧false=false∧a_4=a_4∧a_5=a_5∧a=a∧a_1=a_1∧a_2=a_2∧a_3=a_3∧layU a_8 a a_1=layU a_8 a a_1∧layL a_8 a a_1=layL a_8 a a_1∧a_2=a_2∧laidL a_8 a_3 (4:Nat)=laidL a_8 a_3 (4:Nat)∧(0:Int)≤a_14∧a_14≤(4:Int)∧(((4:Int)-a_14).toNat)<(((4:Int)-a_11).toNat)))) (rng (a_8+(1:Int))∧∃ (a_14:Int),a_8+(1:Int)=a_14∧a_4=a_4∧a_5=a_5∧a=a∧a_1=a_1∧a_2=a_2∧a_3=a_3∧(0:Int)≤a_14∧a_14≤(4:Int)∧(((4:Int)-a_14).toNat)<(((4:Int)-a_8).toNat))))) (true=true∧True)) (by kernel_rfl) ?_
 simp only[vc_dec,vc_bne,vc_beq,vc_not,nil_e,rng,and_true,true_and,eq_self,Bool.false_eq_true]
 refine⟨by omega,by omega,fun u l w q r z h _=>⟨⟨0,rfl,by omega,by omega,by omega⟩,fun x hx0 hx4=>⟨fun hx3 => ?_,fun _=>trivial⟩⟩⟩
 have hx:0≤x∧x≤3:=⟨hx0,hx3⟩
 have hq:=ok_lay h hx
 have sq:=sh_ok hq
 have sp:=sh_ok h
 have e0:(if 4<1 then (6:Int) else chkL [(layU x u l,layL x u l,w,laidL x q 4,())])=0:=by
  rw[if_neg (by omega)]
  have:=ok_chk hq
  simp[chkL,chkP,this]
 have elen:((layU x u l).length:Int)=u.length:=by
  have h3:=h.len
  rcases four hx with rfl | rfl | rfl | rfl<;>simp[layU,h3]
 refine⟨h,hx,by omega,fun p hp=>by rw[List.mem_singleton] at hp; subst hp; exact sq,fun _=>⟨fun _=>⟨⟨0,rfl,by omega,by omega,by omega⟩,fun y hy0 hy4=>⟨fun hy3 => ?_,fun hy3=>⟨by omega,x+1,rfl,by omega,by omega,by omega⟩⟩⟩,fun e=>e elen⟩,fun e=>e e0⟩
 have hy:0≤y∧y≤3:=⟨hy0,hy3⟩
 have hxy:=xor_of hx hy
 have h1:=lay_xor (u:=u) (l:=l) hx hy
 have h2:=laid_laid (q:=q) hx hy
 have s1:=sh_ok (ok_lay hq hy)
 have s2:=sh_ok (ok_lay h hxy)
 refine⟨hq,hy,h,hxy,s1,s2,fun _=>⟨fun e=>⟨s1,sp,fun _=>⟨by omega,y+1,rfl,by omega,by omega,by omega⟩,fun e2=>e2 ?_⟩,fun _=>⟨by omega,y+1,rfl,by omega,by omega,by omega⟩⟩,fun e=>e ⟨h1.1,h1.2,h2⟩⟩
 subst e
 rw[h1.1,h1.2,h2,xor_self4 hx]
 exact⟨rfl,rfl,laid_zero h.lie h.asc⟩
end Go.Tv
end
