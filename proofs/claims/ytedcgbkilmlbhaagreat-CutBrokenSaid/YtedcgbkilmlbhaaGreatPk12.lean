import Derived.Test.YtedcgbkilmlbhaaGreatPk11
section
namespace Go.Tv
open Go Go.Di Go.Proofs
set_option maxRecDepth 100000
def sK : Code → Code
 | .seq a _ => a
 | _ => .skip
def j8 : Code → Code
 | .seq _ b => b
 | _ => .skip
def uK : List Code → Code → Code
 | [], r => r
 | c :: l, r => .seq c (uK l r)
noncomputable def y0 : Code := vW Tryz.f52
noncomputable def y5 : Code := j8 (j8 (j8 (j8 (j8 y0))))
noncomputable def Zg : List Code := [sK y0, sK (j8 y0), sK (j8 (j8 y0)), sK (j8 (j8 (j8 y0))), sK (j8 (j8 (j8 (j8 y0)))), sK (sK y5)]
noncomputable def xY : Code := j8 (sK y5)
noncomputable def DL : Code := sK (j8 y5)
noncomputable def F6 : Code := j8 (j8 y5)
theorem ZW : y0 = uK [sK y0, sK (j8 y0), sK (j8 (j8 y0)), sK (j8 (j8 (j8 y0))), sK (j8 (j8 (j8 (j8 y0))))] (.seq (.seq (sK (sK y5)) xY) (.seq DL F6)) := by kernel_rfl
def LT : gN := U2.fR 89 fun a => dS (D77 a)
abbrev acT (u l : TV) (w : Int) (q : TV) : List TV := [u, l, bp w, q]
def Ve (u l q : List Int) (w n : Int) : List TV := Jo 60 [Uz u l w q, bp n]
def zeroV : List TV := [.ei, .ei, bp 0, .ei]
def LN (q : List Int) (n : Int) : List TV := ((((((List.replicate 60 TV.unk).set 1 (bp n)).set 4 (.ptr 1 0)).set 8 (.ptr 12 0)).set 41 (.sl bX q .no)).set 42 (bp q.length)).set 43 (bp 0)
def Qj : List TV := ((List.replicate 60 TV.unk).set 4 (.ptr 1 0)).set 8 (.ptr 12 0)
def Ln (c : List TV) : List TB := ((List.replicate 13 TB.none).set 1 (.cells zeroV)).set 12 (.cells c)
def VW (B : List Nat) (jU : List TV) (gM : List TB) (e : DX) (te : List TV) (tS : List TB) : Prop :=
 match e with
 | .normal => Ig B jU gM { sl := [] } te tS True
 | _ => False
theorem M7 {u l q : List Int} {w : Int} (h : Ok u l w q) : nY u l w q = 0 := by
 exact yo.2 h
theorem RS {u l q : List Int} {w : Int} (h : Ok u l w q) (n : Int) : bO n u l ≠ [] ∧ (bO n u l).length ≤ 1000 := by
 have h1 := h.n3
 have h2 := h.n8
 have h3 := h.len
 have : (bO n u l).length = u.length := by unfold bO; (repeat' split) <;> simp [h3]
 exact ⟨fun e => by rw [e] at this; simp at this; omega, by omega⟩
theorem RU {u l q : List Int} {w : Int} (h : Ok u l w q) (n : Int) : bP n u l ≠ [] ∧ (bP n u l).length ≤ 1000 := by
 have h1 := h.n3
 have h2 := h.n8
 have h3 := h.len
 have : (bP n u l).length = u.length := by unfold bP; (repeat' split) <;> simp [h3]
 exact ⟨fun e => by rw [e] at this; simp at this; omega, by omega⟩
theorem xA1 (u l q : List Int) (w n : Int) (h : Ok u l w q) (hn : 0 ≤ n ∧ n ≤ 3) : Hd (sQ Tp Ty KU LT (Dz Tp Ty KU LT 0) [] [] (uK Zg .skip) 0 0 (Ve u l q w n) [] (VW [] (LN q n) (Ln [.sl bX (bO n u l) .no, .sl bX (bP n u l) .no, bp w, .ei]))) := by
 refine Dl (A := Sh u l q ∧ aM (nY u l w q != (0 : Int)) False (aM (decide (n < (0 : Int))) False (aM (decide (n > (3 : Int))) False (u.length ≤ (1000 : Nat) ∧ l.length ≤ (1000 : Nat) ∧ (0 : Int) ≤ n ∧ n ≤ (3 : Int) ∧ bO n u l ≠ [] ∧ (bO n u l).length ≤ (1000 : Nat) ∧ bP n u l ≠ [] ∧ (bP n u l).length ≤ (1000 : Nat) ∧ n = n ∧ q = q ∧ (↑q.length : Int) = (↑q.length : Int) ∧ (0 : Int) = (0 : Int) ∧ (0 : Int) = (0 : Int) ∧ bO n u l = bO n u l ∧ bP n u l = bP n u l ∧ w = w ∧ True)))) (by kernel_rfl) ?_
 have hc := M7 h
 have hs := xW h
 have hU := RS h n
 have hL := RU h n
 simp only [bU, dI, and_true, true_and, eq_self]
 exact ⟨hs, fun _ => ⟨fun e => absurd e (by omega), fun _ => ⟨fun e => absurd e (by omega), fun _ => ⟨hs.1, hs.2.1, hn.1, hn.2, hU.1, hU.2, hL.1, hL.2⟩⟩⟩, fun e => e hc⟩
theorem Nw {n : Int} {q : List Int} {k : Nat} (h : k < q.length) : eZ n (q.take k) ++ [uJ (q.getD k 0) n] = eZ n (q.take (k + 1)) := by
 rw [eZ, eZ, List.take_add_one, List.map_append]
 simp [List.getD_eq_getElem?_getD, h]
def HN (a : Option Addr) (k c : Nat) : TV := .val (.slice a k c)
def jY (q : List Int) (w n : Int) (a0 a1 : Option Addr) (k0 c0 k1 c1 : Nat) : List (Nat × LA) := [(0, .ex Nat fun k => .st { sl := [(43, bp k)], pl := [(12, [HN a0 k0 c0, HN a1 k1 c1, bp w, .sl bX (eZ n (q.take k)) (.qA 13)])], own := [(3, 1)], dX := [k ≤ q.length], m := q.length - k })]
theorem xA2 (q : List Int) (w n : Int) (a0 a1 : Option Addr) (k0 c0 k1 c1 : Nat) (hq : q.length ≤ 1000) : Hd (sQ Tp Ty KU LT (Dz Tp Ty KU LT 0) [1, 12] (jY q w n a0 a1 k0 c0 k1 c1) xY 0 272 (LN q n) (Ln [HN a0 k0 c0, HN a1 k1 c1, bp w, .ei]) (VW [1, 12] Qj (Ln [HN a0 k0 c0, HN a1 k1 c1, bp w, .sl bX (eZ n q) (.qA 13)] ++ [.own 3 1]))) := by
 refine Dl (A := (∃ (a : Nat), (0 : Int) = (↑a : Int) ∧ Value.slice a0 k0 c0 = Value.slice a0 k0 c0 ∧ Value.slice a1 k1 c1 = Value.slice a1 k1 c1 ∧ w = w ∧ [] = eZ n (List.take a q) ∧ a ≤ q.length ∧ (q.length - a) < (1000000 : Nat)) ∧ ∀ (a : Nat), a ≤ q.length → aM (decide ((↑a : Int) < (↑q.length : Int))) (((0 : Int) ≤ (↑a : Int) ∧ (↑a : Int) < (↑q.length : Int)) ∧ (eZ n (List.take a q)).length + (1 : Nat) ≤ (1000000000 : Nat) ∧ dg ((↑a : Int) + (1 : Int)) ∧ ∃ (a_2 : Nat), n = n ∧ q = q ∧ (↑q.length : Int) = (↑q.length : Int) ∧ (↑a : Int) + (1 : Int) = (↑a_2 : Int) ∧ (0 : Int) = (0 : Int) ∧ Value.slice a0 k0 c0 = Value.slice a0 k0 c0 ∧ Value.slice a1 k1 c1 = Value.slice a1 k1 c1 ∧ w = w ∧ eZ n (List.take a q) ++ [IntKind.i64.wrap (↑(BitVec.ofInt (64 : Nat) (q.getD a (0 : Int)) ^^^ BitVec.ofInt (64 : Nat) n).toNat : Int)] = eZ n (List.take a_2 q) ∧ a_2 ≤ q.length ∧ (q.length - a_2) < (q.length - a)) ((0 : Int) = (0 : Int) ∧ Value.slice a0 k0 c0 = Value.slice a0 k0 c0 ∧ Value.slice a1 k1 c1 = Value.slice a1 k1 c1 ∧ w = w ∧ eZ n (List.take a q) = eZ n q ∧ True)) (by kernel_rfl) ?_
 simp only [bU, dg, and_true, true_and, eq_self]
 refine ⟨⟨0, by omega, by simp [eZ], by omega, by show q.length - 0 < 1000000; omega⟩, fun k hk => ⟨fun h1 => ⟨by omega, by simp [eZ]; omega, by omega, k + 1, by omega, Nw (by omega), by omega, by show q.length - (k + 1) < q.length - k; omega⟩, fun h1 => ?_⟩⟩
 rw [show k = q.length by omega, List.take_length]
theorem xA3 (u l q : List Int) (w : Int) : Hd (sQ Tp Ty KU LT (Dz Tp Ty KU LT 0) [] [] F6 0 0 Qj (Ln [.sl bX u .no, .sl bX l .no, bp w, .sl bX q .no]) (Jv (QB Ty (Tryz.f52.results.toList) [some aU, some bX] (.res (.ee [.agg [.sl bX u .no, .sl bX l .no, bp w, .sl bX q .no], bp 0]) [] [])))) := by
 refine Dl (A := u = u ∧ l = l ∧ w = w ∧ q = q ∧ (0 : Int) = (0 : Int) ∧ True) (by kernel_rfl) ?_
 exact ⟨rfl, rfl, rfl, rfl, rfl, trivial⟩
section
variable {aZ : bn} (tk : oF aZ) (tr : F7 aZ)
include tk tr
theorem lok : lE aZ 5 LT := wO tk (Qh tk) (by decide) Tryz.func89 rfl v77 (kX (Zf tk tr) 3)
end
end Go.Tv
end
section
namespace Go.Tv
open Go Go.Di Go.Proofs
set_option maxRecDepth 100000
structure QK (aZ:bn):Prop where
 lay:∀ (u l q:List Int) (w n:Int) d1 d2,Ok u l w q→0≤n∧n≤3→RT eD [] (Uz u l w q) d1→RT eD [] (bp n) d2→∃ r,aZ 52 [d1,d2]=some r∧r.pure=true∧RT eD [] (.ee [Uz (bO n u l) (bP n u l) w (ej n q 4),bp 0]) r
def S52:List TV→Sp
 | [.agg [.sl (.int .i64) u .no,.sl (.int .i64) l .no,.val (.int .i64 w),.sl (.int .i64) q .no],.val (.int .i64 n)]=>some ([Ok u l w q,0≤n∧n≤3],.res (.ee [Uz (bO n u l) (bP n u l) w (ej n q 4),bp 0]) [] [])
 | _=>none
theorem M6 {u l q:List Int} {w n:Int} (h:Ok u l w q) (hn:0≤n∧n≤3):Ok (bO n u l) (bP n u l) w (ej n q 4):=by
 have h1:=h.n3
 have h2:=h.n8
 have h3:=h.len
 have hlen:(bO n u l).length=u.length∧(bP n u l).length=u.length:=by
  rcases four hn with rfl | rfl | rfl | rfl<;>simp[bO,bP,h3]
 have hm:(∀ x∈bO n u l,x∈u∨x∈l)∧∀ x∈bP n u l,x∈u∨x∈l:=by
  rcases four hn with rfl | rfl | rfl | rfl<;>simp[bO,bP]<;>exact⟨fun x h=>by simp[h],fun x h=>by simp[h]⟩
 refine⟨by omega,by omega,by omega,fun x hx=>(hm.1 x hx).elim (h.hu x) (h.hl x),fun x hx=>(hm.2 x hx).elim (h.hu x) (h.hl x),h.w0,h.w2,?_,fun x hx=>(yL.1 hx).1,Br _ _ _⟩
 obtain⟨y,hy⟩:=List.exists_mem_of_ne_nil _ h.ne
 have:=yb (h.Ad y hy) hn
 intro e
 have:uJ y n∈ej n q 4:=yL.2 ⟨this.1,by rw[this.2]; exact hy⟩
 rw[e] at this
 cases this
def Z1:gN:=E1.fR 52 S52
section
variable {aZ:bn} (tk:oF aZ) (tl:QK aZ)
theorem aa2 {T:gN} {k:Nat} (tl:QK aZ) (hT:lE aZ k T):lE aZ k (T.fR 52 S52):=Md hT fun n a p s hs hp=>by
 unfold S52 at hs
 split at hs
 ·rename_i u l w q m
  cases hs
  intro cn hd
  obtain⟨d1,_,rfl,h1,h2⟩:=aj hd
  obtain⟨d2,_,rfl,h2,h3⟩:=aj h2
  rw[aJ h3]
  obtain⟨r,k1,k2,k3⟩:=tl.lay u l q w m d1 d2 hp.1 hp.2.1 h1 h2
  exact⟨r,_,by simp only[xM,je,k1,k2,if_true],k2,k3,rfl,rfl,trivial⟩
 ·cases hs
include tk tl
end
end Go.Tv
end
section
namespace Go.Tv
open Go Go.Di Go.Proofs
set_option maxRecDepth 100000
def QM (t : Int × Int × Int) (w e : Int) : Prop := (e = 0 ∧ 3 ≤ t.2.2 ∧ t.2.1 - t.1 ≤ w) ∨ ((e = 7 ∨ e = 11) ∧ ¬(3 ≤ t.2.2 ∧ t.2.1 - t.1 ≤ w))
def D55 : List TV → Dn
  | [.agg [.sl (.int .i64) ua .no, .sl (.int .i64) la .no, .val (.int .i64 wa), .sl (.int .i64) HA .no], .agg [.sl (.int .i64) ub .no, .sl (.int .i64) lb .no, .val (.int .i64 wb), .sl (.int .i64) Hy .no], .val (.int .i64 s)] => some ([Ok ua la wa HA, Ok ub lb wb Hy],
    .ex (Int × Int × Int) fun x => .res (.ee [.agg [bp x.1, bp x.2.1], bp x.2.2]) [] [QM (stA la ub s) (wa + wb) x.2.2], [])
  | _ => none
def v55.q1 (p0 p1 : List bX.den) (p2 p3 p4 p5 p6 p7 : Int) : Prop := ∃ (a : Int × Int × Int), p5 = a.fst ∧ p6 = a.snd.fst ∧ p7 = a.snd.snd ∧ QM (stA p0 p1 p2) (p3 + p4) a.snd.snd ∧ True
theorem v55 : VI T6 Tryz.f55 [some GA, some bX] D55 := by
  refine s8 fun a => ?_
  unfold D55
  split
  rotate_left
  · trivial
  rename_i ua la wa HA ub lb wb Hy s
  intro hp
  obtain ⟨o1, o2, -⟩ := hp
  refine Dl (A := (2 : Nat) ≤ (1000 : Nat) ∧ (∀ (p : (aU).den), p ∈ [(ua, la, wa, HA, ()), (ub, lb, wb, Hy, ())] → ny p) ∧ aM (fP [(ua, la, wa, HA, ()), (ub, lb, wb, Hy, ())] != (0 : Int)) (v55.q1 la ub s wa wb (0 : Int) (0 : Int) (fP [(ua, la, wa, HA, ()), (ub, lb, wb, Hy, ())])) (la.length ≤ (1000 : Nat) ∧ ub.length ≤ (1000 : Nat) ∧ kG la ∧ kG ub ∧ aM (decide ((stA la ub s).snd.snd < (3 : Int))) (v55.q1 la ub s wa wb (0 : Int) (0 : Int) (7 : Int)) (dg ((stA la ub s).snd.fst - (stA la ub s).fst) ∧ dg (wa + wb) ∧ aM (decide ((stA la ub s).snd.fst - (stA la ub s).fst > wa + wb)) (v55.q1 la ub s wa wb (0 : Int) (0 : Int) (11 : Int)) (dg ((stA la ub s).fst + wa) ∧ dg ((stA la ub s).fst + wa + wb) ∧ v55.q1 la ub s wa wb (stA la ub s).snd.fst ((stA la ub s).fst + wa + wb) (0 : Int))))) (by kernel_rfl) ?_
  unfold v55.q1
  have e := NH (wa := wa) (wb := wb) o1 o2
  have b := Gb s o1.hl o2.hu
  have n1 := o1.num.1
  have n2 := o2.num.1
  have w1 : dg (wa + wb) := by simp only [dg]; omega
  have w2 : dg ((stA la ub s).2.1 - (stA la ub s).1) := by simp only [dg]; omega
  have w3 : dg ((stA la ub s).1 + wa) := by simp only [dg]; omega
  have w4 : dg ((stA la ub s).1 + wa + wb) := by simp only [dg]; omega
  exact ⟨by omega, WJ (wa := wa) (wb := wb) (xW o1) (xW o2), dI.2 ⟨fun _ => ⟨by omega, by omega, o1.hl, o2.hu, bU.2 ⟨fun h => ⟨(0, 0, 7), rfl, rfl, rfl, .inr ⟨.inl rfl, fun k => absurd k.1 (Int.not_le.2 h)⟩, trivial⟩, fun h => ⟨w2, w1, bU.2 ⟨fun h' => ⟨(0, 0, 11), rfl, rfl, rfl, .inr ⟨.inr rfl, fun k => absurd k.2 (Int.not_le.2 h')⟩, trivial⟩, fun h' => ⟨w3, w4, ⟨(_, _, 0), rfl, rfl, rfl, .inl ⟨rfl, Int.not_lt.1 h, Int.not_lt.1 h'⟩, trivial⟩⟩⟩⟩⟩⟩, fun h => absurd e h⟩⟩
def J26 : List (Nat × LA) := [(4, .dep fun te tS => DJ te 6 fun k => match te.getD 0 .unk with
  | .ptr p _ => .ex Nat fun m => .ex (List aU.den) fun l => .ex (List Int) fun r => .ex Int fun z => .st { sl := [(5, .sl aU l (.qA tS.length)), (6, bp m)], pl := [(p, rI r z)], own := [(25, 4)], dX := [(l.length + m : Int) ≤ k ∨ (l.length + m : Int) = 0, ∀ p ∈ l, AH p], m := m }
  | _ => .un 0)]
def K6 : gN := (((K5.fR 33 fun a => dS (D33 a)).fR 55 fun a => dS (D55 a)).fR 52 S52).mD 27 fun a c => dS (Wa a c)
noncomputable def K7 : gN := K6.V1 26 Tryz.f26 J26
def Wo (te : List TV) (k : List aU.den → List bY.den → LA) : LA :=
  match te.getD 4 .unk, te.getD 5 .unk with
  | .sl (.pair (.sl (.int .i64)) (.pair (.sl (.int .i64)) (.pair (.int .i64) (.pair (.sl (.int .i64)) .unit)))) l _, .sl (.pair (.int .i64) (.pair (.int .i64) (.pair (.int .i64) .unit))) m _ => k l m
  | _, _ => .un 0
def D10 : List TV → Dn
  | [.sl (.int .i64) _ .no] => some ([], .res (nu true) [] [], [(2, .dep fun te _ => match te.getD 3 .unk with
      | .ptr p _ => .ex (List aU.den) fun ps => .ex (List Int) fun r => .ex Int fun z => .st { sl := [(4, .sl aU ps .no)], pl := [(p, rI r z)], dX := [1 ≤ ps.length, ps.length ≤ 4, ∀ q ∈ ps, AH q] }
      | _ => .un 0),
     (10, .dep fun te _ => Wo te fun ps s => .ex Nat fun n => .st { sl := [(8, bp ((n : Int) + 1))], dX := [n + 1 ≤ s.length, ∀ j, j < n → FF ps (eU s j) (eU s (j + 1))], m := s.length - n })])
  | _ => none
theorem xx {l : List aU.den} {u lo q : List Int} {w : Int} (h : ∀ p ∈ l, AH p) (ho : Ok u lo w q) : ∀ p ∈ l ++ [(u, lo, w, q, ())], AH p := fun p hp => by
  rcases List.mem_append.1 hp with hp | hp
  · exact h p hp
  · rw [List.mem_singleton.1 hp]; exact ho
theorem Xw {ps : List aU.den} {s : List bY.den} {k : Int} {n : Nat} (h : Tj ps s k) (hold : ∀ j, j < n → FF ps (eU s j) (eU s (j + 1))) (hn : n + 1 < s.length) (hj : ¬FF ps (eU s n) (eU s (n + 1))) : k = (n : Int) + 1 := by
  rcases h with ⟨-, h⟩ | ⟨m, rfl, -, h1, h2⟩
  · exact (hj (h n hn)).elim
  · rcases Nat.lt_trichotomy m n with e | rfl | e
    · exact (h2 (hold m e)).elim
    · rfl
    · exact (hj (h1 n e)).elim
theorem Sz {ps : List aU.den} {s : List bY.den} {k : Int} (h : Tj ps s k) (hold : ∀ j, j + 1 < s.length → FF ps (eU s j) (eU s (j + 1))) : k = -1 := by
  rcases h with ⟨e, -⟩ | ⟨m, rfl, h0, h1, h2⟩
  · exact e
  · exact (h2 (hold m h0)).elim
def v10.q1 (p0 : List bY.den) (p1 : List aU.den) (p2 : Int) (p3 : Prop) : Prop := Ok (bO (p0.getD p2.toNat ((0 : Int), (0 : Int), (0 : Int), ())).snd.fst (p1.getD (Int.toNat (p0.getD p2.toNat ((0 : Int), (0 : Int), (0 : Int), ())).fst) ([], [], (0 : Int), [], ())).fst (p1.getD (Int.toNat (p0.getD p2.toNat ((0 : Int), (0 : Int), (0 : Int), ())).fst) ([], [], (0 : Int), [], ())).snd.fst) (bP (p0.getD p2.toNat ((0 : Int), (0 : Int), (0 : Int), ())).snd.fst (p1.getD (Int.toNat (p0.getD p2.toNat ((0 : Int), (0 : Int), (0 : Int), ())).fst) ([], [], (0 : Int), [], ())).fst (p1.getD (Int.toNat (p0.getD p2.toNat ((0 : Int), (0 : Int), (0 : Int), ())).fst) ([], [], (0 : Int), [], ())).snd.fst) (p1.getD (Int.toNat (p0.getD p2.toNat ((0 : Int), (0 : Int), (0 : Int), ())).fst) ([], [], (0 : Int), [], ())).snd.snd.fst (ej (p0.getD p2.toNat ((0 : Int), (0 : Int), (0 : Int), ())).snd.fst (p1.getD (Int.toNat (p0.getD p2.toNat ((0 : Int), (0 : Int), (0 : Int), ())).fst) ([], [], (0 : Int), [], ())).snd.snd.snd.fst (4 : Nat)) ∧ p3
def v10.q2 (p0 : List bY.den) (p1 : List aU.den) (p2 : Nat) (p3 : Int) (p4 : Prop) : Prop := ((0 : Int) ≤ p3 ∧ p3 < (↑p0.length : Int)) ∧ Ok (p1.getD (Int.toNat (p0.getD p3.toNat ((0 : Int), (0 : Int), (0 : Int), ())).fst) ([], [], (0 : Int), [], ())).fst (p1.getD (Int.toNat (p0.getD p3.toNat ((0 : Int), (0 : Int), (0 : Int), ())).fst) ([], [], (0 : Int), [], ())).snd.fst (p1.getD (Int.toNat (p0.getD p3.toNat ((0 : Int), (0 : Int), (0 : Int), ())).fst) ([], [], (0 : Int), [], ())).snd.snd.fst (p1.getD (Int.toNat (p0.getD p3.toNat ((0 : Int), (0 : Int), (0 : Int), ())).fst) ([], [], (0 : Int), [], ())).snd.snd.snd.fst ∧ ((0 : Int) ≤ (p0.getD p3.toNat ((0 : Int), (0 : Int), (0 : Int), ())).snd.fst ∧ (p0.getD p3.toNat ((0 : Int), (0 : Int), (0 : Int), ())).snd.fst ≤ (3 : Int)) ∧ ((0 : Int) ≤ (↑p2 : Int) + (1 : Int) ∧ (↑p2 : Int) + (1 : Int) < (↑p0.length : Int)) ∧ p4
def v10.q3 (p0 : List aU.den) (p1 : Nat) (p2 : Int) (p3 p4 : List Int) (p5 : Int) (p6 p7 : List Int) (p8 : Int) : Prop := p0.length + (1 : Nat) ≤ (1000000000 : Nat) ∧ dg ((↑p1 : Int) - (1 : Int)) ∧ ∃ (a : Nat), ∃ (a_1 : List aU.den), ∃ (a_2 : List Int), ∃ (a_3 : Int), rD aU.den ∧ p0 ++ [(p3, p4, p5, p6, ())] = a_1 ∧ (↑p1 : Int) - (1 : Int) = (↑a : Int) ∧ p7 = a_2 ∧ p8 = a_3 ∧ ((↑a_1.length : Int) + (↑a : Int) ≤ p2 ∨ (↑a_1.length : Int) + (↑a : Int) = (0 : Int)) ∧ (∀ (p : aU.den), p ∈ a_1 → AH p) ∧ a < p1
def v10.q4 (p0 : List bY.den) (p1 : List aU.den) (p2 : Int) (p3 : Prop) : Prop := ((0 : Int) ≤ (p0.getD p2.toNat ((0 : Int), (0 : Int), (0 : Int), ())).fst ∧ (p0.getD p2.toNat ((0 : Int), (0 : Int), (0 : Int), ())).fst < (↑p1.length : Int)) ∧ p3
def v10.q5 (p0 : List aU.den) (p1 : Nat) (p2 : Int) : Prop := (3 : Int) ≤ (5 : Int) ∧ (5 : Int) ≤ (8 : Int) ∧ ∀ (a a_1 : List Int) (a_2 : Int) (a_3 a_4 : List Int) (a_5 : Int), Ok a a_1 a_2 a_3 → (↑a.length : Int) ≤ (5 : Int) → v10.q3 p0 p1 p2 a a_1 a_2 a_3 a_4 a_5
theorem v10 : VI K7 Tryz.f10 [some .bool] D10 1 := by
  refine s8 fun a => ?_
  unfold D10
  split
  rotate_left
  · trivial
  rename_i fO
  intro hp
  refine Dl (A := ((3 : Int) ≤ (1000 : Int) ∧ (-10000 : Int) ≤ (3 : Int) ∧ ∀ (a : Int) (a_1 : List Int) (a_2 : Int), (0 : Int) ≤ a → a ≤ (3 : Int) ∨ a = (0 : Int) → (∃ (a_3 : Nat), ∃ (a_4 : List aU.den), ∃ (a_5 : List Int), ∃ (a_6 : Int), [] = a_4 ∧ a = (↑a_3 : Int) ∧ a_1 = a_5 ∧ a_2 = a_6 ∧ ((↑a_4.length : Int) + (↑a_3 : Int) ≤ a ∨ (↑a_4.length : Int) + (↑a_3 : Int) = (0 : Int)) ∧ (∀ (p : aU.den), p ∈ a_4 → AH p) ∧ a_3 < (1000000 : Nat)) ∧ ∀ (a_3 : Nat) (a_4 : List aU.den) (a_5 : List Int) (a_6 : Int), (↑a_4.length : Int) + (↑a_3 : Int) ≤ a ∨ (↑a_4.length : Int) + (↑a_3 : Int) = (0 : Int) → (∀ (p : aU.den), p ∈ a_4 → AH p) → aM (decide ((↑a_3 : Int) > (0 : Int))) (aM (decide ((↑a_4.length : Int) > (0 : Int))) ((2 : Int) ≤ (1000 : Int) ∧ (0 : Int) ≤ (2 : Int) ∧ ∀ (a_7 : Bool) (a_8 : Int) (a_9 : List Int) (a_10 : Int), aM a_7 (dg ((↑a_4.length : Int) - (1 : Int)) ∧ (↑a_4.length : Int) - (1 : Int) ≤ (1000 : Int) ∧ (-10000 : Int) ≤ (↑a_4.length : Int) - (1 : Int) ∧ ∀ (a_11 : Int) (a_12 : List Int) (a_13 : Int), (0 : Int) ≤ a_11 → a_11 ≤ (↑a_4.length : Int) - (1 : Int) ∨ a_11 = (0 : Int) → ((0 : Int) ≤ a_11 ∧ a_11 < (↑a_4.length : Int)) ∧ Ok (a_4.getD a_11.toNat ([], [], (0 : Int), [], ())).fst (a_4.getD a_11.toNat ([], [], (0 : Int), [], ())).snd.fst (a_4.getD a_11.toNat ([], [], (0 : Int), [], ())).snd.snd.fst (a_4.getD a_11.toNat ([], [], (0 : Int), [], ())).snd.snd.snd.fst ∧ ∀ (a_14 a_15 : List Int) (a_16 : Int) (a_17 a_18 : List Int) (a_19 : Int), Ok a_14 a_15 a_16 a_17 → a_14 = List.map (fun (x : bX.den) => (9 : bX.den) - x) (a_4.getD a_11.toNat ([], [], (0 : Int), [], ())).snd.fst → v10.q3 a_4 a_3 a a_14 a_15 a_16 a_17 a_18 a_19) (v10.q5 a_4 a_3 a)) (v10.q5 a_4 a_3 a)) ((3 : Int) ≤ (5 : Int) ∧ (5 : Int) ≤ (8 : Int) ∧ ∀ (a a_7 : List Int) (a_8 : Int) (a_9 a_10 : List Int) (a_11 : Int), Ok a a_7 a_8 a_9 → (↑a.length : Int) ≤ (5 : Int) → a_4.length + (1 : Nat) ≤ (1000000000 : Nat) ∧ ∃ (a_12 : List aU.den), ∃ (a_13 : List Int), ∃ (a_14 : Int), false = false ∧ a_4 ++ [(a, a_7, a_8, a_9, ())] = a_12 ∧ a_10 = a_13 ∧ a_11 = a_14 ∧ (1 : Nat) ≤ a_12.length ∧ a_12.length ≤ (4 : Nat) ∧ (∀ (q : aU.den), q ∈ a_12 → AH q) ∧ True)) ∧ ∀ (a : List aU.den) (a_1 : List Int) (a_2 : Int), (1 : Nat) ≤ a.length → a.length ≤ (4 : Nat) → (∀ (q : aU.den), q ∈ a → AH q) → (1 : Nat) ≤ a.length ∧ a.length ≤ (4 : Nat) ∧ (∀ (p : (aU).den), p ∈ a → AH p) ∧ ∀ (a_3 : List bY.den) (a_4 : List Int) (a_5 : Int), (1 : Nat) ≤ a_3.length → a_3.length ≤ a.length → Ah a (List.map (fun (x : bY.den) => x.fst) a_3) a_3 → a.length ≤ (4 : Nat) ∧ (1 : Nat) ≤ a_3.length ∧ a_3.length ≤ (4 : Nat) ∧ (∀ (p : (aU).den), p ∈ a → AH p) ∧ Ah a (List.map (fun (x : (bY).den) => x.fst) a_3) a_3 ∧ ∀ (a_6 : Int), Tj a a_3 a_6 → (∃ (a_7 : Nat), (1 : Int) = (↑a_7 : Int) + (1 : Int) ∧ a_7 + (1 : Nat) ≤ a_3.length ∧ (∀ (j : Nat), j < a_7 → FF a (eU a_3 j) (eU a_3 (j + (1 : Nat)))) ∧ a_3.length - a_7 < (1000000 : Nat)) ∧ ∀ (a_7 : Nat), a_7 + (1 : Nat) ≤ a_3.length → (∀ (j : Nat), j < a_7 → FF a (eU a_3 j) (eU a_3 (j + (1 : Nat)))) → aM (decide ((↑a_7 : Int) + (1 : Int) < (↑a_3.length : Int))) (dg ((↑a_7 : Int) + (1 : Int) - (1 : Int)) ∧ ((0 : Int) ≤ (↑a_7 : Int) + (1 : Int) - (1 : Int) ∧ (↑a_7 : Int) + (1 : Int) - (1 : Int) < (↑a_3.length : Int)) ∧ v10.q4 a_3 a ((↑a_7 : Int) + (1 : Int) - (1 : Int)) (dg ((↑a_7 : Int) + (1 : Int) - (1 : Int)) ∧ v10.q2 a_3 a a_7 ((↑a_7 : Int) + (1 : Int) - (1 : Int)) (v10.q4 a_3 a ((↑a_7 : Int) + (1 : Int)) (v10.q2 a_3 a a_7 ((↑a_7 : Int) + (1 : Int)) (v10.q1 a_3 a ((↑a_7 : Int) + (1 : Int) - (1 : Int)) (v10.q1 a_3 a ((↑a_7 : Int) + (1 : Int)) (∀ (a_8 : Int × Int × Int), QM (stA (bP (a_3.getD ((↑a_7 : Int) + (1 : Int) - (1 : Int)).toNat ((0 : Int), (0 : Int), (0 : Int), ())).snd.fst (a.getD (Int.toNat (a_3.getD ((↑a_7 : Int) + (1 : Int) - (1 : Int)).toNat ((0 : Int), (0 : Int), (0 : Int), ())).fst) ([], [], (0 : Int), [], ())).fst (a.getD (Int.toNat (a_3.getD ((↑a_7 : Int) + (1 : Int) - (1 : Int)).toNat ((0 : Int), (0 : Int), (0 : Int), ())).fst) ([], [], (0 : Int), [], ())).snd.fst) (bO (a_3.getD ((↑a_7 : Int) + (1 : Int)).toNat ((0 : Int), (0 : Int), (0 : Int), ())).snd.fst (a.getD (Int.toNat (a_3.getD ((↑a_7 : Int) + (1 : Int)).toNat ((0 : Int), (0 : Int), (0 : Int), ())).fst) ([], [], (0 : Int), [], ())).fst (a.getD (Int.toNat (a_3.getD ((↑a_7 : Int) + (1 : Int)).toNat ((0 : Int), (0 : Int), (0 : Int), ())).fst) ([], [], (0 : Int), [], ())).snd.fst) (a_3.getD ((↑a_7 : Int) + (1 : Int)).toNat ((0 : Int), (0 : Int), (0 : Int), ())).snd.snd.fst) ((a.getD (Int.toNat (a_3.getD ((↑a_7 : Int) + (1 : Int) - (1 : Int)).toNat ((0 : Int), (0 : Int), (0 : Int), ())).fst) ([], [], (0 : Int), [], ())).snd.snd.fst + (a.getD (Int.toNat (a_3.getD ((↑a_7 : Int) + (1 : Int)).toNat ((0 : Int), (0 : Int), (0 : Int), ())).fst) ([], [], (0 : Int), [], ())).snd.snd.fst) a_8.snd.snd → aM (a_8.snd.snd != (0 : Int)) (aM (a_8.snd.snd == (11 : Int)) (aM (a_6 == (↑a_7 : Int) + (1 : Int)) (true = true ∧ True) (false = true ∧ True)) (aM (a_8.snd.snd == (7 : Int)) (aM (a_6 == (↑a_7 : Int) + (1 : Int)) (true = true ∧ True) (false = true ∧ True)) (false = true ∧ True))) (dg ((↑a_7 : Int) + (1 : Int) + (1 : Int)) ∧ ∃ (a_9 : Nat), a = a ∧ a_3 = a_3 ∧ a_6 = a_6 ∧ (↑a_7 : Int) + (1 : Int) + (1 : Int) = (↑a_9 : Int) + (1 : Int) ∧ a_4 = a_4 ∧ a_5 = a_5 ∧ a_9 + (1 : Nat) ≤ a_3.length ∧ (∀ (j : Nat), j < a_9 → FF a (eU a_3 j) (eU a_3 (j + (1 : Nat)))) ∧ a_3.length - a_9 < a_3.length - a_7)))))))) (aM (a_6 == (-1 : Int)) (true = true ∧ True) (false = true ∧ True))) (by kernel_rfl) ?_
  unfold v10.q5 v10.q4 v10.q3 v10.q2 v10.q1
  simp only [bU, dI, cV, eq_self, true_and, and_true, Bool.false_eq_true, dg, gR]
  refine ⟨⟨by omega, by omega, fun k r z ow HH => ⟨⟨k.toNat, [], r, z, rfl, by omega, rfl, rfl, by simp only [List.length_nil]; omega, by simp, by omega⟩, fun m l r z hm ho => ⟨fun xO => ⟨fun hl => ⟨by omega, by omega, fun b z1 r2 z2 => nv.2 ⟨fun _ => ⟨⟨by omega, by omega⟩, by omega, by omega, fun i r3 z3 hi1 YH => ⟨⟨by omega, by omega⟩, ?_, fun u lo w q r4 z4 gZ hu => ⟨by omega, ⟨by omega, by omega⟩, m - 1, _, _, _, rfl, by omega, rfl, rfl, by simp only [List.length_append, List.length_singleton]; omega, xx ho gZ, by omega⟩⟩⟩, fun _ => ⟨by omega, by omega, fun u lo w q r4 z4 gZ hu => ⟨by omega, ⟨by omega, by omega⟩, m - 1, _, _, _, rfl, by omega, rfl, rfl, by simp only [List.length_append, List.length_singleton]; omega, xx ho gZ, by omega⟩⟩⟩⟩, fun hl => ⟨by omega, by omega, fun u lo w q r4 z4 gZ hu => ⟨by omega, ⟨by omega, by omega⟩, m - 1, _, _, _, rfl, by omega, rfl, rfl, by simp only [List.length_append, List.length_singleton]; omega, xx ho gZ, by omega⟩⟩⟩, fun acZ => ⟨by omega, by omega, fun u lo w q r4 z4 gZ hu => ⟨by omega, _, _, _, rfl, rfl, rfl, by simp, by simp only [List.length_append, List.length_singleton]; omega, xx ho gZ⟩⟩⟩⟩⟩, fun ps r z p1 p2 po => ⟨p1, p2, po, fun s r z s1 s2 hs => ⟨p2, s1, by omega, po, hs, fun kk hb => ⟨⟨0, by omega, by omega, fun j hj => absurd hj (by omega), by omega⟩, fun n hn hold => ⟨fun hlt => ?_, fun Df => ?_⟩⟩⟩⟩⟩
  · rw [List.getD_eq_getElem?_getD, List.getElem?_eq_getElem (by omega)]; exact ho _ (List.getElem_mem _)
  · have e1 : ((n : Int) + 1 - 1).toNat = n := by omega
    have e2 : ((n : Int) + 1).toNat = n + 1 := by omega
    rw [e1, e2]
    have mem : ∀ k, k < s.length → s.getD k (0, 0, 0, ()) ∈ s := fun k hk => by
      rw [List.getD_eq_getElem?_getD, List.getElem?_eq_getElem hk]; exact List.getElem_mem hk
    have m1 := mem n (by omega)
    have m2 := mem (n + 1) (by omega)
    have b1 := hs.ix _ m1
    have b2 := hs.ix _ m2
    have c1 := hs.Ad _ m1
    have c2 := hs.Ad _ m2
    have LR : ∀ k : Nat, k < ps.length → AH (ps.getD k ([], [], 0, [], ())) := fun k hk => po _ (by
      rw [List.getD_eq_getElem?_getD, List.getElem?_eq_getElem hk]; exact List.getElem_mem hk)
    have o1 := LR _ ((Int.toNat_lt b1.1).2 b1.2)
    have o2 := LR _ ((Int.toNat_lt b2.1).2 b2.2)
    have hx := o1.Ad _ c1
    have hy := o2.Ad _ c2
    have key : ∀ t : Int × Int × Int, QM (sL ps (eU s n) (eU s (n + 1))) ((oD ps (eU s n)).2.2.1 + (oD ps (eU s (n + 1))).2.2.1) t.2.2 → (t.2.2 = 0 ∧ FF ps (eU s n) (eU s (n + 1))) ∨ ((t.2.2 = 7 ∨ t.2.2 = 11) ∧ ¬FF ps (eU s n) (eU s (n + 1))) := fun t ht => ht
    refine ⟨⟨by omega, by omega⟩, ⟨by omega, by omega⟩, b1, ⟨by omega, by omega⟩, ⟨by omega, by omega⟩, o1, hx, ⟨by omega, by omega⟩, b2, ⟨by omega, by omega⟩, o2, hy, ⟨by omega, by omega⟩, M6 o1 hx, M6 o2 hy, fun t ht => ?_⟩
    rcases key t ht with ⟨h0, hj⟩ | ⟨h7, hj⟩
    · refine ⟨fun _ => ⟨⟨by omega, by omega⟩, n + 1, by omega, by omega, fun j sU => ?_, by omega⟩, fun h => absurd h0 h⟩
      rcases Nat.lt_succ_iff_lt_or_eq.1 sU with h | rfl
      · exact hold j h
      · exact hj
    · have e := Xw hb hold (by omega) hj
      refine ⟨fun h0 => by omega, fun _ => ⟨fun _ => ⟨fun _ => trivial, fun h => absurd e h⟩, fun _ => ⟨fun _ => ⟨fun _ => trivial, fun h => absurd e h⟩, fun _ => by omega⟩⟩⟩
  · have e := Sz hb fun j hj => hold j (by omega)
    exact ⟨fun _ => trivial, fun h => absurd e h⟩
end Go.Tv
end
