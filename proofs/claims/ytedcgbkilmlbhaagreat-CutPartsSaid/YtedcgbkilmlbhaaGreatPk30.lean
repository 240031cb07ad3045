import Derived.Test.YtedcgbkilmlbhaaGreatPk29
import Derived.Conc.SmallLaws
import Derived.Shelf.SlSortCmp.WholeK
import Derived.Shelf.SlicesG.Cmp
import Derived.Shelf.Lay
import Derived.Ground.SlsfProg
import Derived.Ground.SlgcProg
import Derived.WalkKit
import Derived.WalkSpells
import Derived.WalkLawsBesides
import Derived.StillTailTactics
import Derived.Deep.QuietTactic
import Derived.BigQuiet
import Derived.Lib.Hide
import Derived.Test.YtedcgbkilmlbhaaGreatPk18
import Derived.Test.YtedcgbkilmlbhaaGreatChecked
import Derived.KernelRfl
import Derived.Test.YtedcgbkilmlbhaaGreatPk23
section
namespace Go.Co
open Go Go.Conc Go.Proofs
open Classical
variable {P : Program} {aa : Machine → Trace → Prop} {γ : So} {w : World}
noncomputable def DN : Code := match pn with | .seq _ (.seq _ (.seq _ (.seq _ x))) => x | _ => .skip
noncomputable def ab1 : Code := match pn with | .seq _ (.seq x _) => x | _ => .skip
noncomputable def ab0 : Code := match pn with | .seq _ (.seq _ (.seq x _)) => x | _ => .skip
noncomputable def YH : Code := match pn with | .seq _ (.seq _ (.seq _ (.seq (.seq x _) _))) => x | _ => .skip
def dQ (da db : Wk) : List Sm := da.aY.flatMap fun x => db.aY.flatMap fun y => (fL da db x y).map fun s => (x, y, s)
theorem Kj (da db : Wk) (x : Int) : ∀ ys : List Int, msgs da db x ys = (ys.flatMap fun y => (fL da db x y).map fun s => (x, y, s)).map sG
 | [] => rfl
 | y :: ys => by
  rw [CG, Kj da db x ys, gv, kN, List.map_map]
  rfl
theorem Uc (da db : Wk) : (da.aY.map fun x => msgs da db x db.aY).flatten = (dQ da db).map sG := by
 unfold dQ
 induction da.aY with
 | nil => rfl
 | cons x l ih => rw [bD, List.flatten_cons, ih, gv, kN, Kj]
theorem rz {α β : Type} (f : α → List β) (c : Nat) : ∀ l : List α, (∀ x ∈ l, (f x).length ≤ c) → (l.flatMap f).length ≤ l.length * c
 | [], _ => by simp
 | a :: l, h => by
  have h1 := h a (by simp)
  have h2 := rz f c l fun x hx => h x (by simp [hx])
  rw [gv, cO, List.length_cons, jg]
  omega
theorem AZ {da db : Wk} (sH : da.ok) (xG : db.ok) : (dQ da db).length ≤ 4294967296 := by
 have h1 : ∀ x ∈ da.aY, (db.aY.flatMap fun y => (fL da db x y).map fun s => (x, y, s)).length ≤ 1000 * 2001 := by
  intro x _
  refine bk (rz _ 2001 _ fun y _ => ?_) (eR _ xG.ZZ)
  rw [jh]
  have h2 := (xG.up y.toNat).1
  have h3 := (sH.lo x.toNat).1
  exact bk (D1 _ _ _ _) (by omega)
 have h4 := rz _ _ _ h1
 have h5 := eR (1000 * 2001) sH.ZZ
 unfold dQ
 omega
set_option maxRecDepth 100000 in
set_option maxHeartbeats 1000000 in
theorem Tx (hP : Plain Tryz.prog) {b2 b3 b5 b6 cf cl : Nat} {da db : Wk} (sH : da.ok) (xG : db.ok) {A : Nat → Prop} {B0 : Nat} {w0 : World} (hS : EX A B0 w0 γ w) (hF : Fx da db b2 b3 b5 b6 cf cl γ w) (u : Nat → Value) {Qf : Exit → Act → World → Prop}
  (hT : ∀ γ' a' w', Xn A B0 w0 (dQ da db) (.ret, γ') .normal a' w' → KJ (gM Tryz.prog aa) 60 () DN (fun _ => Qf) a' w') :
  KJ (KG Tryz.prog aa true) 60 (chain cf cl (.bool true) (.bool false) false da.aY.length (y7 cf (.agg #[.int .i64 0, .int .i64 0, .int .i64 0]) ((dQ da db).map sG)) (da.aY.map fun x => msgs da db x db.aY), γ) pn (fun γ' e a' w' => γ'.1 = .ret ∧ Qf e a' w') (Jy b2 b3 b5 b6 u) w := by
 have C := xR (aa := aa) (main := true) hP
 have W5 : y7 cf (.agg #[.int .i64 0, .int .i64 0, .int .i64 0]) ((dQ da db).map sG) ≠ .ret ∧ y7 cf (.agg #[.int .i64 0, .int .i64 0, .int .i64 0]) ((dQ da db).map sG) ≠ .stop := by
  obtain ⟨q, hq⟩ := sx (cf := cf) (z := .agg #[.int .i64 0, .int .i64 0, .int .i64 0]) ((dQ da db).map sG)
  rw [hq]; simp
 generalize K2 : y7 cf (.agg #[.int .i64 0, .int .i64 0, .int .i64 0]) ((dQ da db).map sG) = pc at *
 show KJ _ _ _ (.seq aaO (.seq ab1 (.seq ab0 (.seq (.seq YH OD) DN)))) _ _ _
 refine aR C (vh (XN hP sH xG hS hF u) ?_)
 rintro ⟨p', γ'⟩ e a' w' ⟨rfl, qb, yZ, hF', -, vl, nl, k, u', rfl⟩
 simp only at qb yZ hF'
 subst qb
 unfold Fj
 refine aR C (bP C ?_)
 refine di C (v := ?v1) rfl (by rfl) (fun w => run_eq_of fun K hK => ?r1) (fun w => ?e1) ?h1
 case r1 => go_simp; exact hK
 case e1 => simp [go_sem, Instr.makeFunc]
 try walk_nrm
 show KO _ _ (Pc.go (EK cf cl (.bool false) false da.aY.length) pc, γ') _ _ _ _ _
 refine Vp (d := call85 b2 b6 b5) (f := .func 104) (cap := #[.pointer (some ⟨b2, 0, none⟩), .pointer (some ⟨b6, 0, none⟩), .pointer (some ⟨b5, 0, none⟩)]) rfl (by rfl) (fun w => ?_) (fun w => ?_) rfl W5.2 (fun _ => W5.1) (fun w9 r9 w10 r10 => ?_) (fun w9 r9 w10 r10 => ?_)
 ·simp [execOp, resolve, Act.eval, call85, Deferred.ofValue]
 ·simp [execOp, resolve, Act.eval, Deferred.ofValue]
 ·have K5 := ((hF'.kept (Kept.rely r9)).give).kept (Kept.rely r10)
  exact MA hP sH K5.wa K5.f K5.l
 have K5 := ((hF'.kept (Kept.rely r9)).give).kept (Kept.rely r10)
 have hS9 := ((yZ.kept (Kept.rely r9)).give).kept (Kept.rely r10)
 have hf9 := K5.f
 clear hF' yZ K5
 try walk_nrm
 refine aM C ?_
 co_then
 refine aR C (bP C ?_)
 refine aj C ?_
 try walk_nrm
 refine aM C ?_
 co_then
 refine aR C (aR C (bP C ?_))
 refine nS C W5.1 (v := ?v21) rfl (by rfl) (fun w₁ h₁ => ⟨run_eq_of fun K hK => ?r21, ?e21⟩) ?h21
 case r21 => have hc := (bn.rely hf9 h₁).2; go_simp; exact hK
 case e21 => have hc := (bn.rely hf9 h₁).2; intro e he; simp [go_sem, hc] at he; subst he; exact (bn.rely hf9 h₁).EJ
 try walk_nrm
 refine aM C ?_
 co_then
 subst K2
 refine (?_ : ∀ a', (∃ u, a' = Jz cf (.slice none 0 0) u) → KJ _ _ _ OD _ a' _) _ (nj rfl)
 rintro a' ⟨u2, rfl⟩
 refine vh (QG hP (AZ sH xG) hS9 u2) ?_
 rintro ⟨p3, γ3⟩ e a3 w3 hE
 have he := hE.1
 have hp3 := hE.2.1
 simp only at hp3
 subst he
 subst hp3
 refine (?_ : KJ (KG Tryz.prog aa true) 60 (.ret, γ3) DN (fun γ' e a' w' => γ'.1 = .ret ∧ Qf e a' w') a3 w3)
 exact Qt (vh (hT γ3 a3 w3 hE) fun _ e a w q => ⟨rfl, q⟩)
end Go.Co
end
section
namespace Go.Co
open Go Go.Conc Go.Proofs
open Classical
variable {P : Program} {aa : Machine → Trace → Prop} {γ : So} {w : World}
theorem abi {fn : FuncId} {c : Code} {a : Act} {Q : Gm → Exit → Act → World → Prop} (h : ∀ w1, gU γ w w1 → KJ (gM P aa) fn () c (fun _ e a w' => ∃ γ', Q (.bad, γ') e a w') a w1) : KJ (Lj P aa) fn (.bad, γ) c Q a w := by
 intro b k cs hb hk hc _ w1 r
 refine h w1 r b k cs hb hk fun _ e a' w' q => ?_
 obtain ⟨γ', q⟩ := q
 have h := hc _ _ _ _ q
 cases e with
 | normal => exact h rfl w' (gG _ _)
 | exit id =>
  obtain ⟨k', h1, h2⟩ := h
  exact ⟨k', h1, h2 rfl w' (gG _ _)⟩
 | ret => exact fun todo => h todo rfl w' (gG _ _)
 | goto l => exact h
 | panic ch => exact h
 | outgrown => exact h
structure s5 (γ : So) (w : World) (cs : Array Value) (d : Wk) : Prop where
 bX : cs[2]? = some (.int .i64 d.bX)
 aY : ∃ v, cs[3]? = some v ∧ wm γ w v d.aY
 up : ∀ i, i < 4 → ∃ v, cs[4 + i * 2]? = some v ∧ wm γ w v (d.up i)
 lo : ∀ i, i < 4 → ∃ v, cs[4 + i * 2 + 1]? = some v ∧ wm γ w v (d.lo i)
theorem s5.kept {cs : Array Value} {d : Wk} {γ' : So} {w' : World} (h : s5 γ w cs d) (k : Kept γ w γ' w') : s5 γ' w' cs d :=
 ⟨h.bX, h.aY.imp fun _ ⟨h1, h2⟩ => ⟨h1, k.De h2⟩, fun i hi => (h.up i hi).imp fun _ ⟨h1, h2⟩ => ⟨h1, k.De h2⟩, fun i hi => (h.lo i hi).imp fun _ ⟨h1, h2⟩ => ⟨h1, k.De h2⟩⟩
theorem s5.boxed {cs : Array Value} {d : Wk} {t : TypeId} (h : s5 γ w cs d) : eV (γ.more w.heap.size) (w.alloc (.cells cs t)) w.heap.size d := by
 have k := Kept.alloc γ w w.heap.size (.cells cs t)
 exact ⟨bn.fresh rfl h.bX, h.aY.imp fun _ ⟨h1, h2⟩ => ⟨bn.fresh rfl h1, k.De h2⟩, fun i hi => (h.up i hi).imp fun _ ⟨h1, h2⟩ => ⟨bn.fresh rfl h1, k.De h2⟩, fun i hi => (h.lo i hi).imp fun _ ⟨h1, h2⟩ => ⟨bn.fresh rfl h1, k.De h2⟩⟩
def Ch (γ : So) (w : World) (c : Nat) : Prop := γ.all c ∧ w.heap[c]? = some (.chan 0 #[] false 0 0 false)
theorem Ch.lt {c : Nat} (h : Ch γ w c) : c < w.heap.size := (aG.1 h.2).1
theorem Ch.kept {c : Nat} {γ' : So} {w' : World} (h : Ch γ w c) (k : Kept γ w γ' w') : Ch γ' w' c := ⟨k.all h.1, (k.blk c h.1 h.lt).trans h.2⟩
def Zd (w : World) (cf cl : Nat) : So := (fun b => b < w.heap.size ∧ b ≠ cf ∧ b ≠ cl, fun _ => False)
theorem bn.shr {cf cl : Nat} {ad : Addr} {v : Value} (hf : Ch γ w cf) (hl : Ch γ w cl) (h : bn γ w ad v) : bn (Zd w cf cl) w ad v := by
 refine ⟨.inl ⟨h.lt, fun e => ?_, fun e => ?_⟩, h.2⟩
 ·have := h.2; simp [World.cell?, e, hf.2] at this
 ·have := h.2; simp [World.cell?, e, hl.2] at this
theorem wm.shr {cf cl : Nat} {v : Value} {l : List Int} (hf : Ch γ w cf) (hl : Ch γ w cl) (h : wm γ w v l) : wm (Zd w cf cl) w v l := by
 obtain ⟨A, cap, rfl, h⟩ := h
 exact ⟨A, cap, rfl, fun i x hx => by obtain ⟨ad, h1, h2⟩ := h i x hx; exact ⟨ad, h1, h2.shr hf hl⟩⟩
theorem eV.shr {cf cl b : Nat} {d : Wk} (hf : Ch γ w cf) (hl : Ch γ w cl) (h : eV γ w b d) : eV (Zd w cf cl) w b d :=
 ⟨h.bX.shr hf hl, h.aY.imp fun _ ⟨h1, h2⟩ => ⟨h1.shr hf hl, h2.shr hf hl⟩, fun i hi => (h.up i hi).imp fun _ ⟨h1, h2⟩ => ⟨h1.shr hf hl, h2.shr hf hl⟩, fun i hi => (h.lo i hi).imp fun _ ⟨h1, h2⟩ => ⟨h1.shr hf hl, h2.shr hf hl⟩⟩
def Old (A : Nat → Prop) (B0 : Nat) (w0 w : World) : Prop := (∀ b, A b → w.heap[b]? = w0.heap[b]?) ∧ B0 ≤ w.heap.size ∧ w.os = w0.os ∧ w.output = w0.output
def O8 (aa : Machine → Trace → Prop) (R : List Sm) : Prop := ∀ A B0 w0 γ' a' w', Xn A B0 w0 R (.ret, γ') .normal a' w' →
 KJ (gM Tryz.prog aa) 60 () DN (fun _ e a w => e = .ret ∧ a.defers = [] ∧ Old A B0 w0 w ∧ w.ownsRow B0 79 3 (a.tmps.getD 4 undef) R.length (R.flatMap oT)) a' w'
theorem T9 : (Tryz.prog.info? 136).map (fun i => (i.zero, i.size, i.bytes)) = some (some (.chan none), 1, 8) := by kernel_rfl
theorem TZ : (Tryz.prog.info? 137).map (fun i => (i.zero, i.size, i.bytes)) = some (some (.chan none), 1, 8) := by kernel_rfl
set_option maxRecDepth 100000 in
set_option maxHeartbeats 2000000 in
theorem GI (hP : Plain Tryz.prog) {ca cb : Array Value} {da db : Wk} (sH : da.ok) (xG : db.ok) (Zt : s5 γ w ca da) (Zs : s5 γ w cb db) (hT : O8 aa (dQ da db)) :
  uX (Lj Tryz.prog aa) Tryz.prog (.bad, γ) 60 #[.agg ca, .agg cb] w fun γ' v w' => γ'.1 = .bad ∧ Kept γ w γ'.2 w' ∧ jF γ'.2 w' w.heap.size 79 3 v (dQ da db).length ((dQ da db).flatMap oT) := by
 have C := TX (aa := aa) hP
 have hp : Pc.bad ≠ Pc.ret := by simp
 obtain ⟨i71, h71, -, -, b71⟩ := info_parts Ib
 obtain ⟨i4, h4, -, -, b4⟩ := info_parts Vq
 obtain ⟨i138, ada, z138, -, -⟩ := info_parts T9
 obtain ⟨i139, ac9, z139, -, -⟩ := info_parts TZ
 refine AE Tryz.func60 (by rfl) rfl ?_
 simp only [Tryz.ntmps60, jP, List.length_cons, List.length_nil, Nat.reduceAdd, Nat.reduceSub, Array.replicate_succ, Array.replicate_zero, List.push_toArray, List.append_toArray, List.nil_append, List.cons_append]
 show KJ _ _ _ (.seq (.region _ _ false) (.seq (.region _ _ false) (.seq (.region _ _ false) pn))) _ _ _
 refine aR C (bP C ?_)
 refine nU C hp (ob := ?ob1) rfl (by rfl) (fun w => run_eq_of fun K hK => ?r1) (fun w => ?e1) ?h1
 case r1 => go_simp; exact hK
 case e1 => simp [go_sem]
 intro w1 M8
 try walk_nrm
 have qA := (Kept.rely M8).trans (Kept.alloc γ w1 w1.heap.size (.cells ca 94))
 have Q2 : eV (γ.more w1.heap.size) (w1.alloc (.cells ca 94)) w1.heap.size da := (Zt.kept (Kept.rely M8)).boxed
 have aag := Zs.kept qA
 generalize w1.alloc (.cells ca 94) = W1 at *
 generalize γ.more w1.heap.size = γ1 at *
 generalize w1.heap.size = b2 at *
 clear M8
 refine nU C hp (ob := ?ob2) rfl (by rfl) (fun w => run_eq_of fun K hK => ?r2) (fun w => ?e2) ?h2
 case r2 => go_simp; exact hK
 case e2 => simp [go_sem]
 intro w2 MH
 try walk_nrm
 have E3 := (Kept.rely MH).trans (Kept.alloc γ1 w2 w2.heap.size (.cells cb 94))
 have Hx : eV (γ1.more w2.heap.size) (w2.alloc (.cells cb 94)) w2.heap.size db := (aag.kept (Kept.rely MH)).boxed
 have Jm := Q2.kept E3
 have Hh := qA.trans E3
 generalize w2.alloc (.cells cb 94) = W2 at *
 generalize γ1.more w2.heap.size = γ2 at *
 generalize w2.heap.size = b3 at *
 clear MH E3 qA Q2 aag
 refine aj C ?_
 try walk_nrm
 refine aM C ?_
 co_then
 have hk := Hh
 have ha := Jm
 have hb := Hx
 clear Hh Jm Hx
 refine aR C (bP C ?_)
 refine DI C hp (f := fun n => .chan (some n)) (ob := .chan 0 #[] false 0 0 false) rfl (by rfl) (fun w => ?_) (fun w => ?_) ?_
 ·have h : (Instr.makeChan 136 (.int .i64 0)).run Tryz.prog w = _ := run_makeChan (P := Tryz.prog) (w := w) Tryz.underlying136 h71 .i64 0 (by omega) (by rw [b71]; omega)
  simp [execOp, Act.eval, h]
 ·have h : (Instr.makeChan 136 (.int .i64 0)).events Tryz.prog w #[] = _ := events_makeChan (P := Tryz.prog) (w := w) Tryz.underlying136 h71 .i64 0 (by omega) (by rw [b71]; omega) #[]
  simp [execOp, Act.eval, h]
 intro Rf Wx
 try walk_nrm
 have uB := (Kept.rely Wx).trans (Kept.alloc _ Rf Rf.heap.size (.chan 0 #[] false 0 0 false))
 have UO : Ch (So.more γ2 Rf.heap.size) (Rf.alloc (.chan 0 #[] false 0 0 false)) Rf.heap.size := ⟨.inr (.inr rfl), heap_alloc_new Rf _⟩
 have adq : w.heap.size ≤ Rf.heap.size := bk hk.size Wx.1
 replace hk := hk.trans uB
 replace ha := ha.kept uB
 replace hb := hb.kept uB
 generalize Rf.alloc (.chan 0 #[] false 0 0 false) = Wpa at *
 generalize Rf.heap.size = cf at *
 generalize So.more γ2 cf = γpa at *
 clear uB Wx
 refine nU C hp (ob := .cells #[.chan none] 136) rfl (by rfl) (fun w => run_eq_of fun K hK => ?r4) (fun w => ?e4) ?h4
 case r4 => go_simp; exact hK
 case e4 => simp [execOp, Instr.alloc, zeroValue, typeInfo, ada, z138, newVar, newRow]
 intro M3 Ww
 try walk_nrm
 have uB := (Kept.rely Ww).trans (Kept.alloc _ M3 M3.heap.size (.cells #[.chan none] 136))
 have hz : (M3.alloc (.cells #[.chan none] 136)).frozen? ⟨M3.heap.size, 0, none⟩ = false := World.frozen?_alloc_new _ _ _ _
 have hs : bn _ _ ⟨M3.heap.size, 0, none⟩ (.chan none) := bn.fresh (γ := γpa) (w := M3) (cs := #[.chan none]) (t := 136) rfl rfl
 have hO : (So.more γpa M3.heap.size).2 M3.heap.size := .inr rfl
 have ET : Wpa.heap.size ≤ M3.heap.size := Ww.1
 generalize M3.alloc (.cells #[.chan none] 136) = Wpb at *
 generalize M3.heap.size = b5 at *
 generalize So.more γpa b5 = γpb at *
 clear Ww
 refine H8 C hp (ad := ⟨b5, 0, none⟩) (v := .chan (some cf)) rfl (by rfl) hO (fun w₁ h₁ => ⟨?_, ?_⟩) ?_
 ·have hc := (hs.rely h₁).2
  have ML : w₁.frozen? ⟨b5, 0, none⟩ = false := (World.frozen?_of_block (h₁.2.1 b5 (.inr hO))).trans hz
  refine (?_ : ∀ K : Result Next → Prop, K (.ok .skip (w₁.setCell ⟨b5, 0, none⟩ (.chan (some cf)))) → K _) (· = _) rfl
  intro K hK
  go_simp
  try (unfold stored; go_simp)
  exact hK
 ·have hc := (hs.rely h₁).2
  have ML : w₁.frozen? ⟨b5, 0, none⟩ = false := (World.frozen?_of_block (h₁.2.1 b5 (.inr hO))).trans hz
  intro e he
  simp [go_sem, hc, ML] at he
  exact he
 intro wpc Wv
 try walk_nrm
 replace uB := (uB.trans (Kept.rely Wv)).put (ad := ⟨b5, 0, none⟩) (v := .chan (some cf)) ET
 have ZP : bn γpb (wpc.setCell ⟨b5, 0, none⟩ (.chan (some cf))) ⟨b5, 0, none⟩ (.chan (some cf)) := ⟨.inr hO, World.cell?_setCell_same _ _ _ (hs.rely Wv).2⟩
 generalize wpc.setCell ⟨b5, 0, none⟩ (.chan (some cf)) = Wpc at *
 replace hk := hk.trans uB
 replace UO := UO.kept uB
 replace ha := ha.kept uB
 replace hb := hb.kept uB
 clear uB hs hz ET hO Wv
 refine aM C ?_
 co_then
 refine aR C (bP C ?_)
 refine DI C hp (f := fun n => .chan (some n)) (ob := .chan 0 #[] false 0 0 false) rfl (by rfl) (fun w => ?_) (fun w => ?_) ?_
 ·have h : (Instr.makeChan 137 (.int .i64 0)).run Tryz.prog w = _ := run_makeChan (P := Tryz.prog) (w := w) Tryz.underlying137 h4 .i64 0 (by omega) (by rw [b4]; omega)
  simp [execOp, Act.eval, h]
 ·have h : (Instr.makeChan 137 (.int .i64 0)).events Tryz.prog w #[] = _ := events_makeChan (P := Tryz.prog) (w := w) Tryz.underlying137 h4 .i64 0 (by omega) (by rw [b4]; omega) #[]
  simp [execOp, Act.eval, h]
 intro QT RL
 try walk_nrm
 have hne : cf ≠ QT.heap.size := Nat.ne_of_lt (UO.kept (Kept.rely RL)).lt
 have uB := (Kept.rely RL).trans (Kept.alloc _ QT QT.heap.size (.chan 0 #[] false 0 0 false))
 have qC : Ch (So.more γpb QT.heap.size) (QT.alloc (.chan 0 #[] false 0 0 false)) QT.heap.size := ⟨.inr (.inr rfl), heap_alloc_new QT _⟩
 have adp : w.heap.size ≤ QT.heap.size := bk hk.size RL.1
 replace hk := hk.trans uB
 replace ha := ha.kept uB
 replace hb := hb.kept uB
 replace UO := UO.kept uB
 replace ZP := (uB.sees ZP)
 generalize QT.alloc (.chan 0 #[] false 0 0 false) = Wqa at *
 generalize QT.heap.size = cl at *
 generalize So.more γpb cl = γqa at *
 clear uB RL
 refine nU C hp (ob := .cells #[.chan none] 137) rfl (by rfl) (fun w => run_eq_of fun K hK => ?r5) (fun w => ?e5) ?h5
 case r5 => go_simp; exact hK
 case e5 => simp [execOp, Instr.alloc, zeroValue, typeInfo, ac9, z139, newVar, newRow]
 intro M0 Wu
 try walk_nrm
 have uB := (Kept.rely Wu).trans (Kept.alloc _ M0 M0.heap.size (.cells #[.chan none] 137))
 have hz : (M0.alloc (.cells #[.chan none] 137)).frozen? ⟨M0.heap.size, 0, none⟩ = false := World.frozen?_alloc_new _ _ _ _
 have hs : bn _ _ ⟨M0.heap.size, 0, none⟩ (.chan none) := bn.fresh (γ := γqa) (w := M0) (cs := #[.chan none]) (t := 137) rfl rfl
 have hO : (So.more γqa M0.heap.size).2 M0.heap.size := .inr rfl
 have ET : Wqa.heap.size ≤ M0.heap.size := Wu.1
 generalize M0.alloc (.cells #[.chan none] 137) = Wqb at *
 generalize M0.heap.size = b6 at *
 generalize So.more γqa b6 = γqb at *
 clear Wu
 refine H8 C hp (ad := ⟨b6, 0, none⟩) (v := .chan (some cl)) rfl (by rfl) hO (fun w₁ h₁ => ⟨?_, ?_⟩) ?_
 ·have hc := (hs.rely h₁).2
  have ML : w₁.frozen? ⟨b6, 0, none⟩ = false := (World.frozen?_of_block (h₁.2.1 b6 (.inr hO))).trans hz
  refine (?_ : ∀ K : Result Next → Prop, K (.ok .skip (w₁.setCell ⟨b6, 0, none⟩ (.chan (some cl)))) → K _) (· = _) rfl
  intro K hK
  go_simp
  try (unfold stored; go_simp)
  exact hK
 ·have hc := (hs.rely h₁).2
  have ML : w₁.frozen? ⟨b6, 0, none⟩ = false := (World.frozen?_of_block (h₁.2.1 b6 (.inr hO))).trans hz
  intro e he
  simp [go_sem, hc, ML] at he
  exact he
 intro wqc Wt
 try walk_nrm
 replace uB := (uB.trans (Kept.rely Wt)).put (ad := ⟨b6, 0, none⟩) (v := .chan (some cl)) ET
 have hb6 : bn γqb (wqc.setCell ⟨b6, 0, none⟩ (.chan (some cl))) ⟨b6, 0, none⟩ (.chan (some cl)) := ⟨.inr hO, World.cell?_setCell_same _ _ _ (hs.rely Wt).2⟩
 generalize wqc.setCell ⟨b6, 0, none⟩ (.chan (some cl)) = Wqc at *
 replace hk := hk.trans uB
 replace qC := qC.kept uB
 replace ha := ha.kept uB
 replace hb := hb.kept uB
 replace UO := UO.kept uB
 replace ZP := (uB.sees ZP)
 clear uB hs hz ET hO Wt
 refine aM C ?_
 co_then
 refine abi fun w1 r1 => ?_
 have Wh := Kept.rely r1
 have NN := UO.kept Wh
 have NM := qC.kept Wh
 have qA := hk.trans Wh
 have hS : EX (fun b => γ.all b ∧ b < w.heap.size) w.heap.size w (Zd w1 cf cl) w1 :=
  ⟨fun b h => h.2, fun b h => .inl ⟨cz h.2 qA.size, by have := h.2; omega, by have := h.2; omega⟩, fun b h => qA.blk b h.1 h.2, qA.size, qA.env⟩
 refine (?_ : ∀ a', (∃ u, a' = Jy b2 b3 b5 b6 u) → KJ _ _ _ pn _ a' _) _ (nj rfl)
 rintro a' ⟨u, rfl⟩
 have hW : ∀ n, 0 < n → zC (fun c => c = cf ∨ c = cl) (entry n (chain cf cl (.bool true) (.bool false) false da.aY.length (y7 cf (.agg #[.int .i64 0, .int .i64 0, .int .i64 0]) ((dQ da db).map sG)) (da.aY.map fun x => msgs da db x db.aY))) := by
  intro n hn
  have h := GC (tv := .bool true) (z := .agg #[.int .i64 0, .int .i64 0, .int .i64 0]) (z2 := .bool false) (od := false) hne (da.aY.map fun x => msgs da db x db.aY) hn
  rwa [jh, Uc] at h
 have iZ : (chain cf cl (.bool true) (.bool false) false da.aY.length (y7 cf (.agg #[.int .i64 0, .int .i64 0, .int .i64 0]) ((dQ da db).map sG)) (da.aY.map fun x => msgs da db x db.aY)).live := by
  obtain ⟨x, y, h⟩ := GZ (cf := cf) (cl := cl) (tv := .bool true) (z2 := .bool false) (od := false) da.aY.length (y7 cf (.agg #[.int .i64 0, .int .i64 0, .int .i64 0]) ((dQ da db).map sG)) (da.aY.map fun x => msgs da db x db.aY)
  rw [h]
  exact ⟨by simp, by simp, by simp⟩
 refine Qs hP (Cs := fun c => c = cf ∨ c = cl) (S := (Zd w1 cf cl).1) (O := (Zd w1 cf cl).2) iZ (fun b h => h.elim) (fun b h => h.elim (·.1) (·.elim)) (fun c hc => ?_) hW
  (Tx hP sH xG hS ⟨(ha.kept Wh).shr NN NM, (hb.kept Wh).shr NN NM, (Wh.sees ZP).shr NN NM, (Wh.sees hb6).shr NN NM⟩ u (fun γ' a' w' hE => vh (hT _ _ _ γ' a' w' hE) ?_))
 ·rcases hc with rfl | rfl
  ·exact ⟨⟨0, false, NN.2⟩, fun h => h.2.1 rfl, fun h => h⟩
  ·exact ⟨⟨0, false, NM.2⟩, fun h => h.2.2 rfl, fun h => h⟩
 ·rintro _ e a3 w3 ⟨rfl, hd, hold, eA⟩
  exact ⟨(γ.1, fun b => γ.2 b ∨ (w.heap.size ≤ b ∧ b < w3.heap.size)), hd, a3.tmps.getD 4 undef, resultsC_tmp Tryz.results60 _, rfl,
   ⟨rfl, fun _ h => .inl h, fun b hb hlt => hold.1 b ⟨hb, hlt⟩, hold.2.1, hold.2.2⟩, ⟨eA, fun b hb => .inr (eA.lt b hb)⟩⟩
end Go.Co
end
section
namespace Go.Proofs
open Go.Shelf Go.RowKit Go.Lib Go.Sort
def Tryz.Es:Go.Shelf.Ren:=⟨fun | 6=>105 | 15=>128 | 14=>129 | 28=>143 | 29=>144 | 20=>145 | 21=>146 | 22=>147 | 23=>148 | 24=>149 | 25=>150 | 26=>151 | 27=>152 | 46=>159 | 47=>155 | 48=>156 | 49=>160 | 50=>161 | 57=>163 | n=>n,fun | 22=>34 | 24=>79 | 25=>140 | 3=>3 | 39=>87 | 0=>0 | 53=>182 | 55=>83 | 4=>4 | 46=>175 | 45=>174 | 50=>179 | 5=>5 | 9=>9 | 66=>189 | 70=>192 | 76=>196 | 77=>163 | n=>n,fun | n=>n⟩
theorem Tryz.FM:Go.Proofs.SlLaysF0.n6 Tryz.prog Tryz.Es:={
 mixed:=by kernel_rfl
 f6:=⟨Tryz.f105.name,by decide,Tryz.func105.trans (congrArg some (by kernel_rfl))⟩
 f14:=⟨Tryz.f129.name,by decide,Tryz.func129.trans (congrArg some (by kernel_rfl))⟩
 f15:=Tryz.func128.trans (congrArg some (by kernel_rfl))
 f20:=⟨Tryz.f145.name,by decide,Tryz.func145.trans (congrArg some (by kernel_rfl))⟩
 f21:=⟨Tryz.f146.name,by decide,Tryz.func146.trans (congrArg some (by kernel_rfl))⟩
 f22:=⟨Tryz.f147.name,by decide,Tryz.func147.trans (congrArg some (by kernel_rfl))⟩
 f23:=⟨Tryz.f148.name,by decide,Tryz.func148.trans (congrArg some (by kernel_rfl))⟩
 f24:=⟨Tryz.f149.name,by decide,Tryz.func149.trans (congrArg some (by kernel_rfl))⟩
 f25:=⟨Tryz.f150.name,by decide,Tryz.func150.trans (congrArg some (by kernel_rfl))⟩
 f26:=⟨Tryz.f151.name,by decide,Tryz.func151.trans (congrArg some (by kernel_rfl))⟩
 f27:=⟨Tryz.f152.name,by decide,Tryz.func152.trans (congrArg some (by kernel_rfl))⟩
 f28:=Tryz.func143.trans (congrArg some (by kernel_rfl))
 f29:=Tryz.func144.trans (congrArg some (by kernel_rfl))
 f46:=⟨Tryz.f159.name,by decide,Tryz.func159.trans (congrArg some (by kernel_rfl))⟩
 f47:=Tryz.func155.trans (congrArg some (by kernel_rfl))
 f48:=Tryz.func156.trans (congrArg some (by kernel_rfl))
 f49:=⟨Tryz.f160.name,by decide,Tryz.func160.trans (congrArg some (by kernel_rfl))⟩
 f50:=⟨Tryz.f161.name,by decide,Tryz.func161.trans (congrArg some (by kernel_rfl))⟩
 f57:=⟨Tryz.f163.name,by decide,Tryz.func163.trans (congrArg some (by kernel_rfl))⟩
 t0:=Tryz.underlying0
 a0:=Tryz.isAgg0
 z0:=Tryz.sizeOf0
 v0:=Tryz.zeroValue0
 t3:=Tryz.underlying3
 a3:=Tryz.isAgg3
 z3:=Tryz.sizeOf3
 v3:=Tryz.zeroValue3
 t4:=Tryz.underlying4
 a4:=Tryz.isAgg4
 z4:=Tryz.sizeOf4
 v4:=Tryz.zeroValue4
 t5:=Tryz.underlying5
 a5:=Tryz.isAgg5
 z5:=Tryz.sizeOf5
 v5:=Tryz.zeroValue5
 t9:=Tryz.underlying9
 a9:=Tryz.isAgg9
 z9:=Tryz.sizeOf9
 v9:=Tryz.zeroValue9
 t22:=Tryz.underlying34
 a22:=Tryz.isAgg34
 z22:=Tryz.sizeOf34
 v22:=Tryz.zeroValue34
 t25:=Tryz.underlying140
 a25:=Tryz.isAgg140
 z25:=Tryz.sizeOf140
 v25:=Tryz.zeroValue140
 t39:=Tryz.underlying87
 a39:=Tryz.isAgg87
 z39:=Tryz.sizeOf87
 v39:=Tryz.zeroValue87
 t45:=Tryz.underlying174
 a45:=Tryz.isAgg174
 z45:=Tryz.sizeOf174
 v45:=Tryz.zeroValue174
 t46:=Tryz.underlying175
 a46:=Tryz.isAgg175
 z46:=Tryz.sizeOf175
 v46:=Tryz.zeroValue175
 t50:=Tryz.underlying179
 a50:=Tryz.isAgg179
 z50:=Tryz.sizeOf179
 v50:=Tryz.zeroValue179
 t53:=Tryz.underlying182
 a53:=Tryz.isAgg182
 z53:=Tryz.sizeOf182
 v53:=Tryz.zeroValue182
 t55:=Tryz.underlying83
 a55:=Tryz.isAgg83
 z55:=Tryz.sizeOf83
 v55:=Tryz.zeroValue83
 t66:=Tryz.underlying189
 a66:=Tryz.isAgg189
 z66:=Tryz.sizeOf189
 v66:=Tryz.zeroValue189
 t70:=Tryz.underlying192
 a70:=Tryz.isAgg192
 z70:=Tryz.sizeOf192
 v70:=Tryz.zeroValue192
 t76:=Tryz.underlying196
 a76:=Tryz.isAgg196
 z76:=Tryz.sizeOf196
 v76:=Tryz.zeroValue196
 t77:=Tryz.underlying163
 a77:=Tryz.isAgg163
 z77:=Tryz.sizeOf163
 v77:=Tryz.zeroValue163 }
def Tryz.I9:Go.Shelf.Ren:=⟨fun | 5=>108 | 7=>130 | n=>n,fun | 22=>3 | 3=>3 | 4=>4 | n=>n,fun | n=>n⟩
theorem Tryz.Yu:Go.Proofs.SlLaysC2.n5 Tryz.prog Tryz.I9:={
 mixed:=by kernel_rfl
 f5:=⟨Tryz.f108.name,by decide,Tryz.func108.trans (congrArg some (by kernel_rfl))⟩
 f7:=⟨Tryz.f130.name,by decide,Tryz.func130.trans (congrArg some (by kernel_rfl))⟩
 t3:=Tryz.underlying3
 a3:=Tryz.isAgg3
 z3:=Tryz.sizeOf3
 v3:=Tryz.zeroValue3
 t4:=Tryz.underlying4
 a4:=Tryz.isAgg4
 z4:=Tryz.sizeOf4
 v4:=Tryz.zeroValue4
 t22:=Tryz.underlying3
 a22:=Tryz.isAgg3
 z22:=Tryz.sizeOf3
 v22:=Tryz.zeroValue3 }
theorem Tryz.abX (x y:Int) (w:World):Calls Tryz.prog 108 #[.int .i64 x,.int .i64 y] w fun e w'=>e = .returned (.int .i64 (Lib.compareInt x y))∧w'=w:=by
 have h:=AnyG.cmp_Compare_int Tryz.Yu x y w
 exact h
def Rj (a b c:Int):Int:=if a=0 then if b=0 then c else b else a
set_option maxHeartbeats 1000000 in
theorem Tryz.acu (a b c:Int) (n:Nat) (w:World) (h0:w.cell? ⟨n,0,none⟩=some (.int .i64 a)) (h1:w.cell? ⟨n,1,none⟩=some (.int .i64 b)) (h2:w.cell? ⟨n,2,none⟩=some (.int .i64 c)) :
  Calls Tryz.prog 107 #[.slice (some ⟨n,0,none⟩) 3 3] w fun e w'=>e = .returned (.int .i64 (Rj a b c))∧w'=w:=by
 have hr:(a≠0→Rj a b c=a)∧(a=0→b≠0→Rj a b c=b)∧(a=0→b=0→Rj a b c=c):=by
  refine⟨fun h=>if_neg h,fun h h' => ?_,fun h h' => ?_⟩
  ·unfold Rj; rw[if_pos h,if_neg h']
  ·unfold Rj; rw[if_pos h,if_pos h']
 generalize Rj a b c=r at hr ⊢
 go_enter Tryz.func107,Tryz.ntmps107
 go_wp2
 go_loop [5,8] (fun _ i=>∃ k:Nat,k≤3∧i = .int .i64 k∧(1≤k→a=0)∧(2≤k→b=0)∧(3≤k→c=0)) (fun _ i=>3-(intOf i).toNat)
 case atStart=>exact⟨0,by omega,rfl,by omega,by omega,by omega⟩
 case round =>
  obtain⟨k,hk,rfl,ha,hb,hc⟩:=hrel
  have Yo:k=0∨k=1∨k=2∨k=3:=by omega
  rcases Yo with rfl | rfl | rfl | rfl
  ·clear ha hb hc
   by_cases hz:a=0
   ·subst hz
    go_wp2
    go_round
    case rel=>exact⟨1,by omega,by go_num,by simp,by omega,by omega⟩
    case measure=>simp[intOf]
   ·have V6:=hr.1 hz
    clear hr
    subst V6
    go_wp2
    go_ret
    exact⟨rfl,rfl⟩
  ·have ha:=ha (by omega)
   subst ha
   clear hb hc h0
   by_cases hz:b=0
   ·subst hz
    go_wp2
    go_round
    case rel=>exact⟨2,by omega,by go_num,by simp,by simp,by omega⟩
    case measure=>simp[intOf]
   ·have V6:=hr.2.1 rfl hz
    clear hr
    subst V6
    go_wp2
    go_ret
    exact⟨rfl,rfl⟩
  ·have ha:=ha (by omega)
   have hb:=hb (by omega)
   subst ha
   subst hb
   clear hc h0 h1
   by_cases hz:c=0
   ·subst hz
    go_wp2
    go_round
    case rel=>exact⟨3,by omega,by go_num,by simp,by simp,by simp⟩
    case measure=>simp[intOf]
   ·have V6:=hr.2.2 rfl rfl
    clear hr
    subst V6
    go_wp2
    go_ret
    exact⟨rfl,rfl⟩
  ·have ha:=ha (by omega)
   have hb:=hb (by omega)
   have hc:=hc (by omega)
   have V6:=hr.2.2 ha hb
   subst ha
   subst hb
   subst hc
   clear hr h0 h1 h2
   subst V6
   go_wp2
   go_ret
   exact⟨rfl,rfl⟩
def uT (x y:Int×Int×Int):Int:=Rj (Lib.compareInt x.1 y.1) (Lib.compareInt x.2.1 y.2.1) (Lib.compareInt x.2.2 y.2.2)
set_option maxRecDepth 100000 in
set_option maxHeartbeats 1000000 in
theorem Tryz.Mz (x y:Int×Int×Int) (W:World):Calls Tryz.prog 106 #[.agg #[.int .i64 x.1,.int .i64 x.2.1,.int .i64 x.2.2],.agg #[.int .i64 y.1,.int .i64 y.2.1,.int .i64 y.2.2]] W fun e w'=>e = .returned (.int .i64 (uT x y))∧∃ q os',w'=grow (W.drewN q) os':=by
 obtain⟨x1,x2,x3⟩:=x
 obtain⟨y1,y2,y3⟩:=y
 have Sa:=Tryz.abX
 unfold uT
 simp only
 have hA:=Sa x1 y1
 have hB:=Sa x2 y2
 have hC:=Sa x3 y3
 clear Sa
 generalize Lib.compareInt x1 y1=A at *
 generalize Lib.compareInt x2 y2=B at *
 generalize Lib.compareInt x3 y3=C at *
 go_enter Tryz.func106,Tryz.ntmps106
 go_wp2
 refine wp_region_still_tail 15 (by kernel_rfl) (by kernel_rfl) ?_
 simp only[List.take_succ_cons,List.take_zero,List.drop_succ_cons,kL]
 have a1:((W.alloc (.cells #[.int .i64 x1,.int .i64 x2,.int .i64 x3] 79)).alloc (.cells #[.int .i64 y1,.int .i64 y2,.int .i64 y3] 79)).drew.cell? ⟨W.heap.size,0,none⟩=some (.int .i64 x1):=by
  refine(World.cell?_alloc_lt _ _ _ (by simp)).trans ?_
  rw[World.cell?_alloc_new]; rfl
 have a2:((W.alloc (.cells #[.int .i64 x1,.int .i64 x2,.int .i64 x3] 79)).alloc (.cells #[.int .i64 y1,.int .i64 y2,.int .i64 y3] 79)).drew.cell? ⟨W.heap.size,1,none⟩=some (.int .i64 x2):=by
  refine(World.cell?_alloc_lt _ _ _ (by simp)).trans ?_
  rw[World.cell?_alloc_new]; rfl
 have a3:((W.alloc (.cells #[.int .i64 x1,.int .i64 x2,.int .i64 x3] 79)).alloc (.cells #[.int .i64 y1,.int .i64 y2,.int .i64 y3] 79)).drew.cell? ⟨W.heap.size,2,none⟩=some (.int .i64 x3):=by
  refine(World.cell?_alloc_lt _ _ _ (by simp)).trans ?_
  rw[World.cell?_alloc_new]; rfl
 have b1:((W.alloc (.cells #[.int .i64 x1,.int .i64 x2,.int .i64 x3] 79)).alloc (.cells #[.int .i64 y1,.int .i64 y2,.int .i64 y3] 79)).drew.cell? ⟨W.heap.size+1,0,none⟩=some (.int .i64 y1):=by
  have h:=World.cell?_alloc_new (W.alloc (.cells #[.int .i64 x1,.int .i64 x2,.int .i64 x3] 79)) #[.int .i64 y1,.int .i64 y2,.int .i64 y3] 79 0
  rw[show (W.alloc (.cells #[.int .i64 x1,.int .i64 x2,.int .i64 x3] 79)).heap.size=W.heap.size+1 by simp] at h
  exact h.trans rfl
 have b2:((W.alloc (.cells #[.int .i64 x1,.int .i64 x2,.int .i64 x3] 79)).alloc (.cells #[.int .i64 y1,.int .i64 y2,.int .i64 y3] 79)).drew.cell? ⟨W.heap.size+1,1,none⟩=some (.int .i64 y2):=by
  have h:=World.cell?_alloc_new (W.alloc (.cells #[.int .i64 x1,.int .i64 x2,.int .i64 x3] 79)) #[.int .i64 y1,.int .i64 y2,.int .i64 y3] 79 1
  rw[show (W.alloc (.cells #[.int .i64 x1,.int .i64 x2,.int .i64 x3] 79)).heap.size=W.heap.size+1 by simp] at h
  exact h.trans rfl
 have b3:((W.alloc (.cells #[.int .i64 x1,.int .i64 x2,.int .i64 x3] 79)).alloc (.cells #[.int .i64 y1,.int .i64 y2,.int .i64 y3] 79)).drew.cell? ⟨W.heap.size+1,2,none⟩=some (.int .i64 y3):=by
  have h:=World.cell?_alloc_new (W.alloc (.cells #[.int .i64 x1,.int .i64 x2,.int .i64 x3] 79)) #[.int .i64 y1,.int .i64 y2,.int .i64 y3] 79 2
  rw[show (W.alloc (.cells #[.int .i64 x1,.int .i64 x2,.int .i64 x3] 79)).heap.size=W.heap.size+1 by simp] at h
  exact h.trans rfl
 have hg:((W.alloc (.cells #[.int .i64 x1,.int .i64 x2,.int .i64 x3] 79)).alloc (.cells #[.int .i64 y1,.int .i64 y2,.int .i64 y3] 79)).drew=grow (W.drewN 1) (#[.cells #[.int .i64 x1,.int .i64 x2,.int .i64 x3] 79]++#[.cells #[.int .i64 y1,.int .i64 y2,.int .i64 y3] 79]):=by
  rw[alloc_eq_grow,alloc_eq_grow,grow_grow]; rfl
 change wpStill _ _ ((W.alloc (.cells #[.int .i64 x1,.int .i64 x2,.int .i64 x3] 79)).alloc (.cells #[.int .i64 y1,.int .i64 y2,.int .i64 y3] 79)).drew (fun a'=>wpList _ _ _ _ a' ((W.alloc (.cells #[.int .i64 x1,.int .i64 x2,.int .i64 x3] 79)).alloc (.cells #[.int .i64 y1,.int .i64 y2,.int .i64 y3] 79)).drew) _ _
 generalize ((W.alloc (.cells #[.int .i64 x1,.int .i64 x2,.int .i64 x3] 79)).alloc (.cells #[.int .i64 y1,.int .i64 y2,.int .i64 y3] 79)).drew=W2 at *
 have HG:=Lib.hid hg
 clear hg
 repeat still_step
 still_call (hA _)
 repeat still_step
 still_call (hB _)
 repeat still_step
 still_call (hC _)
 repeat still_step
 refine wpStill_nil ?_
 clear a1 a2 a3 b1 b2 b3 hA hB hC
 have c0:(W2.alloc (.cells #[.int .i64 A,.int .i64 B,.int .i64 C] 3)).cell? ⟨W2.heap.size,0,none⟩=some (.int .i64 A):=by rw[World.cell?_alloc_new]; rfl
 have c1:(W2.alloc (.cells #[.int .i64 A,.int .i64 B,.int .i64 C] 3)).cell? ⟨W2.heap.size,1,none⟩=some (.int .i64 B):=by rw[World.cell?_alloc_new]; rfl
 have c2:(W2.alloc (.cells #[.int .i64 A,.int .i64 B,.int .i64 C] 3)).cell? ⟨W2.heap.size,2,none⟩=some (.int .i64 C):=by rw[World.cell?_alloc_new]; rfl
 have hor:=Tryz.acu A B C W2.heap.size _ c0 c1 c2
 clear c0 c1 c2
 go_wp2_with (go_at_call 107; refine hor.mono ?_; rintro e w' ⟨rfl,rfl⟩)
 go_ret
 have tE:∃ q os',W2.alloc (.cells #[.int .i64 A,.int .i64 B,.int .i64 C] 3)=grow (W.drewN q) os' :=
  ⟨1,(#[.cells #[.int .i64 x1,.int .i64 x2,.int .i64 x3] 79]++#[.cells #[.int .i64 y1,.int .i64 y2,.int .i64 y3] 79])++#[.cells #[.int .i64 A,.int .i64 B,.int .i64 C] 3],by rw[alloc_eq_grow,HG.out,grow_grow]⟩
 exact⟨rfl,tE⟩
end Go.Proofs
end
section
namespace Go.Co
open Go Go.Conc Go.Proofs Go.Sort Go.Shelf
def MI (x y:Sm):Prop:=x.1<y.1∨(x.1=y.1∧(x.2.1<y.2.1∨(x.2.1=y.2.1∧x.2.2<y.2.2)))
theorem xB (x y:Int):(x<y∧Lib.compareInt x y = -1)∨(x=y∧Lib.compareInt x y=0)∨(y<x∧Lib.compareInt x y=1):=by
 unfold Lib.compareInt
 by_cases h1:x<y
 ·exact .inl ⟨h1,by rw[if_pos h1]⟩
 ·by_cases h2:y<x
  ·exact .inr (.inr ⟨h2,by rw[if_neg h1,if_pos h2]⟩)
  ·exact .inr (.inl ⟨by omega,by rw[if_neg h1,if_neg h2]⟩)
theorem lt_iff (x y:Sm):ltOf uT x y=true↔MI x y:=by
 obtain⟨x1,x2,x3⟩:=x
 obtain⟨y1,y2,y3⟩:=y
 unfold ltOf uT Rj MI
 simp only[bJ]
 rcases xB x1 y1 with ⟨h1,e1⟩ | ⟨h1,e1⟩ | ⟨h1,e1⟩<;>rcases xB x2 y2 with ⟨h2,e2⟩ | ⟨h2,e2⟩ | ⟨h2,e2⟩<;>rcases xB x3 y3 with ⟨h3,e3⟩ | ⟨h3,e3⟩ | ⟨h3,e3⟩<;>simp[e1,e2,e3]<;>omega
theorem Ay (x y:Sm):ltOf uT x y=false↔¬ MI x y:=by
 rw[← lt_iff]; simp
theorem aaY:SWO (ltOf uT) where
 irrefl x:=by rw[Ay]; unfold MI; omega
 trans x y z h1 h2:=by rw[lt_iff] at *; unfold MI at *; omega
 ntrans x y z h1 h2:=by rw[Ay] at *; unfold MI at *; omega
theorem LF {d:Array Sm} {R:List Sm} (hp:d.toList.Perm R) (hs:SortedIn (ltOf uT) 0 d.size d) (hR:R.Pairwise MI):d.toList=R:=by
 refine List.Perm.eq_of_pairwise (le:=fun x y=>¬ MI y x) (fun a b _ _ h1 h2 => ?_) ?_ (hR.imp fun {a b} h => ?_) hp
 ·obtain⟨a1,a2,a3⟩:=a
  obtain⟨b1,b2,b3⟩:=b
  unfold MI at h1 h2
  simp only at h1 h2
  have e1:a1=b1:=by omega
  have e2:a2=b2:=by omega
  have e3:a3=b3:=by omega
  rw[e1,e2,e3]
 ·rw[List.pairwise_iff_getElem]
  intro i j hi hj Jj
  have h:=hs i j (jN _) Jj (by simpa using hj)
  rw[Ay] at h
  simp only[Array.length_toList] at hi hj
  rw[getElem!_pos d i hi,getElem!_pos d j hj] at h
  simpa using h
 ·unfold MI at *; omega
def Rc (l:List Int):Prop:=l.Pairwise (· < ·)
theorem Iw (low up:List Int) (bX:Int):Rc (pE low up bX):=by
 unfold Rc pE M7
 refine List.Pairwise.filter _ ?_
 rw[List.pairwise_map]
 exact List.pairwise_lt_range.imp fun {a b} h=>by omega
theorem LH {da db:Wk} (ha:Rc da.aY) (hb:Rc db.aY):(dQ da db).Pairwise MI:=by
 unfold dQ
 rw[List.pairwise_flatMap]
 refine⟨fun x _ => ?_,ha.imp fun {x x'} h => ?_⟩
 ·rw[List.pairwise_flatMap]
  refine⟨fun y _ => ?_,hb.imp fun {y y'} h => ?_⟩
  ·rw[List.pairwise_map]
   exact(Iw _ _ _).imp fun {s s'} h => .inr ⟨rfl,.inr ⟨rfl,h⟩⟩
  ·intro m hm m' Hf
   obtain⟨s,_,rfl⟩:=fN.1 hm
   obtain⟨s',_,rfl⟩:=fN.1 Hf
   exact .inr ⟨rfl,.inl h⟩
 ·intro m hm m' Hf
  obtain⟨y,_,hm⟩:=List.mem_flatMap.1 hm
  obtain⟨y',_,Hf⟩:=List.mem_flatMap.1 Hf
  obtain⟨s,_,rfl⟩:=fN.1 hm
  obtain⟨s',_,rfl⟩:=fN.1 Hf
  exact .inl h
theorem CZ (d:Array Sm):(flatK oT 3 d).toList=d.toList.flatMap oT:=by
 apply lZ
 intro t
 have hlen:(d.toList.flatMap oT).length=d.size*3:=by rw[DY]; simp
 by_cases ht:t<d.size*3
 ·have h1:=get_flatK oT 3 d t ht
  rw[getElem!_pos _ t (by simpa using ht)] at h1
  rw[gy,bL (by simpa using ht),h1]
  have key:∀ (l:List Sm) (t:Nat),t<l.length*3→(l.flatMap oT)[t]? = some ((oT (l[t / 3]!))[t % 3]!):=by
   intro l
   induction l with
   | nil=>intro t h; simp at h
   | cons m l ih =>
    intro t h
    rw[gv]
    by_cases h3:t<3
    ·have e0:t / 3=0:=by omega
     have e1:t % 3=t:=by omega
     rw[e0,e1,ep (by simpa [oT] using h3)]
     have:t=0∨t=1∨t=2:=by omega
     rcases this with rfl | rfl | rfl<;>rfl
    ·obtain⟨s,rfl⟩:∃ s,t=s+3:=⟨t-3,by omega⟩
     have e0:(s+3) / 3=s / 3+1:=by omega
     have e1:(s+3) % 3=s % 3:=by omega
     rw[e0,e1,fQ (by simp[oT])]
     have:=ih s (by simp at h; omega)
     simpa [oT] using this
  rw[key d.toList t (by simpa using ht)]
  congr 3
  have hd:t / 3<d.size:=by omega
  rw[getElem!_pos d _ hd,getElem!_pos d.toList _ (by simpa using hd)]
  simp
 ·rw[eS (by simp; omega),eS (by omega)]
theorem IW {w:World} {g:Nat} {cur:Array Value} {e:TypeId} {d:Array Sm} (hb:w.heap[g]? = some (.cells cur e (0,0))) (ht:cur.toList.take (d.size*3)=d.toList.flatMap oT):HoldsK oT 3 w g 0 d:=by
 intro j hj
 rw[size_flatK] at hj
 refine⟨?_,by simp[World.frozen?,hb]⟩
 have h1:(cur.toList.take (d.size*3))[j]? = (flatK oT 3 d).toList[j]? := by rw[ht,CZ]
 rw[List.getElem?_take_of_lt hj] at h1
 simp only[World.cell?,hb,gQ]
 simp only[Option.isSome_none,aD,if_false]
 rw[← gy,h1,gy,bL (by simpa using hj),getElem!_pos _ j (by simpa using hj)]
 rfl
theorem Mt {w:World} {g n:Nat} {os:Array Obj} {cur:Array Value} {e:TypeId} {fr:Nat×Nat} (d:Array Sm) (hb:w.heap[g]? = some (.cells cur e fr)) :
  (sortWorldK oT 3 w g 0 n d os).heap[g]? = some (.cells (putCells id 0 (flatK oT 3 d) cur) e fr):=by
 have hg:g<w.heap.size:=(aG.1 hb).1
 unfold sortWorldK putRowK
 rw[heap_grow_old _ _ (by simpa using hg)]
 simp[putRow,mapBlock,Sort.ahead,Array.getElem?_modify,hb,onCells]
theorem ED {w:World} {g n:Nat} {os:Array Obj} (d:Array Sm):w.grownBy (sortWorldK oT 3 w g 0 n d os) (some g):=by
 unfold sortWorldK putRowK
 refine⟨rfl,rfl,rfl,by simp,fun k hk hne => ?_⟩
 rw[heap_grow_old _ _ (by simpa using hk)]
 have:g≠k:=fun e=>hne (by rw[e])
 simp[putRow,mapBlock,Sort.ahead,Array.getElem?_modify,this]
theorem Ex {w:World} {base g cap n:Nat} {e:TypeId} {os:Array Obj} {cur:Array Value} {d:Array Sm} (Jx:base≤g) (hb:w.heap[g]? = some (.cells cur e (0,0)))
  (h1:d.size≤cap) (h2:cap≤maxLen) (h3:cur.size=cap*3) :
  (sortWorldK oT 3 w g 0 n d os).ownsRow base e 3 (.slice (some ⟨g,0,none⟩) d.size cap) d.size (d.toList.flatMap oT):=by
 refine⟨by rw[DY]; simp,.inr ⟨g,cap,_,rfl,Jx,Mt d hb,h1,h2,by simp[putCells,h3],?_⟩⟩
 rw[← CZ]
 apply lZ
 intro j
 by_cases hj:j<d.size*3
 ·rw[List.getElem?_take_of_lt hj,gy,gy]
  have hc:j<cur.size:=by omega
  simp[putCells,hj,hc]
 ·rw[List.getElem?_take_eq_none (by omega),eS (by simp; omega)]
end Go.Co
end
section
namespace Go.Co
open Go Go.Proofs
open Go.Extern.RuntimeError
variable {P:Program}
theorem t_described (v:Value):T1 P (described v):=by
 unfold described
 (repeat' first | exact TC.out | (with_reducible refine aH ?_ (fun _ => ?_)) | (with_reducible refine ic ?_ ?_) | split | dsimp only)
theorem t_text (s:String):T1 P (text s):=aP trivial
theorem t_pkgpathOf (i:TypeInfo):T1 P (pkgpathOf i):=by
 unfold pkgpathOf
 (repeat' first | exact TC.out | (with_reducible refine aH ?_ (fun _ => ?_)) | (with_reducible refine ic ?_ ?_) | split | dsimp only)
theorem t_boundsError (args:Array Value):T1 P (boundsError args):=by
 unfold boundsError
 rcases args with ⟨_ | ⟨x,_ | ⟨y,l⟩⟩⟩
 ·exact aA _
 rotate_left
 ·exact aA _
 cases x<;>try exact aA _
 rename_i cs
 rcases cs with ⟨_ | ⟨a,_ | ⟨b,_ | ⟨c,_ | ⟨d,_ | ⟨e,l⟩⟩⟩⟩⟩⟩<;>try exact aA _
 cases a<;>try exact aA _
 cases b<;>try exact aA _
 cases c<;>try exact aA _
 cases d<;>try exact aA _
 rename_i k x k1 y signed k2 code
 show T1 P (match (if (signed&&decide (x<0))=true then boundsNegErrorFmts else boundsErrorFmts)[code.toNat]? with
  | some fmt => text ("runtime error: " ++ (fmt.replace "%x" (toString (if signed = true then x else IntKind.u64.wrap x))).replace "%y" (toString y))
  | none => stuck "boundsError: no such code")
 split
 ·exact t_text _
 ·exact aA _
theorem t_nothing (args:Array Value):T1 P (nothing args):=aP trivial
theorem t_unhashable (args:Array Value):T1 P (unhashableTypeError args):=by
 unfold unhashableTypeError
 rcases args with ⟨_ | ⟨x,_ | ⟨y,l⟩⟩⟩
 ·exact aA _
 rotate_left
 ·exact aA _
 cases x<;>try exact aA _
 rename_i cs
 rcases cs with ⟨_ | ⟨a,_ | ⟨b,l⟩⟩⟩<;>try exact aA _
 refine(?_:T1 P (described a >>= _))
 refine aH (t_described a) fun o => ?_
 cases o with
 | none=>exact TC.out
 | some t=>exact t_text _
theorem t_typeAssertion (args:Array Value):T1 P (typeAssertionError args):=by
 unfold typeAssertionError
 (repeat' first | exact TC.out | exact t_text _ | exact t_described _ | exact t_pkgpathOf _ | (with_reducible refine aH ?_ (fun _ => ?_)) | (with_reducible refine ic ?_ ?_) | split | dsimp only)
theorem fd0:Extern.find Tryz.f0=none:=by kernel_rfl
theorem fd1:Extern.find Tryz.f1=none:=by kernel_rfl
theorem abV:Extern.find Tryz.f164=some boundsError:=by kernel_rfl
theorem abU:Extern.find Tryz.f165=some nothing:=by kernel_rfl
theorem abT : Extern.find Tryz.f166 = some (fun args => do pure (.string ("runtime error: ".toUTF8 ++ (← asString (args.getD 0 (.tuple #[])))))) := by kernel_rfl
theorem abS:Extern.find Tryz.f167=some nothing:=by kernel_rfl
theorem abR:Extern.find Tryz.f168=some (fun args=>do pure (.string (← asString (args.getD 0 (.tuple #[]))))):=by kernel_rfl
theorem abQ:Extern.find Tryz.f169=some nothing:=by kernel_rfl
theorem abP : Extern.find Tryz.f170 = some (fun args => do pure (.string ("runtime error: ".toUTF8 ++ (← asString ((← asAgg (args.getD 0 (.tuple #[]))).getD 0 (.tuple #[])))))) := by kernel_rfl
theorem abO:Extern.find Tryz.f171=some nothing:=by kernel_rfl
theorem abN:Extern.find Tryz.f172=some typeAssertionError:=by kernel_rfl
theorem abM:Extern.find Tryz.f173=some nothing:=by kernel_rfl
theorem abL : Extern.find Tryz.f174 = some (fun _ => text "runtime error: panic called with nil argument") := by kernel_rfl
theorem abK:Extern.find Tryz.f175=some nothing:=by kernel_rfl
theorem abJ:Extern.find Tryz.f176=none:=by kernel_rfl
theorem abI:Extern.find Tryz.f177=some unhashableTypeError:=by kernel_rfl
theorem abH:Extern.find Tryz.f178=some nothing:=by kernel_rfl
theorem abG:Extern.find Tryz.f179=none:=by kernel_rfl
theorem abF:Extern.find Tryz.f180=some (fun args=>do pure (strVal (Extern.Rtype.kindName (← asInt (args.getD 0 (.tuple #[]))).toNat))):=by kernel_rfl
theorem YB:(Tryz.prog.funcs.toList.zipIdx.all fun(f,i) => !f.body.isNone||i==0||i==1||(decide (164≤i)&&decide (i≤180)))=true:=by kernel_rfl
theorem aaZ:Tryz.prog.funcs.size=181:=by kernel_rfl
theorem abf:(Tryz.prog.funcs.toList.all fun f => !f.body.isNone||(Extern.findNext f).isNone)=true:=by kernel_rfl
theorem names : (Tryz.prog.funcs.toList.all fun f => !(f.name == "runtime.NumGoroutine")) = true := by kernel_rfl
theorem abh:(Tryz.prog.funcs.toList.all fun f => !f.norace)=true:=by kernel_rfl
theorem xd {f:FuncId} {fn:Func} (h:Tryz.prog.funcs[f]? = some fn):fn∈Tryz.prog.funcs.toList:=by
 obtain⟨hlt,rfl⟩:=aG.1 h
 exact Array.getElem_mem_toList hlt
theorem X3 (f:Nat) (h:f=0∨f=1∨(164≤f∧f≤180)):f=0∨f=1∨f=164∨f=165∨f=166∨f=167∨f=168∨f=169∨f=170∨f=171∨f=172∨f=173∨f=174∨f=175∨f=176∨f=177∨f=178∨f=179∨f=180:=by omega
theorem jx:Plain Tryz.prog where
 count f fn h:=by
  have:=aW.1 names fn (xd h)
  simpa using this
 quiet f:=by
  cases h:Tryz.prog.funcs[f]? with
  | none=>rfl
  | some fn =>
   have:=aW.1 abh fn (xd h)
   simpa using this
 next f fn h hb:=by
  have:=aW.1 abf fn (xd h)
  simpa [hb] using this
 find f fn e h hb he args:=by
  have hlt:f<181:=by rw[← aaZ]; exact(aG.1 h).1
  have hz:(fn,f)∈Tryz.prog.funcs.toList.zipIdx:=by
   rw[rU]
   simpa using h
  have h1:=aW.1 YB _ hz
  have h2:f=0∨f=1∨(164≤f∧f≤180):=by
   simp only[hb,eO,Bool.false_or,eP,aB,cV,bJ] at h1
   rcases h1 with (h1 | h1) | h1
   ·exact .inl h1
   ·exact .inr (.inl h1)
   ·exact .inr (.inr h1)
  have pick:∀ {i:Nat} {g:Func},f=i→Tryz.prog.funcs[i]? = some g→fn=g:=fun hi hg=>by subst hi; rw[hg] at h; exact(bU h).symm
  have Yx:f=0∨f=1∨f=164∨f=165∨f=166∨f=167∨f=168∨f=169∨f=170∨f=171∨f=172∨f=173∨f=174∨f=175∨f=176∨f=177∨f=178∨f=179∨f=180:=X3 f h2
  rcases Yx with hi | hi | hi | hi | hi | hi | hi | hi | hi | hi | hi | hi | hi | hi | hi | hi | hi | hi | hi
  ·rw[pick hi Tryz.func0] at he
   rw[fd0] at he; cases he
  ·rw[pick hi Tryz.func1] at he
   rw[fd1] at he; cases he
  ·rw[pick hi Tryz.func164] at he
   rw[abV] at he; cases he; exact t_boundsError _
  ·rw[pick hi Tryz.func165] at he
   rw[abU] at he; cases he; exact t_nothing _
  ·rw[pick hi Tryz.func166] at he
   rw[abT] at he; cases he
   (repeat' first | exact TC.out | (with_reducible refine aH ?_ (fun _ => ?_)) | (with_reducible refine ic ?_ ?_) | split | dsimp only)
  ·rw[pick hi Tryz.func167] at he
   rw[abS] at he; cases he; exact t_nothing _
  ·rw[pick hi Tryz.func168] at he
   rw[abR] at he; cases he
   (repeat' first | exact TC.out | (with_reducible refine aH ?_ (fun _ => ?_)) | (with_reducible refine ic ?_ ?_) | split | dsimp only)
  ·rw[pick hi Tryz.func169] at he
   rw[abQ] at he; cases he; exact t_nothing _
  ·rw[pick hi Tryz.func170] at he
   rw[abP] at he; cases he
   (repeat' first | exact TC.out | (with_reducible refine aH ?_ (fun _ => ?_)) | (with_reducible refine ic ?_ ?_) | split | dsimp only)
  ·rw[pick hi Tryz.func171] at he
   rw[abO] at he; cases he; exact t_nothing _
  ·rw[pick hi Tryz.func172] at he
   rw[abN] at he; cases he; exact t_typeAssertion _
  ·rw[pick hi Tryz.func173] at he
   rw[abM] at he; cases he; exact t_nothing _
  ·rw[pick hi Tryz.func174] at he
   rw[abL] at he; cases he; exact t_text _
  ·rw[pick hi Tryz.func175] at he
   rw[abK] at he; cases he; exact t_nothing _
  ·rw[pick hi Tryz.func176] at he
   rw[abJ] at he; cases he
  ·rw[pick hi Tryz.func177] at he
   rw[abI] at he; cases he; exact t_unhashable _
  ·rw[pick hi Tryz.func178] at he
   rw[abH] at he; cases he; exact t_nothing _
  ·rw[pick hi Tryz.func179] at he
   rw[abG] at he; cases he
  ·rw[pick hi Tryz.func180] at he
   rw[abF] at he; cases he
   (repeat' first | exact TC.out | (with_reducible refine aH ?_ (fun _ => ?_)) | (with_reducible refine ic ?_ ?_) | split | dsimp only)
end Go.Co
end
section
namespace Go.Proofs
open Go.Shelf Go.RowKit Go.Lib Go.Sort
set_option maxHeartbeats 400000 in
theorem Tryz.IV (v:Value) (w:World):Calls Tryz.prog 145 #[.slice none 0 0,.int .i64 0,.int .i64 0,v] w fun e w'=>e = .returned (.tuple #[])∧w'=w:=by
 go_enter Tryz.func145,Tryz.ntmps145
 go_wp2
 go_loop [8] (fun i=>i = .int .i64 1) (fun _=>0)
 case atStart=>rfl
 case round =>
  subst hrel
  go_wp2
  go_end0
  exact⟨rfl,rfl⟩
set_option maxRecDepth 100000 in
set_option maxHeartbeats 1000000 in
theorem Tryz.IF (l:Int) (v:Value) (w:World):Calls Tryz.prog 129 #[.slice none 0 0,.int .i64 0,.int .i64 0,.int .i64 l,v] w fun e w'=>e = .returned (.tuple #[])∧w'=w:=by
 have hi:=Tryz.IV v
 go_enter Tryz.func129,Tryz.ntmps129
 go_wp2
 go_loop [1,2] (fun a b=>a = .int .i64 0∧b = .int .i64 0) (fun _ _=>0)
 case atStart=>exact⟨rfl,rfl⟩
 case round =>
  obtain⟨rfl,rfl⟩:=hrel
  go_wp2_with (go_at_call 145; refine(hi _).mono ?_; rintro e w' ⟨rfl,rfl⟩)
  exact⟨rfl,.tuple #[],results_none (by rfl) _ _ _,rfl,rfl⟩
theorem Tryz.Qr (w:World):Calls Tryz.prog 128 #[.int .u64 0] w fun e w'=>e = .returned (.int .i64 (Lib.bitLen 0:Nat))∧w'=w:=by
 have h:=Any.bits_Len (SlLaysF0.n15.bits (P:=Tryz.prog) { Tryz.FM with }) (0:Int) w (by omega) (by omega)
 exact h
set_option maxHeartbeats 1000000 in
theorem Tryz.Iu (v:Value) (w:World):Calls Tryz.prog 105 #[.slice none 0 0,v] w fun e w'=>e = .returned (.tuple #[])∧w'=w:=by
 have hl:=Tryz.Qr
 have hp:=fun l=>Tryz.IF l v
 go_enter Tryz.func105,Tryz.ntmps105
 go_wp2_with (first | (go_at_call 128; refine(hl _).mono ?_; rintro e w' ⟨rfl,rfl⟩) | (go_at_call 129; refine(hp _ _).mono ?_; rintro e w' ⟨rfl,rfl⟩))
 go_end0
 exact⟨rfl,rfl⟩
end Go.Proofs
end
