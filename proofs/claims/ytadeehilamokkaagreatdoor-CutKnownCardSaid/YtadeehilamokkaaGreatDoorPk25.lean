/- The law CutKnown: part 25: Co6l Co7a Co7b Co6q. By an AI agent. -/
import Derived.Test.YtadeehilamokkaaGreatDoorPk09
import Derived.Test.YtadeehilamokkaaGreatDoorPk24
import Derived.Conc.SmallLaws
import Derived.Shelf.SlSortCmp.WholeK
import Derived.Shelf.SlicesG.Cmp
import Derived.Shelf.Lay
import Derived.Ground.SlsfProg
import Derived.Ground.SlgcProg
import Derived.WalkKit
import Derived.WalkSpells
import Derived.WalkLawsBesides
import Derived.StillTailTactics
import Derived.Deep.QuietTactic
import Derived.BigQuiet
import Derived.Lib.Hide
import GoSem.Extern.Table
section
namespace Go.Co
open Go Go.Conc Go.Proofs
open Classical
variable {P : Program} {Final : Machine → Trace → Prop} {γ : So} {w : World}
theorem kj_up {fn : FuncId} {c : Code} {a : Act} {Q : Gm → Exit → Act → World → Prop} (h : ∀ w1, RlS γ w w1 → KJ (KMu P Final) fn () c (fun _ e a w' => ∃ γ', Q (.bad, γ') e a w') a w1) : KJ (KAll P Final) fn (.bad, γ) c Q a w := by
  intro b k cs hb hk hc _ w1 r
  refine h w1 r b k cs hb hk fun _ e a' w' q => ?_
  obtain ⟨γ', q⟩ := q
  have h := hc _ _ _ _ q
  cases e with
  | normal => exact h rfl w' (rlS_refl _ _)
  | exit id =>
    obtain ⟨k', h1, h2⟩ := h
    exact ⟨k', h1, h2 rfl w' (rlS_refl _ _)⟩
  | ret => exact fun todo => h todo rfl w' (rlS_refl _ _)
  | goto l => exact h
  | panic ch => exact h
  | outgrown => exact h
structure WorkV (γ : So) (w : World) (cs : Array Value) (d : Wk) : Prop where
  wear : cs[2]? = some (.int .i64 d.wear)
  lies : ∃ v, cs[3]? = some v ∧ Ils γ w v d.lies
  up : ∀ i, i < 4 → ∃ v, cs[4 + i * 2]? = some v ∧ Ils γ w v (d.up i)
  lo : ∀ i, i < 4 → ∃ v, cs[4 + i * 2 + 1]? = some v ∧ Ils γ w v (d.lo i)
theorem WorkV.kept {cs : Array Value} {d : Wk} {γ' : So} {w' : World} (h : WorkV γ w cs d) (k : Kept γ w γ' w') : WorkV γ' w' cs d :=
  ⟨h.wear, h.lies.imp fun _ ⟨h1, h2⟩ => ⟨h1, k.ils h2⟩, fun i hi => (h.up i hi).imp fun _ ⟨h1, h2⟩ => ⟨h1, k.ils h2⟩, fun i hi => (h.lo i hi).imp fun _ ⟨h1, h2⟩ => ⟨h1, k.ils h2⟩⟩
theorem WorkV.boxed {cs : Array Value} {d : Wk} {t : TypeId} (h : WorkV γ w cs d) : WorkAt (γ.more w.heap.size) (w.alloc (.cells cs t)) w.heap.size d := by
  have k := Kept.alloc γ w w.heap.size (.cells cs t)
  exact ⟨Sees.fresh rfl h.wear, h.lies.imp fun _ ⟨h1, h2⟩ => ⟨Sees.fresh rfl h1, k.ils h2⟩, fun i hi => (h.up i hi).imp fun _ ⟨h1, h2⟩ => ⟨Sees.fresh rfl h1, k.ils h2⟩, fun i hi => (h.lo i hi).imp fun _ ⟨h1, h2⟩ => ⟨Sees.fresh rfl h1, k.ils h2⟩⟩
def Ch (γ : So) (w : World) (c : Nat) : Prop := γ.all c ∧ w.heap[c]? = some (.chan 0 #[] false 0 0 false)
theorem Ch.lt {c : Nat} (h : Ch γ w c) : c < w.heap.size := (Array.getElem?_eq_some_iff.1 h.2).1
theorem Ch.kept {c : Nat} {γ' : So} {w' : World} (h : Ch γ w c) (k : Kept γ w γ' w') : Ch γ' w' c := ⟨k.all h.1, (k.blk c h.1 h.lt).trans h.2⟩
def Shr (w : World) (cf cl : Nat) : So := (fun b => b < w.heap.size ∧ b ≠ cf ∧ b ≠ cl, fun _ => False)
theorem Sees.shr {cf cl : Nat} {ad : Addr} {v : Value} (hf : Ch γ w cf) (hl : Ch γ w cl) (h : Sees γ w ad v) : Sees (Shr w cf cl) w ad v := by
  refine ⟨.inl ⟨h.lt, fun e => ?_, fun e => ?_⟩, h.2⟩
  · have := h.2; simp [World.cell?, e, hf.2] at this
  · have := h.2; simp [World.cell?, e, hl.2] at this
theorem Ils.shr {cf cl : Nat} {v : Value} {l : List Int} (hf : Ch γ w cf) (hl : Ch γ w cl) (h : Ils γ w v l) : Ils (Shr w cf cl) w v l := by
  obtain ⟨A, cap, rfl, h⟩ := h
  exact ⟨A, cap, rfl, fun i x hx => by obtain ⟨ad, h1, h2⟩ := h i x hx; exact ⟨ad, h1, h2.shr hf hl⟩⟩
theorem WorkAt.shr {cf cl b : Nat} {d : Wk} (hf : Ch γ w cf) (hl : Ch γ w cl) (h : WorkAt γ w b d) : WorkAt (Shr w cf cl) w b d :=
  ⟨h.wear.shr hf hl, h.lies.imp fun _ ⟨h1, h2⟩ => ⟨h1.shr hf hl, h2.shr hf hl⟩, fun i hi => (h.up i hi).imp fun _ ⟨h1, h2⟩ => ⟨h1.shr hf hl, h2.shr hf hl⟩, fun i hi => (h.lo i hi).imp fun _ ⟨h1, h2⟩ => ⟨h1.shr hf hl, h2.shr hf hl⟩⟩
def Old (A : Nat → Prop) (B0 : Nat) (w0 w : World) : Prop := (∀ b, A b → w.heap[b]? = w0.heap[b]?) ∧ B0 ≤ w.heap.size ∧ w.os = w0.os ∧ w.output = w0.output
def TailOK (Final : Machine → Trace → Prop) (R : List Sm) : Prop := ∀ A B0 w0 γ' a' w', EndR A B0 w0 R (.ret, γ') .normal a' w' →
  KJ (KMu Tryz.prog Final) 64 () Tail51 (fun _ e a w => e = .ret ∧ a.defers = [] ∧ Old A B0 w0 w ∧ w.ownsRow B0 79 3 (a.tmps.getD 4 undef) R.length (R.flatMap smC)) a' w'
theorem info138 : (Tryz.prog.info? 170).map (fun i => (i.zero, i.size, i.bytes)) = some (some (.chan none), 1, 8) := by kernel_rfl
theorem info139 : (Tryz.prog.info? 171).map (fun i => (i.zero, i.size, i.bytes)) = some (some (.chan none), 1, 8) := by kernel_rfl
set_option maxRecDepth 100000 in
set_option maxHeartbeats 2000000 in
theorem seams_entry (hP : Plain Tryz.prog) {ca cb : Array Value} {da db : Wk} (hda : da.ok) (hdb : db.ok) (hva : WorkV γ w ca da) (hvb : WorkV γ w cb db) (hT : TailOK Final (seamsM da db)) :
    KCall (KAll Tryz.prog Final) Tryz.prog (.bad, γ) 64 #[.agg ca, .agg cb] w fun γ' v w' => γ'.1 = .bad ∧ Kept γ w γ'.2 w' ∧ OwnV γ'.2 w' w.heap.size 79 3 v (seamsM da db).length ((seamsM da db).flatMap smC) := by
  have C := kc_kall (Final := Final) hP
  have hp : Pc.bad ≠ Pc.ret := by simp
  obtain ⟨i71, h71, -, -, b71⟩ := info_parts info71
  obtain ⟨i4, h4, -, -, b4⟩ := info_parts info4
  obtain ⟨i138, h138, z138, -, -⟩ := info_parts info138
  obtain ⟨i139, h139, z139, -, -⟩ := info_parts info139
  refine kcall_of Tryz.func64 (by rfl) rfl ?_
  simp only [Tryz.ntmps64, List.size_toArray, List.length_cons, List.length_nil, Nat.reduceAdd, Nat.reduceSub, Array.replicate_succ, Array.replicate_zero, List.push_toArray, List.append_toArray, List.nil_append, List.cons_append]
  show KJ _ _ _ (.seq (.region _ _ false) (.seq (.region _ _ false) (.seq (.region _ _ false) Rest51))) _ _ _
  refine kj_seq C (kj_ra C ?_)
  refine ko_box C hp (ob := ?ob1) rfl (by rfl) (fun w => run_eq_of fun K hK => ?r1) (fun w => ?e1) ?h1
  case r1 => go_simp; exact hK
  case e1 => simp [go_sem]
  intro w1 rw1
  try walk_nrm
  have hk1 := (Kept.rely rw1).trans (Kept.alloc γ w1 w1.heap.size (.cells ca 123))
  have ha1 : WorkAt (γ.more w1.heap.size) (w1.alloc (.cells ca 123)) w1.heap.size da := (hva.kept (Kept.rely rw1)).boxed
  have hvb1 := hvb.kept hk1
  generalize w1.alloc (.cells ca 123) = W1 at *
  generalize γ.more w1.heap.size = γ1 at *
  generalize w1.heap.size = b2 at *
  clear rw1
  refine ko_box C hp (ob := ?ob2) rfl (by rfl) (fun w => run_eq_of fun K hK => ?r2) (fun w => ?e2) ?h2
  case r2 => go_simp; exact hK
  case e2 => simp [go_sem]
  intro w2 rw2
  try walk_nrm
  have hk2' := (Kept.rely rw2).trans (Kept.alloc γ1 w2 w2.heap.size (.cells cb 123))
  have hb2 : WorkAt (γ1.more w2.heap.size) (w2.alloc (.cells cb 123)) w2.heap.size db := (hvb1.kept (Kept.rely rw2)).boxed
  have ha2 := ha1.kept hk2'
  have hk2 := hk1.trans hk2'
  generalize w2.alloc (.cells cb 123) = W2 at *
  generalize γ1.more w2.heap.size = γ2 at *
  generalize w2.heap.size = b3 at *
  clear rw2 hk2' hk1 ha1 hvb1
  refine ko_pa C ?_
  try walk_nrm
  refine ko_nil C ?_
  co_then
  have hk := hk2
  have ha := ha2
  have hb := hb2
  clear hk2 ha2 hb2
  refine kj_seq C (kj_ra C ?_)
  refine ko_new C hp (f := fun n => .chan (some n)) (ob := .chan 0 #[] false 0 0 false) rfl (by rfl) (fun w => ?_) (fun w => ?_) ?_
  · have h : (Instr.makeChan 170 (.int .i64 0)).run Tryz.prog w = _ := run_makeChan (P := Tryz.prog) (w := w) Tryz.underlying170 h71 .i64 0 (by omega) (by rw [b71]; omega)
    simp [execOp, Act.eval, h]
  · have h : (Instr.makeChan 170 (.int .i64 0)).events Tryz.prog w #[] = _ := events_makeChan (P := Tryz.prog) (w := w) Tryz.underlying170 h71 .i64 0 (by omega) (by rw [b71]; omega) #[]
    simp [execOp, Act.eval, h]
  intro wpa rwpa
  try walk_nrm
  have hkx := (Kept.rely rwpa).trans (Kept.alloc _ wpa wpa.heap.size (.chan 0 #[] false 0 0 false))
  have hcf : Ch (So.more γ2 wpa.heap.size) (wpa.alloc (.chan 0 #[] false 0 0 false)) wpa.heap.size := ⟨.inr (.inr rfl), heap_alloc_new wpa _⟩
  have hgecf : w.heap.size ≤ wpa.heap.size := Nat.le_trans hk.size rwpa.1
  replace hk := hk.trans hkx
  replace ha := ha.kept hkx
  replace hb := hb.kept hkx
  generalize wpa.alloc (.chan 0 #[] false 0 0 false) = Wpa at *
  generalize wpa.heap.size = cf at *
  generalize So.more γ2 cf = γpa at *
  clear hkx rwpa
  refine ko_box C hp (ob := .cells #[.chan none] 170) rfl (by rfl) (fun w => run_eq_of fun K hK => ?r4) (fun w => ?e4) ?h4
  case r4 => go_simp; exact hK
  case e4 => simp [execOp, Instr.alloc, zeroValue, typeInfo, h138, z138, newVar, newRow]
  intro wpb rwpb
  try walk_nrm
  have hkx := (Kept.rely rwpb).trans (Kept.alloc _ wpb wpb.heap.size (.cells #[.chan none] 170))
  have hz : (wpb.alloc (.cells #[.chan none] 170)).frozen? ⟨wpb.heap.size, 0, none⟩ = false := World.frozen?_alloc_new _ _ _ _
  have hs : Sees _ _ ⟨wpb.heap.size, 0, none⟩ (.chan none) := Sees.fresh (γ := γpa) (w := wpb) (cs := #[.chan none]) (t := 170) rfl rfl
  have hO : (So.more γpa wpb.heap.size).2 wpb.heap.size := .inr rfl
  have hge : Wpa.heap.size ≤ wpb.heap.size := rwpb.1
  generalize wpb.alloc (.cells #[.chan none] 170) = Wpb at *
  generalize wpb.heap.size = b5 at *
  generalize So.more γpa b5 = γpb at *
  clear rwpb
  refine ko_put C hp (ad := ⟨b5, 0, none⟩) (v := .chan (some cf)) rfl (by rfl) hO (fun w₁ h₁ => ⟨?_, ?_⟩) ?_
  · have hc := (hs.rely h₁).2
    have hz1 : w₁.frozen? ⟨b5, 0, none⟩ = false := (World.frozen?_of_block (h₁.2.1 b5 (.inr hO))).trans hz
    refine (?_ : ∀ K : Result Next → Prop, K (.ok .skip (w₁.setCell ⟨b5, 0, none⟩ (.chan (some cf)))) → K _) (· = _) rfl
    intro K hK
    go_simp
    try (unfold stored; go_simp)
    exact hK
  · have hc := (hs.rely h₁).2
    have hz1 : w₁.frozen? ⟨b5, 0, none⟩ = false := (World.frozen?_of_block (h₁.2.1 b5 (.inr hO))).trans hz
    intro e he
    simp [go_sem, hc, hz1] at he
    exact he
  intro wpc rwpc
  try walk_nrm
  replace hkx := (hkx.trans (Kept.rely rwpc)).put (ad := ⟨b5, 0, none⟩) (v := .chan (some cf)) hge
  have hb5 : Sees γpb (wpc.setCell ⟨b5, 0, none⟩ (.chan (some cf))) ⟨b5, 0, none⟩ (.chan (some cf)) := ⟨.inr hO, World.cell?_setCell_same _ _ _ (hs.rely rwpc).2⟩
  generalize wpc.setCell ⟨b5, 0, none⟩ (.chan (some cf)) = Wpc at *
  replace hk := hk.trans hkx
  replace hcf := hcf.kept hkx
  replace ha := ha.kept hkx
  replace hb := hb.kept hkx
  clear hkx hs hz hge hO rwpc
  refine ko_nil C ?_
  co_then
  refine kj_seq C (kj_ra C ?_)
  refine ko_new C hp (f := fun n => .chan (some n)) (ob := .chan 0 #[] false 0 0 false) rfl (by rfl) (fun w => ?_) (fun w => ?_) ?_
  · have h : (Instr.makeChan 171 (.int .i64 0)).run Tryz.prog w = _ := run_makeChan (P := Tryz.prog) (w := w) Tryz.underlying171 h4 .i64 0 (by omega) (by rw [b4]; omega)
    simp [execOp, Act.eval, h]
  · have h : (Instr.makeChan 171 (.int .i64 0)).events Tryz.prog w #[] = _ := events_makeChan (P := Tryz.prog) (w := w) Tryz.underlying171 h4 .i64 0 (by omega) (by rw [b4]; omega) #[]
    simp [execOp, Act.eval, h]
  intro wqa rwqa
  try walk_nrm
  have hne : cf ≠ wqa.heap.size := Nat.ne_of_lt (hcf.kept (Kept.rely rwqa)).lt
  have hkx := (Kept.rely rwqa).trans (Kept.alloc _ wqa wqa.heap.size (.chan 0 #[] false 0 0 false))
  have hcl : Ch (So.more γpb wqa.heap.size) (wqa.alloc (.chan 0 #[] false 0 0 false)) wqa.heap.size := ⟨.inr (.inr rfl), heap_alloc_new wqa _⟩
  have hgecl : w.heap.size ≤ wqa.heap.size := Nat.le_trans hk.size rwqa.1
  replace hk := hk.trans hkx
  replace ha := ha.kept hkx
  replace hb := hb.kept hkx
  replace hcf := hcf.kept hkx
  replace hb5 := (hkx.sees hb5)
  generalize wqa.alloc (.chan 0 #[] false 0 0 false) = Wqa at *
  generalize wqa.heap.size = cl at *
  generalize So.more γpb cl = γqa at *
  clear hkx rwqa
  refine ko_box C hp (ob := .cells #[.chan none] 171) rfl (by rfl) (fun w => run_eq_of fun K hK => ?r5) (fun w => ?e5) ?h5
  case r5 => go_simp; exact hK
  case e5 => simp [execOp, Instr.alloc, zeroValue, typeInfo, h139, z139, newVar, newRow]
  intro wqb rwqb
  try walk_nrm
  have hkx := (Kept.rely rwqb).trans (Kept.alloc _ wqb wqb.heap.size (.cells #[.chan none] 171))
  have hz : (wqb.alloc (.cells #[.chan none] 171)).frozen? ⟨wqb.heap.size, 0, none⟩ = false := World.frozen?_alloc_new _ _ _ _
  have hs : Sees _ _ ⟨wqb.heap.size, 0, none⟩ (.chan none) := Sees.fresh (γ := γqa) (w := wqb) (cs := #[.chan none]) (t := 171) rfl rfl
  have hO : (So.more γqa wqb.heap.size).2 wqb.heap.size := .inr rfl
  have hge : Wqa.heap.size ≤ wqb.heap.size := rwqb.1
  generalize wqb.alloc (.cells #[.chan none] 171) = Wqb at *
  generalize wqb.heap.size = b6 at *
  generalize So.more γqa b6 = γqb at *
  clear rwqb
  refine ko_put C hp (ad := ⟨b6, 0, none⟩) (v := .chan (some cl)) rfl (by rfl) hO (fun w₁ h₁ => ⟨?_, ?_⟩) ?_
  · have hc := (hs.rely h₁).2
    have hz1 : w₁.frozen? ⟨b6, 0, none⟩ = false := (World.frozen?_of_block (h₁.2.1 b6 (.inr hO))).trans hz
    refine (?_ : ∀ K : Result Next → Prop, K (.ok .skip (w₁.setCell ⟨b6, 0, none⟩ (.chan (some cl)))) → K _) (· = _) rfl
    intro K hK
    go_simp
    try (unfold stored; go_simp)
    exact hK
  · have hc := (hs.rely h₁).2
    have hz1 : w₁.frozen? ⟨b6, 0, none⟩ = false := (World.frozen?_of_block (h₁.2.1 b6 (.inr hO))).trans hz
    intro e he
    simp [go_sem, hc, hz1] at he
    exact he
  intro wqc rwqc
  try walk_nrm
  replace hkx := (hkx.trans (Kept.rely rwqc)).put (ad := ⟨b6, 0, none⟩) (v := .chan (some cl)) hge
  have hb6 : Sees γqb (wqc.setCell ⟨b6, 0, none⟩ (.chan (some cl))) ⟨b6, 0, none⟩ (.chan (some cl)) := ⟨.inr hO, World.cell?_setCell_same _ _ _ (hs.rely rwqc).2⟩
  generalize wqc.setCell ⟨b6, 0, none⟩ (.chan (some cl)) = Wqc at *
  replace hk := hk.trans hkx
  replace hcl := hcl.kept hkx
  replace ha := ha.kept hkx
  replace hb := hb.kept hkx
  replace hcf := hcf.kept hkx
  replace hb5 := (hkx.sees hb5)
  clear hkx hs hz hge hO rwqc
  refine ko_nil C ?_
  co_then
  refine kj_up fun w1 r1 => ?_
  have hkr := Kept.rely r1
  have hcf1 := hcf.kept hkr
  have hcl1 := hcl.kept hkr
  have hk1 := hk.trans hkr
  have hS : Sin (fun b => γ.all b ∧ b < w.heap.size) w.heap.size w (Shr w1 cf cl) w1 :=
    ⟨fun b h => h.2, fun b h => .inl ⟨Nat.lt_of_lt_of_le h.2 hk1.size, by have := h.2; omega, by have := h.2; omega⟩, fun b h => hk1.blk b h.1 h.2, hk1.size, hk1.env⟩
  refine (?_ : ∀ a', (∃ u, a' = fr51s b2 b3 b5 b6 u) → KJ _ _ _ Rest51 _ a' _) _ (ex_u rfl)
  rintro a' ⟨u, rfl⟩
  have hW : ∀ n, 0 < n → Win (fun c => c = cf ∨ c = cl) (entry n (chain cf cl (.bool true) (.bool false) false da.lies.length (col cf (.agg #[.int .i64 0, .int .i64 0, .int .i64 0]) ((seamsM da db).map smV)) (da.lies.map fun x => msgs da db x db.lies))) := by
    intro n hn
    have h := win_collect (tv := .bool true) (z := .agg #[.int .i64 0, .int .i64 0, .int .i64 0]) (z2 := .bool false) (ok2 := false) hne (da.lies.map fun x => msgs da db x db.lies) hn
    rwa [List.length_map, flat_sm] at h
  have hlive : (chain cf cl (.bool true) (.bool false) false da.lies.length (col cf (.agg #[.int .i64 0, .int .i64 0, .int .i64 0]) ((seamsM da db).map smV)) (da.lies.map fun x => msgs da db x db.lies)).live := by
    obtain ⟨x, y, h⟩ := chain_shape (cf := cf) (cl := cl) (tv := .bool true) (z2 := .bool false) (ok2 := false) da.lies.length (col cf (.agg #[.int .i64 0, .int .i64 0, .int .i64 0]) ((seamsM da db).map smV)) (da.lies.map fun x => msgs da db x db.lies)
    rw [h]
    exact ⟨by simp, by simp, by simp⟩
  refine kj_phase hP (Cs := fun c => c = cf ∨ c = cl) (S := (Shr w1 cf cl).1) (O := (Shr w1 cf cl).2) hlive (fun b h => h.elim) (fun b h => h.elim (·.1) (·.elim)) (fun c hc => ?_) hW
    (phase51 hP hda hdb hS ⟨(ha.kept hkr).shr hcf1 hcl1, (hb.kept hkr).shr hcf1 hcl1, (hkr.sees hb5).shr hcf1 hcl1, (hkr.sees hb6).shr hcf1 hcl1⟩ u (fun γ' a' w' hE => kj_mono (hT _ _ _ γ' a' w' hE) ?_))
  · rcases hc with rfl | rfl
    · exact ⟨⟨0, false, hcf1.2⟩, fun h => h.2.1 rfl, fun h => h⟩
    · exact ⟨⟨0, false, hcl1.2⟩, fun h => h.2.2 rfl, fun h => h⟩
  · rintro _ e a3 w3 ⟨rfl, hd, hold, hown⟩
    exact ⟨(γ.1, fun b => γ.2 b ∨ (w.heap.size ≤ b ∧ b < w3.heap.size)), hd, a3.tmps.getD 4 undef, resultsC_tmp Tryz.results64 _, rfl,
      ⟨rfl, fun _ h => .inl h, fun b hb hlt => hold.1 b ⟨hb, hlt⟩, hold.2.1, hold.2.2⟩, ⟨hown, fun b hb => .inr (hown.lt b hb)⟩⟩
end Go.Co
end
section
namespace Go.Proofs
open Go.Shelf Go.RowKit Go.Lib Go.Sort
def Tryz.sortSeam_ren : Go.Shelf.Ren := ⟨fun | 6 => 102 | 15 => 99 | 14 => 136 | 28 => 134 | 29 => 135 | 20 => 149 | 21 => 150 | 22 => 151 | 23 => 152 | 24 => 153 | 25 => 154 | 26 => 155 | 27 => 156 | 46 => 165 | 47 => 145 | 48 => 146 | 49 => 166 | 50 => 167 | 57 => 173 | n => n, fun | 22 => 56 | 24 => 79 | 25 => 173 | 3 => 3 | 39 => 144 | 0 => 0 | 53 => 218 | 55 => 84 | 4 => 4 | 46 => 211 | 45 => 210 | 50 => 215 | 5 => 5 | 9 => 9 | 66 => 226 | 70 => 229 | 76 => 238 | 77 => 239 | n => n, fun | n => n⟩
theorem Tryz.sortSeam : Go.Proofs.SlLaysF0.n6 Tryz.prog Tryz.sortSeam_ren := {
  mixed := by kernel_rfl
  f6 := ⟨Tryz.f102.name, by decide, Tryz.func102.trans (congrArg some (by kernel_rfl))⟩
  f14 := ⟨Tryz.f136.name, by decide, Tryz.func136.trans (congrArg some (by kernel_rfl))⟩
  f15 := Tryz.func99.trans (congrArg some (by kernel_rfl))
  f20 := ⟨Tryz.f149.name, by decide, Tryz.func149.trans (congrArg some (by kernel_rfl))⟩
  f21 := ⟨Tryz.f150.name, by decide, Tryz.func150.trans (congrArg some (by kernel_rfl))⟩
  f22 := ⟨Tryz.f151.name, by decide, Tryz.func151.trans (congrArg some (by kernel_rfl))⟩
  f23 := ⟨Tryz.f152.name, by decide, Tryz.func152.trans (congrArg some (by kernel_rfl))⟩
  f24 := ⟨Tryz.f153.name, by decide, Tryz.func153.trans (congrArg some (by kernel_rfl))⟩
  f25 := ⟨Tryz.f154.name, by decide, Tryz.func154.trans (congrArg some (by kernel_rfl))⟩
  f26 := ⟨Tryz.f155.name, by decide, Tryz.func155.trans (congrArg some (by kernel_rfl))⟩
  f27 := ⟨Tryz.f156.name, by decide, Tryz.func156.trans (congrArg some (by kernel_rfl))⟩
  f28 := Tryz.func134.trans (congrArg some (by kernel_rfl))
  f29 := Tryz.func135.trans (congrArg some (by kernel_rfl))
  f46 := ⟨Tryz.f165.name, by decide, Tryz.func165.trans (congrArg some (by kernel_rfl))⟩
  f47 := Tryz.func145.trans (congrArg some (by kernel_rfl))
  f48 := Tryz.func146.trans (congrArg some (by kernel_rfl))
  f49 := ⟨Tryz.f166.name, by decide, Tryz.func166.trans (congrArg some (by kernel_rfl))⟩
  f50 := ⟨Tryz.f167.name, by decide, Tryz.func167.trans (congrArg some (by kernel_rfl))⟩
  f57 := ⟨Tryz.f173.name, by decide, Tryz.func173.trans (congrArg some (by kernel_rfl))⟩
  t0 := Tryz.underlying0
  a0 := Tryz.isAgg0
  z0 := Tryz.sizeOf0
  v0 := Tryz.zeroValue0
  t3 := Tryz.underlying3
  a3 := Tryz.isAgg3
  z3 := Tryz.sizeOf3
  v3 := Tryz.zeroValue3
  t4 := Tryz.underlying4
  a4 := Tryz.isAgg4
  z4 := Tryz.sizeOf4
  v4 := Tryz.zeroValue4
  t5 := Tryz.underlying5
  a5 := Tryz.isAgg5
  z5 := Tryz.sizeOf5
  v5 := Tryz.zeroValue5
  t9 := Tryz.underlying9
  a9 := Tryz.isAgg9
  z9 := Tryz.sizeOf9
  v9 := Tryz.zeroValue9
  t22 := Tryz.underlying56
  a22 := Tryz.isAgg56
  z22 := Tryz.sizeOf56
  v22 := Tryz.zeroValue56
  t25 := Tryz.underlying173
  a25 := Tryz.isAgg173
  z25 := Tryz.sizeOf173
  v25 := Tryz.zeroValue173
  t39 := Tryz.underlying144
  a39 := Tryz.isAgg144
  z39 := Tryz.sizeOf144
  v39 := Tryz.zeroValue144
  t45 := Tryz.underlying210
  a45 := Tryz.isAgg210
  z45 := Tryz.sizeOf210
  v45 := Tryz.zeroValue210
  t46 := Tryz.underlying211
  a46 := Tryz.isAgg211
  z46 := Tryz.sizeOf211
  v46 := Tryz.zeroValue211
  t50 := Tryz.underlying215
  a50 := Tryz.isAgg215
  z50 := Tryz.sizeOf215
  v50 := Tryz.zeroValue215
  t53 := Tryz.underlying218
  a53 := Tryz.isAgg218
  z53 := Tryz.sizeOf218
  v53 := Tryz.zeroValue218
  t55 := Tryz.underlying84
  a55 := Tryz.isAgg84
  z55 := Tryz.sizeOf84
  v55 := Tryz.zeroValue84
  t66 := Tryz.underlying226
  a66 := Tryz.isAgg226
  z66 := Tryz.sizeOf226
  v66 := Tryz.zeroValue226
  t70 := Tryz.underlying229
  a70 := Tryz.isAgg229
  z70 := Tryz.sizeOf229
  v70 := Tryz.zeroValue229
  t76 := Tryz.underlying238
  a76 := Tryz.isAgg238
  z76 := Tryz.sizeOf238
  v76 := Tryz.zeroValue238
  t77 := Tryz.underlying239
  a77 := Tryz.isAgg239
  z77 := Tryz.sizeOf239
  v77 := Tryz.zeroValue239 }
def Tryz.cmpInt_ren : Go.Shelf.Ren := ⟨fun | 5 => 105 | 7 => 137 | n => n, fun | 22 => 3 | 3 => 3 | 4 => 4 | n => n, fun | n => n⟩
theorem Tryz.cmpInt : Go.Proofs.SlLaysC2.n5 Tryz.prog Tryz.cmpInt_ren := {
  mixed := by kernel_rfl
  f5 := ⟨Tryz.f105.name, by decide, Tryz.func105.trans (congrArg some (by kernel_rfl))⟩
  f7 := ⟨Tryz.f137.name, by decide, Tryz.func137.trans (congrArg some (by kernel_rfl))⟩
  t3 := Tryz.underlying3
  a3 := Tryz.isAgg3
  z3 := Tryz.sizeOf3
  v3 := Tryz.zeroValue3
  t4 := Tryz.underlying4
  a4 := Tryz.isAgg4
  z4 := Tryz.sizeOf4
  v4 := Tryz.zeroValue4
  t22 := Tryz.underlying3
  a22 := Tryz.isAgg3
  z22 := Tryz.sizeOf3
  v22 := Tryz.zeroValue3 }
theorem Tryz.cmp89 (x y : Int) (w : World) : Calls Tryz.prog 105 #[.int .i64 x, .int .i64 y] w fun e w' => e = .returned (.int .i64 (Lib.compareInt x y)) ∧ w' = w := by
  have h := AnyG.cmp_Compare_int Tryz.cmpInt x y w
  exact h
def or3 (a b c : Int) : Int := if a = 0 then if b = 0 then c else b else a
set_option maxHeartbeats 1000000 in
theorem Tryz.or88 (a b c : Int) (n : Nat) (w : World) (h0 : w.cell? ⟨n, 0, none⟩ = some (.int .i64 a)) (h1 : w.cell? ⟨n, 1, none⟩ = some (.int .i64 b)) (h2 : w.cell? ⟨n, 2, none⟩ = some (.int .i64 c)) :
    Calls Tryz.prog 104 #[.slice (some ⟨n, 0, none⟩) 3 3] w fun e w' => e = .returned (.int .i64 (or3 a b c)) ∧ w' = w := by
  have hr : (a ≠ 0 → or3 a b c = a) ∧ (a = 0 → b ≠ 0 → or3 a b c = b) ∧ (a = 0 → b = 0 → or3 a b c = c) := by
    refine ⟨fun h => if_neg h, fun h h' => ?_, fun h h' => ?_⟩
    · unfold or3; rw [if_pos h, if_neg h']
    · unfold or3; rw [if_pos h, if_pos h']
  generalize or3 a b c = r at hr ⊢
  go_enter Tryz.func104, Tryz.ntmps104
  go_wp2
  go_loop [5, 8] (fun _ i => ∃ k : Nat, k ≤ 3 ∧ i = .int .i64 k ∧ (1 ≤ k → a = 0) ∧ (2 ≤ k → b = 0) ∧ (3 ≤ k → c = 0)) (fun _ i => 3 - (intOf i).toNat)
  case atStart => exact ⟨0, by omega, rfl, by omega, by omega, by omega⟩
  case round =>
    obtain ⟨k, hk, rfl, ha, hb, hc⟩ := hrel
    have hcases : k = 0 ∨ k = 1 ∨ k = 2 ∨ k = 3 := by omega
    rcases hcases with rfl | rfl | rfl | rfl
    · clear ha hb hc
      by_cases hz : a = 0
      · subst hz
        go_wp2
        go_round
        case rel => exact ⟨1, by omega, by go_num, by simp, by omega, by omega⟩
        case measure => simp [intOf]
      · have hra := hr.1 hz
        clear hr
        subst hra
        go_wp2
        go_ret
        exact ⟨rfl, rfl⟩
    · have ha := ha (by omega)
      subst ha
      clear hb hc h0
      by_cases hz : b = 0
      · subst hz
        go_wp2
        go_round
        case rel => exact ⟨2, by omega, by go_num, by simp, by simp, by omega⟩
        case measure => simp [intOf]
      · have hra := hr.2.1 rfl hz
        clear hr
        subst hra
        go_wp2
        go_ret
        exact ⟨rfl, rfl⟩
    · have ha := ha (by omega)
      have hb := hb (by omega)
      subst ha
      subst hb
      clear hc h0 h1
      by_cases hz : c = 0
      · subst hz
        go_wp2
        go_round
        case rel => exact ⟨3, by omega, by go_num, by simp, by simp, by simp⟩
        case measure => simp [intOf]
      · have hra := hr.2.2 rfl rfl
        clear hr
        subst hra
        go_wp2
        go_ret
        exact ⟨rfl, rfl⟩
    · have ha := ha (by omega)
      have hb := hb (by omega)
      have hc := hc (by omega)
      have hra := hr.2.2 ha hb
      subst ha
      subst hb
      subst hc
      clear hr h0 h1 h2
      subst hra
      go_wp2
      go_ret
      exact ⟨rfl, rfl⟩
def cmpSm (x y : Int × Int × Int) : Int := or3 (Lib.compareInt x.1 y.1) (Lib.compareInt x.2.1 y.2.1) (Lib.compareInt x.2.2 y.2.2)
set_option maxRecDepth 100000 in
set_option maxHeartbeats 1000000 in
theorem Tryz.closure87 (x y : Int × Int × Int) (W : World) : Calls Tryz.prog 103 #[.agg #[.int .i64 x.1, .int .i64 x.2.1, .int .i64 x.2.2], .agg #[.int .i64 y.1, .int .i64 y.2.1, .int .i64 y.2.2]] W fun e w' => e = .returned (.int .i64 (cmpSm x y)) ∧ ∃ q os', w' = grow (W.drewN q) os' := by
  obtain ⟨x1, x2, x3⟩ := x
  obtain ⟨y1, y2, y3⟩ := y
  have hcon := Tryz.cmp89
  unfold cmpSm
  simp only
  have hA := hcon x1 y1
  have hB := hcon x2 y2
  have hC := hcon x3 y3
  clear hcon
  generalize Lib.compareInt x1 y1 = A at *
  generalize Lib.compareInt x2 y2 = B at *
  generalize Lib.compareInt x3 y3 = C at *
  go_enter Tryz.func103, Tryz.ntmps103
  go_wp2
  refine wp_region_still_tail 15 (by kernel_rfl) (by kernel_rfl) ?_
  simp only [List.take_succ_cons, List.take_zero, List.drop_succ_cons, List.drop_zero]
  have a1 : ((W.alloc (.cells #[.int .i64 x1, .int .i64 x2, .int .i64 x3] 79)).alloc (.cells #[.int .i64 y1, .int .i64 y2, .int .i64 y3] 79)).drew.cell? ⟨W.heap.size, 0, none⟩ = some (.int .i64 x1) := by
    refine (World.cell?_alloc_lt _ _ _ (by simp)).trans ?_
    rw [World.cell?_alloc_new]; rfl
  have a2 : ((W.alloc (.cells #[.int .i64 x1, .int .i64 x2, .int .i64 x3] 79)).alloc (.cells #[.int .i64 y1, .int .i64 y2, .int .i64 y3] 79)).drew.cell? ⟨W.heap.size, 1, none⟩ = some (.int .i64 x2) := by
    refine (World.cell?_alloc_lt _ _ _ (by simp)).trans ?_
    rw [World.cell?_alloc_new]; rfl
  have a3 : ((W.alloc (.cells #[.int .i64 x1, .int .i64 x2, .int .i64 x3] 79)).alloc (.cells #[.int .i64 y1, .int .i64 y2, .int .i64 y3] 79)).drew.cell? ⟨W.heap.size, 2, none⟩ = some (.int .i64 x3) := by
    refine (World.cell?_alloc_lt _ _ _ (by simp)).trans ?_
    rw [World.cell?_alloc_new]; rfl
  have b1 : ((W.alloc (.cells #[.int .i64 x1, .int .i64 x2, .int .i64 x3] 79)).alloc (.cells #[.int .i64 y1, .int .i64 y2, .int .i64 y3] 79)).drew.cell? ⟨W.heap.size + 1, 0, none⟩ = some (.int .i64 y1) := by
    have h := World.cell?_alloc_new (W.alloc (.cells #[.int .i64 x1, .int .i64 x2, .int .i64 x3] 79)) #[.int .i64 y1, .int .i64 y2, .int .i64 y3] 79 0
    rw [show (W.alloc (.cells #[.int .i64 x1, .int .i64 x2, .int .i64 x3] 79)).heap.size = W.heap.size + 1 by simp] at h
    exact h.trans rfl
  have b2 : ((W.alloc (.cells #[.int .i64 x1, .int .i64 x2, .int .i64 x3] 79)).alloc (.cells #[.int .i64 y1, .int .i64 y2, .int .i64 y3] 79)).drew.cell? ⟨W.heap.size + 1, 1, none⟩ = some (.int .i64 y2) := by
    have h := World.cell?_alloc_new (W.alloc (.cells #[.int .i64 x1, .int .i64 x2, .int .i64 x3] 79)) #[.int .i64 y1, .int .i64 y2, .int .i64 y3] 79 1
    rw [show (W.alloc (.cells #[.int .i64 x1, .int .i64 x2, .int .i64 x3] 79)).heap.size = W.heap.size + 1 by simp] at h
    exact h.trans rfl
  have b3 : ((W.alloc (.cells #[.int .i64 x1, .int .i64 x2, .int .i64 x3] 79)).alloc (.cells #[.int .i64 y1, .int .i64 y2, .int .i64 y3] 79)).drew.cell? ⟨W.heap.size + 1, 2, none⟩ = some (.int .i64 y3) := by
    have h := World.cell?_alloc_new (W.alloc (.cells #[.int .i64 x1, .int .i64 x2, .int .i64 x3] 79)) #[.int .i64 y1, .int .i64 y2, .int .i64 y3] 79 2
    rw [show (W.alloc (.cells #[.int .i64 x1, .int .i64 x2, .int .i64 x3] 79)).heap.size = W.heap.size + 1 by simp] at h
    exact h.trans rfl
  have hg : ((W.alloc (.cells #[.int .i64 x1, .int .i64 x2, .int .i64 x3] 79)).alloc (.cells #[.int .i64 y1, .int .i64 y2, .int .i64 y3] 79)).drew = grow (W.drewN 1) (#[.cells #[.int .i64 x1, .int .i64 x2, .int .i64 x3] 79] ++ #[.cells #[.int .i64 y1, .int .i64 y2, .int .i64 y3] 79]) := by
    rw [alloc_eq_grow, alloc_eq_grow, grow_grow]; rfl
  change wpStill _ _ ((W.alloc (.cells #[.int .i64 x1, .int .i64 x2, .int .i64 x3] 79)).alloc (.cells #[.int .i64 y1, .int .i64 y2, .int .i64 y3] 79)).drew (fun a' => wpList _ _ _ _ a' ((W.alloc (.cells #[.int .i64 x1, .int .i64 x2, .int .i64 x3] 79)).alloc (.cells #[.int .i64 y1, .int .i64 y2, .int .i64 y3] 79)).drew) _ _
  generalize ((W.alloc (.cells #[.int .i64 x1, .int .i64 x2, .int .i64 x3] 79)).alloc (.cells #[.int .i64 y1, .int .i64 y2, .int .i64 y3] 79)).drew = W2 at *
  have HG := Lib.hid hg
  clear hg
  repeat still_step
  still_call (hA _)
  repeat still_step
  still_call (hB _)
  repeat still_step
  still_call (hC _)
  repeat still_step
  refine wpStill_nil ?_
  clear a1 a2 a3 b1 b2 b3 hA hB hC
  have c0 : (W2.alloc (.cells #[.int .i64 A, .int .i64 B, .int .i64 C] 3)).cell? ⟨W2.heap.size, 0, none⟩ = some (.int .i64 A) := by rw [World.cell?_alloc_new]; rfl
  have c1 : (W2.alloc (.cells #[.int .i64 A, .int .i64 B, .int .i64 C] 3)).cell? ⟨W2.heap.size, 1, none⟩ = some (.int .i64 B) := by rw [World.cell?_alloc_new]; rfl
  have c2 : (W2.alloc (.cells #[.int .i64 A, .int .i64 B, .int .i64 C] 3)).cell? ⟨W2.heap.size, 2, none⟩ = some (.int .i64 C) := by rw [World.cell?_alloc_new]; rfl
  have hor := Tryz.or88 A B C W2.heap.size _ c0 c1 c2
  clear c0 c1 c2
  go_wp2_with (go_at_call 104; refine hor.mono ?_; rintro e w' ⟨rfl, rfl⟩)
  go_ret
  have hfin : ∃ q os', W2.alloc (.cells #[.int .i64 A, .int .i64 B, .int .i64 C] 3) = grow (W.drewN q) os' :=
    ⟨1, (#[.cells #[.int .i64 x1, .int .i64 x2, .int .i64 x3] 79] ++ #[.cells #[.int .i64 y1, .int .i64 y2, .int .i64 y3] 79]) ++ #[.cells #[.int .i64 A, .int .i64 B, .int .i64 C] 3], by rw [alloc_eq_grow, HG.out, grow_grow]⟩
  exact ⟨rfl, hfin⟩
end Go.Proofs
end
section
namespace Go.Co
open Go Go.Conc Go.Proofs Go.Sort Go.Shelf
def ltS (x y : Sm) : Prop := x.1 < y.1 ∨ (x.1 = y.1 ∧ (x.2.1 < y.2.1 ∨ (x.2.1 = y.2.1 ∧ x.2.2 < y.2.2)))
theorem cmp_cases (x y : Int) : (x < y ∧ Lib.compareInt x y = -1) ∨ (x = y ∧ Lib.compareInt x y = 0) ∨ (y < x ∧ Lib.compareInt x y = 1) := by
  unfold Lib.compareInt
  by_cases h1 : x < y
  · grind
  · grind
theorem lt_iff (x y : Sm) : ltOf cmpSm x y = true ↔ ltS x y := by
  obtain ⟨x1, x2, x3⟩ := x
  obtain ⟨y1, y2, y3⟩ := y
  unfold ltOf cmpSm or3 ltS
  simp only [decide_eq_true_eq]
  rcases cmp_cases x1 y1 with ⟨h1, e1⟩ | ⟨h1, e1⟩ | ⟨h1, e1⟩ <;> rcases cmp_cases x2 y2 with ⟨h2, e2⟩ | ⟨h2, e2⟩ | ⟨h2, e2⟩ <;> rcases cmp_cases x3 y3 with ⟨h3, e3⟩ | ⟨h3, e3⟩ | ⟨h3, e3⟩ <;> simp [e1, e2, e3] <;> omega
theorem lt_false (x y : Sm) : ltOf cmpSm x y = false ↔ ¬ ltS x y := by
  rw [← lt_iff]; simp
theorem swoSm : SWO (ltOf cmpSm) where
  irrefl x := by rw [lt_false]; unfold ltS; omega
  trans x y z h1 h2 := by rw [lt_iff] at *; unfold ltS at *; omega
  ntrans x y z h1 h2 := by rw [lt_false] at *; unfold ltS at *; omega
theorem sorted_is {d : Array Sm} {R : List Sm} (hp : d.toList.Perm R) (hs : SortedIn (ltOf cmpSm) 0 d.size d) (hR : R.Pairwise ltS) : d.toList = R := by
  refine List.Perm.eq_of_pairwise (le := fun x y => ¬ ltS y x) (fun a b _ _ h1 h2 => ?_) ?_ (hR.imp fun {a b} h => ?_) hp
  · obtain ⟨a1, a2, a3⟩ := a
    obtain ⟨b1, b2, b3⟩ := b
    unfold ltS at h1 h2
    simp only at h1 h2
    have e1 : a1 = b1 := by omega
    have e2 : a2 = b2 := by omega
    have e3 : a3 = b3 := by omega
    rw [e1, e2, e3]
  · rw [List.pairwise_iff_getElem]
    intro i j hi hj hij
    have h := hs i j (Nat.zero_le _) hij (by simpa using hj)
    rw [lt_false] at h
    simp only [Array.length_toList] at hi hj
    rw [getElem!_pos d i hi, getElem!_pos d j hj] at h
    simpa using h
  · unfold ltS at *; omega
def Asc (l : List Int) : Prop := l.Pairwise (· < ·)
theorem shifts_asc (low up : List Int) (wear : Int) : Asc (shiftsM low up wear) := by
  unfold Asc shiftsM shN
  refine List.Pairwise.filter _ ?_
  rw [List.pairwise_map]
  exact List.pairwise_lt_range.imp fun {a b} h => by omega
theorem seams_asc {da db : Wk} (ha : Asc da.lies) (hb : Asc db.lies) : (seamsM da db).Pairwise ltS := by
  unfold seamsM
  rw [List.pairwise_flatMap]
  refine ⟨fun x _ => ?_, ha.imp fun {x x'} h => ?_⟩
  · rw [List.pairwise_flatMap]
    refine ⟨fun y _ => ?_, hb.imp fun {y y'} h => ?_⟩
    · rw [List.pairwise_map]
      exact (shifts_asc _ _ _).imp fun {s s'} h => .inr ⟨rfl, .inr ⟨rfl, h⟩⟩
    · intro m hm m' hm'
      obtain ⟨s, _, rfl⟩ := List.mem_map.1 hm
      obtain ⟨s', _, rfl⟩ := List.mem_map.1 hm'
      exact .inr ⟨rfl, .inl h⟩
  · intro m hm m' hm'
    obtain ⟨y, _, hm⟩ := List.mem_flatMap.1 hm
    obtain ⟨y', _, hm'⟩ := List.mem_flatMap.1 hm'
    obtain ⟨s, _, rfl⟩ := List.mem_map.1 hm
    obtain ⟨s', _, rfl⟩ := List.mem_map.1 hm'
    exact .inl h
theorem flat_list (d : Array Sm) : (flatK smC 3 d).toList = d.toList.flatMap smC := by
  apply List.ext_getElem?
  intro t
  have hlen : (d.toList.flatMap smC).length = d.size * 3 := by rw [smC_len]; simp
  by_cases ht : t < d.size * 3
  · have h1 := get_flatK smC 3 d t ht
    rw [getElem!_pos _ t (by simpa using ht)] at h1
    rw [Array.getElem?_toList, Array.getElem?_eq_getElem (by simpa using ht), h1]
    have key : ∀ (l : List Sm) (t : Nat), t < l.length * 3 → (l.flatMap smC)[t]? = some ((smC (l[t / 3]!))[t % 3]!) := by
      intro l
      induction l with
      | nil => intro t h; simp at h
      | cons m l ih =>
        intro t h
        rw [List.flatMap_cons]
        by_cases h3 : t < 3
        · have e0 : t / 3 = 0 := by omega
          have e1 : t % 3 = t := by omega
          rw [e0, e1, List.getElem?_append_left (by simpa [smC] using h3)]
          have : t = 0 ∨ t = 1 ∨ t = 2 := by omega
          rcases this with rfl | rfl | rfl <;> rfl
        · obtain ⟨s, rfl⟩ : ∃ s, t = s + 3 := ⟨t - 3, by omega⟩
          have e0 : (s + 3) / 3 = s / 3 + 1 := by omega
          have e1 : (s + 3) % 3 = s % 3 := by omega
          rw [e0, e1, List.getElem?_append_right (by simp [smC])]
          have := ih s (by simp at h; omega)
          simpa [smC] using this
    rw [key d.toList t (by simpa using ht)]
    congr 3
    have hd : t / 3 < d.size := by omega
    rw [getElem!_pos d _ hd, getElem!_pos d.toList _ (by simpa using hd)]
    simp
  · rw [List.getElem?_eq_none (by simp; omega), List.getElem?_eq_none (by omega)]
theorem holds_flat {w : World} {g : Nat} {cur : Array Value} {e : TypeId} {d : Array Sm} (hb : w.heap[g]? = some (.cells cur e (0, 0))) (ht : cur.toList.take (d.size * 3) = d.toList.flatMap smC) : HoldsK smC 3 w g 0 d := by
  intro j hj
  rw [size_flatK] at hj
  refine ⟨?_, by simp [World.frozen?, hb]⟩
  have h1 : (cur.toList.take (d.size * 3))[j]? = (flatK smC 3 d).toList[j]? := by rw [ht, flat_list]
  rw [List.getElem?_take_of_lt hj] at h1
  simp only [World.cell?, hb, Nat.zero_add]
  simp only [Option.isSome_none, Bool.false_eq_true, if_false]
  rw [← Array.getElem?_toList, h1, Array.getElem?_toList, Array.getElem?_eq_getElem (by simpa using hj), getElem!_pos _ j (by simpa using hj)]
  rfl
theorem heap_flat {w : World} {g n : Nat} {os : Array Obj} {cur : Array Value} {e : TypeId} {fr : Nat × Nat} (d : Array Sm) (hb : w.heap[g]? = some (.cells cur e fr)) :
    (sortWorldK smC 3 w g 0 n d os).heap[g]? = some (.cells (putCells id 0 (flatK smC 3 d) cur) e fr) := by
  have hg : g < w.heap.size := (Array.getElem?_eq_some_iff.1 hb).1
  unfold sortWorldK putRowK
  rw [heap_grow_old _ _ (by simpa using hg)]
  simp [putRow, mapBlock, Sort.ahead, Array.getElem?_modify, hb, onCells]
theorem grownBy_flat {w : World} {g n : Nat} {os : Array Obj} (d : Array Sm) : w.grownBy (sortWorldK smC 3 w g 0 n d os) (some g) := by
  unfold sortWorldK putRowK
  refine ⟨rfl, rfl, rfl, by simp, fun k hk hne => ?_⟩
  rw [heap_grow_old _ _ (by simpa using hk)]
  have : g ≠ k := fun e => hne (by rw [e])
  simp [putRow, mapBlock, Sort.ahead, Array.getElem?_modify, this]
theorem ownsRow_flat {w : World} {base g cap n : Nat} {e : TypeId} {os : Array Obj} {cur : Array Value} {d : Array Sm} (hbase : base ≤ g) (hb : w.heap[g]? = some (.cells cur e (0, 0)))
    (h1 : d.size ≤ cap) (h2 : cap ≤ maxLen) (h3 : cur.size = cap * 3) :
    (sortWorldK smC 3 w g 0 n d os).ownsRow base e 3 (.slice (some ⟨g, 0, none⟩) d.size cap) d.size (d.toList.flatMap smC) := by
  refine ⟨by rw [smC_len]; simp, .inr ⟨g, cap, _, rfl, hbase, heap_flat d hb, h1, h2, by simp [putCells, h3], ?_⟩⟩
  rw [← flat_list]
  apply List.ext_getElem?
  intro j
  by_cases hj : j < d.size * 3
  · rw [List.getElem?_take_of_lt hj, Array.getElem?_toList, Array.getElem?_toList]
    have hc : j < cur.size := by omega
    simp [putCells, hj, hc]
  · rw [List.getElem?_take_eq_none (by omega), List.getElem?_eq_none (by simp; omega)]
end Go.Co
end
section
namespace Go.Co
open Go
variable {P : Program}
instance (h : Value) : TC P (Extern.Rtype.ofHandle h) := ⟨by
  unfold Extern.Rtype.ofHandle
  exact tgo⟩
instance (t : TypeId) : TC P (Extern.Rtype.handle t) := ⟨by
  unfold Extern.Rtype.handle
  exact tgo⟩
instance (s : String) (t : TypeId) : TC P (Extern.Rtype.noPack s t) := ⟨by
  unfold Extern.Rtype.noPack
  exact tgo⟩
instance (s : String) (t : TypeId) : TC P (Extern.Rtype.noPackHeld s t) := ⟨by
  unfold Extern.Rtype.noPackHeld
  exact tgo⟩
instance (s : String) (t : TypeId) : TC P (Extern.Rtype.noPackNamed s t) := ⟨by
  unfold Extern.Rtype.noPackNamed
  exact tgo⟩
instance (s : String) (t : TypeId) : TC P (Extern.Rtype.noPackMethods s t) := ⟨by
  unfold Extern.Rtype.noPackMethods
  exact tgo⟩
instance (t : TypeId) : TC P (Extern.Rtype.spelt t) := ⟨by
  unfold Extern.Rtype.spelt
  exact tgo⟩
instance (t : TypeId) : TC P (Extern.Rtype.under t) := ⟨by
  unfold Extern.Rtype.under
  exact tgo⟩
instance (t : TypeId) : TC P (Extern.Rtype.kind t) := ⟨by
  unfold Extern.Rtype.kind
  exact tgo⟩
instance (t : TypeId) : TC P (Extern.Rtype.hasName t) := ⟨by
  unfold Extern.Rtype.hasName
  exact tgo⟩
instance (t : TypeId) : TC P (Extern.Rtype.elem? t) := ⟨by
  unfold Extern.Rtype.elem?
  exact tgo⟩
instance (t u : TypeId) : TC P (Extern.Rtype.implements t u) := ⟨by
  unfold Extern.Rtype.implements
  exact tgo⟩
instance (t u : TypeId) : TC P (Extern.Rtype.directlyAssignable t u) := ⟨by
  unfold Extern.Rtype.directlyAssignable
  exact tgo⟩
instance (t : TypeId) : TC P (Extern.ReflectliteType.toType t) := ⟨by
  unfold Extern.ReflectliteType.toType
  exact tgo⟩
instance (v : Value) : TC P (Extern.ReflectliteType.ofRtype v) := ⟨by
  unfold Extern.ReflectliteType.ofRtype
  cases v <;> try exact tm_stuck _
  rename_i cs
  rcases cs with ⟨_ | ⟨x, _ | ⟨y, l⟩⟩⟩ <;> try exact tm_stuck _
  refine tm_bind1 TC.out fun _ => ?_
  exact tgo⟩
instance (t : TypeId) : TC P (Extern.ReflectliteType.elem t) := ⟨by
  unfold Extern.ReflectliteType.elem
  exact tgo⟩
instance (t : TypeId) : TC P (Extern.ReflectliteType.name t) := ⟨by
  unfold Extern.ReflectliteType.name
  exact tgo⟩
instance (t : TypeId) : TC P (Extern.ReflectliteType.pkgPath t) := ⟨by
  unfold Extern.ReflectliteType.pkgPath
  exact tgo⟩
instance (t u : TypeId) : TC P (Extern.ReflectliteType.implements_ t u) := ⟨by
  unfold Extern.ReflectliteType.implements_
  exact tgo⟩
instance (t u : TypeId) : TC P (Extern.ReflectliteType.assignableTo t u) := ⟨by
  unfold Extern.ReflectliteType.assignableTo
  exact tgo⟩
instance (a : Array Value) : TC P (Extern.ReflectliteType.typeOf a) := ⟨by
  unfold Extern.ReflectliteType.typeOf
  rcases a with ⟨_ | ⟨x, _ | ⟨y, l⟩⟩⟩
  · exact tm_stuck _
  rotate_left
  · exact tm_stuck _
  cases x <;> try exact tm_stuck _
  all_goals first | exact (TC.out : T1 P (pure Value.nilIface)) | exact (TC.out : T1 P (Extern.ReflectliteType.toType _))⟩
theorem t_rmeth {f : TypeId → Sem Value} (h : ∀ t, T1 P (f t)) (a : Array Value) : T1 P (Extern.ReflectliteType.method f a) := by
  unfold Extern.ReflectliteType.method
  rcases a with ⟨_ | ⟨x, _ | ⟨y, l⟩⟩⟩
  · exact tm_stuck _
  rotate_left
  · exact tm_stuck _
  exact tm_bind1 TC.out fun t => h t
theorem t_rabi {f : TypeId → Sem Value} (h : ∀ t, T1 P (f t)) (a : Array Value) : T1 P (Extern.ReflectliteType.abiMethod f a) := by
  unfold Extern.ReflectliteType.abiMethod
  rcases a with ⟨_ | ⟨x, _ | ⟨y, l⟩⟩⟩
  · exact tm_stuck _
  rotate_left
  · exact tm_stuck _
  exact tm_bind1 TC.out fun t => tm_bind1 TC.out fun _ => h t
theorem t_rrel {s : String} {f : TypeId → TypeId → Sem Bool} (h : ∀ t u, T1 P (f t u)) (a : Array Value) : T1 P (Extern.ReflectliteType.relation s f a) := by
  unfold Extern.ReflectliteType.relation
  rcases a with ⟨_ | ⟨x, _ | ⟨y, _ | ⟨z, l⟩⟩⟩⟩
  · exact tm_stuck _
  · exact tm_stuck _
  rotate_left
  · exact tm_stuck _
  cases y <;> try exact tm_stuck _
  · exact tm_bind1 TC.out fun t => tm_bind1 TC.out fun u => tm_bind1 (h _ _) fun _ => TC.out
  · exact t_panicString _
instance (t : TypeId) (a : Addr) (n : Nat) : TC P (Extern.ReflectliteValue.mk t a n) := ⟨by
  unfold Extern.ReflectliteValue.mk
  exact tgo⟩
instance (v : Value) : TC P (Extern.ReflectliteValue.unpack v) := ⟨by
  unfold Extern.ReflectliteValue.unpack
  exact tgo⟩
instance {α : Type} (s : String) (k : Nat) : TC P (Extern.ReflectliteValue.valueError s k : Sem α) := ⟨by
  unfold Extern.ReflectliteValue.valueError
  exact tgo⟩
instance (v : Value) : TC P (Extern.ReflectliteValue.partsAny v) := ⟨by
  unfold Extern.ReflectliteValue.partsAny
  cases v <;> try exact tm_stuck _
  rename_i cs
  rcases cs with ⟨_ | ⟨x, _ | ⟨y, _ | ⟨z, _ | ⟨u, l⟩⟩⟩⟩⟩ <;> try exact tm_stuck _
  cases z
  case int k n =>
    cases k
    case u64 =>
      rcases n with (_ | n) | n <;> cases y <;> first | exact tm_stuck _ | exact (TC.out : T1 P (pure none)) | (rename_i p; cases p <;> first | exact tm_stuck _ | exact (tm_bind1 TC.out fun _ => TC.out))
    all_goals (cases y <;> first | exact tm_stuck _ | (rename_i p; cases p <;> exact tm_stuck _))
  all_goals (cases y <;> first | exact tm_stuck _ | (rename_i p; cases p <;> exact tm_stuck _))⟩
instance (v : Value) : TC P (Extern.ReflectliteValue.parts v) := ⟨by
  unfold Extern.ReflectliteValue.parts
  exact tgo⟩
theorem t_vmeth {z : Sem Value} {f : TypeId → Addr → Nat → Nat → Sem Value} (hz : T1 P z) (h : ∀ t a m n, T1 P (f t a m n)) (a : Array Value) : T1 P (Extern.ReflectliteValue.method z f a) := by
  unfold Extern.ReflectliteValue.method
  rcases a with ⟨_ | ⟨x, _ | ⟨y, l⟩⟩⟩
  · exact tm_stuck _
  rotate_left
  · exact tm_stuck _
  refine tm_bind1 TC.out fun o => ?_
  split
  · exact hz
  · exact h _ _ _ _
theorem t_vany {z : Sem Value} {f : TypeId → Addr → Nat → Nat → Sem Value} (hz : T1 P z) (h : ∀ t a m n, T1 P (f t a m n)) (a : Array Value) : T1 P (Extern.ReflectliteValue.methodAny z f a) := by
  unfold Extern.ReflectliteValue.methodAny
  rcases a with ⟨_ | ⟨x, _ | ⟨y, l⟩⟩⟩
  · exact tm_stuck _
  rotate_left
  · exact tm_stuck _
  refine tm_bind1 TC.out fun o => ?_
  split
  · exact hz
  · exact h _ _ _ _
instance (t : TypeId) (a : Addr) (m n : Nat) : TC P (Extern.ReflectliteValue.isNil t a m n) := ⟨by
  unfold Extern.ReflectliteValue.isNil
  exact tgo⟩
instance (t : TypeId) (a : Addr) (m n : Nat) : TC P (Extern.ReflectliteValue.elem t a m n) := ⟨by
  unfold Extern.ReflectliteValue.elem
  exact tgo⟩
instance (a : Array Value) : TC P (Extern.ReflectliteValue.set a) := ⟨by
  unfold Extern.ReflectliteValue.set
  rcases a with ⟨_ | ⟨x, _ | ⟨y, _ | ⟨z, l⟩⟩⟩⟩
  · exact tm_stuck _
  · exact tm_stuck _
  rotate_left
  · exact tm_stuck _
  refine tm_bind1 TC.out fun _ => ?_
  exact tgo⟩
instance (a : Array Value) : TC P (Extern.ReflectliteValue.errorText a) := ⟨by
  unfold Extern.ReflectliteValue.errorText
  rcases a with ⟨_ | ⟨x, _ | ⟨y, l⟩⟩⟩
  · exact tm_stuck _
  rotate_left
  · exact tm_stuck _
  cases x <;> try exact tm_stuck _
  rename_i p
  cases p
  · exact t_runtimePanic _
  · refine tm_bind1 TC.out fun _ => ?_
    exact tgo⟩
instance (a : Addr) (n : Nat) (b : ByteArray) : TC P (Extern.Bytes.loadBytes a n b) := ⟨by
  induction n generalizing a b with
  | zero => unfold Extern.Bytes.loadBytes; exact TC.out
  | succ n ih =>
    unfold Extern.Bytes.loadBytes
    exact tgo⟩
instance (v : Value) : TC P (Extern.Bytes.bytesOf v) := ⟨by
  unfold Extern.Bytes.bytesOf
  exact tgo⟩
instance (v : Value) : TC P (Extern.Bytes.asByte v) := ⟨by
  unfold Extern.Bytes.asByte
  exact tgo⟩
instance (a : Array Value) : TC P (Extern.BytealgCount.count a) := ⟨by
  unfold Extern.BytealgCount.count
  rcases a with ⟨_ | ⟨x, _ | ⟨y, _ | ⟨z, l⟩⟩⟩⟩
  · exact tm_stuck _
  · exact tm_stuck _
  rotate_left
  · exact tm_stuck _
  refine tm_bind1 TC.out fun _ => ?_
  exact tgo⟩
instance  : TC P (Extern.BytealgIndex.maxLen) := ⟨by
  unfold Extern.BytealgIndex.maxLen
  exact tgo⟩
instance (a : Array Value) : TC P (Extern.BytealgIndex.index a) := ⟨by
  unfold Extern.BytealgIndex.index
  rcases a with ⟨_ | ⟨x, _ | ⟨y, _ | ⟨z, l⟩⟩⟩⟩
  · exact tm_stuck _
  · exact tm_stuck _
  rotate_left
  · exact tm_stuck _
  refine tm_bind1 TC.out fun _ => ?_
  exact tgo⟩
instance (a : Array Value) : TC P (Extern.BytealgIndexByte.indexByte a) := ⟨by
  unfold Extern.BytealgIndexByte.indexByte
  rcases a with ⟨_ | ⟨x, _ | ⟨y, _ | ⟨z, l⟩⟩⟩⟩
  · exact tm_stuck _
  · exact tm_stuck _
  rotate_left
  · exact tm_stuck _
  refine tm_bind1 TC.out fun _ => ?_
  exact tgo⟩
instance (r s : Array TypeId) (a : Array Value) : TC P (Extern.BytealgMakeNoZero.makeNoZero r s a) := ⟨by
  unfold Extern.BytealgMakeNoZero.makeNoZero
  rcases a with ⟨_ | ⟨x, _ | ⟨y, l⟩⟩⟩
  · exact tm_stuck _
  rotate_left
  · exact tm_stuck _
  cases x <;> try exact tm_stuck _
  rename_i k n
  cases k <;> try exact tm_stuck _
  rcases s with ⟨_ | ⟨t, l⟩⟩
  · exact tm_stuck _
  · refine tm_bind1 (TC.out : T1 P (underlying t)) fun _ => ?_
    exact tgo⟩
instance (a : Array Value) : TC P (Extern.AbiNoEscape.same a) := ⟨by
  unfold Extern.AbiNoEscape.same
  rcases a with ⟨_ | ⟨x, _ | ⟨y, l⟩⟩⟩
  · exact tm_stuck _
  rotate_left
  · exact tm_stuck _
  exact (TC.out : T1 P (pure x))⟩
end Go.Co
end
