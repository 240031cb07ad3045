/- The law CutKnown: part 44: Kw8. By an AI agent. -/
import Derived.Test.YtadeehilamokkaaGreatDoorPk42
import Derived.Test.YtadeehilamokkaaGreatDoorPk43
import Derived.Test.YtadeehilamokkaaGreatDoorRows
import Derived.Conc.LeavingOf
import Derived.ProofKit
import Derived.LaidLaws
import Derived.LaidHandle
import Derived.Lib.LaidIn
import Derived.Lay
import Derived.Stop.Joined
import Derived.Shelf.Vars
section
namespace Go.Tv
open Go Go.Di Go.Conc Go.Co Go.Proofs
open Go.ChangeShapes Go.WideShapes Go.ChangeAt Go.RowKit
open Go.Proofs.YtadeehilamokkaaGreatDoor
abbrev laid3 : List (String × DataW Unit) := Rows.cutKnownRow.laid
theorem Tryz.own : ownKnob Tryz.prog.godebug = none := by kernel_rfl
theorem Tryz.et : Tryz.prog.globalNamed "errors.errorType" = some 0 := by kernel_rfl
theorem Tryz.rt : (Tryz.prog.cutTypes.find? (·.1 == "internal/reflectlite.rtype")).map (·.2) = some 196 := by kernel_rfl
theorem Tryz.oneRow : ((List.range 280).filter fun t => Tryz.prog.rowNamed t [101, 114, 114, 111, 114]) = [91] := by kernel_rfl
theorem Tryz.size280 : Tryz.prog.types.size = 280 := by kernel_rfl
theorem Tryz.hand91 : typeHandle Tryz.prog 91 = .pointer (some ⟨4, 91, none⟩) := by kernel_rfl
theorem handle_at {W : World} (h : laidMetH Tryz.prog laid3 W) : W.cell? ⟨0, 0, none⟩ = some errT := by
  have h' : laidMet Tryz.prog (laid3.filter fun x => x.2.handleName?.isNone) W ∧ handlesMet Tryz.prog [("errors.errorType", Rows.laid_errors_errorType)] W := h
  obtain ⟨name, u, ty, e1, e2, e3, e4, e5⟩ := h'.2 _ (List.mem_singleton.2 rfl)
  have en : name = [101, 114, 114, 111, 114] := (Option.some.inj e1).symm
  subst en
  obtain rfl := Option.some.inj (Tryz.rt.symm.trans e2)
  have hm : ty ∈ (List.range 280).filter fun t => Tryz.prog.rowNamed t [101, 114, 114, 111, 114] := List.mem_filter.2 ⟨List.mem_range.2 (by rw [← Tryz.size280]; exact e3), e4⟩
  rw [Tryz.oneRow] at hm
  obtain rfl := List.mem_singleton.1 hm
  rw [Tryz.hand91] at e5
  have h1 := World.var?_cell Tryz.et e5 0
  exact h1
theorem maxlen_at {W : World} (h : W.ShapedOpen Tryz.prog) : ∃ m, W.cell? ⟨1, 0, none⟩ = some (.int .i64 m) :=
  cell_of_shapedOpen_int (zero := #[.int .i64 0]) (t := 3) h (of_decide_eq_true (by kernel_rfl)) (by kernel_rfl) rfl (by kernel_rfl) (by kernel_rfl) (by kernel_rfl)
noncomputable def laidWorld (os : Os) : World :=
  let w0 := World.holding Tryz.prog os ⟨#[], #[], []⟩
  let put (h : Array Obj) (g : Nat) (cs : Array Value) : Array Obj := h.modify g fun
    | .cells _ t frozen => .cells cs t frozen
    | o => o
  let nums : DataW Unit → Array Value := fun
    | .agg l => (l.map fun
      | .lit (.int k n) => Value.int k n
      | _ => undef).toArray
    | _ => #[]
  let pairs : DataW Unit → Array Value := fun
    | .agg l => (l.flatMap fun d => (nums d).toList).toArray
    | _ => #[]
  let h1 := put w0.heap 0 #[errT]
  let h2 := put h1 2 (nums Rows.laid_unicode_utf8_first)
  let h3 := put h2 3 (pairs Rows.laid_unicode_utf8_acceptRanges)
  { w0 with heap := h3 }
theorem laidWorld_met (os : Os) (args : Array Value) : laidMetH Tryz.prog laid3 ((laidWorld os).forCall (fun _ _ => 0) ⟨#[], args, []⟩).memory :=
  laidMetH_of_parts (LaidIn.of_run (l := laid3.filter fun x => x.2.handleName?.isNone) [2, 3] 8 (by kernel_rfl) (by kernel_rfl) (by kernel_rfl) (by kernel_rfl)).met (by kernel_rfl)
theorem laidWorld_shaped (os : Os) : ((laidWorld os).forCall (fun _ _ => 0) ⟨#[], #[], []⟩).Shaped Tryz.checked.prog := World.shaped_of_ZipB (by kernel_rfl) (by kernel_rfl)
theorem laidWorld_ok (os : Os) : Input.okWideB Tryz.checked.prog ((laidWorld os).forCall (fun _ _ => 0) ⟨#[], #[], []⟩) 5 ⟨#[], #[], []⟩ = true := by kernel_rfl
theorem laidWorld_pre (os : Os) {H : Type} (enc : TypeId × Value → H) : Rows.cutKnownSpec.preB enc Tryz.checked.prog Tryz.f5 [] false ((laidWorld os).forCall (fun _ _ => 0) ⟨#[], #[], []⟩).memory #[] 8 = true := by kernel_rfl
theorem laidWorld_sized (os : Os) {H : Type} (enc : TypeId × Value → H) : Rows.cutKnownSpec.sizedB enc Tryz.checked.prog Tryz.f5 false ((laidWorld os).forCall (fun _ _ => 0) ⟨#[], #[], []⟩).memory #[] 8 = true := by kernel_rfl
def cxAll (W : World) : Cx := { w := W, μ := fun _ => 0, κ := fun _ => 0, Fz := fun b o => ∃ v, W.cell? ⟨b, o, none⟩ = some v, S := [] }
theorem rel_cxAll {W : World} (h0 : W.cell? ⟨0, 0, none⟩ = some errT) (h1 : ∃ m, W.cell? ⟨1, 0, none⟩ = some (.int .i64 m)) : Rel (cxAll W) where
  cells := fun id l hl => by simp [cxAll] at hl
  tails := fun id e s n hl => by simp [cxAll] at hl
  objs := fun id b hl => by simp [cxAll] at hl
  inj := fun i j hi => absurd hi (not_live_nil i)
  frz := fun b j h => h
  sep := fun id ⟨l, hl⟩ => by simp [cxAll] at hl
  sept := fun id e s n hl => by simp [cxAll] at hl
  ops := fun id e s l z hl => by simp [cxAll] at hl
  glob := ⟨⟨⟨_, h0⟩, h0⟩, ⟨h1.elim fun m hm => ⟨_, hm⟩, h1⟩⟩
theorem stays_frame {W w' : World} (h : Stays W w') (may : MemPlace → Prop) : W.keptBut w' may := by
  refine ⟨h.os, h.output, fun i hi => ?_⟩
  rw [h.block i hi]
  split <;> simp_all
theorem ran_iso {tab : IsoF} {L n : Nat} {f : FuncId} {args : List DV} {v : DV} (h : ran tab L n (f, args, v) = true) : isoOf tab (deepP Tryz.prog TyH tab L n).1 f args = some v := by
  unfold ran at h
  simp only [Bool.and_eq_true] at h
  obtain ⟨-, h⟩ := h
  split at h
  · rename_i u hv
    have e := eqb_eq _ _ h
    rw [e]
    exact hv
  · cases h
theorem runs_of {tab : IsoF} (htab : ∀ Final, TabOK Tryz.prog Final tab) {L n : Nat} {f : FuncId} (hn : tab f [] = none) (hi : Tryz.prog.inits.idxOf? f = none) (h : ran tab L (n + 1) (f, [], .val (.bool true)) = true) {W : World} (h0 : W.cell? ⟨0, 0, none⟩ = some errT) (h1 : ∃ m, W.cell? ⟨1, 0, none⟩ = some (.int .i64 m)) :
    ∃ N last o w' t', runNT Tryz.prog (N + 1) (solo (G (Frame.enter Tryz.prog f #[] .normal) []) W) #[] = (.ended o w', t') ∧ runN Tryz.prog N (solo (G (Frame.enter Tryz.prog f #[] .normal) []) W) = .next last ∧
      step Tryz.prog last = .ended o w' ∧ Conc.Good Tryz.prog (fun v w => v = .bool true ∧ Stays W w) last o w' t' := by
  refine good_of_km ?_ ?_
  · exact ⟨okF_enter _ _ _ _, fun f hf => (nomatch hf), fun h => h.elim, fun d h => (nomatch h)⟩
  · exact top_bool (x := cxAll W) plain_try mixed_try ty_ok htab hn hi (ran_iso h) (rel_cxAll h0 h1) rfl ⟨rfl, fun j c hc => by simp at hc⟩
theorem none5 : more tab1 rowsK 5 [] = none := by decide +kernel
theorem law_runs {W : World} (h0 : W.cell? ⟨0, 0, none⟩ = some errT) (h1 : ∃ m, W.cell? ⟨1, 0, none⟩ = some (.int .i64 m)) :
    ∃ N last o w' t', runNT Tryz.prog (N + 1) (solo (G (Frame.enter Tryz.prog 5 #[] .normal) []) W) #[] = (.ended o w', t') ∧ runN Tryz.prog N (solo (G (Frame.enter Tryz.prog 5 #[] .normal) []) W) = .next last ∧
      step Tryz.prog last = .ended o w' ∧ Conc.Good Tryz.prog (fun v w => v = .bool true ∧ Stays W w) last o w' t' :=
  runs_of (tab := more tab1 rowsK) (L := 100) (n := 5) (f := 5) (fun _ => tab5_ok) none5 (by kernel_rfl) r5 h0 h1
theorem Tryz.under4 : Tryz.prog.underlying 4 = some .bool := by kernel_rfl
theorem par5 : Tryz.f5.params.toList = [] := by kernel_rfl
theorem res5 : Tryz.f5.resultTypes.toList = [4] := by kernel_rfl
set_option maxRecDepth 100000 in
theorem law_lifted (os : Os) (started : os.Started) (H : Type) (enc : TypeId × Value → H) :
    ReturnsInLeavingWide {} Tryz.checked os 5 .any (fun w args => (Rows.cutKnownSpec.pre enc Tryz.prog Tryz.f5 [] false w args ∧ laidMetH Tryz.prog laid3 w) ∧ sizedMet enc Tryz.prog Tryz.f5 (OpenSpec.ofChange Rows.cutKnownSpec) false w args)
      (Rows.cutKnownSpec.post enc Tryz.prog Tryz.f5 false true false false) := by
  refine returnsInLeavingWide_of_good (C := Tryz.checked) Tryz.own started
    (ChangeSpec.witness_shaped (enc := enc) (C := Tryz.checked) (os := os) (X := fun w _ => laidMetH Tryz.prog laid3 w) false (laidWorld os) #[] 8 rfl (laidWorld_shaped os) (laidWorld_ok os) (laidWorld_pre os enc) (laidWorld_sized os enc) (laidWorld_met os _)) ?_
  intro w tape i _ hsh _ hok hpre _
  obtain ⟨_, _, _, fn', hfn', _, _, _, _, hval⟩ := hok
  obtain ⟨⟨⟨ds, gs, before, hw, _⟩, hL⟩, _⟩ := hpre
  have hW : DataW.Whole enc Tryz.prog Tryz.f5.params.toList Rows.cutKnownSpec.vars false (w.forCall tape i) i.args.toList ds gs before := DataW.Whole.of_heap (w' := w.forCall tape i) (by rfl) hw
  have hL' : laidMetH Tryz.prog laid3 (w.forCall tape i) := laidMetH.of_heap (w := (w.forCall tape i).memory) rfl hL
  have hW' := hW
  obtain ⟨p, q, hA, hV, rfl, _, _⟩ := hW
  rw [par5] at hA
  obtain ⟨ha, rfl, rfl⟩ := trodAll_none hA
  obtain ⟨rfl, rfl⟩ := trodVars_none hV
  rw [ha] at hW' ⊢
  obtain ⟨M, last, o, w', t', h1, h2, h3, h4⟩ := law_runs (handle_at hL') (maxlen_at hsh)
  refine ⟨M, last, o, w', t', h1, h2, h3, h4.mono fun v hF => ChangeSpec.post_blind ?_⟩
  obtain ⟨rfl, hst⟩ := hF
  refine ⟨_, _, _, [], [], [], hW', ?_, ?_, rfl, stays_frame hst _, fun h => by cases h⟩
  · rw [res5]; exact trodAll_mk1 (shut_bool Tryz.under4 _)
  · rw [par5]; exact trodAll_mk0
theorem known_holds : Rows.CutKnownSaid :=
  OpenClaim.holds_of_wide_leaving 5 Tryz.f5 rfl rfl rfl rfl rfl rfl rfl ⟨rfl, rfl, rfl, rfl, rfl⟩ rfl rfl rfl rfl rfl (by kernel_rfl) Tryz.func5 (by kernel_rfl)
    (of_decide_eq_true (by kernel_rfl)) (by unfold Func.isWrapper; rw [if_neg (of_decide_eq_false (by kernel_rfl))]; exact ⟨rfl, rfl⟩)
    (fun os started H enc _ => law_lifted os started H enc)
end Go.Tv
end
