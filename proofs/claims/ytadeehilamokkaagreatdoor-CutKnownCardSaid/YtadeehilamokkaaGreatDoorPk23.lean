/- The law CutKnown: part 23: Co6f Co6g Co6h. By an AI agent. -/
import Derived.Test.YtadeehilamokkaaGreatDoorPk22
section
namespace Go.Co
open Go Go.Conc Go.Proofs
open Go.ConcN (upd upd_same upd_ne)
variable {Final : Machine → Trace → Prop} {main : Bool} {K : Gm → Goroutine → World → Prop} {p : Pc} {γ : So} {w : World}
theorem events_indexAt_array {P : Program} {w : World} {es : Array Event} {t e : TypeId} {n : Nat} (h : P.underlying t = some (.array n e)) (a : Addr) (k : IntKind) (i : Int) (hi : 0 ≤ i ∧ i < n) :
    (Instr.indexAt t (.pointer (some a)) (.int k i)).events P w es = es := by
  simp only [Instr.indexAt, asIntOf, Instr.sureAddr, Sem.events_bind, Sem.run_pure, Sem.events_pure, Result.evThen_ok, run_underlying h, events_underlying, hi, and_self, if_true, events_sizeOf]
  cases (sizeOf e).run P w <;> rfl
noncomputable def R84_3 : Code := match Tryz.f100.body with
  | some (.seq (.seq _ (.block _ (.loop (.seq _ (.seq _ (.seq (.block _ (.seq _ (.seq r _))) _)))))) _) => r
  | _ => .skip
set_option maxRecDepth 100000 in
set_option maxHeartbeats 2000000 in
theorem region3 (C : KC Tryz.prog main K RlG StG) (hp : p ≠ .ret) {bb ba bx : Nat} {da db : Wk} {x y : Int} (ha : WorkAt γ w ba da) (hb : WorkAt γ w bb db) (hx : Sees γ w ⟨bx, 0, none⟩ (.int .i64 x)) (hx0 : 0 ≤ x) (hx3 : x < 4) (hy0 : 0 ≤ y) (hy3 : y < 4) (hda : da.ok) (hdb : db.ok)
    {a0 : Act} (hd0 : a0.defers = []) (hsz : a0.tmps.size = 46) (t0 : a0.tmps[0]? = some (.pointer (some ⟨bb, 0, none⟩))) (t1 : a0.tmps[1]? = some (.pointer (some ⟨ba, 0, none⟩))) (t2 : a0.tmps[2]? = some (.pointer (some ⟨bx, 0, none⟩))) (t6 : a0.tmps[6]? = some (.int .i64 y))
    {Q : Gm → Exit → Act → World → Prop} (hQ : ∀ v γ' a' w', a'.defers = [] → a'.tmps.size = 46 → (∀ s, s < 17 → a'.tmps[s]? = a0.tmps[s]?) → a'.tmps[32]? = some v → a'.tmps[33]? = some (.int .i64 (seamsXY da db x y).length) → a'.tmps[34]? = some (.int .i64 0) →
      OwnV γ' w' w.heap.size 3 1 v (seamsXY da db x y).length (ivs (seamsXY da db x y)) → Kept γ w γ' w' → Q (p, γ') .normal a' w') : KJ K 100 (p, γ) R84_3 Q a0 w := by
  obtain ⟨la, hla, hlo⟩ := ha.lo x.toNat (by omega)
  obtain ⟨ua, hua, -⟩ := ha.up x.toNat (by omega)
  obtain ⟨ub, hub, hup⟩ := hb.up y.toNat (by omega)
  obtain ⟨lb, hlb, -⟩ := hb.lo y.toNat (by omega)
  have hwa := hda.wear
  have hwb := hdb.wear
  have hw1 : IntKind.i64.wrap (da.wear + db.wear) = da.wear + db.wear := by rw [wr64] <;> omega
  refine kj_draw C hp mixed (fun L γ' a' w' => Kept γ w γ' w' ∧ ∃ v, (L 15 = true → OwnV γ' w' w.heap.size 3 1 v (seamsXY da db x y).length (ivs (seamsXY da db x y))) ∧ St3 (fun v => val3 ba bb x y ua la ub lb da.wear db.wear (seamsXY da db x y).length v) a0 v L a')
    (by kernel_rfl) (fun w₁ r => ?_) ?_ (fun L γ' a' w' hJ hall => ?_)
  · exact ⟨(Kept.rely r).trans (Kept.rely (rlS_at γ w₁ _)), undef, fun h => (nomatch h), hd0, hsz, fun i _ h => (nomatch h), fun _ _ => rfl, fun h => (nomatch h)⟩
  · rintro L γ' a' w' i o ⟨hk, v, hv, hs⟩ ho hL hdep rest hnext
    have hi : i < 18 := (Array.getElem?_eq_some_iff.1 ho).1
    have hv' : ∀ j, j ≠ 15 → upd L j true 15 = true → OwnV γ' w' w.heap.size 3 1 v (seamsXY da db x y).length (ivs (seamsXY da db x y)) := fun j hj h => hv (by rwa [upd_ne _ _ (Ne.symm hj)] at h)
    rcases i with _ | _ | _ | _ | _ | _ | _ | _ | _ | _ | _ | _ | _ | _ | _ | _ | _ | _ | i
    all_goals first | (exfalso; omega) | skip
    · have ho' := Option.some.inj ho
      subst ho'
      have f2 : a'.tmps[2]? = some _ := (hs.old 2 (by omega)).trans t2
      refine ko_see C hp (v := ?v0) ho (by rfl) (fun w₁ h₁ => ⟨run_eq_of fun K hK => ?r0, ?e0⟩) ?h0
      case r0 => have hc := ((hk.sees hx).rely h₁).2; go_simp; exact hK
      case e0 => have hc := ((hk.sees hx).rely h₁).2; intro e he; simp [go_sem, *] at he; subst he; exact ((hk.sees hx).rely h₁).evo
      exact hnext _ _ _ ⟨hk, v, hv' 0 (by omega), hs.put (i := 0) (by omega) (fun h => by omega) rfl⟩
    · have ho' := Option.some.inj ho
      subst ho'
      have f1 : a'.tmps[1]? = some _ := (hs.old 1 (by omega)).trans t1
      refine ko_pure C (v := ?v1) ho (by rfl) (fun w => run_eq_of fun K hK => ?r1) (fun w => ?e1) ?h1
      case r1 => go_simp; exact hK
      case e1 => simp [go_sem, *]
      exact hnext _ _ _ ⟨hk, v, hv' 1 (by omega), hs.put (i := 1) (by omega) (fun h => by omega) rfl⟩
    · have ho' := Option.some.inj ho
      subst ho'
      have d1 : L 1 = true := hdep { on := 1, ground := Ground.data } (by simp) rfl
      have e1 : a'.tmps[18]? = some _ := hs.vals 1 (by omega) d1
      simp only [val3] at e1
      have d0 : L 0 = true := hdep { on := 0, ground := Ground.data } (by simp) rfl
      have e0 : a'.tmps[17]? = some _ := hs.vals 0 (by omega) d0
      simp only [val3] at e0
      refine ko_pure C (v := ?v2) ho (by rfl) (fun w => run_eq_of fun K hK => ?r2) (fun w => ?e2) ?h2
      case r2 => have hb1 : x.toNat < 4 := (by omega); go_simp; exact hK
      case e2 => simp [go_sem, e1, e0, events_indexAt_array Tryz.underlying121 _ _ x ⟨(by omega), (by omega)⟩]
      exact hnext _ _ _ ⟨hk, v, hv' 2 (by omega), hs.put (i := 2) (by omega) (fun h => by omega) rfl⟩
    · have ho' := Option.some.inj ho
      subst ho'
      have d2 : L 2 = true := hdep { on := 2, ground := Ground.data } (by simp) rfl
      have e2 : a'.tmps[19]? = some _ := hs.vals 2 (by omega) d2
      simp only [val3] at e2
      refine ko_see C hp (v := ?v3) ho (by rfl) (fun w₁ h₁ => ⟨run_eq_of fun K hK => ?r3, ?e3⟩) ?h3
      case r3 => have hc := ((hk.sees hua).rely h₁).2; have hd := ((hk.sees hla).rely h₁).2; go_simp; exact hK
      case e3 =>
        have hc := ((hk.sees hua).rely h₁).2
        have hd := ((hk.sees hla).rely h₁).2
        intro e he
        simp [go_sem, *] at he
        rcases he with rfl | rfl
        · exact ((hk.sees hua).rely h₁).evo
        · exact ((hk.sees hla).rely h₁).evo
      exact hnext _ _ _ ⟨hk, v, hv' 3 (by omega), hs.put (i := 3) (by omega) (fun h => by omega) rfl⟩
    · have ho' := Option.some.inj ho
      subst ho'
      have f6 : a'.tmps[6]? = some _ := (hs.old 6 (by omega)).trans t6
      refine ko_pure C (v := ?v4) ho (by rfl) (fun w => run_eq_of fun K hK => ?r4) (fun w => ?e4) ?h4
      case r4 => go_simp; exact hK
      case e4 => simp [go_sem, *]
      exact hnext _ _ _ ⟨hk, v, hv' 4 (by omega), hs.put (i := 4) (by omega) (fun h => by omega) rfl⟩
    · have ho' := Option.some.inj ho
      subst ho'
      have f0 : a'.tmps[0]? = some _ := (hs.old 0 (by omega)).trans t0
      refine ko_pure C (v := ?v5) ho (by rfl) (fun w => run_eq_of fun K hK => ?r5) (fun w => ?e5) ?h5
      case r5 => go_simp; exact hK
      case e5 => simp [go_sem, *]
      exact hnext _ _ _ ⟨hk, v, hv' 5 (by omega), hs.put (i := 5) (by omega) (fun h => by omega) rfl⟩
    · have ho' := Option.some.inj ho
      subst ho'
      have d5 : L 5 = true := hdep { on := 5, ground := Ground.data } (by simp) rfl
      have e5 : a'.tmps[22]? = some _ := hs.vals 5 (by omega) d5
      simp only [val3] at e5
      have d4 : L 4 = true := hdep { on := 4, ground := Ground.data } (by simp) rfl
      have e4 : a'.tmps[21]? = some _ := hs.vals 4 (by omega) d4
      simp only [val3] at e4
      refine ko_pure C (v := ?v6) ho (by rfl) (fun w => run_eq_of fun K hK => ?r6) (fun w => ?e6) ?h6
      case r6 => have hb1 : y.toNat < 4 := (by omega); go_simp; exact hK
      case e6 => simp [go_sem, e5, e4, events_indexAt_array Tryz.underlying121 _ _ y ⟨(by omega), (by omega)⟩]
      exact hnext _ _ _ ⟨hk, v, hv' 6 (by omega), hs.put (i := 6) (by omega) (fun h => by omega) rfl⟩
    · have ho' := Option.some.inj ho
      subst ho'
      have d6 : L 6 = true := hdep { on := 6, ground := Ground.data } (by simp) rfl
      have e6 : a'.tmps[23]? = some _ := hs.vals 6 (by omega) d6
      simp only [val3] at e6
      refine ko_see C hp (v := ?v7) ho (by rfl) (fun w₁ h₁ => ⟨run_eq_of fun K hK => ?r7, ?e7⟩) ?h7
      case r7 => have hc := ((hk.sees hub).rely h₁).2; have hd := ((hk.sees hlb).rely h₁).2; go_simp; exact hK
      case e7 =>
        have hc := ((hk.sees hub).rely h₁).2
        have hd := ((hk.sees hlb).rely h₁).2
        intro e he
        simp [go_sem, *] at he
        rcases he with rfl | rfl
        · exact ((hk.sees hub).rely h₁).evo
        · exact ((hk.sees hlb).rely h₁).evo
      exact hnext _ _ _ ⟨hk, v, hv' 7 (by omega), hs.put (i := 7) (by omega) (fun h => by omega) rfl⟩
    · have ho' := Option.some.inj ho
      subst ho'
      have f1 : a'.tmps[1]? = some _ := (hs.old 1 (by omega)).trans t1
      refine ko_pure C (v := ?v8) ho (by rfl) (fun w => run_eq_of fun K hK => ?r8) (fun w => ?e8) ?h8
      case r8 => go_simp; exact hK
      case e8 => simp [go_sem, *]
      exact hnext _ _ _ ⟨hk, v, hv' 8 (by omega), hs.put (i := 8) (by omega) (fun h => by omega) rfl⟩
    · have ho' := Option.some.inj ho
      subst ho'
      have d8 : L 8 = true := hdep { on := 8, ground := Ground.data } (by simp) rfl
      have e8 : a'.tmps[25]? = some _ := hs.vals 8 (by omega) d8
      simp only [val3] at e8
      refine ko_pure C (v := ?v9) ho (by rfl) (fun w => run_eq_of fun K hK => ?r9) (fun w => ?e9) ?h9
      case r9 => go_simp; exact hK
      case e9 => simp [go_sem, *]
      exact hnext _ _ _ ⟨hk, v, hv' 9 (by omega), hs.put (i := 9) (by omega) (fun h => by omega) rfl⟩
    · have ho' := Option.some.inj ho
      subst ho'
      have d9 : L 9 = true := hdep { on := 9, ground := Ground.data } (by simp) rfl
      have e9 : a'.tmps[26]? = some _ := hs.vals 9 (by omega) d9
      simp only [val3] at e9
      refine ko_see C hp (v := ?v10) ho (by rfl) (fun w₁ h₁ => ⟨run_eq_of fun K hK => ?r10, ?e10⟩) ?h10
      case r10 => have hc := ((hk.sees (ha.wear)).rely h₁).2; go_simp; exact hK
      case e10 => have hc := ((hk.sees (ha.wear)).rely h₁).2; intro e he; simp [go_sem, *] at he; subst he; exact ((hk.sees (ha.wear)).rely h₁).evo
      exact hnext _ _ _ ⟨hk, v, hv' 10 (by omega), hs.put (i := 10) (by omega) (fun h => by omega) rfl⟩
    · have ho' := Option.some.inj ho
      subst ho'
      have f0 : a'.tmps[0]? = some _ := (hs.old 0 (by omega)).trans t0
      refine ko_pure C (v := ?v11) ho (by rfl) (fun w => run_eq_of fun K hK => ?r11) (fun w => ?e11) ?h11
      case r11 => go_simp; exact hK
      case e11 => simp [go_sem, *]
      exact hnext _ _ _ ⟨hk, v, hv' 11 (by omega), hs.put (i := 11) (by omega) (fun h => by omega) rfl⟩
    · have ho' := Option.some.inj ho
      subst ho'
      have d11 : L 11 = true := hdep { on := 11, ground := Ground.data } (by simp) rfl
      have e11 : a'.tmps[28]? = some _ := hs.vals 11 (by omega) d11
      simp only [val3] at e11
      refine ko_pure C (v := ?v12) ho (by rfl) (fun w => run_eq_of fun K hK => ?r12) (fun w => ?e12) ?h12
      case r12 => go_simp; exact hK
      case e12 => simp [go_sem, *]
      exact hnext _ _ _ ⟨hk, v, hv' 12 (by omega), hs.put (i := 12) (by omega) (fun h => by omega) rfl⟩
    · have ho' := Option.some.inj ho
      subst ho'
      have d12 : L 12 = true := hdep { on := 12, ground := Ground.data } (by simp) rfl
      have e12 : a'.tmps[29]? = some _ := hs.vals 12 (by omega) d12
      simp only [val3] at e12
      refine ko_see C hp (v := ?v13) ho (by rfl) (fun w₁ h₁ => ⟨run_eq_of fun K hK => ?r13, ?e13⟩) ?h13
      case r13 => have hc := ((hk.sees (hb.wear)).rely h₁).2; go_simp; exact hK
      case e13 => have hc := ((hk.sees (hb.wear)).rely h₁).2; intro e he; simp [go_sem, *] at he; subst he; exact ((hk.sees (hb.wear)).rely h₁).evo
      exact hnext _ _ _ ⟨hk, v, hv' 13 (by omega), hs.put (i := 13) (by omega) (fun h => by omega) rfl⟩
    · have ho' := Option.some.inj ho
      subst ho'
      have d10 : L 10 = true := hdep { on := 10, ground := Ground.data } (by simp) rfl
      have e10 : a'.tmps[27]? = some _ := hs.vals 10 (by omega) d10
      simp only [val3] at e10
      have d13 : L 13 = true := hdep { on := 13, ground := Ground.data } (by simp) rfl
      have e13 : a'.tmps[30]? = some _ := hs.vals 13 (by omega) d13
      simp only [val3] at e13
      refine ko_pure C (v := ?v14) ho (by rfl) (fun w => run_eq_of fun K hK => ?r14) (fun w => ?e14) ?h14
      case r14 => go_simp; exact hK
      case e14 => simp [go_sem, *]
      exact hnext _ _ _ ⟨hk, v, hv' 14 (by omega), hs.put (i := 14) (by omega) (fun h => by omega) rfl⟩
    · have ho' := Option.some.inj ho
      subst ho'
      have d3 : L 3 = true := hdep { on := 3, ground := Ground.data } (by simp) rfl
      have e3 : a'.tmps[20]? = some _ := hs.vals 3 (by omega) d3
      simp only [val3] at e3
      have d7 : L 7 = true := hdep { on := 7, ground := Ground.data } (by simp) rfl
      have e7 : a'.tmps[24]? = some _ := hs.vals 7 (by omega) d7
      simp only [val3] at e7
      have d14 : L 14 = true := hdep { on := 14, ground := Ground.data } (by simp) rfl
      have e14 : a'.tmps[31]? = some _ := hs.vals 14 (by omega) d14
      simp only [val3] at e14
      refine ko_call C ho (by rfl) rfl (Post := fun γ'' v w'' => γ''.1 = p ∧ OwnV γ''.2 w'' w'.heap.size 3 1 v (seamsXY da db x y).length (ivs (seamsXY da db x y)) ∧ Kept γ' w' γ''.2 w'') ?_ ?_
      · simp only [List.map_toArray, List.map_cons, List.map_nil, Act.eval, Array.getD_eq_getD_getElem?, e3, e7, e14, Option.getD_some]
        exact shifts_k C hp _ (hk.ils hlo) (hk.ils hup) (hda.lo _) (hdb.up _)
      rintro ⟨p', γ4⟩ v4 w4 ⟨hp4, hown4, hk4⟩
      simp only at hp4 hk4 hown4
      subst p'
      exact hnext _ _ _ ⟨hk.trans hk4, v4, fun _ => hown4.more hk.size, (hs.val hL (fun j hj => by match j, hj with | 15, hj => exact absurd rfl hj | 0, _ | 1, _ | 2, _ | 3, _ | 4, _ | 5, _ | 6, _ | 7, _ | 8, _ | 9, _ | 10, _ | 11, _ | 12, _ | 13, _ | 14, _ | 16, _ | 17, _ | _ + 18, _ => rfl)).put (i := 15) (by omega) (fun h => by omega) rfl⟩
    · have ho' := Option.some.inj ho
      subst ho'
      have d15 : L 15 = true := hdep { on := 15, ground := Ground.data } (by simp) rfl
      have e15 : a'.tmps[32]? = some _ := hs.vals 15 (by omega) d15
      simp only [val3] at e15
      have hown := hv d15
      obtain ⟨A, cap, rfl, -⟩ := hown.ils
      refine ko_pure C (v := ?v16) ho (by rfl) (fun w => run_eq_of fun K hK => ?r16) (fun w => ?e16) ?h16
      case r16 => go_simp; exact hK
      case e16 => simp [go_sem, *]
      exact hnext _ _ _ ⟨hk, _, hv' 16 (by omega), hs.put (i := 16) (by omega) (fun _ => d15) rfl⟩
    · have ho' := Option.some.inj ho
      subst ho'
      refine ko_pure C (v := ?v17) ho (by rfl) (fun w => run_eq_of fun K hK => ?r17) (fun w => ?e17) ?h17
      case r17 => go_simp; exact hK
      case e17 => simp [go_sem, *]
      exact hnext _ _ _ ⟨hk, v, hv' 17 (by omega), hs.put (i := 17) (by omega) (fun h => by omega) rfl⟩
  · obtain ⟨hk, v, hv, hs⟩ := hJ
    have hA : ∀ i, i < 18 → L i = true := fun i hi => hall i hi
    have h15 := hs.vals 15 (by omega) (hA 15 (by omega))
    have h16 := hs.vals 16 (by omega) (hA 16 (by omega))
    have h17 := hs.vals 17 (by omega) (hA 17 (by omega))
    exact hQ v γ' a' w' hs.defers hs.size hs.old h15 h16 h17 (hv (hA 15 (by omega))) hk
end Go.Co
end
section
namespace Go.Co
open Go Go.Conc Go.Proofs
variable {Final : Machine → Trace → Prop} {γ : So} {w : World}
theorem raw_see {P : Program} {main : Bool} {K : Gm → Goroutine → World → Prop} {p : Pc} {a : Act} {ops : Array Oper} {i : Nat} {rest : List Nat} {o : Oper} (C : KC P main K RlG StG) (hp : p ≠ .ret) {v : Value} {b : Frame} {k : List Item} {cs : List Frame} (ho : ops[i]? = some o) (hw : Region.wanted o (yielded ops a.tmps) = true) (hk : b.kind ≠ .early)
    (hrun : ∀ w₁, RlS γ w w₁ → (execOp a.eval o).run P w₁ = .ok (.value v) w₁ ∧ ∀ e ∈ (execOp a.eval o).events P w₁ #[], Evo γ.1 γ.2 e) (h : K (p, γ) (G (b.at (a.put o.dst v) (.inRegion ops rest :: k)) cs) w) : K (p, γ) (G (b.at a (.inRegion ops (i :: rest) :: k)) cs) w :=
  C.step _ _ _ _ fun w₁ r => ⟨_, _, _, _, (p, γ), stepG_value ho hw hk (hrun w₁ (rlg hp r)).1, stg hp ⟨rfl, sto_read fun e he => (hrun w₁ (rlg hp r)).2 e (mem_listed he)⟩, C.rely _ _ _ _ r h⟩
theorem info71 : (Tryz.prog.info? 79).map (fun i => (i.zero, i.size, i.bytes)) = some (some (.agg #[.int .i64 0, .int .i64 0, .int .i64 0]), 3, 24) := by kernel_rfl
theorem run_build71 (w : World) (x y s : Int) : (Instr.build 79 #[(0, .int .i64 x), (1, .int .i64 y), (2, .int .i64 s)]).run Tryz.prog w = .ok (.agg #[.int .i64 x, .int .i64 y, .int .i64 s]) w :=
  run_build w 79 _ _ (by kernel_rfl)
theorem events_build71 (w : World) (es : Array Event) (x y s : Int) : (Instr.build 79 #[(0, .int .i64 x), (1, .int .i64 y), (2, .int .i64 s)]).events Tryz.prog w es = es := by
  obtain ⟨i0, hi, hz0, hz1, hz2⟩ := info_parts info71
  obtain ⟨i3, hi3, hy0, hy1, hy2⟩ := info_parts info3
  simp [Instr.build, run_underlying Tryz.underlying79, sizeOf, typeInfo, zeroValue, hi, hz0, hi3, hy1]
  split <;> simp
noncomputable def body84 : Code := Tryz.f100.body.getD .skip
noncomputable def X84 : Code := match body84 with | .seq x _ => x | _ => .skip
noncomputable def R84_9 : Code := match body84 with | .seq _ r => r | _ => .skip
theorem msgs_cons (a b : Wk) (x y : Int) (ys : List Int) : msgs a b x (y :: ys) = (seamsXY a b x y).map (seamV x y) ++ msgs a b x ys := by simp [msgs]
def EndW (cf cl bl : Nat) (tv : Value) (γ' : Gm) (e : Exit) (a' : Act) (w' : World) : Prop := e = .normal ∧ γ'.1 = wk cf cl tv [] ∧ Sees γ'.2 w' ⟨bl, 0, none⟩ (.chan (some cl)) ∧ a'.defers = [] ∧ a'.tmps.size = 46 ∧ a'.tmps[4]? = some (.pointer (some ⟨bl, 0, none⟩))
theorem fr84i_of {bb ba bx bf bl : Nat} {vl : Value} {nl k : Nat} {y : Int} {v : Value} {m : Nat} {a : Act} (hd : a.defers = []) (hsz : a.tmps.size = 46) (t0 : a.tmps[0]? = some (.pointer (some ⟨bb, 0, none⟩))) (t1 : a.tmps[1]? = some (.pointer (some ⟨ba, 0, none⟩))) (t2 : a.tmps[2]? = some (.pointer (some ⟨bx, 0, none⟩))) (t3 : a.tmps[3]? = some (.pointer (some ⟨bf, 0, none⟩))) (t4 : a.tmps[4]? = some (.pointer (some ⟨bl, 0, none⟩)))
    (t6 : a.tmps[6]? = some (.int .i64 y)) (t11 : a.tmps[11]? = some vl) (t12 : a.tmps[12]? = some (.int .i64 nl)) (t13 : a.tmps[13]? = some (.int .i64 k)) (t32 : a.tmps[32]? = some v) (t33 : a.tmps[33]? = some (.int .i64 m)) (t34 : a.tmps[34]? = some (.int .i64 0)) : ∃ u, a = fr84i bb ba bx bf bl vl nl k y v m 0 u := by
  obtain ⟨T, df⟩ := a
  simp only at hd hsz
  subst hd
  obtain ⟨v0, v1, v2, v3, v4, v5, v6, v7, v8, v9, v10, v11, v12, v13, v14, v15, v16, v17, v18, v19, v20, v21, v22, v23, v24, v25, v26, v27, v28, v29, v30, v31, v32, v33, v34, v35, v36, v37, v38, v39, v40, v41, v42, v43, v44, v45, rfl⟩ := array46 T hsz
  simp at t0 t1 t2 t3 t4 t6 t11 t12 t13 t32 t33 t34
  subst t0 t1 t2 t3 t4 t6 t11 t12 t13 t32 t33 t34
  exact ex_u rfl
set_option maxRecDepth 100000 in
set_option maxHeartbeats 2000000 in
theorem worker_main (hP : Plain Tryz.prog) {bb ba bx bf bl cf cl : Nat} {tv : Value} {da db : Wk} {x : Int} (hda : da.ok) (hdb : db.ok) (hx0 : 0 ≤ x) (hx3 : x < 4)
    (ha : WorkAt γ w ba da) (hb : WorkAt γ w bb db) (hx : Sees γ w ⟨bx, 0, none⟩ (.int .i64 x)) (hf : Sees γ w ⟨bf, 0, none⟩ (.chan (some cf))) (hl : Sees γ w ⟨bl, 0, none⟩ (.chan (some cl))) :
    KJ (KG Tryz.prog Final false) 100 (wk cf cl tv (msgs da db x db.lies), γ) X84 (EndW cf cl bl tv)
      ⟨#[.pointer (some ⟨bb, 0, none⟩), .pointer (some ⟨ba, 0, none⟩), .pointer (some ⟨bx, 0, none⟩), .pointer (some ⟨bf, 0, none⟩), .pointer (some ⟨bl, 0, none⟩), undef, undef, undef, undef, undef, undef, undef, undef, undef, undef, undef, undef, undef, undef, undef, undef, undef, undef, undef, undef, undef, undef, undef, undef, undef, undef, undef, undef, undef, undef, undef, undef, undef, undef, undef, undef, undef, undef, undef, undef, undef], []⟩ w := by
  have C := kc_pr (Final := Final) (main := false) hP
  have hp : ∀ vs, wk cf cl tv vs ≠ .ret := fun vs => (wk_ne vs).1
  obtain ⟨vl, hvl, A, cap, rfl, hA⟩ := hb.lies
  have hfew := hdb.few
  refine kj_seq C (kj_ra C ?_)
  refine ko_pa C ?_
  try walk_nrm
  refine ko_pa C ?_
  try walk_nrm
  refine ko_sa C (hp _) hvl ?_
  try walk_nrm
  refine ko_pa C ?_
  try walk_nrm
  refine ko_pa C ?_
  try walk_nrm
  refine ko_nil C ?_
  co_then
  refine kj_block C ?_
  refine kj_loopN C (fun n γ' a w' => ∃ γ3 k, γ' = (wk cf cl tv (msgs da db x (db.lies.drop k)), γ3) ∧ Kept γ w γ3 w' ∧ k ≤ db.lies.length ∧ n = db.lies.length - k ∧ ∃ u, a = fr84o bb ba bx bf bl (.slice A db.lies.length cap) db.lies.length k u) (n := db.lies.length) ⟨γ, 0, rfl, Kept.refl _ _, by omega, by omega, ex_u rfl⟩ ?_
  rintro n γ' a w' ⟨γ3, k, hγ, hk3, hk, hn, u, ha0⟩
  subst hγ
  unfold fr84o at ha0
  subst ha0
  refine kj_seq C (kj_ra C ?_)
  by_cases hlt : k < db.lies.length
  · have hd1 : decide ((k : Int) < (db.lies.length : Int)) = true := by simpa using hlt
    obtain ⟨y, hy⟩ : ∃ y, db.lies[k]? = some y := ⟨_, List.getElem?_eq_getElem hlt⟩
    obtain ⟨ad, hAe, hsA⟩ := hA k y hy
    subst hAe
    have hyb := hdb.lies k y hy
    have hdrop : db.lies.drop k = y :: db.lies.drop (k + 1) := by
      rw [List.drop_eq_getElem_cons hlt]
      congr 1
      exact Option.some.inj ((List.getElem?_eq_getElem hlt).symm.trans hy)
    have hs3 := hk3.sees hsA
    have hw5 : IntKind.i64.wrap ((k : Int) + 1) = (k : Int) + 1 := by rw [wr64] <;> omega
    refine ko_pa C ?_
    try walk_nrm
    refine ko_nil C ?_
    co_then
    refine kj_seq C (kj_cond C (t := true) rfl ?_)
    simp only [if_true]
    refine kj_skip C ?_
    co_then
    refine kj_seq C (kj_block C (kj_seq C (kj_ra C ?_)))
    refine ko_pa C ?_
    try walk_nrm
    refine ko_sa C (hp _) hs3 ?_
    try walk_nrm
    refine ko_pa C ?_
    try walk_nrm
    refine ko_nil C ?_
    co_then
    rw [hdrop, msgs_cons]
    clear hs3 hA
    refine kj_seq C (region3 C (hp _) (ha.kept hk3) (hb.kept hk3) (hk3.sees hx) hx0 hx3 hyb.1 (by omega) hda hdb rfl rfl rfl rfl rfl rfl ?_)
    intro v γ4 a4 w4 hd4 hsz4 hold h32 h33 h34 hown hk4
    co_then
    obtain ⟨A2, cap2, rfl, hA2⟩ := hown.ils
    obtain ⟨u4, ha4⟩ := fr84i_of (bb := bb) (ba := ba) (bx := bx) (bf := bf) (bl := bl) (vl := .slice (some ad) db.lies.length cap) (nl := db.lies.length) (k := k) hd4 hsz4 (hold 0 (by omega)) (hold 1 (by omega)) (hold 2 (by omega)) (hold 3 (by omega)) (hold 4 (by omega)) (hold 6 (by omega)) (hold 11 (by omega)) (hold 12 (by omega)) (hold 13 (by omega)) h32 h33 h34
    clear hold h32 h33 h34 hd4 hsz4 hown
    have hk4' := hk3.trans hk4
    generalize hl0 : seamsXY da db x y = l at *
    refine kj_block C ?_
    refine kj_loopN C (fun n γ' a w' => ∃ γ5 j, γ' = (wk cf cl tv ((l.drop j).map (seamV x y) ++ msgs da db x (db.lies.drop (k + 1))), γ5) ∧ Kept γ4 w4 γ5 w' ∧ j ≤ l.length ∧ n = l.length - j ∧ ∃ u, a = fr84i bb ba bx bf bl (.slice (some ad) db.lies.length cap) db.lies.length k y (.slice A2 l.length cap2) l.length j u) (n := l.length) ⟨γ4, 0, rfl, Kept.refl _ _, by omega, by omega, u4, ha4⟩ ?_
    clear ha4 hk3
    rintro n2 γ' a w6 ⟨γ5, j, hγ, hk5, hj, hn2, u, ha5⟩
    subst hγ
    unfold fr84i at ha5
    subst ha5
    have hk6 := hk4'.trans hk5
    refine kj_seq C (kj_ra C ?_)
    by_cases hltj : j < l.length
    · have hd2 : decide ((j : Int) < (l.length : Int)) = true := by simpa using hltj
      obtain ⟨s, hs⟩ : ∃ s, l[j]? = some s := ⟨_, List.getElem?_eq_getElem hltj⟩
      obtain ⟨ad2, hAe2, hsA2⟩ := hA2 j s hs
      subst hAe2
      have hdrop2 : l.drop j = s :: l.drop (j + 1) := by
        rw [List.drop_eq_getElem_cons hltj]
        congr 1
        exact Option.some.inj ((List.getElem?_eq_getElem hltj).symm.trans hs)
      have hs5 := hk5.sees hsA2
      have hf5 := hk6.sees hf
      have hx5 := hk6.sees hx
      have hw6 : IntKind.i64.wrap ((j : Int) + 1) = (j : Int) + 1 := by
        have h1 := (hdb.up y.toNat).1
        have h2 := (hda.lo x.toNat).1
        have h3 : l.length ≤ 2001 := by
          rw [← hl0]
          exact Nat.le_trans (shN_len _ _ _ _) (by omega)
        rw [wr64] <;> omega
      refine ko_pa C ?_
      try walk_nrm
      refine ko_nil C ?_
      co_then
      refine kj_seq C (kj_cond C (t := true) rfl ?_)
      simp only [if_true]
      refine kj_skip C ?_
      co_then
      refine kj_seq C (kj_block C (kj_seq C (kj_ra C ?_)))
      refine ko_pa C ?_
      try walk_nrm
      refine ko_sa C (hp _) hs5 ?_
      try walk_nrm
      refine ko_pa C ?_
      try walk_nrm
      refine ko_nil C ?_
      co_then
      refine kj_ra C ?_
      refine ko_sa C (hp _) hf5 ?_
      try walk_nrm
      refine ko_sa C (hp _) hx5 ?_
      try walk_nrm
      refine ko_pa C ?_
      try walk_nrm
      refine ko_pa C ?_
      try walk_nrm
      have hbr := fun w => run_build71 w x y s
      have hbe := fun w => events_build71 w #[] x y s
      refine ko_pure C (v := ?v18) rfl (by rfl) (fun w => run_eq_of fun K hK => ?r18) (fun w => ?e18) ?h18
      case r18 => go_simp; exact hK
      case e18 => simp [go_sem, hbe]
      try walk_nrm
      clear hbr hbe
      rw [hdrop2]
      show KO _ _ (Pc.send cf (seamV x y s) (wk cf cl tv ((l.drop (j + 1)).map (seamV x y) ++ msgs da db x (db.lies.drop (k + 1)))), γ5) _ _ _ _ _
      refine ko_send rfl (by rfl) rfl rfl rfl (wk_ne _).2 (hp _) (fun w7 r7 => ?_)
      have hk7 := hk5.trans (Kept.rely r7)
      clear hs5 hf5 hx5 hk6 hk5
      try walk_nrm
      refine ko_nil C ?_
      co_then
      refine kj_ra C ?_
      refine ko_pa C ?_
      try walk_nrm
      refine ko_pa C ?_
      try walk_nrm
      refine ko_nil C (then_normal ?_)
      exact ⟨l.length - (j + 1), by omega, γ5, j + 1, rfl, hk7, by omega, rfl, ex_u rfl⟩
    · have hje : j = l.length := by omega
      subst hje
      have hd2 : decide ((l.length : Int) < (l.length : Int)) = false := by simp
      simp only [List.drop_length, List.map_nil, List.nil_append]
      refine ko_pa C ?_
      try walk_nrm
      refine ko_nil C ?_
      co_then
      refine kj_seq C (kj_cond C (t := false) rfl ?_)
      simp only [Bool.false_eq_true, if_false]
      refine kj_exit C ?_
      co_then
      refine kj_ra C ?_
      refine ko_pa C ?_
      try walk_nrm
      refine ko_pa C ?_
      try walk_nrm
      refine ko_nil C (then_normal ?_)
      exact ⟨db.lies.length - (k + 1), by omega, γ5, k + 1, rfl, hk6, by omega, rfl, ex_u rfl⟩
  · have hke : k = db.lies.length := by omega
    subst hke
    have hd1 : decide ((db.lies.length : Int) < (db.lies.length : Int)) = false := by simp
    simp only [List.drop_length]
    refine ko_pa C ?_
    try walk_nrm
    refine ko_nil C ?_
    co_then
    refine kj_seq C (kj_cond C (t := false) rfl ?_)
    simp only [Bool.false_eq_true, if_false]
    refine kj_exit C ?_
    co_then
    exact ⟨rfl, rfl, hk3.sees hl, rfl, rfl, rfl⟩
noncomputable def bot : Frame := { (default : Frame) with fn := Tryz.prog.funcs.size, defers := [], mode := .panicking [goexitEntry] }
def b84 : Frame := { (default : Frame) with fn := 100, kind := .deferred }
def call84 (bb ba bx bf bl : Nat) : Deferred := { target := .fn (.func 100) #[.pointer (some ⟨bb, 0, none⟩), .pointer (some ⟨ba, 0, none⟩), .pointer (some ⟨bx, 0, none⟩), .pointer (some ⟨bf, 0, none⟩), .pointer (some ⟨bl, 0, none⟩)], args := #[] }
theorem quits84 (a : Act) (hd : a.defers = []) (ops : Array Oper) : QuitsIn Tryz.prog 4 (G (b84.at a [.inRegion ops []]) [bot]) := by
  obtain ⟨T, df⟩ := a
  simp only at hd
  subst hd
  refine .inr ⟨rfl, _, fun w => stepG_region_end, ?_⟩
  refine .inr ⟨rfl, _, fun w => stepG_end, ?_⟩
  refine .inr ⟨rfl, G bot [], fun w => ?_, ?_⟩
  · simp [G, stepG, unwind, doReturn, results, Frame.at, b84, bot, Tryz.func100, Tryz.f100, seen, GStep.after, goexitEntry]
  refine .inr ⟨rfl, { G bot [] with status := .finished }, fun w => ?_, rfl⟩
  simp [G, stepG, unwind, bot, goexitEntry, Frame.catches]
  rfl
theorem born84 (bb ba bx bf bl : Nat) (w : World) : stepG Tryz.prog false (born Tryz.prog (call84 bb ba bx bf bl)) w =
    .go (G (b84.at ⟨#[.pointer (some ⟨bb, 0, none⟩), .pointer (some ⟨ba, 0, none⟩), .pointer (some ⟨bx, 0, none⟩), .pointer (some ⟨bf, 0, none⟩), .pointer (some ⟨bl, 0, none⟩), undef, undef, undef, undef, undef, undef, undef, undef, undef, undef, undef, undef, undef, undef, undef, undef, undef, undef, undef, undef, undef, undef, undef, undef, undef, undef, undef, undef, undef, undef, undef, undef, undef, undef, undef, undef, undef, undef, undef, undef, undef], []⟩ [.code body84]) [bot]) w #[] := by
  simp [born, call84, stepG, unwind, callDeferred, invoke, callFunc, Tryz.func100, Tryz.f100, seen, GStep.after, G, Frame.enter, Frame.at, b84, bot, body84]
set_option maxRecDepth 100000 in
theorem worker_pr (hP : Plain Tryz.prog) {bb ba bx bf bl cf cl : Nat} {da db : Wk} {x : Int} (hda : da.ok) (hdb : db.ok) (hx0 : 0 ≤ x) (hx3 : x < 4)
    (ha : WorkAt γ w ba da) (hb : WorkAt γ w bb db) (hx : Sees γ w ⟨bx, 0, none⟩ (.int .i64 x)) (hf : Sees γ w ⟨bf, 0, none⟩ (.chan (some cf))) (hl : Sees γ w ⟨bl, 0, none⟩ (.chan (some cl))) :
    Pr Tryz.prog Final false (wk cf cl (.bool true) (msgs da db x db.lies)) γ (born Tryz.prog (call84 bb ba bx bf bl)) w := by
  have C := kc_pr (Final := Final) (main := false) hP
  have hne := wk_ne (cf := cf) (cl := cl) (tv := .bool true) (msgs da db x db.lies)
  suffices h : KG Tryz.prog Final false (wk cf cl (.bool true) (msgs da db x db.lies), γ) (born Tryz.prog (call84 bb ba bx bf bl)) w from h (fun _ => hne.1) hne.2
  refine C.go (fr := (born Tryz.prog (call84 bb ba bx bf bl)).frame) (cs := []) (fun w => born84 bb ba bx bf bl w) ?_
  show KG Tryz.prog Final false _ (G (b84.at _ (.code (.seq X84 R84_9) :: [])) [bot]) w
  refine C.go (fun w => stepG_seq) ?_
  refine worker_main hP hda hdb hx0 hx3 ha hb hx hf hl b84 [.code R84_9] [bot] rfl (by simp [b84]) ?_
  rintro ⟨p', γ'⟩ e a' w' ⟨rfl, hp', hl', hd', hsz', ht4⟩
  simp only at hp' hl'
  subst hp'
  show KG Tryz.prog Final false _ (G (b84.at a' (.code (.region _ _ false) :: [])) [bot]) w'
  refine C.go (fun w => stepG_region) ?_
  refine raw_see C (wk_ne _).1 (v := .chan (some cl)) rfl (by rfl) (by simp [b84]) (fun w₁ h₁ => ⟨run_eq_of fun K hK => ?_, ?_⟩) ?_
  · have hc := (hl'.rely h₁).2
    clear hsz'
    go_simp
    exact hK
  · have hc := (hl'.rely h₁).2
    intro e he
    simp [go_sem, hc, ht4] at he
    subst he
    exact (hl'.rely h₁).evo
  · refine ko_send_last rfl (by rfl) rfl ?_ rfl (by simp [b84]) ⟨4, QuitsD.of_quitsIn (quits84 _ (by exact hd') _)⟩
    simp [Act.eval, Act.put, hsz']
end Go.Co
end
section
namespace Go.Co
open Go Go.Conc Go.Proofs
variable {Final : Machine → Trace → Prop} {γ : So} {w : World}
theorem clo_ne {cf cl : Nat} {z2 : Value} {ok2 : Bool} (k : Nat) : clo cf cl z2 ok2 k ≠ .ret ∧ clo cf cl z2 ok2 k ≠ .stop := by cases k <;> simp [clo]
theorem ko_bad {P : Program} {main : Bool} {fn : FuncId} {ops : Array Oper} {todo : List Nat} {Q : Gm → Exit → Act → World → Prop} {a : Act} : KO (KG P Final main) fn (.bad, γ) ops todo Q a w := fun _ _ _ _ _ _ _ _ => trivial
theorem info4 : (Tryz.prog.info? 4).map (fun i => (i.zero, i.size, i.bytes)) = some (some (.bool false), 1, 1) := by kernel_rfl
theorem loud (f : FuncId) : (Tryz.prog.funcs[f]?).any (·.norace) = false := by
  have h : Tryz.prog.funcs.all (fun f => !f.norace) = true := by kernel_rfl
  cases hf : Tryz.prog.funcs[f]? with
  | none => rfl
  | some fn => grind
noncomputable def body85 : Code := Tryz.f101.body.getD .skip
noncomputable def X85 : Code := match body85 with | .seq x _ => x | _ => .skip
noncomputable def R85_4 : Code := match body85 with | .seq _ r => r | _ => .skip
def fr85 (ba bl bf : Nat) (vl : Value) (nl k : Nat) (u : Nat → Value) : Act :=
  ⟨#[.pointer (some ⟨ba, 0, none⟩), .pointer (some ⟨bl, 0, none⟩), .pointer (some ⟨bf, 0, none⟩), u 3, u 4, vl, .int .i64 nl, .int .i64 k, u 8, u 9, u 10, u 11, u 12], []⟩
def EndC (cf cl bf : Nat) (z2 : Value) (γ' : Gm) (e : Exit) (a' : Act) (w' : World) : Prop := e = .normal ∧ γ'.1 = clo cf cl z2 false 0 ∧ Sees γ'.2 w' ⟨bf, 0, none⟩ (.chan (some cf)) ∧ a'.defers = [] ∧ a'.tmps.size = 13 ∧ a'.tmps[2]? = some (.pointer (some ⟨bf, 0, none⟩))
set_option maxRecDepth 100000 in
set_option maxHeartbeats 1000000 in
theorem closer_main (hP : Plain Tryz.prog) {ba bl bf cf cl : Nat} {da : Wk} (hda : da.ok)
    (ha : WorkAt γ w ba da) (hf : Sees γ w ⟨bf, 0, none⟩ (.chan (some cf))) (hl : Sees γ w ⟨bl, 0, none⟩ (.chan (some cl))) :
    KJ (KG Tryz.prog Final false) 101 (clo cf cl (.bool false) false da.lies.length, γ) X85 (EndC cf cl bf (.bool false))
      ⟨#[.pointer (some ⟨ba, 0, none⟩), .pointer (some ⟨bl, 0, none⟩), .pointer (some ⟨bf, 0, none⟩), undef, undef, undef, undef, undef, undef, undef, undef, undef, undef], []⟩ w := by
  have C := kc_pr (Final := Final) (main := false) hP
  have hp : ∀ k, clo cf cl (.bool false) false k ≠ .ret := fun k => (clo_ne k).1
  obtain ⟨vl, hvl, A, cap, rfl, -⟩ := ha.lies
  have hfew := hda.few
  obtain ⟨i4, hi4, hy0, hy1, hy2⟩ := info_parts info4
  refine kj_seq C (kj_ra C ?_)
  refine ko_pa C ?_
  try walk_nrm
  refine ko_pa C ?_
  try walk_nrm
  refine ko_sa C (hp _) hvl ?_
  try walk_nrm
  refine ko_pa C ?_
  try walk_nrm
  refine ko_pa C ?_
  try walk_nrm
  refine ko_nil C ?_
  co_then
  refine kj_block C ?_
  refine kj_loopN C (fun n γ' a w' => ∃ γ3 k, γ' = (clo cf cl (.bool false) false (da.lies.length - k), γ3) ∧ Kept γ w γ3 w' ∧ k ≤ da.lies.length ∧ n = da.lies.length - k ∧ ∃ u, a = fr85 ba bl bf (.slice A da.lies.length cap) da.lies.length k u) (n := da.lies.length) ⟨γ, 0, rfl, Kept.refl _ _, by omega, by omega, ex_u rfl⟩ ?_
  rintro n γ' a w' ⟨γ3, k, hγ, hk3, hk, hn, u, ha0⟩
  subst hγ
  unfold fr85 at ha0
  subst ha0
  refine kj_seq C (kj_ra C ?_)
  by_cases hlt : k < da.lies.length
  · have hd1 : decide ((k : Int) < (da.lies.length : Int)) = true := by simpa using hlt
    have hl3 := hk3.sees hl
    have hw5 : IntKind.i64.wrap ((k : Int) + 1) = (k : Int) + 1 := by rw [wr64] <;> omega
    refine ko_pa C ?_
    try walk_nrm
    refine ko_nil C ?_
    co_then
    refine kj_seq C (kj_cond C (t := true) rfl ?_)
    simp only [if_true]
    refine kj_skip C ?_
    co_then
    refine kj_seq C (kj_block C (kj_ra C ?_))
    refine ko_sa C (hp _) hl3 ?_
    try walk_nrm
    have hm : da.lies.length - k = (da.lies.length - (k + 1)) + 1 := by omega
    rw [hm]
    show KO _ _ (Pc.recv cl false (.bool false) (fun x => match x with | some _ => clo cf cl (.bool false) false (da.lies.length - (k + 1)) | none => .bad), γ3) _ _ _ _ _
    refine ko_recv rfl (by rfl) (fun w => ?_) (fun w => ?_) (fun x => ?_) (fun _ x => ?_) (fun x w7 r7 => ?_)
    · simp [execOp, Act.eval, run_underlying Tryz.underlying171, zeroValue, typeInfo, hi4, hy0, rcase]
    · simp [execOp, Act.eval, run_underlying Tryz.underlying171, zeroValue, typeInfo, hi4, hy0]
    · cases x with
      | none => simp
      | some v => exact (clo_ne _).2
    · grind
    cases x with
    | none => exact ko_bad
    | some v =>
      have hk7 := hk3.trans (Kept.rely r7)
      clear hl3 hk3
      simp only []
      try walk_nrm
      refine ko_nil C ?_
      co_then
      refine kj_ra C ?_
      refine ko_pa C ?_
      try walk_nrm
      refine ko_pa C ?_
      try walk_nrm
      refine ko_nil C (then_normal ?_)
      exact ⟨da.lies.length - (k + 1), by omega, γ3, k + 1, rfl, hk7, by omega, rfl, ex_u rfl⟩
  · have hke : k = da.lies.length := by omega
    subst hke
    have hd1 : decide ((da.lies.length : Int) < (da.lies.length : Int)) = false := by simp
    simp only [Nat.sub_self]
    refine ko_pa C ?_
    try walk_nrm
    refine ko_nil C ?_
    co_then
    refine kj_seq C (kj_cond C (t := false) rfl ?_)
    simp only [Bool.false_eq_true, if_false]
    refine kj_exit C ?_
    co_then
    exact ⟨rfl, rfl, hk3.sees hf, rfl, rfl, rfl⟩
def b85 : Frame := { (default : Frame) with fn := 101, kind := .deferred }
def call85 (ba bl bf : Nat) : Deferred := { target := .fn (.func 101) #[.pointer (some ⟨ba, 0, none⟩), .pointer (some ⟨bl, 0, none⟩), .pointer (some ⟨bf, 0, none⟩)], args := #[] }
theorem quits85 (a : Act) (hd : a.defers = []) (ops : Array Oper) : QuitsIn Tryz.prog 4 (G (b85.at a [.inRegion ops []]) [bot]) := by
  obtain ⟨T, df⟩ := a
  simp only at hd
  subst hd
  refine .inr ⟨rfl, _, fun w => stepG_region_end, ?_⟩
  refine .inr ⟨rfl, _, fun w => stepG_end, ?_⟩
  refine .inr ⟨rfl, G bot [], fun w => ?_, ?_⟩
  · simp [G, stepG, unwind, doReturn, results, Frame.at, b85, bot, Tryz.func101, Tryz.f101, seen, GStep.after, goexitEntry]
  refine .inr ⟨rfl, { G bot [] with status := .finished }, fun w => ?_, rfl⟩
  simp [G, stepG, unwind, bot, goexitEntry, Frame.catches]
  rfl
theorem born85 (ba bl bf : Nat) (w : World) : stepG Tryz.prog false (born Tryz.prog (call85 ba bl bf)) w =
    .go (G (b85.at ⟨#[.pointer (some ⟨ba, 0, none⟩), .pointer (some ⟨bl, 0, none⟩), .pointer (some ⟨bf, 0, none⟩), undef, undef, undef, undef, undef, undef, undef, undef, undef, undef], []⟩ [.code body85]) [bot]) w #[] := by
  simp [born, call85, stepG, unwind, callDeferred, invoke, callFunc, Tryz.func101, Tryz.f101, seen, GStep.after, G, Frame.enter, Frame.at, b85, bot, body85]
set_option maxRecDepth 100000 in
theorem closer_pr (hP : Plain Tryz.prog) {ba bl bf cf cl : Nat} {da : Wk} (hda : da.ok)
    (ha : WorkAt γ w ba da) (hf : Sees γ w ⟨bf, 0, none⟩ (.chan (some cf))) (hl : Sees γ w ⟨bl, 0, none⟩ (.chan (some cl))) :
    Pr Tryz.prog Final false (clo cf cl (.bool false) false da.lies.length) γ (born Tryz.prog (call85 ba bl bf)) w := by
  have C := kc_pr (Final := Final) (main := false) hP
  have hne := clo_ne (cf := cf) (cl := cl) (z2 := .bool false) (ok2 := false) da.lies.length
  suffices h : KG Tryz.prog Final false (clo cf cl (.bool false) false da.lies.length, γ) (born Tryz.prog (call85 ba bl bf)) w from h (fun _ => hne.1) hne.2
  refine C.go (fr := (born Tryz.prog (call85 ba bl bf)).frame) (cs := []) (fun w => born85 ba bl bf w) ?_
  show KG Tryz.prog Final false _ (G (b85.at _ (.code (.seq X85 R85_4) :: [])) [bot]) w
  refine C.go (fun w => stepG_seq) ?_
  refine closer_main hP hda ha hf hl b85 [.code R85_4] [bot] rfl (by simp [b85]) ?_
  rintro ⟨p', γ'⟩ e a' w' ⟨rfl, hp', hf', hd', hsz', ht2⟩
  simp only at hp' hf'
  subst hp'
  show KG Tryz.prog Final false _ (G (b85.at a' (.code (.region _ _ false) :: [])) [bot]) w'
  refine C.go (fun w => stepG_region) ?_
  refine raw_see C (clo_ne _).1 (v := .chan (some cf)) rfl (by rfl) (by simp [b85]) (fun w₁ h₁ => ⟨run_eq_of fun K hK => ?_, ?_⟩) ?_
  · have hc := (hf'.rely h₁).2
    clear hsz'
    go_simp
    exact hK
  · have hc := (hf'.rely h₁).2
    intro e he
    simp [go_sem, hc, ht2] at he
    subst he
    exact (hf'.rely h₁).evo
  · refine ko_close_last loud rfl (by rfl) rfl ?_ (by simp [b85]) ⟨4, QuitsD.of_quitsIn (quits85 _ (by exact hd') _)⟩
    simp [Act.eval, Act.put, hsz']
end Go.Co
end
