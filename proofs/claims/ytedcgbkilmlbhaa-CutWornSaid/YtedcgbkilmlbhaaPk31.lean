import Derived.Test.YtedcgbkilmlbhaaPk30
section
namespace Go.Co
open Go Go.Conc Go.Proofs
open Go.ConcN (upd upd_same upd_ne)
variable {af : Machine → Trace → Prop} {main : Bool} {K : Gm → Goroutine → World → Prop} {p : Pc} {γ : So} {w : World}
theorem events_indexAt_array {P : Program} {w : World} {es : Array Event} {t e : TypeId} {n : Nat} (h : P.underlying t = some (.array n e)) (a : Addr) (k : IntKind) (i : Int) (hi : 0 ≤ i ∧ i < n) :
  (Instr.indexAt t (.pointer (some a)) (.int k i)).events P w es = es := by
 simp only [Instr.indexAt, asIntOf, Instr.sureAddr, Sem.events_bind, Sem.run_pure, Sem.events_pure, Result.evThen_ok, run_underlying h, events_underlying, hi, and_self, if_true, events_sizeOf]
 cases (sizeOf e).run P w <;> rfl
noncomputable def Z9 : Code := match Try.f58.body with
 | some (.seq (.seq _ (.block _ (.loop (.seq _ (.seq _ (.seq (.block _ (.seq _ (.seq r _))) _)))))) _) => r
 | _ => .skip
set_option maxRecDepth 100000 in
set_option maxHeartbeats 2000000 in
theorem QZ (C : KC Try.prog main K zw Da) (hp : p ≠ .ret) {bb ba bx : Nat} {da db : Wk} {x y : Int} (ha : dR γ w ba da) (hb : dR γ w bb db) (hx : aC γ w ⟨bx, 0, none⟩ (.int .i64 x)) (C6 : 0 ≤ x) (XE : x < 4) (hy0 : 0 ≤ y) (hy3 : y < 4) (qg : da.ok) (uY : db.ok)
  {a0 : Act} (Fq : a0.defers = []) (hsz : a0.tmps.size = 46) (t0 : a0.tmps[0]? = some (.pointer (some ⟨bb, 0, none⟩))) (t1 : a0.tmps[1]? = some (.pointer (some ⟨ba, 0, none⟩))) (t2 : a0.tmps[2]? = some (.pointer (some ⟨bx, 0, none⟩))) (t6 : a0.tmps[6]? = some (.int .i64 y))
  {Q : Gm → Exit → Act → World → Prop} (hQ : ∀ v γ' a' w', a'.defers = [] → a'.tmps.size = 46 → (∀ s, s < 17 → a'.tmps[s]? = a0.tmps[s]?) → a'.tmps[32]? = some v → a'.tmps[33]? = some (.int .i64 (dY da db x y).length) → a'.tmps[34]? = some (.int .i64 0) →
   iy γ' w' w.heap.size 3 1 v (dY da db x y).length (Sa (dY da db x y)) → Kept γ w γ' w' → Q (p, γ') .normal a' w') : KJ K 58 (p, γ) Z9 Q a0 w := by
 obtain ⟨la, W4, KN⟩ := ha.lo x.toNat (by omega)
 obtain ⟨ua, hua, -⟩ := ha.up x.toNat (by omega)
 obtain ⟨ub, hub, O5⟩ := hb.up y.toNat (by omega)
 obtain ⟨lb, Ua, -⟩ := hb.lo y.toNat (by omega)
 have hwa := qg.bH
 have hwb := uY.bH
 have G6 : IntKind.i64.wrap (da.bH + db.bH) = da.bH + db.bH := by rw [qQ] <;> omega
 refine Rs C hp mixed (fun L γ' a' w' => Kept γ w γ' w' ∧ ∃ v, (L 15 = true → iy γ' w' w.heap.size 3 1 v (dY da db x y).length (Sa (dY da db x y))) ∧ PN (fun v => og ba bb x y ua la ub lb da.bH db.bH (dY da db x y).length v) a0 v L a')
  (by kernel_rfl) (fun w₁ r => ?_) ?_ (fun L γ' a' w' hJ di => ?_)
 ·exact ⟨(Kept.rely r).trans (Kept.rely (uh γ w₁ _)), undef, fun h => (nomatch h), Fq, hsz, fun i _ h => (nomatch h), fun _ _ => rfl, fun h => (nomatch h)⟩
 ·rintro L γ' a' w' i o ⟨hk, v, hv, hs⟩ ho hL qn rest cU
  have hi : i < 18 := (Array.getElem?_eq_some_iff.1 ho).1
  have hv' : ∀ j, j ≠ 15 → upd L j true 15 = true → iy γ' w' w.heap.size 3 1 v (dY da db x y).length (Sa (dY da db x y)) := fun j hj h => hv (by rwa [upd_ne _ _ (Ne.symm hj)] at h)
  rcases i with _ | _ | _ | _ | _ | _ | _ | _ | _ | _ | _ | _ | _ | _ | _ | _ | _ | _ | i
  all_goals first | (exfalso; omega) | skip
  ·have iS := Option.some.inj ho
   subst iS
   have f2 : a'.tmps[2]? = some _ := (hs.old 2 (by omega)).trans t2
   refine cr C hp (v := ?v0) ho (by rfl) (fun w₁ h₁ => ⟨run_eq_of fun K hK => ?r0, ?e0⟩) ?h0
   case r0 => have hc := ((hk.sees hx).rely h₁).2; go_simp; exact hK
   case e0 => have hc := ((hk.sees hx).rely h₁).2; intro e he; simp [go_sem, *] at he; subst he; exact ((hk.sees hx).rely h₁).mR
   exact cU _ _ _ ⟨hk, v, hv' 0 (by omega), hs.put (i := 0) (by omega) (fun h => by omega) rfl⟩
  ·have iS := Option.some.inj ho
   subst iS
   have f1 : a'.tmps[1]? = some _ := (hs.old 1 (by omega)).trans t1
   refine aa C (v := ?v1) ho (by rfl) (fun w => run_eq_of fun K hK => ?r1) (fun w => ?e1) ?h1
   case r1 => go_simp; exact hK
   case e1 => simp [go_sem, *]
   exact cU _ _ _ ⟨hk, v, hv' 1 (by omega), hs.put (i := 1) (by omega) (fun h => by omega) rfl⟩
  ·have iS := Option.some.inj ho
   subst iS
   have d1 : L 1 = true := qn { on := 1, ground := Ground.data } (by simp) rfl
   have e1 : a'.tmps[18]? = some _ := hs.vals 1 (by omega) d1
   simp only [og] at e1
   have d0 : L 0 = true := qn { on := 0, ground := Ground.data } (by simp) rfl
   have e0 : a'.tmps[17]? = some _ := hs.vals 0 (by omega) d0
   simp only [og] at e0
   refine aa C (v := ?v2) ho (by rfl) (fun w => run_eq_of fun K hK => ?r2) (fun w => ?e2) ?h2
   case r2 => have Lc : x.toNat < 4 := (by omega); go_simp; exact hK
   case e2 => simp [go_sem, e1, e0, events_indexAt_array Try.underlying68 _ _ x ⟨(by omega), (by omega)⟩]
   exact cU _ _ _ ⟨hk, v, hv' 2 (by omega), hs.put (i := 2) (by omega) (fun h => by omega) rfl⟩
  ·have iS := Option.some.inj ho
   subst iS
   have d2 : L 2 = true := qn { on := 2, ground := Ground.data } (by simp) rfl
   have e2 : a'.tmps[19]? = some _ := hs.vals 2 (by omega) d2
   simp only [og] at e2
   refine cr C hp (v := ?v3) ho (by rfl) (fun w₁ h₁ => ⟨run_eq_of fun K hK => ?r3, ?e3⟩) ?h3
   case r3 => have hc := ((hk.sees hua).rely h₁).2; have hd := ((hk.sees W4).rely h₁).2; go_simp; exact hK
   case e3 =>
    have hc := ((hk.sees hua).rely h₁).2
    have hd := ((hk.sees W4).rely h₁).2
    intro e he
    simp [go_sem, *] at he
    rcases he with rfl | rfl
    ·exact ((hk.sees hua).rely h₁).mR
    ·exact ((hk.sees W4).rely h₁).mR
   exact cU _ _ _ ⟨hk, v, hv' 3 (by omega), hs.put (i := 3) (by omega) (fun h => by omega) rfl⟩
  ·have iS := Option.some.inj ho
   subst iS
   have f6 : a'.tmps[6]? = some _ := (hs.old 6 (by omega)).trans t6
   refine aa C (v := ?v4) ho (by rfl) (fun w => run_eq_of fun K hK => ?r4) (fun w => ?e4) ?h4
   case r4 => go_simp; exact hK
   case e4 => simp [go_sem, *]
   exact cU _ _ _ ⟨hk, v, hv' 4 (by omega), hs.put (i := 4) (by omega) (fun h => by omega) rfl⟩
  ·have iS := Option.some.inj ho
   subst iS
   have f0 : a'.tmps[0]? = some _ := (hs.old 0 (by omega)).trans t0
   refine aa C (v := ?v5) ho (by rfl) (fun w => run_eq_of fun K hK => ?r5) (fun w => ?e5) ?h5
   case r5 => go_simp; exact hK
   case e5 => simp [go_sem, *]
   exact cU _ _ _ ⟨hk, v, hv' 5 (by omega), hs.put (i := 5) (by omega) (fun h => by omega) rfl⟩
  ·have iS := Option.some.inj ho
   subst iS
   have d5 : L 5 = true := qn { on := 5, ground := Ground.data } (by simp) rfl
   have e5 : a'.tmps[22]? = some _ := hs.vals 5 (by omega) d5
   simp only [og] at e5
   have d4 : L 4 = true := qn { on := 4, ground := Ground.data } (by simp) rfl
   have e4 : a'.tmps[21]? = some _ := hs.vals 4 (by omega) d4
   simp only [og] at e4
   refine aa C (v := ?v6) ho (by rfl) (fun w => run_eq_of fun K hK => ?r6) (fun w => ?e6) ?h6
   case r6 => have Lc : y.toNat < 4 := (by omega); go_simp; exact hK
   case e6 => simp [go_sem, e5, e4, events_indexAt_array Try.underlying68 _ _ y ⟨(by omega), (by omega)⟩]
   exact cU _ _ _ ⟨hk, v, hv' 6 (by omega), hs.put (i := 6) (by omega) (fun h => by omega) rfl⟩
  ·have iS := Option.some.inj ho
   subst iS
   have d6 : L 6 = true := qn { on := 6, ground := Ground.data } (by simp) rfl
   have e6 : a'.tmps[23]? = some _ := hs.vals 6 (by omega) d6
   simp only [og] at e6
   refine cr C hp (v := ?v7) ho (by rfl) (fun w₁ h₁ => ⟨run_eq_of fun K hK => ?r7, ?e7⟩) ?h7
   case r7 => have hc := ((hk.sees hub).rely h₁).2; have hd := ((hk.sees Ua).rely h₁).2; go_simp; exact hK
   case e7 =>
    have hc := ((hk.sees hub).rely h₁).2
    have hd := ((hk.sees Ua).rely h₁).2
    intro e he
    simp [go_sem, *] at he
    rcases he with rfl | rfl
    ·exact ((hk.sees hub).rely h₁).mR
    ·exact ((hk.sees Ua).rely h₁).mR
   exact cU _ _ _ ⟨hk, v, hv' 7 (by omega), hs.put (i := 7) (by omega) (fun h => by omega) rfl⟩
  ·have iS := Option.some.inj ho
   subst iS
   have f1 : a'.tmps[1]? = some _ := (hs.old 1 (by omega)).trans t1
   refine aa C (v := ?v8) ho (by rfl) (fun w => run_eq_of fun K hK => ?r8) (fun w => ?e8) ?h8
   case r8 => go_simp; exact hK
   case e8 => simp [go_sem, *]
   exact cU _ _ _ ⟨hk, v, hv' 8 (by omega), hs.put (i := 8) (by omega) (fun h => by omega) rfl⟩
  ·have iS := Option.some.inj ho
   subst iS
   have d8 : L 8 = true := qn { on := 8, ground := Ground.data } (by simp) rfl
   have e8 : a'.tmps[25]? = some _ := hs.vals 8 (by omega) d8
   simp only [og] at e8
   refine aa C (v := ?v9) ho (by rfl) (fun w => run_eq_of fun K hK => ?r9) (fun w => ?e9) ?h9
   case r9 => go_simp; exact hK
   case e9 => simp [go_sem, *]
   exact cU _ _ _ ⟨hk, v, hv' 9 (by omega), hs.put (i := 9) (by omega) (fun h => by omega) rfl⟩
  ·have iS := Option.some.inj ho
   subst iS
   have d9 : L 9 = true := qn { on := 9, ground := Ground.data } (by simp) rfl
   have e9 : a'.tmps[26]? = some _ := hs.vals 9 (by omega) d9
   simp only [og] at e9
   refine cr C hp (v := ?v10) ho (by rfl) (fun w₁ h₁ => ⟨run_eq_of fun K hK => ?r10, ?e10⟩) ?rX
   case r10 => have hc := ((hk.sees (ha.bH)).rely h₁).2; go_simp; exact hK
   case e10 => have hc := ((hk.sees (ha.bH)).rely h₁).2; intro e he; simp [go_sem, *] at he; subst he; exact ((hk.sees (ha.bH)).rely h₁).mR
   exact cU _ _ _ ⟨hk, v, hv' 10 (by omega), hs.put (i := 10) (by omega) (fun h => by omega) rfl⟩
  ·have iS := Option.some.inj ho
   subst iS
   have f0 : a'.tmps[0]? = some _ := (hs.old 0 (by omega)).trans t0
   refine aa C (v := ?v11) ho (by rfl) (fun w => run_eq_of fun K hK => ?r11) (fun w => ?e11) ?zu
   case r11 => go_simp; exact hK
   case e11 => simp [go_sem, *]
   exact cU _ _ _ ⟨hk, v, hv' 11 (by omega), hs.put (i := 11) (by omega) (fun h => by omega) rfl⟩
  ·have iS := Option.some.inj ho
   subst iS
   have d11 : L 11 = true := qn { on := 11, ground := Ground.data } (by simp) rfl
   have e11 : a'.tmps[28]? = some _ := hs.vals 11 (by omega) d11
   simp only [og] at e11
   refine aa C (v := ?v12) ho (by rfl) (fun w => run_eq_of fun K hK => ?r12) (fun w => ?e12) ?KU
   case r12 => go_simp; exact hK
   case e12 => simp [go_sem, *]
   exact cU _ _ _ ⟨hk, v, hv' 12 (by omega), hs.put (i := 12) (by omega) (fun h => by omega) rfl⟩
  ·have iS := Option.some.inj ho
   subst iS
   have d12 : L 12 = true := qn { on := 12, ground := Ground.data } (by simp) rfl
   have e12 : a'.tmps[29]? = some _ := hs.vals 12 (by omega) d12
   simp only [og] at e12
   refine cr C hp (v := ?v13) ho (by rfl) (fun w₁ h₁ => ⟨run_eq_of fun K hK => ?r13, ?e13⟩) ?Sy
   case r13 => have hc := ((hk.sees (hb.bH)).rely h₁).2; go_simp; exact hK
   case e13 => have hc := ((hk.sees (hb.bH)).rely h₁).2; intro e he; simp [go_sem, *] at he; subst he; exact ((hk.sees (hb.bH)).rely h₁).mR
   exact cU _ _ _ ⟨hk, v, hv' 13 (by omega), hs.put (i := 13) (by omega) (fun h => by omega) rfl⟩
  ·have iS := Option.some.inj ho
   subst iS
   have d10 : L 10 = true := qn { on := 10, ground := Ground.data } (by simp) rfl
   have e10 : a'.tmps[27]? = some _ := hs.vals 10 (by omega) d10
   simp only [og] at e10
   have d13 : L 13 = true := qn { on := 13, ground := Ground.data } (by simp) rfl
   have e13 : a'.tmps[30]? = some _ := hs.vals 13 (by omega) d13
   simp only [og] at e13
   refine aa C (v := ?v14) ho (by rfl) (fun w => run_eq_of fun K hK => ?r14) (fun w => ?e14) ?Yd
   case r14 => go_simp; exact hK
   case e14 => simp [go_sem, *]
   exact cU _ _ _ ⟨hk, v, hv' 14 (by omega), hs.put (i := 14) (by omega) (fun h => by omega) rfl⟩
  ·have iS := Option.some.inj ho
   subst iS
   have d3 : L 3 = true := qn { on := 3, ground := Ground.data } (by simp) rfl
   have e3 : a'.tmps[20]? = some _ := hs.vals 3 (by omega) d3
   simp only [og] at e3
   have d7 : L 7 = true := qn { on := 7, ground := Ground.data } (by simp) rfl
   have e7 : a'.tmps[24]? = some _ := hs.vals 7 (by omega) d7
   simp only [og] at e7
   have d14 : L 14 = true := qn { on := 14, ground := Ground.data } (by simp) rfl
   have e14 : a'.tmps[31]? = some _ := hs.vals 14 (by omega) d14
   simp only [og] at e14
   refine IB C ho (by rfl) rfl (Post := fun γ'' v KY => γ''.1 = p ∧ iy γ''.2 KY w'.heap.size 3 1 v (dY da db x y).length (Sa (dY da db x y)) ∧ Kept γ' w' γ''.2 KY) ?_ ?_
   ·simp only [List.map_toArray, List.map_cons, List.map_nil, Act.eval, Array.getD_eq_getD_getElem?, e3, e7, e14, Option.getD_some]
    exact NL C hp _ (hk.Bs KN) (hk.Bs O5) (qg.lo _) (uY.up _)
   rintro ⟨p', γ4⟩ v4 w4 ⟨hp4, Ax, Pb⟩
   simp only at hp4 Pb Ax
   subst p'
   exact cU _ _ _ ⟨hk.trans Pb, v4, fun _ => Ax.more hk.size, (hs.val hL (fun j hj => by match j, hj with | 15, hj => exact absurd rfl hj | 0, _ | 1, _ | 2, _ | 3, _ | 4, _ | 5, _ | 6, _ | 7, _ | 8, _ | 9, _ | 10, _ | 11, _ | 12, _ | 13, _ | 14, _ | 16, _ | 17, _ | _ + 18, _ => rfl)).put (i := 15) (by omega) (fun h => by omega) rfl⟩
  ·have iS := Option.some.inj ho
   subst iS
   have d15 : L 15 = true := qn { on := 15, ground := Ground.data } (by simp) rfl
   have e15 : a'.tmps[32]? = some _ := hs.vals 15 (by omega) d15
   simp only [og] at e15
   have dm := hv d15
   obtain ⟨A, cap, rfl, -⟩ := dm.Bs
   refine aa C (v := ?v16) ho (by rfl) (fun w => run_eq_of fun K hK => ?r16) (fun w => ?e16) ?Uk
   case r16 => go_simp; exact hK
   case e16 => simp [go_sem, *]
   exact cU _ _ _ ⟨hk, _, hv' 16 (by omega), hs.put (i := 16) (by omega) (fun _ => d15) rfl⟩
  ·have iS := Option.some.inj ho
   subst iS
   refine aa C (v := ?v17) ho (by rfl) (fun w => run_eq_of fun K hK => ?r17) (fun w => ?e17) ?Yc
   case r17 => go_simp; exact hK
   case e17 => simp [go_sem, *]
   exact cU _ _ _ ⟨hk, v, hv' 17 (by omega), hs.put (i := 17) (by omega) (fun h => by omega) rfl⟩
 ·obtain ⟨hk, v, hv, hs⟩ := hJ
  have hA : ∀ i, i < 18 → L i = true := fun i hi => di i hi
  have PL := hs.vals 15 (by omega) (hA 15 (by omega))
  have Uk := hs.vals 16 (by omega) (hA 16 (by omega))
  have Yc := hs.vals 17 (by omega) (hA 17 (by omega))
  exact hQ v γ' a' w' hs.defers hs.size hs.old PL Uk Yc (hv (hA 15 (by omega))) hk
end Go.Co
end
section
namespace Go.Co
open Go Go.Conc Go.Proofs
variable {af : Machine → Trace → Prop} {γ : So} {w : World}
theorem Ie {P : Program} {main : Bool} {K : Gm → Goroutine → World → Prop} {p : Pc} {a : Act} {ops : Array Oper} {i : Nat} {rest : List Nat} {o : Oper} (C : KC P main K zw Da) (hp : p ≠ .ret) {v : Value} {b : Frame} {k : List Item} {cs : List Frame} (ho : ops[i]? = some o) (hw : Region.wanted o (yielded ops a.tmps) = true) (hk : b.kind ≠ .early)
  (hrun : ∀ w₁, fL γ w w₁ → (execOp a.eval o).run P w₁ = .ok (.value v) w₁ ∧ ∀ e ∈ (execOp a.eval o).events P w₁ #[], Up γ.1 γ.2 e) (h : K (p, γ) (G (b.at (a.put o.dst v) (.inRegion ops rest :: k)) cs) w) : K (p, γ) (G (b.at a (.inRegion ops (i :: rest) :: k)) cs) w :=
 C.step _ _ _ _ fun w₁ r => ⟨_, _, _, _, (p, γ), stepG_value ho hw hk (hrun w₁ (Pw hp r)).1, Xs hp ⟨rfl, DR fun e he => (hrun w₁ (Pw hp r)).2 e (mem_listed he)⟩, C.rely _ _ _ _ r h⟩
theorem F5 : (Try.prog.info? 56).map (fun i => (i.zero, i.size, i.bytes)) = some (some (.agg #[.int .i64 0, .int .i64 0, .int .i64 0]), 3, 24) := by kernel_rfl
theorem EM (w : World) (x y s : Int) : (Instr.build 56 #[(0, .int .i64 x), (1, .int .i64 y), (2, .int .i64 s)]).run Try.prog w = .ok (.agg #[.int .i64 x, .int .i64 y, .int .i64 s]) w :=
 run_build w 56 _ _ (by kernel_rfl)
theorem zg (w : World) (es : Array Event) (x y s : Int) : (Instr.build 56 #[(0, .int .i64 x), (1, .int .i64 y), (2, .int .i64 s)]).events Try.prog w es = es := by
 obtain ⟨i0, hi, C4, KH, WO⟩ := info_parts F5
 obtain ⟨i3, hi3, hy0, hy1, hy2⟩ := info_parts L4
 simp [Instr.build, run_underlying Try.underlying56, sizeOf, typeInfo, zeroValue, hi, C4, hi3, hy1]
 split <;> simp
noncomputable def B5 : Code := Try.f58.body.getD .skip
noncomputable def X84 : Code := match B5 with | .seq x _ => x | _ => .skip
noncomputable def TF : Code := match B5 with | .seq _ r => r | _ => .skip
theorem AX (a b : Wk) (x y : Int) (ys : List Int) : msgs a b x (y :: ys) = (dY a b x y).map (u5 x y) ++ msgs a b x ys := by simp [msgs]
def aa6 (cf cl bl : Nat) (tv : Value) (γ' : Gm) (e : Exit) (a' : Act) (w' : World) : Prop := e = .normal ∧ γ'.1 = wk cf cl tv [] ∧ aC γ'.2 w' ⟨bl, 0, none⟩ (.chan (some cl)) ∧ a'.defers = [] ∧ a'.tmps.size = 46 ∧ a'.tmps[4]? = some (.pointer (some ⟨bl, 0, none⟩))
theorem OD {bb ba bx bf bl : Nat} {vl : Value} {nl k : Nat} {y : Int} {v : Value} {m : Nat} {a : Act} (hd : a.defers = []) (hsz : a.tmps.size = 46) (t0 : a.tmps[0]? = some (.pointer (some ⟨bb, 0, none⟩))) (t1 : a.tmps[1]? = some (.pointer (some ⟨ba, 0, none⟩))) (t2 : a.tmps[2]? = some (.pointer (some ⟨bx, 0, none⟩))) (t3 : a.tmps[3]? = some (.pointer (some ⟨bf, 0, none⟩))) (t4 : a.tmps[4]? = some (.pointer (some ⟨bl, 0, none⟩)))
  (t6 : a.tmps[6]? = some (.int .i64 y)) (t11 : a.tmps[11]? = some vl) (t12 : a.tmps[12]? = some (.int .i64 nl)) (t13 : a.tmps[13]? = some (.int .i64 k)) (t32 : a.tmps[32]? = some v) (t33 : a.tmps[33]? = some (.int .i64 m)) (t34 : a.tmps[34]? = some (.int .i64 0)) : ∃ u, a = Mg bb ba bx bf bl vl nl k y v m 0 u := by
 obtain ⟨T, df⟩ := a
 simp only at hd hsz
 subst hd
 obtain ⟨v0, v1, v2, v3, v4, v5, v6, v7, v8, v9, v10, v11, v12, v13, v14, v15, v16, v17, v18, v19, v20, v21, v22, v23, v24, v25, v26, v27, v28, v29, v30, v31, v32, v33, v34, v35, v36, v37, v38, v39, v40, v41, v42, v43, v44, v45, rfl⟩ := RZ T hsz
 simp at t0 t1 t2 t3 t4 t6 t11 t12 t13 t32 t33 t34
 subst t0 t1 t2 t3 t4 t6 t11 t12 t13 t32 t33 t34
 exact kW rfl
set_option maxRecDepth 100000 in
set_option maxHeartbeats 2000000 in
theorem EE (hP : Plain Try.prog) {bb ba bx bf bl cf cl : Nat} {tv : Value} {da db : Wk} {x : Int} (qg : da.ok) (uY : db.ok) (C6 : 0 ≤ x) (XE : x < 4)
  (ha : dR γ w ba da) (hb : dR γ w bb db) (hx : aC γ w ⟨bx, 0, none⟩ (.int .i64 x)) (hf : aC γ w ⟨bf, 0, none⟩ (.chan (some cf))) (hl : aC γ w ⟨bl, 0, none⟩ (.chan (some cl))) :
  KJ (KG Try.prog af false) 58 (wk cf cl tv (msgs da db x db.aO), γ) X84 (aa6 cf cl bl tv)
   ⟨#[.pointer (some ⟨bb, 0, none⟩), .pointer (some ⟨ba, 0, none⟩), .pointer (some ⟨bx, 0, none⟩), .pointer (some ⟨bf, 0, none⟩), .pointer (some ⟨bl, 0, none⟩), undef, undef, undef, undef, undef, undef, undef, undef, undef, undef, undef, undef, undef, undef, undef, undef, undef, undef, undef, undef, undef, undef, undef, undef, undef, undef, undef, undef, undef, undef, undef, undef, undef, undef, undef, undef, undef, undef, undef, undef, undef], []⟩ w := by
 have C := vg (af := af) (main := false) hP
 have hp : ∀ vs, wk cf cl tv vs ≠ .ret := fun vs => (Hl vs).1
 obtain ⟨vl, TP, A, cap, rfl, hA⟩ := hb.aO
 have YI := uY.Yg
 refine aJ C (av C ?_)
 simp only [List.size_toArray, List.length_cons, List.length_nil, Nat.reduceAdd, Nat.zero_add, List.range, List.range.loop]
 refine aa C (v := ?v1) rfl (by rfl) (fun w => run_eq_of fun K hK => ?r1) (fun w => ?e1) ?h1
 case r1 => go_simp; exact hK
 case e1 => first | (simp [go_sem]; done) | (simp [go_sem, *]; done)
 try walk_nrm
 refine aa C (v := ?v2) rfl (by rfl) (fun w => run_eq_of fun K hK => ?r2) (fun w => ?e2) ?h2
 case r2 => go_simp; exact hK
 case e2 => first | (simp [go_sem]; done) | (simp [go_sem, *]; done)
 try walk_nrm
 refine cr C (hp _) (v := ?v3) rfl (by rfl) (fun w₁ h₁ => ⟨run_eq_of fun K hK => ?r3, ?e3⟩) ?h3
 case r3 => have hc := (aC.rely TP h₁).2; go_simp; exact hK
 case e3 => have hc := (aC.rely TP h₁).2; intro e he; simp [go_sem, hc] at he; subst he; exact (aC.rely TP h₁).mR
 try walk_nrm
 refine aa C (v := ?v4) rfl (by rfl) (fun w => run_eq_of fun K hK => ?r4) (fun w => ?e4) ?h4
 case r4 => go_simp; exact hK
 case e4 => first | (simp [go_sem]; done) | (simp [go_sem, *]; done)
 try walk_nrm
 refine aa C (v := ?v5) rfl (by rfl) (fun w => run_eq_of fun K hK => ?r5) (fun w => ?e5) ?h5
 case r5 => go_simp; exact hK
 case e5 => first | (simp [go_sem]; done) | (simp [go_sem, *]; done)
 try walk_nrm
 refine aF C ?_
 co_then
 refine ej C ?_
 refine kS C (fun n γ' a w' => ∃ γ3 k, γ' = (wk cf cl tv (msgs da db x (db.aO.drop k)), γ3) ∧ Kept γ w γ3 w' ∧ k ≤ db.aO.length ∧ n = db.aO.length - k ∧ ∃ u, a = Tw bb ba bx bf bl (.slice A db.aO.length cap) db.aO.length k u) (n := db.aO.length) ⟨γ, 0, rfl, Kept.refl _ _, by omega, by omega, kW rfl⟩ ?_
 rintro n γ' a w' ⟨γ3, k, hγ, xb, hk, hn, u, zF⟩
 subst hγ
 unfold Tw at zF
 subst zF
 refine aJ C (av C ?_)
 simp only [List.size_toArray, List.length_cons, List.length_nil, Nat.zero_add, List.range, List.range.loop]
 by_cases hlt : k < db.aO.length
 ·have Uh : decide ((k : Int) < (db.aO.length : Int)) = true := by simpa using hlt
  obtain ⟨y, hy⟩ : ∃ y, db.aO[k]? = some y := ⟨_, List.getElem?_eq_getElem hlt⟩
  obtain ⟨ad, hAe, O6⟩ := hA k y hy
  subst hAe
  have hyb := uY.aO k y hy
  have Mc : db.aO.drop k = y :: db.aO.drop (k + 1) := by
   rw [List.drop_eq_getElem_cons hlt]
   congr 1
   exact Option.some.inj ((List.getElem?_eq_getElem hlt).symm.trans hy)
  have hs3 := xb.sees O6
  have hw5 : IntKind.i64.wrap ((k : Int) + 1) = (k : Int) + 1 := by rw [qQ] <;> omega
  refine aa C (v := ?v6) rfl (by rfl) (fun w => run_eq_of fun K hK => ?r6) (fun w => ?e6) ?h6
  case r6 => go_simp; exact hK
  case e6 => first | (simp [go_sem]; done) | (simp [go_sem, *]; done)
  try walk_nrm
  refine aF C ?_
  co_then
  refine aJ C (ct C (t := true) rfl ?_)
  simp only [if_true]
  refine gO C ?_
  co_then
  refine aJ C (ej C (aJ C (av C ?_)))
  simp only [List.size_toArray, List.length_cons, List.length_nil, Nat.reduceAdd, Nat.zero_add, List.range, List.range.loop]
  refine aa C (v := ?v7) rfl (by rfl) (fun w => run_eq_of fun K hK => ?r7) (fun w => ?e7) ?h7
  case r7 => go_simp; exact hK
  case e7 => first | (simp [go_sem]; done) | (simp [go_sem, *]; done)
  try walk_nrm
  refine cr C (hp _) (v := ?v8) rfl (by rfl) (fun w₁ h₁ => ⟨run_eq_of fun K hK => ?r8, ?e8⟩) ?h8
  case r8 => have hc := (aC.rely hs3 h₁).2; go_simp; exact hK
  case e8 => have hc := (aC.rely hs3 h₁).2; intro e he; simp [go_sem, hc] at he; subst he; exact (aC.rely hs3 h₁).mR
  try walk_nrm
  refine aa C (v := ?v9) rfl (by rfl) (fun w => run_eq_of fun K hK => ?r9) (fun w => ?e9) ?h9
  case r9 => go_simp; exact hK
  case e9 => first | (simp [go_sem]; done) | (simp [go_sem, *]; done)
  try walk_nrm
  refine aF C ?_
  co_then
  rw [Mc, AX]
  clear hs3 hA
  refine aJ C (QZ C (hp _) (ha.kept xb) (hb.kept xb) (xb.sees hx) C6 XE hyb.1 (by omega) qg uY rfl rfl rfl rfl rfl rfl ?_)
  intro v γ4 a4 w4 PE Yw hold h32 h33 h34 dm Pb
  co_then
  obtain ⟨A2, nX, rfl, X9⟩ := dm.Bs
  obtain ⟨u4, ha4⟩ := OD (bb := bb) (ba := ba) (bx := bx) (bf := bf) (bl := bl) (vl := .slice (some ad) db.aO.length cap) (nl := db.aO.length) (k := k) PE Yw (hold 0 (by omega)) (hold 1 (by omega)) (hold 2 (by omega)) (hold 3 (by omega)) (hold 4 (by omega)) (hold 6 (by omega)) (hold 11 (by omega)) (hold 12 (by omega)) (hold 13 (by omega)) h32 h33 h34
  clear hold h32 h33 h34 PE Yw dm
  have aaz := xb.trans Pb
  generalize Uc : dY da db x y = l at *
  refine ej C ?_
  refine kS C (fun n γ' a w' => ∃ γ5 j, γ' = (wk cf cl tv ((l.drop j).map (u5 x y) ++ msgs da db x (db.aO.drop (k + 1))), γ5) ∧ Kept γ4 w4 γ5 w' ∧ j ≤ l.length ∧ n = l.length - j ∧ ∃ u, a = Mg bb ba bx bf bl (.slice (some ad) db.aO.length cap) db.aO.length k y (.slice A2 l.length nX) l.length j u) (n := l.length) ⟨γ4, 0, rfl, Kept.refl _ _, by omega, by omega, u4, ha4⟩ ?_
  clear ha4 xb
  rintro n2 γ' a w6 ⟨γ5, j, hγ, G9, hj, hn2, u, ha5⟩
  subst hγ
  unfold Mg at ha5
  subst ha5
  have Si := aaz.trans G9
  refine aJ C (av C ?_)
  simp only [List.size_toArray, List.length_cons, List.length_nil, Nat.zero_add, List.range, List.range.loop]
  by_cases P5 : j < l.length
  ·have X0 : decide ((j : Int) < (l.length : Int)) = true := by simpa using P5
   obtain ⟨s, hs⟩ : ∃ s, l[j]? = some s := ⟨_, List.getElem?_eq_getElem P5⟩
   obtain ⟨SA, aaU, aas⟩ := X9 j s hs
   subst aaU
   have We : l.drop j = s :: l.drop (j + 1) := by
    rw [List.drop_eq_getElem_cons P5]
    congr 1
    exact Option.some.inj ((List.getElem?_eq_getElem P5).symm.trans hs)
   have Pz := G9.sees aas
   have hf5 := Si.sees hf
   have hx5 := Si.sees hx
   have hw6 : IntKind.i64.wrap ((j : Int) + 1) = (j : Int) + 1 := by
    have h1 := (uY.up y.toNat).1
    have h2 := (qg.lo x.toNat).1
    have h3 : l.length ≤ 2001 := by
     rw [← Uc]
     exact Nat.le_trans (Ck _ _ _ _) (by omega)
    rw [qQ] <;> omega
   refine aa C (v := ?v10) rfl (by rfl) (fun w => run_eq_of fun K hK => ?r10) (fun w => ?e10) ?rX
   case r10 => go_simp; exact hK
   case e10 => first | (simp [go_sem]; done) | (simp [go_sem, *]; done)
   try walk_nrm
   refine aF C ?_
   co_then
   refine aJ C (ct C (t := true) rfl ?_)
   simp only [if_true]
   refine gO C ?_
   co_then
   refine aJ C (ej C (aJ C (av C ?_)))
   simp only [List.size_toArray, List.length_cons, List.length_nil, Nat.reduceAdd, Nat.zero_add, List.range, List.range.loop]
   refine aa C (v := ?v11) rfl (by rfl) (fun w => run_eq_of fun K hK => ?r11) (fun w => ?e11) ?zu
   case r11 => go_simp; exact hK
   case e11 => first | (simp [go_sem]; done) | (simp [go_sem, *]; done)
   try walk_nrm
   refine cr C (hp _) (v := ?v12) rfl (by rfl) (fun w₁ h₁ => ⟨run_eq_of fun K hK => ?r12, ?e12⟩) ?KU
   case r12 => have hc := (aC.rely Pz h₁).2; go_simp; exact hK
   case e12 => have hc := (aC.rely Pz h₁).2; intro e he; simp [go_sem, hc] at he; subst he; exact (aC.rely Pz h₁).mR
   try walk_nrm
   refine aa C (v := ?v13) rfl (by rfl) (fun w => run_eq_of fun K hK => ?r13) (fun w => ?e13) ?Sy
   case r13 => go_simp; exact hK
   case e13 => first | (simp [go_sem]; done) | (simp [go_sem, *]; done)
   try walk_nrm
   refine aF C ?_
   co_then
   refine av C ?_
   simp only [List.size_toArray, List.length_cons, List.length_nil, Nat.reduceAdd, Nat.zero_add, List.range, List.range.loop]
   refine cr C (hp _) (v := ?v14) rfl (by rfl) (fun w₁ h₁ => ⟨run_eq_of fun K hK => ?r14, ?e14⟩) ?Yd
   case r14 => have hc := (aC.rely hf5 h₁).2; go_simp; exact hK
   case e14 => have hc := (aC.rely hf5 h₁).2; intro e he; simp [go_sem, hc] at he; subst he; exact (aC.rely hf5 h₁).mR
   try walk_nrm
   refine cr C (hp _) (v := ?v15) rfl (by rfl) (fun w₁ h₁ => ⟨run_eq_of fun K hK => ?r15, ?e15⟩) ?PL
   case r15 => have hc := (aC.rely hx5 h₁).2; go_simp; exact hK
   case e15 => have hc := (aC.rely hx5 h₁).2; intro e he; simp [go_sem, hc] at he; subst he; exact (aC.rely hx5 h₁).mR
   try walk_nrm
   refine aa C (v := ?v16) rfl (by rfl) (fun w => run_eq_of fun K hK => ?r16) (fun w => ?e16) ?Uk
   case r16 => go_simp; exact hK
   case e16 => first | (simp [go_sem]; done) | (simp [go_sem, *]; done)
   try walk_nrm
   refine aa C (v := ?v17) rfl (by rfl) (fun w => run_eq_of fun K hK => ?r17) (fun w => ?e17) ?Yc
   case r17 => go_simp; exact hK
   case e17 => first | (simp [go_sem]; done) | (simp [go_sem, *]; done)
   try walk_nrm
   have hbr := fun w => EM w x y s
   have zo := fun w => zg w #[] x y s
   refine aa C (v := ?v18) rfl (by rfl) (fun w => run_eq_of fun K hK => ?r18) (fun w => ?e18) ?h18
   case r18 => go_simp; exact hK
   case e18 => simp [go_sem, zo]
   try walk_nrm
   clear hbr zo
   rw [We]
   show KO _ _ (Pc.send cf (u5 x y s) (wk cf cl tv ((l.drop (j + 1)).map (u5 x y) ++ msgs da db x (db.aO.drop (k + 1)))), γ5) _ _ _ _ _
   refine Rp rfl (by rfl) rfl rfl rfl (Hl _).2 (hp _) (fun w7 r7 => ?_)
   have Pa := G9.trans (Kept.rely r7)
   clear Pz hf5 hx5 Si G9
   try walk_nrm
   refine aF C ?_
   co_then
   refine av C ?_
   simp only [List.size_toArray, List.length_cons, List.length_nil, Nat.reduceAdd, Nat.zero_add, List.range, List.range.loop]
   refine aa C (v := ?v19) rfl (by rfl) (fun w => run_eq_of fun K hK => ?r19) (fun w => ?e19) ?h19
   case r19 => go_simp; exact hK
   case e19 => first | (simp [go_sem]; done) | (simp [go_sem, *]; done)
   try walk_nrm
   refine aa C (v := ?v20) rfl (by rfl) (fun w => run_eq_of fun K hK => ?r20) (fun w => ?e20) ?h20
   case r20 => go_simp; exact hK
   case e20 => first | (simp [go_sem]; done) | (simp [go_sem, *]; done)
   try walk_nrm
   refine aF C (cQ ?_)
   exact ⟨l.length - (j + 1), by omega, γ5, j + 1, rfl, Pa, by omega, rfl, kW rfl⟩
  ·have XT : j = l.length := by omega
   subst XT
   have X0 : decide ((l.length : Int) < (l.length : Int)) = false := by simp
   simp only [List.drop_length, List.map_nil, List.nil_append]
   refine aa C (v := ?v21) rfl (by rfl) (fun w => run_eq_of fun K hK => ?r21) (fun w => ?e21) ?h21
   case r21 => go_simp; exact hK
   case e21 => first | (simp [go_sem]; done) | (simp [go_sem, *]; done)
   try walk_nrm
   refine aF C ?_
   co_then
   refine aJ C (ct C (t := false) rfl ?_)
   simp only [Bool.false_eq_true, if_false]
   refine jZ C ?_
   co_then
   refine av C ?_
   simp only [List.size_toArray, List.length_cons, List.length_nil, Nat.reduceAdd, Nat.zero_add, List.range, List.range.loop]
   refine aa C (v := ?v22) rfl (by rfl) (fun w => run_eq_of fun K hK => ?r22) (fun w => ?e22) ?h22
   case r22 => go_simp; exact hK
   case e22 => first | (simp [go_sem]; done) | (simp [go_sem, *]; done)
   try walk_nrm
   refine aa C (v := ?v23) rfl (by rfl) (fun w => run_eq_of fun K hK => ?r23) (fun w => ?e23) ?h23
   case r23 => go_simp; exact hK
   case e23 => first | (simp [go_sem]; done) | (simp [go_sem, *]; done)
   try walk_nrm
   refine aF C (cQ ?_)
   exact ⟨db.aO.length - (k + 1), by omega, γ5, k + 1, rfl, Si, by omega, rfl, kW rfl⟩
 ·have G8 : k = db.aO.length := by omega
  subst G8
  have Uh : decide ((db.aO.length : Int) < (db.aO.length : Int)) = false := by simp
  simp only [List.drop_length]
  refine aa C (v := ?v24) rfl (by rfl) (fun w => run_eq_of fun K hK => ?r24) (fun w => ?e24) ?h24
  case r24 => go_simp; exact hK
  case e24 => first | (simp [go_sem]; done) | (simp [go_sem, *]; done)
  try walk_nrm
  refine aF C ?_
  co_then
  refine aJ C (ct C (t := false) rfl ?_)
  simp only [Bool.false_eq_true, if_false]
  refine jZ C ?_
  co_then
  exact ⟨rfl, rfl, xb.sees hl, rfl, rfl, rfl⟩
noncomputable def bot : Frame := { (default : Frame) with fn := Try.prog.funcs.size, defers := [], mode := .panicking [goexitEntry] }
def Ph : Frame := { (default : Frame) with fn := 58, kind := .deferred }
def call84 (bb ba bx bf bl : Nat) : Deferred := { target := .fn (.func 58) #[.pointer (some ⟨bb, 0, none⟩), .pointer (some ⟨ba, 0, none⟩), .pointer (some ⟨bx, 0, none⟩), .pointer (some ⟨bf, 0, none⟩), .pointer (some ⟨bl, 0, none⟩)], args := #[] }
theorem Q4 (a : Act) (hd : a.defers = []) (ops : Array Oper) : QuitsIn Try.prog 4 (G (Ph.at a [.inRegion ops []]) [bot]) := by
 obtain ⟨T, df⟩ := a
 simp only at hd
 subst hd
 refine .inr ⟨rfl, _, fun w => stepG_region_end, ?_⟩
 refine .inr ⟨rfl, _, fun w => stepG_end, ?_⟩
 refine .inr ⟨rfl, G bot [], fun w => ?_, ?_⟩
 ·simp [G, stepG, unwind, doReturn, results, Frame.at, Ph, bot, Try.func58, Try.f58, seen, GStep.after, goexitEntry]
 refine .inr ⟨rfl, { G bot [] with status := .finished }, fun w => ?_, rfl⟩
 simp [G, stepG, unwind, bot, goexitEntry, Frame.catches]
 rfl
theorem Wu (bb ba bx bf bl : Nat) (w : World) : stepG Try.prog false (born Try.prog (call84 bb ba bx bf bl)) w =
  .go (G (Ph.at ⟨#[.pointer (some ⟨bb, 0, none⟩), .pointer (some ⟨ba, 0, none⟩), .pointer (some ⟨bx, 0, none⟩), .pointer (some ⟨bf, 0, none⟩), .pointer (some ⟨bl, 0, none⟩), undef, undef, undef, undef, undef, undef, undef, undef, undef, undef, undef, undef, undef, undef, undef, undef, undef, undef, undef, undef, undef, undef, undef, undef, undef, undef, undef, undef, undef, undef, undef, undef, undef, undef, undef, undef, undef, undef, undef, undef, undef], []⟩ [.code B5]) [bot]) w #[] := by
 simp [born, call84, stepG, unwind, callDeferred, invoke, callFunc, Try.func58, Try.f58, seen, GStep.after, G, Frame.enter, Frame.at, Ph, bot, B5]
set_option maxRecDepth 100000 in
theorem Jo (hP : Plain Try.prog) {bb ba bx bf bl cf cl : Nat} {da db : Wk} {x : Int} (qg : da.ok) (uY : db.ok) (C6 : 0 ≤ x) (XE : x < 4)
  (ha : dR γ w ba da) (hb : dR γ w bb db) (hx : aC γ w ⟨bx, 0, none⟩ (.int .i64 x)) (hf : aC γ w ⟨bf, 0, none⟩ (.chan (some cf))) (hl : aC γ w ⟨bl, 0, none⟩ (.chan (some cl))) :
  Pr Try.prog af false (wk cf cl (.bool true) (msgs da db x db.aO)) γ (born Try.prog (call84 bb ba bx bf bl)) w := by
 have C := vg (af := af) (main := false) hP
 have hne := Hl (cf := cf) (cl := cl) (tv := .bool true) (msgs da db x db.aO)
 suffices h : KG Try.prog af false (wk cf cl (.bool true) (msgs da db x db.aO), γ) (born Try.prog (call84 bb ba bx bf bl)) w from h (fun _ => hne.1) hne.2
 refine C.go (fr := (born Try.prog (call84 bb ba bx bf bl)).frame) (cs := []) (fun w => Wu bb ba bx bf bl w) ?_
 show KG Try.prog af false _ (G (Ph.at _ (.code (.seq X84 TF) :: [])) [bot]) w
 refine C.go (fun w => stepG_seq) ?_
 refine EE hP qg uY C6 XE ha hb hx hf hl Ph [.code TF] [bot] rfl (by simp [Ph]) ?_
 rintro ⟨p', γ'⟩ e a' w' ⟨rfl, nM, fC, zn, hsz', ht4⟩
 simp only at nM fC
 subst nM
 show KG Try.prog af false _ (G (Ph.at a' (.code (.region _ _ false) :: [])) [bot]) w'
 refine C.go (fun w => stepG_region) ?_
 refine Ie C (Hl _).1 (v := .chan (some cl)) rfl (by rfl) (by simp [Ph]) (fun w₁ h₁ => ⟨run_eq_of fun K hK => ?_, ?_⟩) ?_
 ·have hc := (fC.rely h₁).2
  clear hsz'
  go_simp
  exact hK
 ·have hc := (fC.rely h₁).2
  intro e he
  simp [go_sem, hc, ht4] at he
  subst he
  exact (fC.rely h₁).mR
 ·refine CU rfl (by rfl) rfl ?_ rfl (by simp [Ph]) ⟨4, QuitsD.of_quitsIn (Q4 _ (by exact zn) _)⟩
  simp [Act.eval, Act.put, hsz']
end Go.Co
end
section
namespace Go.Co
open Go Go.Conc Go.Proofs
variable {af : Machine → Trace → Prop} {γ : So} {w : World}
theorem xQ {cf cl : Nat} {z2 : Value} {lZ : Bool} (k : Nat) : C1 cf cl z2 lZ k ≠ .ret ∧ C1 cf cl z2 lZ k ≠ .stop := by cases k <;> simp [C1]
theorem BW {P : Program} {main : Bool} {fn : FuncId} {ops : Array Oper} {todo : List Nat} {Q : Gm → Exit → Act → World → Prop} {a : Act} : KO (KG P af main) fn (.bad, γ) ops todo Q a w := fun _ _ _ _ _ _ _ _ => trivial
theorem S6 : (Try.prog.info? 4).map (fun i => (i.zero, i.size, i.bytes)) = some (some (.bool false), 1, 1) := by kernel_rfl
theorem aal (f : FuncId) : (Try.prog.funcs[f]?).any (·.norace) = false := by
 have h : Try.prog.funcs.all (fun f => !f.norace) = true := by kernel_rfl
 cases hf : Try.prog.funcs[f]? with
 | none => rfl
 | some fn =>
  obtain ⟨hlt, rfl⟩ := Array.getElem?_eq_some_iff.1 hf
  simpa using Array.all_eq_true.1 h f hlt
noncomputable def B4 : Code := Try.f60.body.getD .skip
noncomputable def X85 : Code := match B4 with | .seq x _ => x | _ => .skip
noncomputable def TE : Code := match B4 with | .seq _ r => r | _ => .skip
def YT (ba bl bf : Nat) (vl : Value) (nl k : Nat) (u : Nat → Value) : Act :=
 ⟨#[.pointer (some ⟨ba, 0, none⟩), .pointer (some ⟨bl, 0, none⟩), .pointer (some ⟨bf, 0, none⟩), u 3, u 4, vl, .int .i64 nl, .int .i64 k, u 8, u 9, u 10, u 11, u 12], []⟩
def LJ (cf cl bf : Nat) (z2 : Value) (γ' : Gm) (e : Exit) (a' : Act) (w' : World) : Prop := e = .normal ∧ γ'.1 = C1 cf cl z2 false 0 ∧ aC γ'.2 w' ⟨bf, 0, none⟩ (.chan (some cf)) ∧ a'.defers = [] ∧ a'.tmps.size = 13 ∧ a'.tmps[2]? = some (.pointer (some ⟨bf, 0, none⟩))
set_option maxRecDepth 100000 in
set_option maxHeartbeats 1000000 in
theorem E1 (hP : Plain Try.prog) {ba bl bf cf cl : Nat} {da : Wk} (qg : da.ok)
  (ha : dR γ w ba da) (hf : aC γ w ⟨bf, 0, none⟩ (.chan (some cf))) (hl : aC γ w ⟨bl, 0, none⟩ (.chan (some cl))) :
  KJ (KG Try.prog af false) 60 (C1 cf cl (.bool false) false da.aO.length, γ) X85 (LJ cf cl bf (.bool false))
   ⟨#[.pointer (some ⟨ba, 0, none⟩), .pointer (some ⟨bl, 0, none⟩), .pointer (some ⟨bf, 0, none⟩), undef, undef, undef, undef, undef, undef, undef, undef, undef, undef], []⟩ w := by
 have C := vg (af := af) (main := false) hP
 have hp : ∀ k, C1 cf cl (.bool false) false k ≠ .ret := fun k => (xQ k).1
 obtain ⟨vl, TP, A, cap, rfl, -⟩ := ha.aO
 have YI := qg.Yg
 obtain ⟨i4, hi4, hy0, hy1, hy2⟩ := info_parts S6
 refine aJ C (av C ?_)
 simp only [List.size_toArray, List.length_cons, List.length_nil, Nat.reduceAdd, Nat.zero_add, List.range, List.range.loop]
 refine aa C (v := ?v1) rfl (by rfl) (fun w => run_eq_of fun K hK => ?r1) (fun w => ?e1) ?h1
 case r1 => go_simp; exact hK
 case e1 => first | (simp [go_sem]; done) | (simp [go_sem, *]; done)
 try walk_nrm
 refine aa C (v := ?v2) rfl (by rfl) (fun w => run_eq_of fun K hK => ?r2) (fun w => ?e2) ?h2
 case r2 => go_simp; exact hK
 case e2 => first | (simp [go_sem]; done) | (simp [go_sem, *]; done)
 try walk_nrm
 refine cr C (hp _) (v := ?v3) rfl (by rfl) (fun w₁ h₁ => ⟨run_eq_of fun K hK => ?r3, ?e3⟩) ?h3
 case r3 => have hc := (aC.rely TP h₁).2; go_simp; exact hK
 case e3 => have hc := (aC.rely TP h₁).2; intro e he; simp [go_sem, hc] at he; subst he; exact (aC.rely TP h₁).mR
 try walk_nrm
 refine aa C (v := ?v4) rfl (by rfl) (fun w => run_eq_of fun K hK => ?r4) (fun w => ?e4) ?h4
 case r4 => go_simp; exact hK
 case e4 => first | (simp [go_sem]; done) | (simp [go_sem, *]; done)
 try walk_nrm
 refine aa C (v := ?v5) rfl (by rfl) (fun w => run_eq_of fun K hK => ?r5) (fun w => ?e5) ?h5
 case r5 => go_simp; exact hK
 case e5 => first | (simp [go_sem]; done) | (simp [go_sem, *]; done)
 try walk_nrm
 refine aF C ?_
 co_then
 refine ej C ?_
 refine kS C (fun n γ' a w' => ∃ γ3 k, γ' = (C1 cf cl (.bool false) false (da.aO.length - k), γ3) ∧ Kept γ w γ3 w' ∧ k ≤ da.aO.length ∧ n = da.aO.length - k ∧ ∃ u, a = YT ba bl bf (.slice A da.aO.length cap) da.aO.length k u) (n := da.aO.length) ⟨γ, 0, rfl, Kept.refl _ _, by omega, by omega, kW rfl⟩ ?_
 rintro n γ' a w' ⟨γ3, k, hγ, xb, hk, hn, u, zF⟩
 subst hγ
 unfold YT at zF
 subst zF
 refine aJ C (av C ?_)
 simp only [List.size_toArray, List.length_cons, List.length_nil, Nat.zero_add, List.range, List.range.loop]
 by_cases hlt : k < da.aO.length
 ·have Uh : decide ((k : Int) < (da.aO.length : Int)) = true := by simpa using hlt
  have Ub := xb.sees hl
  have hw5 : IntKind.i64.wrap ((k : Int) + 1) = (k : Int) + 1 := by rw [qQ] <;> omega
  refine aa C (v := ?v6) rfl (by rfl) (fun w => run_eq_of fun K hK => ?r6) (fun w => ?e6) ?h6
  case r6 => go_simp; exact hK
  case e6 => first | (simp [go_sem]; done) | (simp [go_sem, *]; done)
  try walk_nrm
  refine aF C ?_
  co_then
  refine aJ C (ct C (t := true) rfl ?_)
  simp only [if_true]
  refine gO C ?_
  co_then
  refine aJ C (ej C (av C ?_))
  simp only [List.size_toArray, List.length_cons, List.length_nil, Nat.reduceAdd, Nat.zero_add, List.range, List.range.loop]
  refine cr C (hp _) (v := ?v7) rfl (by rfl) (fun w₁ h₁ => ⟨run_eq_of fun K hK => ?r7, ?e7⟩) ?h7
  case r7 => have hc := (aC.rely Ub h₁).2; go_simp; exact hK
  case e7 => have hc := (aC.rely Ub h₁).2; intro e he; simp [go_sem, hc] at he; subst he; exact (aC.rely Ub h₁).mR
  try walk_nrm
  have hm : da.aO.length - k = (da.aO.length - (k + 1)) + 1 := by omega
  rw [hm]
  show KO _ _ (Pc.recv cl false (.bool false) (fun x => match x with | some _ => C1 cf cl (.bool false) false (da.aO.length - (k + 1)) | none => .bad), γ3) _ _ _ _ _
  refine Cz rfl (by rfl) (fun w => ?_) (fun w => ?_) (fun x => ?_) (fun _ x => ?_) (fun x w7 r7 => ?_)
  ·simp [execOp, Act.eval, run_underlying Try.underlying116, zeroValue, typeInfo, hi4, hy0, rcase]
  ·simp [execOp, Act.eval, run_underlying Try.underlying116, zeroValue, typeInfo, hi4, hy0]
  ·cases x with
   | none => simp
   | some v => exact (xQ _).2
  ·cases x with
   | none => simp
   | some v => exact (xQ _).1
  cases x with
  | none => exact BW
  | some v =>
   have Pa := xb.trans (Kept.rely r7)
   clear Ub xb
   simp only []
   try walk_nrm
   refine aF C ?_
   co_then
   refine av C ?_
   simp only [List.size_toArray, List.length_cons, List.length_nil, Nat.reduceAdd, Nat.zero_add, List.range, List.range.loop]
   refine aa C (v := ?v8) rfl (by rfl) (fun w => run_eq_of fun K hK => ?r8) (fun w => ?e8) ?h8
   case r8 => go_simp; exact hK
   case e8 => first | (simp [go_sem]; done) | (simp [go_sem, *]; done)
   try walk_nrm
   refine aa C (v := ?v9) rfl (by rfl) (fun w => run_eq_of fun K hK => ?r9) (fun w => ?e9) ?h9
   case r9 => go_simp; exact hK
   case e9 => first | (simp [go_sem]; done) | (simp [go_sem, *]; done)
   try walk_nrm
   refine aF C (cQ ?_)
   exact ⟨da.aO.length - (k + 1), by omega, γ3, k + 1, rfl, Pa, by omega, rfl, kW rfl⟩
 ·have G8 : k = da.aO.length := by omega
  subst G8
  have Uh : decide ((da.aO.length : Int) < (da.aO.length : Int)) = false := by simp
  simp only [Nat.sub_self]
  refine aa C (v := ?v10) rfl (by rfl) (fun w => run_eq_of fun K hK => ?r10) (fun w => ?e10) ?rX
  case r10 => go_simp; exact hK
  case e10 => first | (simp [go_sem]; done) | (simp [go_sem, *]; done)
  try walk_nrm
  refine aF C ?_
  co_then
  refine aJ C (ct C (t := false) rfl ?_)
  simp only [Bool.false_eq_true, if_false]
  refine jZ C ?_
  co_then
  exact ⟨rfl, rfl, xb.sees hf, rfl, rfl, rfl⟩
def Pg : Frame := { (default : Frame) with fn := 60, kind := .deferred }
def call85 (ba bl bf : Nat) : Deferred := { target := .fn (.func 60) #[.pointer (some ⟨ba, 0, none⟩), .pointer (some ⟨bl, 0, none⟩), .pointer (some ⟨bf, 0, none⟩)], args := #[] }
theorem Q3 (a : Act) (hd : a.defers = []) (ops : Array Oper) : QuitsIn Try.prog 4 (G (Pg.at a [.inRegion ops []]) [bot]) := by
 obtain ⟨T, df⟩ := a
 simp only at hd
 subst hd
 refine .inr ⟨rfl, _, fun w => stepG_region_end, ?_⟩
 refine .inr ⟨rfl, _, fun w => stepG_end, ?_⟩
 refine .inr ⟨rfl, G bot [], fun w => ?_, ?_⟩
 ·simp [G, stepG, unwind, doReturn, results, Frame.at, Pg, bot, Try.func60, Try.f60, seen, GStep.after, goexitEntry]
 refine .inr ⟨rfl, { G bot [] with status := .finished }, fun w => ?_, rfl⟩
 simp [G, stepG, unwind, bot, goexitEntry, Frame.catches]
 rfl
theorem Wt (ba bl bf : Nat) (w : World) : stepG Try.prog false (born Try.prog (call85 ba bl bf)) w =
  .go (G (Pg.at ⟨#[.pointer (some ⟨ba, 0, none⟩), .pointer (some ⟨bl, 0, none⟩), .pointer (some ⟨bf, 0, none⟩), undef, undef, undef, undef, undef, undef, undef, undef, undef, undef], []⟩ [.code B4]) [bot]) w #[] := by
 simp [born, call85, stepG, unwind, callDeferred, invoke, callFunc, Try.func60, Try.f60, seen, GStep.after, G, Frame.enter, Frame.at, Pg, bot, B4]
set_option maxRecDepth 100000 in
theorem Kv (hP : Plain Try.prog) {ba bl bf cf cl : Nat} {da : Wk} (qg : da.ok)
  (ha : dR γ w ba da) (hf : aC γ w ⟨bf, 0, none⟩ (.chan (some cf))) (hl : aC γ w ⟨bl, 0, none⟩ (.chan (some cl))) :
  Pr Try.prog af false (C1 cf cl (.bool false) false da.aO.length) γ (born Try.prog (call85 ba bl bf)) w := by
 have C := vg (af := af) (main := false) hP
 have hne := xQ (cf := cf) (cl := cl) (z2 := .bool false) (lZ := false) da.aO.length
 suffices h : KG Try.prog af false (C1 cf cl (.bool false) false da.aO.length, γ) (born Try.prog (call85 ba bl bf)) w from h (fun _ => hne.1) hne.2
 refine C.go (fr := (born Try.prog (call85 ba bl bf)).frame) (cs := []) (fun w => Wt ba bl bf w) ?_
 show KG Try.prog af false _ (G (Pg.at _ (.code (.seq X85 TE) :: [])) [bot]) w
 refine C.go (fun w => stepG_seq) ?_
 refine E1 hP qg ha hf hl Pg [.code TE] [bot] rfl (by simp [Pg]) ?_
 rintro ⟨p', γ'⟩ e a' w' ⟨rfl, nM, Sq, zn, hsz', ht2⟩
 simp only at nM Sq
 subst nM
 show KG Try.prog af false _ (G (Pg.at a' (.code (.region _ _ false) :: [])) [bot]) w'
 refine C.go (fun w => stepG_region) ?_
 refine Ie C (xQ _).1 (v := .chan (some cf)) rfl (by rfl) (by simp [Pg]) (fun w₁ h₁ => ⟨run_eq_of fun K hK => ?_, ?_⟩) ?_
 ·have hc := (Sq.rely h₁).2
  clear hsz'
  go_simp
  exact hK
 ·have hc := (Sq.rely h₁).2
  intro e he
  simp [go_sem, hc, ht2] at he
  subst he
  exact (Sq.rely h₁).mR
 ·refine Ac aal rfl (by rfl) rfl ?_ (by simp [Pg]) ⟨4, QuitsD.of_quitsIn (Q3 _ (by exact zn) _)⟩
  simp [Act.eval, Act.put, hsz']
end Go.Co
end
