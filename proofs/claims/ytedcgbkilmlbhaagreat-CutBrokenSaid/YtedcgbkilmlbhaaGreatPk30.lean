import Derived.Test.YtedcgbkilmlbhaaGreatPk29
section
namespace Go.Co
open Go Go.Conc Go.Proofs
open Go.ConcN (upd upd_same upd_ne)
variable {af : Machine → Trace → Prop} {main : Bool} {K : Gm → Goroutine → World → Prop} {p : Pc} {γ : So} {w : World}
theorem events_indexAt_array {P : Program} {w : World} {es : Array Event} {t e : TypeId} {n : Nat} (h : P.underlying t = some (.array n e)) (a : Addr) (k : IntKind) (i : Int) (hi : 0 ≤ i ∧ i < n) :
  (Instr.indexAt t (.pointer (some a)) (.int k i)).events P w es = es := by
 simp only [Instr.indexAt, asIntOf, Instr.sureAddr, Sem.events_bind, Sem.run_pure, Sem.events_pure, Result.evThen_ok, run_underlying h, events_underlying, hi, and_self, if_true, events_sizeOf]
 cases (sizeOf e).run P w <;> rfl
noncomputable def aa3 : Code := match Tryz.f102.body with
 | some (.seq (.seq _ (.block _ (.loop (.seq _ (.seq _ (.seq (.block _ (.seq _ (.seq r _))) _)))))) _) => r
 | _ => .skip
set_option maxRecDepth 100000 in
set_option maxHeartbeats 2000000 in
theorem Ru (C : KC Tryz.prog main K z8 Du) (hp : p ≠ .ret) {bb ba bx : Nat} {da db : Wk} {x y : Int} (ha : dY γ w ba da) (hb : dY γ w bb db) (hx : aF γ w ⟨bx, 0, none⟩ (.int .i64 x)) (Dr : 0 ≤ x) (SS : x < 4) (hy0 : 0 ≤ y) (Yp : y < 4) (qB : da.ok) (vI : db.ok)
  {a0 : Act} (FU : a0.defers = []) (hsz : a0.tmps.size = 46) (t0 : a0.tmps[0]? = some (.pointer (some ⟨bb, 0, none⟩))) (t1 : a0.tmps[1]? = some (.pointer (some ⟨ba, 0, none⟩))) (t2 : a0.tmps[2]? = some (.pointer (some ⟨bx, 0, none⟩))) (t6 : a0.tmps[6]? = some (.int .i64 y))
  {Q : Gm → Exit → Act → World → Prop} (hQ : ∀ v γ' a' w', a'.defers = [] → a'.tmps.size = 46 → (∀ s, s < 17 → a'.tmps[s]? = a0.tmps[s]?) → a'.tmps[32]? = some v → a'.tmps[33]? = some (.int .i64 (eG da db x y).length) → a'.tmps[34]? = some (.int .i64 0) →
   iL γ' w' w.heap.size 3 1 v (eG da db x y).length (SO (eG da db x y)) → Kept γ w γ' w' → Q (p, γ') .normal a' w') : KJ K 102 (p, γ) aa3 Q a0 w := by
 obtain ⟨la, XW, K9⟩ := ha.lo x.toNat (by omega)
 obtain ⟨ua, hua, -⟩ := ha.up x.toNat (by omega)
 obtain ⟨ub, hub, Pt⟩ := hb.up y.toNat (by omega)
 obtain ⟨lb, UO, -⟩ := hb.lo y.toNat (by omega)
 have hwa := qB.bH
 have hwb := vI.bH
 have HB : IntKind.i64.wrap (da.bH + db.bH) = da.bH + db.bH := by rw [rz] <;> omega
 refine R4 C hp mixed (fun L γ' a' w' => Kept γ w γ' w' ∧ ∃ v, (L 15 = true → iL γ' w' w.heap.size 3 1 v (eG da db x y).length (SO (eG da db x y))) ∧ Qc (fun v => oA ba bb x y ua la ub lb da.bH db.bH (eG da db x y).length v) a0 v L a')
  (by kernel_rfl) (fun w₁ r => ?_) ?_ (fun L γ' a' w' hJ dx => ?_)
 ·exact ⟨(Kept.rely r).trans (Kept.rely (uP γ w₁ _)), undef, fun h => (nomatch h), FU, hsz, fun i _ h => (nomatch h), fun _ _ => rfl, fun h => (nomatch h)⟩
 ·rintro L γ' a' w' i o ⟨hk, v, hv, hs⟩ ho hL qI rest cZ
  have hi : i < 18 := (Array.getElem?_eq_some_iff.1 ho).1
  have hv' : ∀ j, j ≠ 15 → upd L j true 15 = true → iL γ' w' w.heap.size 3 1 v (eG da db x y).length (SO (eG da db x y)) := fun j hj h => hv (by rwa [upd_ne _ _ (Ne.symm hj)] at h)
  rcases i with _ | _ | _ | _ | _ | _ | _ | _ | _ | _ | _ | _ | _ | _ | _ | _ | _ | _ | i
  all_goals first | (exfalso; omega) | skip
  ·have ja := Option.some.inj ho
   subst ja
   have f2 : a'.tmps[2]? = some _ := (hs.old 2 (by omega)).trans t2
   refine cq C hp (v := ?v0) ho (by rfl) (fun w₁ h₁ => ⟨run_eq_of fun K hK => ?r0, ?e0⟩) ?h0
   case r0 => have hc := ((hk.sees hx).rely h₁).2; go_simp; exact hK
   case e0 => have hc := ((hk.sees hx).rely h₁).2; intro e he; simp [go_sem, *] at he; subst he; exact ((hk.sees hx).rely h₁).ni
   exact cZ _ _ _ ⟨hk, v, hv' 0 (by omega), hs.put (i := 0) (by omega) (fun h => by omega) rfl⟩
  ·have ja := Option.some.inj ho
   subst ja
   have f1 : a'.tmps[1]? = some _ := (hs.old 1 (by omega)).trans t1
   refine ah C (v := ?v1) ho (by rfl) (fun w => run_eq_of fun K hK => ?r1) (fun w => ?e1) ?h1
   case r1 => go_simp; exact hK
   case e1 => simp [go_sem, *]
   exact cZ _ _ _ ⟨hk, v, hv' 1 (by omega), hs.put (i := 1) (by omega) (fun h => by omega) rfl⟩
  ·have ja := Option.some.inj ho
   subst ja
   have d1 : L 1 = true := qI { on := 1, ground := Ground.data } (by simp) rfl
   have e1 : a'.tmps[18]? = some _ := hs.vals 1 (by omega) d1
   simp only [oA] at e1
   have d0 : L 0 = true := qI { on := 0, ground := Ground.data } (by simp) rfl
   have e0 : a'.tmps[17]? = some _ := hs.vals 0 (by omega) d0
   simp only [oA] at e0
   refine ah C (v := ?v2) ho (by rfl) (fun w => run_eq_of fun K hK => ?r2) (fun w => ?e2) ?h2
   case r2 => have HP : x.toNat < 4 := (by omega); go_simp; exact hK
   case e2 => simp [go_sem, e1, e0, events_indexAt_array Tryz.underlying92 _ _ x ⟨(by omega), (by omega)⟩]
   exact cZ _ _ _ ⟨hk, v, hv' 2 (by omega), hs.put (i := 2) (by omega) (fun h => by omega) rfl⟩
  ·have ja := Option.some.inj ho
   subst ja
   have d2 : L 2 = true := qI { on := 2, ground := Ground.data } (by simp) rfl
   have e2 : a'.tmps[19]? = some _ := hs.vals 2 (by omega) d2
   simp only [oA] at e2
   refine cq C hp (v := ?v3) ho (by rfl) (fun w₁ h₁ => ⟨run_eq_of fun K hK => ?r3, ?e3⟩) ?h3
   case r3 => have hc := ((hk.sees hua).rely h₁).2; have hd := ((hk.sees XW).rely h₁).2; go_simp; exact hK
   case e3 =>
    have hc := ((hk.sees hua).rely h₁).2
    have hd := ((hk.sees XW).rely h₁).2
    intro e he
    simp [go_sem, *] at he
    rcases he with rfl | rfl
    ·exact ((hk.sees hua).rely h₁).ni
    ·exact ((hk.sees XW).rely h₁).ni
   exact cZ _ _ _ ⟨hk, v, hv' 3 (by omega), hs.put (i := 3) (by omega) (fun h => by omega) rfl⟩
  ·have ja := Option.some.inj ho
   subst ja
   have f6 : a'.tmps[6]? = some _ := (hs.old 6 (by omega)).trans t6
   refine ah C (v := ?v4) ho (by rfl) (fun w => run_eq_of fun K hK => ?r4) (fun w => ?e4) ?h4
   case r4 => go_simp; exact hK
   case e4 => simp [go_sem, *]
   exact cZ _ _ _ ⟨hk, v, hv' 4 (by omega), hs.put (i := 4) (by omega) (fun h => by omega) rfl⟩
  ·have ja := Option.some.inj ho
   subst ja
   have f0 : a'.tmps[0]? = some _ := (hs.old 0 (by omega)).trans t0
   refine ah C (v := ?v5) ho (by rfl) (fun w => run_eq_of fun K hK => ?r5) (fun w => ?e5) ?h5
   case r5 => go_simp; exact hK
   case e5 => simp [go_sem, *]
   exact cZ _ _ _ ⟨hk, v, hv' 5 (by omega), hs.put (i := 5) (by omega) (fun h => by omega) rfl⟩
  ·have ja := Option.some.inj ho
   subst ja
   have d5 : L 5 = true := qI { on := 5, ground := Ground.data } (by simp) rfl
   have e5 : a'.tmps[22]? = some _ := hs.vals 5 (by omega) d5
   simp only [oA] at e5
   have d4 : L 4 = true := qI { on := 4, ground := Ground.data } (by simp) rfl
   have e4 : a'.tmps[21]? = some _ := hs.vals 4 (by omega) d4
   simp only [oA] at e4
   refine ah C (v := ?v6) ho (by rfl) (fun w => run_eq_of fun K hK => ?r6) (fun w => ?e6) ?h6
   case r6 => have HP : y.toNat < 4 := (by omega); go_simp; exact hK
   case e6 => simp [go_sem, e5, e4, events_indexAt_array Tryz.underlying92 _ _ y ⟨(by omega), (by omega)⟩]
   exact cZ _ _ _ ⟨hk, v, hv' 6 (by omega), hs.put (i := 6) (by omega) (fun h => by omega) rfl⟩
  ·have ja := Option.some.inj ho
   subst ja
   have d6 : L 6 = true := qI { on := 6, ground := Ground.data } (by simp) rfl
   have e6 : a'.tmps[23]? = some _ := hs.vals 6 (by omega) d6
   simp only [oA] at e6
   refine cq C hp (v := ?v7) ho (by rfl) (fun w₁ h₁ => ⟨run_eq_of fun K hK => ?r7, ?e7⟩) ?h7
   case r7 => have hc := ((hk.sees hub).rely h₁).2; have hd := ((hk.sees UO).rely h₁).2; go_simp; exact hK
   case e7 =>
    have hc := ((hk.sees hub).rely h₁).2
    have hd := ((hk.sees UO).rely h₁).2
    intro e he
    simp [go_sem, *] at he
    rcases he with rfl | rfl
    ·exact ((hk.sees hub).rely h₁).ni
    ·exact ((hk.sees UO).rely h₁).ni
   exact cZ _ _ _ ⟨hk, v, hv' 7 (by omega), hs.put (i := 7) (by omega) (fun h => by omega) rfl⟩
  ·have ja := Option.some.inj ho
   subst ja
   have f1 : a'.tmps[1]? = some _ := (hs.old 1 (by omega)).trans t1
   refine ah C (v := ?v8) ho (by rfl) (fun w => run_eq_of fun K hK => ?r8) (fun w => ?e8) ?h8
   case r8 => go_simp; exact hK
   case e8 => simp [go_sem, *]
   exact cZ _ _ _ ⟨hk, v, hv' 8 (by omega), hs.put (i := 8) (by omega) (fun h => by omega) rfl⟩
  ·have ja := Option.some.inj ho
   subst ja
   have d8 : L 8 = true := qI { on := 8, ground := Ground.data } (by simp) rfl
   have e8 : a'.tmps[25]? = some _ := hs.vals 8 (by omega) d8
   simp only [oA] at e8
   refine ah C (v := ?v9) ho (by rfl) (fun w => run_eq_of fun K hK => ?r9) (fun w => ?e9) ?h9
   case r9 => go_simp; exact hK
   case e9 => simp [go_sem, *]
   exact cZ _ _ _ ⟨hk, v, hv' 9 (by omega), hs.put (i := 9) (by omega) (fun h => by omega) rfl⟩
  ·have ja := Option.some.inj ho
   subst ja
   have d9 : L 9 = true := qI { on := 9, ground := Ground.data } (by simp) rfl
   have e9 : a'.tmps[26]? = some _ := hs.vals 9 (by omega) d9
   simp only [oA] at e9
   refine cq C hp (v := ?v10) ho (by rfl) (fun w₁ h₁ => ⟨run_eq_of fun K hK => ?r10, ?e10⟩) ?qZ
   case r10 => have hc := ((hk.sees (ha.bH)).rely h₁).2; go_simp; exact hK
   case e10 => have hc := ((hk.sees (ha.bH)).rely h₁).2; intro e he; simp [go_sem, *] at he; subst he; exact ((hk.sees (ha.bH)).rely h₁).ni
   exact cZ _ _ _ ⟨hk, v, hv' 10 (by omega), hs.put (i := 10) (by omega) (fun h => by omega) rfl⟩
  ·have ja := Option.some.inj ho
   subst ja
   have f0 : a'.tmps[0]? = some _ := (hs.old 0 (by omega)).trans t0
   refine ah C (v := ?v11) ho (by rfl) (fun w => run_eq_of fun K hK => ?r11) (fun w => ?e11) ?z7
   case r11 => go_simp; exact hK
   case e11 => simp [go_sem, *]
   exact cZ _ _ _ ⟨hk, v, hv' 11 (by omega), hs.put (i := 11) (by omega) (fun h => by omega) rfl⟩
  ·have ja := Option.some.inj ho
   subst ja
   have d11 : L 11 = true := qI { on := 11, ground := Ground.data } (by simp) rfl
   have e11 : a'.tmps[28]? = some _ := hs.vals 11 (by omega) d11
   simp only [oA] at e11
   refine ah C (v := ?v12) ho (by rfl) (fun w => run_eq_of fun K hK => ?r12) (fun w => ?e12) ?Lg
   case r12 => go_simp; exact hK
   case e12 => simp [go_sem, *]
   exact cZ _ _ _ ⟨hk, v, hv' 12 (by omega), hs.put (i := 12) (by omega) (fun h => by omega) rfl⟩
  ·have ja := Option.some.inj ho
   subst ja
   have d12 : L 12 = true := qI { on := 12, ground := Ground.data } (by simp) rfl
   have e12 : a'.tmps[29]? = some _ := hs.vals 12 (by omega) d12
   simp only [oA] at e12
   refine cq C hp (v := ?v13) ho (by rfl) (fun w₁ h₁ => ⟨run_eq_of fun K hK => ?r13, ?e13⟩) ?Tf
   case r13 => have hc := ((hk.sees (hb.bH)).rely h₁).2; go_simp; exact hK
   case e13 => have hc := ((hk.sees (hb.bH)).rely h₁).2; intro e he; simp [go_sem, *] at he; subst he; exact ((hk.sees (hb.bH)).rely h₁).ni
   exact cZ _ _ _ ⟨hk, v, hv' 13 (by omega), hs.put (i := 13) (by omega) (fun h => by omega) rfl⟩
  ·have ja := Option.some.inj ho
   subst ja
   have d10 : L 10 = true := qI { on := 10, ground := Ground.data } (by simp) rfl
   have e10 : a'.tmps[27]? = some _ := hs.vals 10 (by omega) d10
   simp only [oA] at e10
   have d13 : L 13 = true := qI { on := 13, ground := Ground.data } (by simp) rfl
   have e13 : a'.tmps[30]? = some _ := hs.vals 13 (by omega) d13
   simp only [oA] at e13
   refine ah C (v := ?v14) ho (by rfl) (fun w => run_eq_of fun K hK => ?r14) (fun w => ?e14) ?Y0
   case r14 => go_simp; exact hK
   case e14 => simp [go_sem, *]
   exact cZ _ _ _ ⟨hk, v, hv' 14 (by omega), hs.put (i := 14) (by omega) (fun h => by omega) rfl⟩
  ·have ja := Option.some.inj ho
   subst ja
   have d3 : L 3 = true := qI { on := 3, ground := Ground.data } (by simp) rfl
   have e3 : a'.tmps[20]? = some _ := hs.vals 3 (by omega) d3
   simp only [oA] at e3
   have d7 : L 7 = true := qI { on := 7, ground := Ground.data } (by simp) rfl
   have e7 : a'.tmps[24]? = some _ := hs.vals 7 (by omega) d7
   simp only [oA] at e7
   have d14 : L 14 = true := qI { on := 14, ground := Ground.data } (by simp) rfl
   have e14 : a'.tmps[31]? = some _ := hs.vals 14 (by omega) d14
   simp only [oA] at e14
   refine IX C ho (by rfl) rfl (Post := fun γ'' v Lm => γ''.1 = p ∧ iL γ''.2 Lm w'.heap.size 3 1 v (eG da db x y).length (SO (eG da db x y)) ∧ Kept γ' w' γ''.2 Lm) ?_ ?_
   ·simp only [List.map_toArray, List.map_cons, List.map_nil, Act.eval, Array.getD_eq_getD_getElem?, e3, e7, e14, Option.getD_some]
    exact N4 C hp _ (hk.BN K9) (hk.BN Pt) (qB.lo _) (vI.up _)
   rintro ⟨p', γ4⟩ v4 w4 ⟨hp4, AX, PA⟩
   simp only at hp4 PA AX
   subst p'
   exact cZ _ _ _ ⟨hk.trans PA, v4, fun _ => AX.more hk.size, (hs.val hL (fun j hj => by match j, hj with | 15, hj => exact absurd rfl hj | 0, _ | 1, _ | 2, _ | 3, _ | 4, _ | 5, _ | 6, _ | 7, _ | 8, _ | 9, _ | 10, _ | 11, _ | 12, _ | 13, _ | 14, _ | 16, _ | 17, _ | _ + 18, _ => rfl)).put (i := 15) (by omega) (fun h => by omega) rfl⟩
  ·have ja := Option.some.inj ho
   subst ja
   have d15 : L 15 = true := qI { on := 15, ground := Ground.data } (by simp) rfl
   have e15 : a'.tmps[32]? = some _ := hs.vals 15 (by omega) d15
   simp only [oA] at e15
   have dD := hv d15
   obtain ⟨A, cap, rfl, -⟩ := dD.BN
   refine ah C (v := ?v16) ho (by rfl) (fun w => run_eq_of fun K hK => ?r16) (fun w => ?e16) ?U0
   case r16 => go_simp; exact hK
   case e16 => simp [go_sem, *]
   exact cZ _ _ _ ⟨hk, _, hv' 16 (by omega), hs.put (i := 16) (by omega) (fun _ => d15) rfl⟩
  ·have ja := Option.some.inj ho
   subst ja
   refine ah C (v := ?v17) ho (by rfl) (fun w => run_eq_of fun K hK => ?r17) (fun w => ?e17) ?YZ
   case r17 => go_simp; exact hK
   case e17 => simp [go_sem, *]
   exact cZ _ _ _ ⟨hk, v, hv' 17 (by omega), hs.put (i := 17) (by omega) (fun h => by omega) rfl⟩
 ·obtain ⟨hk, v, hv, hs⟩ := hJ
  have hA : ∀ i, i < 18 → L i = true := fun i hi => dx i hi
  have Qb := hs.vals 15 (by omega) (hA 15 (by omega))
  have U0 := hs.vals 16 (by omega) (hA 16 (by omega))
  have YZ := hs.vals 17 (by omega) (hA 17 (by omega))
  exact hQ v γ' a' w' hs.defers hs.size hs.old Qb U0 YZ (hv (hA 15 (by omega))) hk
end Go.Co
end
section
namespace Go.Co
open Go Go.Conc Go.Proofs
variable {af : Machine → Trace → Prop} {γ : So} {w : World}
theorem IA {P : Program} {main : Bool} {K : Gm → Goroutine → World → Prop} {p : Pc} {a : Act} {ops : Array Oper} {i : Nat} {rest : List Nat} {o : Oper} (C : KC P main K z8 Du) (hp : p ≠ .ret) {v : Value} {b : Frame} {k : List Item} {cs : List Frame} (ho : ops[i]? = some o) (hw : Region.wanted o (yielded ops a.tmps) = true) (hk : b.kind ≠ .early)
  (hrun : ∀ w₁, gb γ w w₁ → (execOp a.eval o).run P w₁ = .ok (.value v) w₁ ∧ ∀ e ∈ (execOp a.eval o).events P w₁ #[], U8 γ.1 γ.2 e) (h : K (p, γ) (G (b.at (a.put o.dst v) (.inRegion ops rest :: k)) cs) w) : K (p, γ) (G (b.at a (.inRegion ops (i :: rest) :: k)) cs) w :=
 C.step _ _ _ _ fun w₁ r => ⟨_, _, _, _, (p, γ), stepG_value ho hw hk (hrun w₁ (PT hp r)).1, Yh hp ⟨rfl, El fun e he => (hrun w₁ (PT hp r)).2 e (mem_listed he)⟩, C.rely _ _ _ _ r h⟩
theorem Gu : (Tryz.prog.info? 79).map (fun i => (i.zero, i.size, i.bytes)) = some (some (.agg #[.int .i64 0, .int .i64 0, .int .i64 0]), 3, 24) := by kernel_rfl
theorem Fi (w : World) (x y s : Int) : (Instr.build 79 #[(0, .int .i64 x), (1, .int .i64 y), (2, .int .i64 s)]).run Tryz.prog w = .ok (.agg #[.int .i64 x, .int .i64 y, .int .i64 s]) w :=
 run_build w 79 _ _ (by kernel_rfl)
theorem zT (w : World) (es : Array Event) (x y s : Int) : (Instr.build 79 #[(0, .int .i64 x), (1, .int .i64 y), (2, .int .i64 s)]).events Tryz.prog w es = es := by
 obtain ⟨i0, hi, Dp, KZ, XL⟩ := info_parts Gu
 obtain ⟨i3, hi3, hy0, Po, hy2⟩ := info_parts Ms
 simp [Instr.build, run_underlying Tryz.underlying79, sizeOf, typeInfo, zeroValue, hi, Dp, hi3, Po]
 split <;> simp
noncomputable def Cn : Code := Tryz.f102.body.getD .skip
noncomputable def X84 : Code := match Cn with | .seq x _ => x | _ => .skip
noncomputable def Uw : Code := match Cn with | .seq _ r => r | _ => .skip
theorem Bj (a b : Wk) (x y : Int) (ys : List Int) : msgs a b x (y :: ys) = (eG a b x y).map (vL x y) ++ msgs a b x ys := by simp [msgs]
def acg (cf cl bl : Nat) (tv : Value) (γ' : Gm) (e : Exit) (a' : Act) (w' : World) : Prop := e = .normal ∧ γ'.1 = wk cf cl tv [] ∧ aF γ'.2 w' ⟨bl, 0, none⟩ (.chan (some cl)) ∧ a'.defers = [] ∧ a'.tmps.size = 46 ∧ a'.tmps[4]? = some (.pointer (some ⟨bl, 0, none⟩))
theorem OX {bb ba bx bf bl : Nat} {vl : Value} {nl k : Nat} {y : Int} {v : Value} {m : Nat} {a : Act} (hd : a.defers = []) (hsz : a.tmps.size = 46) (t0 : a.tmps[0]? = some (.pointer (some ⟨bb, 0, none⟩))) (t1 : a.tmps[1]? = some (.pointer (some ⟨ba, 0, none⟩))) (t2 : a.tmps[2]? = some (.pointer (some ⟨bx, 0, none⟩))) (t3 : a.tmps[3]? = some (.pointer (some ⟨bf, 0, none⟩))) (t4 : a.tmps[4]? = some (.pointer (some ⟨bl, 0, none⟩)))
  (t6 : a.tmps[6]? = some (.int .i64 y)) (t11 : a.tmps[11]? = some vl) (t12 : a.tmps[12]? = some (.int .i64 nl)) (t13 : a.tmps[13]? = some (.int .i64 k)) (t32 : a.tmps[32]? = some v) (t33 : a.tmps[33]? = some (.int .i64 m)) (t34 : a.tmps[34]? = some (.int .i64 0)) : ∃ u, a = MG bb ba bx bf bl vl nl k y v m 0 u := by
 obtain ⟨T, df⟩ := a
 simp only at hd hsz
 subst hd
 obtain ⟨v0, v1, v2, v3, v4, v5, v6, v7, v8, v9, v10, v11, v12, v13, v14, v15, v16, v17, v18, v19, v20, v21, v22, v23, v24, v25, v26, v27, v28, v29, v30, v31, v32, v33, v34, v35, v36, v37, v38, v39, v40, v41, v42, v43, v44, v45, rfl⟩ := SC T hsz
 simp at t0 t1 t2 t3 t4 t6 t11 t12 t13 t32 t33 t34
 subst t0 t1 t2 t3 t4 t6 t11 t12 t13 t32 t33 t34
 exact lG rfl
set_option maxRecDepth 100000 in
set_option maxHeartbeats 2000000 in
theorem E9 (hP : Plain Tryz.prog) {bb ba bx bf bl cf cl : Nat} {tv : Value} {da db : Wk} {x : Int} (qB : da.ok) (vI : db.ok) (Dr : 0 ≤ x) (SS : x < 4)
  (ha : dY γ w ba da) (hb : dY γ w bb db) (hx : aF γ w ⟨bx, 0, none⟩ (.int .i64 x)) (hf : aF γ w ⟨bf, 0, none⟩ (.chan (some cf))) (hl : aF γ w ⟨bl, 0, none⟩ (.chan (some cl))) :
  KJ (KG Tryz.prog af false) 102 (wk cf cl tv (msgs da db x db.aR), γ) X84 (acg cf cl bl tv)
   ⟨#[.pointer (some ⟨bb, 0, none⟩), .pointer (some ⟨ba, 0, none⟩), .pointer (some ⟨bx, 0, none⟩), .pointer (some ⟨bf, 0, none⟩), .pointer (some ⟨bl, 0, none⟩), undef, undef, undef, undef, undef, undef, undef, undef, undef, undef, undef, undef, undef, undef, undef, undef, undef, undef, undef, undef, undef, undef, undef, undef, undef, undef, undef, undef, undef, undef, undef, undef, undef, undef, undef, undef, undef, undef, undef, undef, undef], []⟩ w := by
 have C := vR (af := af) (main := false) hP
 have hp : ∀ vs, wk cf cl tv vs ≠ .ret := fun vs => (HR vs).1
 obtain ⟨vl, UF, A, cap, rfl, hA⟩ := hb.aR
 have ZD := vI.Y3
 refine aN C (av C ?_)
 simp only [List.size_toArray, List.length_cons, List.length_nil, Nat.reduceAdd, Nat.zero_add, List.range, List.range.loop]
 refine ah C (v := ?v1) rfl (by rfl) (fun w => run_eq_of fun K hK => ?r1) (fun w => ?e1) ?h1
 case r1 => go_simp; exact hK
 case e1 => first | (simp [go_sem]; done) | (simp [go_sem, *]; done)
 try walk_nrm
 refine ah C (v := ?v2) rfl (by rfl) (fun w => run_eq_of fun K hK => ?r2) (fun w => ?e2) ?h2
 case r2 => go_simp; exact hK
 case e2 => first | (simp [go_sem]; done) | (simp [go_sem, *]; done)
 try walk_nrm
 refine cq C (hp _) (v := ?v3) rfl (by rfl) (fun w₁ h₁ => ⟨run_eq_of fun K hK => ?r3, ?e3⟩) ?h3
 case r3 => have hc := (aF.rely UF h₁).2; go_simp; exact hK
 case e3 => have hc := (aF.rely UF h₁).2; intro e he; simp [go_sem, hc] at he; subst he; exact (aF.rely UF h₁).ni
 try walk_nrm
 refine ah C (v := ?v4) rfl (by rfl) (fun w => run_eq_of fun K hK => ?r4) (fun w => ?e4) ?h4
 case r4 => go_simp; exact hK
 case e4 => first | (simp [go_sem]; done) | (simp [go_sem, *]; done)
 try walk_nrm
 refine ah C (v := ?v5) rfl (by rfl) (fun w => run_eq_of fun K hK => ?r5) (fun w => ?e5) ?h5
 case r5 => go_simp; exact hK
 case e5 => first | (simp [go_sem]; done) | (simp [go_sem, *]; done)
 try walk_nrm
 refine aH C ?_
 co_then
 refine er C ?_
 refine lz C (fun n γ' a w' => ∃ γ3 k, γ' = (wk cf cl tv (msgs da db x (db.aR.drop k)), γ3) ∧ Kept γ w γ3 w' ∧ k ≤ db.aR.length ∧ n = db.aR.length - k ∧ ∃ u, a = Uo bb ba bx bf bl (.slice A db.aR.length cap) db.aR.length k u) (n := db.aR.length) ⟨γ, 0, rfl, Kept.refl _ _, by omega, by omega, lG rfl⟩ ?_
 rintro n γ' a w' ⟨γ3, k, hγ, vH, hk, hn, u, Af⟩
 subst hγ
 unfold Uo at Af
 subst Af
 refine aN C (av C ?_)
 simp only [List.size_toArray, List.length_cons, List.length_nil, Nat.zero_add, List.range, List.range.loop]
 by_cases hlt : k < db.aR.length
 ·have UY : decide ((k : Int) < (db.aR.length : Int)) = true := by simpa using hlt
  obtain ⟨y, hy⟩ : ∃ y, db.aR[k]? = some y := ⟨_, List.getElem?_eq_getElem hlt⟩
  obtain ⟨ad, hAe, Pv⟩ := hA k y hy
  subst hAe
  have hyb := vI.aR k y hy
  have MA : db.aR.drop k = y :: db.aR.drop (k + 1) := by
   rw [List.drop_eq_getElem_cons hlt]
   congr 1
   exact Option.some.inj ((List.getElem?_eq_getElem hlt).symm.trans hy)
  have hs3 := vH.sees Pv
  have hw5 : IntKind.i64.wrap ((k : Int) + 1) = (k : Int) + 1 := by rw [rz] <;> omega
  refine ah C (v := ?v6) rfl (by rfl) (fun w => run_eq_of fun K hK => ?r6) (fun w => ?e6) ?h6
  case r6 => go_simp; exact hK
  case e6 => first | (simp [go_sem]; done) | (simp [go_sem, *]; done)
  try walk_nrm
  refine aH C ?_
  co_then
  refine aN C (cr C (t := true) rfl ?_)
  simp only [if_true]
  refine ij C ?_
  co_then
  refine aN C (er C (aN C (av C ?_)))
  simp only [List.size_toArray, List.length_cons, List.length_nil, Nat.reduceAdd, Nat.zero_add, List.range, List.range.loop]
  refine ah C (v := ?v7) rfl (by rfl) (fun w => run_eq_of fun K hK => ?r7) (fun w => ?e7) ?h7
  case r7 => go_simp; exact hK
  case e7 => first | (simp [go_sem]; done) | (simp [go_sem, *]; done)
  try walk_nrm
  refine cq C (hp _) (v := ?v8) rfl (by rfl) (fun w₁ h₁ => ⟨run_eq_of fun K hK => ?r8, ?e8⟩) ?h8
  case r8 => have hc := (aF.rely hs3 h₁).2; go_simp; exact hK
  case e8 => have hc := (aF.rely hs3 h₁).2; intro e he; simp [go_sem, hc] at he; subst he; exact (aF.rely hs3 h₁).ni
  try walk_nrm
  refine ah C (v := ?v9) rfl (by rfl) (fun w => run_eq_of fun K hK => ?r9) (fun w => ?e9) ?h9
  case r9 => go_simp; exact hK
  case e9 => first | (simp [go_sem]; done) | (simp [go_sem, *]; done)
  try walk_nrm
  refine aH C ?_
  co_then
  rw [MA, Bj]
  clear hs3 hA
  refine aN C (Ru C (hp _) (ha.kept vH) (hb.kept vH) (vH.sees hx) Dr SS hyb.1 (by omega) qB vI rfl rfl rfl rfl rfl rfl ?_)
  intro v γ4 a4 w4 P6 Zr hold h32 h33 h34 dD PA
  co_then
  obtain ⟨A2, ov, rfl, YX⟩ := dD.BN
  obtain ⟨u4, ha4⟩ := OX (bb := bb) (ba := ba) (bx := bx) (bf := bf) (bl := bl) (vl := .slice (some ad) db.aR.length cap) (nl := db.aR.length) (k := k) P6 Zr (hold 0 (by omega)) (hold 1 (by omega)) (hold 2 (by omega)) (hold 3 (by omega)) (hold 4 (by omega)) (hold 6 (by omega)) (hold 11 (by omega)) (hold 12 (by omega)) (hold 13 (by omega)) h32 h33 h34
  clear hold h32 h33 h34 P6 Zr dD
  have abG := vH.trans PA
  generalize UR : eG da db x y = l at *
  refine er C ?_
  refine lz C (fun n γ' a w' => ∃ γ5 j, γ' = (wk cf cl tv ((l.drop j).map (vL x y) ++ msgs da db x (db.aR.drop (k + 1))), γ5) ∧ Kept γ4 w4 γ5 w' ∧ j ≤ l.length ∧ n = l.length - j ∧ ∃ u, a = MG bb ba bx bf bl (.slice (some ad) db.aR.length cap) db.aR.length k y (.slice A2 l.length ov) l.length j u) (n := l.length) ⟨γ4, 0, rfl, Kept.refl _ _, by omega, by omega, u4, ha4⟩ ?_
  clear ha4 vH
  rintro n2 γ' a w6 ⟨γ5, j, hγ, HF, hj, hn2, u, ha5⟩
  subst hγ
  unfold MG at ha5
  subst ha5
  have SY := abG.trans HF
  refine aN C (av C ?_)
  simp only [List.size_toArray, List.length_cons, List.length_nil, Nat.zero_add, List.range, List.range.loop]
  by_cases Qv : j < l.length
  ·have YN : decide ((j : Int) < (l.length : Int)) = true := by simpa using Qv
   obtain ⟨s, hs⟩ : ∃ s, l[j]? = some s := ⟨_, List.getElem?_eq_getElem Qv⟩
   obtain ⟨Ti, ab3, aby⟩ := YX j s hs
   subst ab3
   have Xl : l.drop j = s :: l.drop (j + 1) := by
    rw [List.drop_eq_getElem_cons Qv]
    congr 1
    exact Option.some.inj ((List.getElem?_eq_getElem Qv).symm.trans hs)
   have PY := HF.sees aby
   have hf5 := SY.sees hf
   have hx5 := SY.sees hx
   have hw6 : IntKind.i64.wrap ((j : Int) + 1) = (j : Int) + 1 := by
    have h1 := (vI.up y.toNat).1
    have h2 := (qB.lo x.toNat).1
    have h3 : l.length ≤ 2001 := by
     rw [← UR]
     exact Nat.le_trans (CC _ _ _ _) (by omega)
    rw [rz] <;> omega
   refine ah C (v := ?v10) rfl (by rfl) (fun w => run_eq_of fun K hK => ?r10) (fun w => ?e10) ?qZ
   case r10 => go_simp; exact hK
   case e10 => first | (simp [go_sem]; done) | (simp [go_sem, *]; done)
   try walk_nrm
   refine aH C ?_
   co_then
   refine aN C (cr C (t := true) rfl ?_)
   simp only [if_true]
   refine ij C ?_
   co_then
   refine aN C (er C (aN C (av C ?_)))
   simp only [List.size_toArray, List.length_cons, List.length_nil, Nat.reduceAdd, Nat.zero_add, List.range, List.range.loop]
   refine ah C (v := ?v11) rfl (by rfl) (fun w => run_eq_of fun K hK => ?r11) (fun w => ?e11) ?z7
   case r11 => go_simp; exact hK
   case e11 => first | (simp [go_sem]; done) | (simp [go_sem, *]; done)
   try walk_nrm
   refine cq C (hp _) (v := ?v12) rfl (by rfl) (fun w₁ h₁ => ⟨run_eq_of fun K hK => ?r12, ?e12⟩) ?Lg
   case r12 => have hc := (aF.rely PY h₁).2; go_simp; exact hK
   case e12 => have hc := (aF.rely PY h₁).2; intro e he; simp [go_sem, hc] at he; subst he; exact (aF.rely PY h₁).ni
   try walk_nrm
   refine ah C (v := ?v13) rfl (by rfl) (fun w => run_eq_of fun K hK => ?r13) (fun w => ?e13) ?Tf
   case r13 => go_simp; exact hK
   case e13 => first | (simp [go_sem]; done) | (simp [go_sem, *]; done)
   try walk_nrm
   refine aH C ?_
   co_then
   refine av C ?_
   simp only [List.size_toArray, List.length_cons, List.length_nil, Nat.reduceAdd, Nat.zero_add, List.range, List.range.loop]
   refine cq C (hp _) (v := ?v14) rfl (by rfl) (fun w₁ h₁ => ⟨run_eq_of fun K hK => ?r14, ?e14⟩) ?Y0
   case r14 => have hc := (aF.rely hf5 h₁).2; go_simp; exact hK
   case e14 => have hc := (aF.rely hf5 h₁).2; intro e he; simp [go_sem, hc] at he; subst he; exact (aF.rely hf5 h₁).ni
   try walk_nrm
   refine cq C (hp _) (v := ?v15) rfl (by rfl) (fun w₁ h₁ => ⟨run_eq_of fun K hK => ?r15, ?e15⟩) ?Qb
   case r15 => have hc := (aF.rely hx5 h₁).2; go_simp; exact hK
   case e15 => have hc := (aF.rely hx5 h₁).2; intro e he; simp [go_sem, hc] at he; subst he; exact (aF.rely hx5 h₁).ni
   try walk_nrm
   refine ah C (v := ?v16) rfl (by rfl) (fun w => run_eq_of fun K hK => ?r16) (fun w => ?e16) ?U0
   case r16 => go_simp; exact hK
   case e16 => first | (simp [go_sem]; done) | (simp [go_sem, *]; done)
   try walk_nrm
   refine ah C (v := ?v17) rfl (by rfl) (fun w => run_eq_of fun K hK => ?r17) (fun w => ?e17) ?YZ
   case r17 => go_simp; exact hK
   case e17 => first | (simp [go_sem]; done) | (simp [go_sem, *]; done)
   try walk_nrm
   have hbr := fun w => Fi w x y s
   have zZ := fun w => zT w #[] x y s
   refine ah C (v := ?v18) rfl (by rfl) (fun w => run_eq_of fun K hK => ?r18) (fun w => ?e18) ?h18
   case r18 => go_simp; exact hK
   case e18 => simp [go_sem, zZ]
   try walk_nrm
   clear hbr zZ
   rw [Xl]
   show KO _ _ (Pc.send cf (vL x y s) (wk cf cl tv ((l.drop (j + 1)).map (vL x y) ++ msgs da db x (db.aR.drop (k + 1)))), γ5) _ _ _ _ _
   refine RY rfl (by rfl) rfl rfl rfl (HR _).2 (hp _) (fun w7 r7 => ?_)
   have Pz := HF.trans (Kept.rely r7)
   clear PY hf5 hx5 SY HF
   try walk_nrm
   refine aH C ?_
   co_then
   refine av C ?_
   simp only [List.size_toArray, List.length_cons, List.length_nil, Nat.reduceAdd, Nat.zero_add, List.range, List.range.loop]
   refine ah C (v := ?v19) rfl (by rfl) (fun w => run_eq_of fun K hK => ?r19) (fun w => ?e19) ?h19
   case r19 => go_simp; exact hK
   case e19 => first | (simp [go_sem]; done) | (simp [go_sem, *]; done)
   try walk_nrm
   refine ah C (v := ?v20) rfl (by rfl) (fun w => run_eq_of fun K hK => ?r20) (fun w => ?e20) ?h20
   case r20 => go_simp; exact hK
   case e20 => first | (simp [go_sem]; done) | (simp [go_sem, *]; done)
   try walk_nrm
   refine aH C (cO ?_)
   exact ⟨l.length - (j + 1), by omega, γ5, j + 1, rfl, Pz, by omega, rfl, lG rfl⟩
  ·have YF : j = l.length := by omega
   subst YF
   have YN : decide ((l.length : Int) < (l.length : Int)) = false := by simp
   simp only [List.drop_length, List.map_nil, List.nil_append]
   refine ah C (v := ?v21) rfl (by rfl) (fun w => run_eq_of fun K hK => ?r21) (fun w => ?e21) ?h21
   case r21 => go_simp; exact hK
   case e21 => first | (simp [go_sem]; done) | (simp [go_sem, *]; done)
   try walk_nrm
   refine aH C ?_
   co_then
   refine aN C (cr C (t := false) rfl ?_)
   simp only [Bool.false_eq_true, if_false]
   refine kA C ?_
   co_then
   refine av C ?_
   simp only [List.size_toArray, List.length_cons, List.length_nil, Nat.reduceAdd, Nat.zero_add, List.range, List.range.loop]
   refine ah C (v := ?v22) rfl (by rfl) (fun w => run_eq_of fun K hK => ?r22) (fun w => ?e22) ?h22
   case r22 => go_simp; exact hK
   case e22 => first | (simp [go_sem]; done) | (simp [go_sem, *]; done)
   try walk_nrm
   refine ah C (v := ?v23) rfl (by rfl) (fun w => run_eq_of fun K hK => ?r23) (fun w => ?e23) ?h23
   case r23 => go_simp; exact hK
   case e23 => first | (simp [go_sem]; done) | (simp [go_sem, *]; done)
   try walk_nrm
   refine aH C (cO ?_)
   exact ⟨db.aR.length - (k + 1), by omega, γ5, k + 1, rfl, SY, by omega, rfl, lG rfl⟩
 ·have HE : k = db.aR.length := by omega
  subst HE
  have UY : decide ((db.aR.length : Int) < (db.aR.length : Int)) = false := by simp
  simp only [List.drop_length]
  refine ah C (v := ?v24) rfl (by rfl) (fun w => run_eq_of fun K hK => ?r24) (fun w => ?e24) ?h24
  case r24 => go_simp; exact hK
  case e24 => first | (simp [go_sem]; done) | (simp [go_sem, *]; done)
  try walk_nrm
  refine aH C ?_
  co_then
  refine aN C (cr C (t := false) rfl ?_)
  simp only [Bool.false_eq_true, if_false]
  refine kA C ?_
  co_then
  exact ⟨rfl, rfl, vH.sees hl, rfl, rfl, rfl⟩
noncomputable def bot : Frame := { (default : Frame) with fn := Tryz.prog.funcs.size, defers := [], mode := .panicking [goexitEntry] }
def PF : Frame := { (default : Frame) with fn := 102, kind := .deferred }
def call84 (bb ba bx bf bl : Nat) : Deferred := { target := .fn (.func 102) #[.pointer (some ⟨bb, 0, none⟩), .pointer (some ⟨ba, 0, none⟩), .pointer (some ⟨bx, 0, none⟩), .pointer (some ⟨bf, 0, none⟩), .pointer (some ⟨bl, 0, none⟩)], args := #[] }
theorem RA (a : Act) (hd : a.defers = []) (ops : Array Oper) : QuitsIn Tryz.prog 4 (G (PF.at a [.inRegion ops []]) [bot]) := by
 obtain ⟨T, df⟩ := a
 simp only at hd
 subst hd
 refine .inr ⟨rfl, _, fun w => stepG_region_end, ?_⟩
 refine .inr ⟨rfl, _, fun w => stepG_end, ?_⟩
 refine .inr ⟨rfl, G bot [], fun w => ?_, ?_⟩
 ·simp [G, stepG, unwind, doReturn, results, Frame.at, PF, bot, Tryz.func102, Tryz.f102, seen, GStep.after, goexitEntry]
 refine .inr ⟨rfl, { G bot [] with status := .finished }, fun w => ?_, rfl⟩
 simp [G, stepG, unwind, bot, goexitEntry, Frame.catches]
 rfl
theorem Xy (bb ba bx bf bl : Nat) (w : World) : stepG Tryz.prog false (born Tryz.prog (call84 bb ba bx bf bl)) w =
  .go (G (PF.at ⟨#[.pointer (some ⟨bb, 0, none⟩), .pointer (some ⟨ba, 0, none⟩), .pointer (some ⟨bx, 0, none⟩), .pointer (some ⟨bf, 0, none⟩), .pointer (some ⟨bl, 0, none⟩), undef, undef, undef, undef, undef, undef, undef, undef, undef, undef, undef, undef, undef, undef, undef, undef, undef, undef, undef, undef, undef, undef, undef, undef, undef, undef, undef, undef, undef, undef, undef, undef, undef, undef, undef, undef, undef, undef, undef, undef, undef], []⟩ [.code Cn]) [bot]) w #[] := by
 simp [born, call84, stepG, unwind, callDeferred, invoke, callFunc, Tryz.func102, Tryz.f102, seen, GStep.after, G, Frame.enter, Frame.at, PF, bot, Cn]
set_option maxRecDepth 100000 in
theorem JA (hP : Plain Tryz.prog) {bb ba bx bf bl cf cl : Nat} {da db : Wk} {x : Int} (qB : da.ok) (vI : db.ok) (Dr : 0 ≤ x) (SS : x < 4)
  (ha : dY γ w ba da) (hb : dY γ w bb db) (hx : aF γ w ⟨bx, 0, none⟩ (.int .i64 x)) (hf : aF γ w ⟨bf, 0, none⟩ (.chan (some cf))) (hl : aF γ w ⟨bl, 0, none⟩ (.chan (some cl))) :
  Pr Tryz.prog af false (wk cf cl (.bool true) (msgs da db x db.aR)) γ (born Tryz.prog (call84 bb ba bx bf bl)) w := by
 have C := vR (af := af) (main := false) hP
 have hne := HR (cf := cf) (cl := cl) (tv := .bool true) (msgs da db x db.aR)
 suffices h : KG Tryz.prog af false (wk cf cl (.bool true) (msgs da db x db.aR), γ) (born Tryz.prog (call84 bb ba bx bf bl)) w from h (fun _ => hne.1) hne.2
 refine C.go (fr := (born Tryz.prog (call84 bb ba bx bf bl)).frame) (cs := []) (fun w => Xy bb ba bx bf bl w) ?_
 show KG Tryz.prog af false _ (G (PF.at _ (.code (.seq X84 Uw) :: [])) [bot]) w
 refine C.go (fun w => stepG_seq) ?_
 refine E9 hP qB vI Dr SS ha hb hx hf hl PF [.code Uw] [bot] rfl (by simp [PF]) ?_
 rintro ⟨p', γ'⟩ e a' w' ⟨rfl, nX, gF, zX, hsz', Pu⟩
 simp only at nX gF
 subst nX
 show KG Tryz.prog af false _ (G (PF.at a' (.code (.region _ _ false) :: [])) [bot]) w'
 refine C.go (fun w => stepG_region) ?_
 refine IA C (HR _).1 (v := .chan (some cl)) rfl (by rfl) (by simp [PF]) (fun w₁ h₁ => ⟨run_eq_of fun K hK => ?_, ?_⟩) ?_
 ·have hc := (gF.rely h₁).2
  clear hsz'
  go_simp
  exact hK
 ·have hc := (gF.rely h₁).2
  intro e he
  simp [go_sem, hc, Pu] at he
  subst he
  exact (gF.rely h₁).ni
 ·refine Da rfl (by rfl) rfl ?_ rfl (by simp [PF]) ⟨4, QuitsD.of_quitsIn (RA _ (by exact zX) _)⟩
  simp [Act.eval, Act.put, hsz']
end Go.Co
end
section
namespace Go.Co
open Go Go.Conc Go.Proofs
variable {af : Machine → Trace → Prop} {γ : So} {w : World}
theorem ym {cf cl : Nat} {z2 : Value} {mu : Bool} (k : Nat) : Dj cf cl z2 mu k ≠ .ret ∧ Dj cf cl z2 mu k ≠ .stop := by cases k <;> simp [Dj]
theorem Cf {P : Program} {main : Bool} {fn : FuncId} {ops : Array Oper} {todo : List Nat} {Q : Gm → Exit → Act → World → Prop} {a : Act} : KO (KG P af main) fn (.bad, γ) ops todo Q a w := fun _ _ _ _ _ _ _ _ => trivial
theorem TW : (Tryz.prog.info? 4).map (fun i => (i.zero, i.size, i.bytes)) = some (some (.bool false), 1, 1) := by kernel_rfl
theorem abl (f : FuncId) : (Tryz.prog.funcs[f]?).any (·.norace) = false := by
 have h : Tryz.prog.funcs.all (fun f => !f.norace) = true := by kernel_rfl
 cases hf : Tryz.prog.funcs[f]? with
 | none => rfl
 | some fn =>
  obtain ⟨hlt, rfl⟩ := Array.getElem?_eq_some_iff.1 hf
  simpa using Array.all_eq_true.1 h f hlt
noncomputable def Cm : Code := Tryz.f104.body.getD .skip
noncomputable def X85 : Code := match Cm with | .seq x _ => x | _ => .skip
noncomputable def Uv : Code := match Cm with | .seq _ r => r | _ => .skip
def ZP (ba bl bf : Nat) (vl : Value) (nl k : Nat) (u : Nat → Value) : Act :=
 ⟨#[.pointer (some ⟨ba, 0, none⟩), .pointer (some ⟨bl, 0, none⟩), .pointer (some ⟨bf, 0, none⟩), u 3, u 4, vl, .int .i64 nl, .int .i64 k, u 8, u 9, u 10, u 11, u 12], []⟩
def Mb (cf cl bf : Nat) (z2 : Value) (γ' : Gm) (e : Exit) (a' : Act) (w' : World) : Prop := e = .normal ∧ γ'.1 = Dj cf cl z2 false 0 ∧ aF γ'.2 w' ⟨bf, 0, none⟩ (.chan (some cf)) ∧ a'.defers = [] ∧ a'.tmps.size = 13 ∧ a'.tmps[2]? = some (.pointer (some ⟨bf, 0, none⟩))
set_option maxRecDepth 100000 in
set_option maxHeartbeats 1000000 in
theorem FB (hP : Plain Tryz.prog) {ba bl bf cf cl : Nat} {da : Wk} (qB : da.ok)
  (ha : dY γ w ba da) (hf : aF γ w ⟨bf, 0, none⟩ (.chan (some cf))) (hl : aF γ w ⟨bl, 0, none⟩ (.chan (some cl))) :
  KJ (KG Tryz.prog af false) 104 (Dj cf cl (.bool false) false da.aR.length, γ) X85 (Mb cf cl bf (.bool false))
   ⟨#[.pointer (some ⟨ba, 0, none⟩), .pointer (some ⟨bl, 0, none⟩), .pointer (some ⟨bf, 0, none⟩), undef, undef, undef, undef, undef, undef, undef, undef, undef, undef], []⟩ w := by
 have C := vR (af := af) (main := false) hP
 have hp : ∀ k, Dj cf cl (.bool false) false k ≠ .ret := fun k => (ym k).1
 obtain ⟨vl, UF, A, cap, rfl, -⟩ := ha.aR
 have ZD := qB.Y3
 obtain ⟨i4, hi4, hy0, Po, hy2⟩ := info_parts TW
 refine aN C (av C ?_)
 simp only [List.size_toArray, List.length_cons, List.length_nil, Nat.reduceAdd, Nat.zero_add, List.range, List.range.loop]
 refine ah C (v := ?v1) rfl (by rfl) (fun w => run_eq_of fun K hK => ?r1) (fun w => ?e1) ?h1
 case r1 => go_simp; exact hK
 case e1 => first | (simp [go_sem]; done) | (simp [go_sem, *]; done)
 try walk_nrm
 refine ah C (v := ?v2) rfl (by rfl) (fun w => run_eq_of fun K hK => ?r2) (fun w => ?e2) ?h2
 case r2 => go_simp; exact hK
 case e2 => first | (simp [go_sem]; done) | (simp [go_sem, *]; done)
 try walk_nrm
 refine cq C (hp _) (v := ?v3) rfl (by rfl) (fun w₁ h₁ => ⟨run_eq_of fun K hK => ?r3, ?e3⟩) ?h3
 case r3 => have hc := (aF.rely UF h₁).2; go_simp; exact hK
 case e3 => have hc := (aF.rely UF h₁).2; intro e he; simp [go_sem, hc] at he; subst he; exact (aF.rely UF h₁).ni
 try walk_nrm
 refine ah C (v := ?v4) rfl (by rfl) (fun w => run_eq_of fun K hK => ?r4) (fun w => ?e4) ?h4
 case r4 => go_simp; exact hK
 case e4 => first | (simp [go_sem]; done) | (simp [go_sem, *]; done)
 try walk_nrm
 refine ah C (v := ?v5) rfl (by rfl) (fun w => run_eq_of fun K hK => ?r5) (fun w => ?e5) ?h5
 case r5 => go_simp; exact hK
 case e5 => first | (simp [go_sem]; done) | (simp [go_sem, *]; done)
 try walk_nrm
 refine aH C ?_
 co_then
 refine er C ?_
 refine lz C (fun n γ' a w' => ∃ γ3 k, γ' = (Dj cf cl (.bool false) false (da.aR.length - k), γ3) ∧ Kept γ w γ3 w' ∧ k ≤ da.aR.length ∧ n = da.aR.length - k ∧ ∃ u, a = ZP ba bl bf (.slice A da.aR.length cap) da.aR.length k u) (n := da.aR.length) ⟨γ, 0, rfl, Kept.refl _ _, by omega, by omega, lG rfl⟩ ?_
 rintro n γ' a w' ⟨γ3, k, hγ, vH, hk, hn, u, Af⟩
 subst hγ
 unfold ZP at Af
 subst Af
 refine aN C (av C ?_)
 simp only [List.size_toArray, List.length_cons, List.length_nil, Nat.zero_add, List.range, List.range.loop]
 by_cases hlt : k < da.aR.length
 ·have UY : decide ((k : Int) < (da.aR.length : Int)) = true := by simpa using hlt
  have UQ := vH.sees hl
  have hw5 : IntKind.i64.wrap ((k : Int) + 1) = (k : Int) + 1 := by rw [rz] <;> omega
  refine ah C (v := ?v6) rfl (by rfl) (fun w => run_eq_of fun K hK => ?r6) (fun w => ?e6) ?h6
  case r6 => go_simp; exact hK
  case e6 => first | (simp [go_sem]; done) | (simp [go_sem, *]; done)
  try walk_nrm
  refine aH C ?_
  co_then
  refine aN C (cr C (t := true) rfl ?_)
  simp only [if_true]
  refine ij C ?_
  co_then
  refine aN C (er C (av C ?_))
  simp only [List.size_toArray, List.length_cons, List.length_nil, Nat.reduceAdd, Nat.zero_add, List.range, List.range.loop]
  refine cq C (hp _) (v := ?v7) rfl (by rfl) (fun w₁ h₁ => ⟨run_eq_of fun K hK => ?r7, ?e7⟩) ?h7
  case r7 => have hc := (aF.rely UQ h₁).2; go_simp; exact hK
  case e7 => have hc := (aF.rely UQ h₁).2; intro e he; simp [go_sem, hc] at he; subst he; exact (aF.rely UQ h₁).ni
  try walk_nrm
  have hm : da.aR.length - k = (da.aR.length - (k + 1)) + 1 := by omega
  rw [hm]
  show KO _ _ (Pc.recv cl false (.bool false) (fun x => match x with | some _ => Dj cf cl (.bool false) false (da.aR.length - (k + 1)) | none => .bad), γ3) _ _ _ _ _
  refine CM rfl (by rfl) (fun w => ?_) (fun w => ?_) (fun x => ?_) (fun _ x => ?_) (fun x w7 r7 => ?_)
  ·simp [execOp, Act.eval, run_underlying Tryz.underlying137, zeroValue, typeInfo, hi4, hy0, rcase]
  ·simp [execOp, Act.eval, run_underlying Tryz.underlying137, zeroValue, typeInfo, hi4, hy0]
  ·cases x with
   | none => simp
   | some v => exact (ym _).2
  ·cases x with
   | none => simp
   | some v => exact (ym _).1
  cases x with
  | none => exact Cf
  | some v =>
   have Pz := vH.trans (Kept.rely r7)
   clear UQ vH
   simp only []
   try walk_nrm
   refine aH C ?_
   co_then
   refine av C ?_
   simp only [List.size_toArray, List.length_cons, List.length_nil, Nat.reduceAdd, Nat.zero_add, List.range, List.range.loop]
   refine ah C (v := ?v8) rfl (by rfl) (fun w => run_eq_of fun K hK => ?r8) (fun w => ?e8) ?h8
   case r8 => go_simp; exact hK
   case e8 => first | (simp [go_sem]; done) | (simp [go_sem, *]; done)
   try walk_nrm
   refine ah C (v := ?v9) rfl (by rfl) (fun w => run_eq_of fun K hK => ?r9) (fun w => ?e9) ?h9
   case r9 => go_simp; exact hK
   case e9 => first | (simp [go_sem]; done) | (simp [go_sem, *]; done)
   try walk_nrm
   refine aH C (cO ?_)
   exact ⟨da.aR.length - (k + 1), by omega, γ3, k + 1, rfl, Pz, by omega, rfl, lG rfl⟩
 ·have HE : k = da.aR.length := by omega
  subst HE
  have UY : decide ((da.aR.length : Int) < (da.aR.length : Int)) = false := by simp
  simp only [Nat.sub_self]
  refine ah C (v := ?v10) rfl (by rfl) (fun w => run_eq_of fun K hK => ?r10) (fun w => ?e10) ?qZ
  case r10 => go_simp; exact hK
  case e10 => first | (simp [go_sem]; done) | (simp [go_sem, *]; done)
  try walk_nrm
  refine aH C ?_
  co_then
  refine aN C (cr C (t := false) rfl ?_)
  simp only [Bool.false_eq_true, if_false]
  refine kA C ?_
  co_then
  exact ⟨rfl, rfl, vH.sees hf, rfl, rfl, rfl⟩
def PE : Frame := { (default : Frame) with fn := 104, kind := .deferred }
def call85 (ba bl bf : Nat) : Deferred := { target := .fn (.func 104) #[.pointer (some ⟨ba, 0, none⟩), .pointer (some ⟨bl, 0, none⟩), .pointer (some ⟨bf, 0, none⟩)], args := #[] }
theorem Rz (a : Act) (hd : a.defers = []) (ops : Array Oper) : QuitsIn Tryz.prog 4 (G (PE.at a [.inRegion ops []]) [bot]) := by
 obtain ⟨T, df⟩ := a
 simp only at hd
 subst hd
 refine .inr ⟨rfl, _, fun w => stepG_region_end, ?_⟩
 refine .inr ⟨rfl, _, fun w => stepG_end, ?_⟩
 refine .inr ⟨rfl, G bot [], fun w => ?_, ?_⟩
 ·simp [G, stepG, unwind, doReturn, results, Frame.at, PE, bot, Tryz.func104, Tryz.f104, seen, GStep.after, goexitEntry]
 refine .inr ⟨rfl, { G bot [] with status := .finished }, fun w => ?_, rfl⟩
 simp [G, stepG, unwind, bot, goexitEntry, Frame.catches]
 rfl
theorem Xx (ba bl bf : Nat) (w : World) : stepG Tryz.prog false (born Tryz.prog (call85 ba bl bf)) w =
  .go (G (PE.at ⟨#[.pointer (some ⟨ba, 0, none⟩), .pointer (some ⟨bl, 0, none⟩), .pointer (some ⟨bf, 0, none⟩), undef, undef, undef, undef, undef, undef, undef, undef, undef, undef], []⟩ [.code Cm]) [bot]) w #[] := by
 simp [born, call85, stepG, unwind, callDeferred, invoke, callFunc, Tryz.func104, Tryz.f104, seen, GStep.after, G, Frame.enter, Frame.at, PE, bot, Cm]
set_option maxRecDepth 100000 in
theorem KQ (hP : Plain Tryz.prog) {ba bl bf cf cl : Nat} {da : Wk} (qB : da.ok)
  (ha : dY γ w ba da) (hf : aF γ w ⟨bf, 0, none⟩ (.chan (some cf))) (hl : aF γ w ⟨bl, 0, none⟩ (.chan (some cl))) :
  Pr Tryz.prog af false (Dj cf cl (.bool false) false da.aR.length) γ (born Tryz.prog (call85 ba bl bf)) w := by
 have C := vR (af := af) (main := false) hP
 have hne := ym (cf := cf) (cl := cl) (z2 := .bool false) (mu := false) da.aR.length
 suffices h : KG Tryz.prog af false (Dj cf cl (.bool false) false da.aR.length, γ) (born Tryz.prog (call85 ba bl bf)) w from h (fun _ => hne.1) hne.2
 refine C.go (fr := (born Tryz.prog (call85 ba bl bf)).frame) (cs := []) (fun w => Xx ba bl bf w) ?_
 show KG Tryz.prog af false _ (G (PE.at _ (.code (.seq X85 Uv) :: [])) [bot]) w
 refine C.go (fun w => stepG_seq) ?_
 refine FB hP qB ha hf hl PE [.code Uv] [bot] rfl (by simp [PE]) ?_
 rintro ⟨p', γ'⟩ e a' w' ⟨rfl, nX, S7, zX, hsz', ht2⟩
 simp only at nX S7
 subst nX
 show KG Tryz.prog af false _ (G (PE.at a' (.code (.region _ _ false) :: [])) [bot]) w'
 refine C.go (fun w => stepG_region) ?_
 refine IA C (ym _).1 (v := .chan (some cf)) rfl (by rfl) (by simp [PE]) (fun w₁ h₁ => ⟨run_eq_of fun K hK => ?_, ?_⟩) ?_
 ·have hc := (S7.rely h₁).2
  clear hsz'
  go_simp
  exact hK
 ·have hc := (S7.rely h₁).2
  intro e he
  simp [go_sem, hc, ht2] at he
  subst he
  exact (S7.rely h₁).ni
 ·refine Ay abl rfl (by rfl) rfl ?_ (by simp [PE]) ⟨4, QuitsD.of_quitsIn (Rz _ (by exact zX) _)⟩
  simp [Act.eval, Act.put, hsz']
end Go.Co
end
