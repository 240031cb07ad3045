import Derived.Test.YtedcgbkilmlbhaaGreatPk30
section
namespace Go.Co
open Go Go.Conc Go.Proofs
variable {aa : Machine → Trace → Prop} {γ : So} {w : World}
theorem Kl {P : Program} {main : Bool} {K : Gm → Goroutine → World → Prop} {p : Pc} {a : Act} {ops : Array Oper} {i : Nat} {rest : List Nat} {o : Oper} (C : KC P main K yR Dq) (hp : p ≠ .ret) {v : Value} {b : Frame} {k : List Item} {cs : List Frame} (ho : ops[i]? = some o) (hw : Region.wanted o (yielded ops a.tmps) = true) (hk : b.kind ≠ .early)
  (hrun : ∀ w₁, ir γ w w₁ → (execOp a.eval o).run P w₁ = .ok (.value v) w₁ ∧ ∀ e ∈ (execOp a.eval o).events P w₁ #[], Sy γ.1 γ.2 e) (h : K (p, γ) (G (b.at (a.put o.dst v) (.inRegion ops rest :: k)) cs) w) : K (p, γ) (G (b.at a (.inRegion ops (i :: rest) :: k)) cs) w :=
 C.step _ _ _ _ fun w₁ r => ⟨_, _, _, _, (p, γ), stepG_value ho hw hk (hrun w₁ (Sa hp r)).1, Z0 hp ⟨rfl, FU fun e he => (hrun w₁ (Sa hp r)).2 e (mem_listed he)⟩, C.rely _ _ _ _ r h⟩
theorem Ir : (Tryz.prog.info? 79).map (fun i => (i.zero, i.size, i.bytes)) = some (some (.agg #[.int .i64 0, .int .i64 0, .int .i64 0]), 3, 24) := by kernel_rfl
theorem GR (w : World) (x y s : Int) : (Instr.build 79 #[(0, .int .i64 x), (1, .int .i64 y), (2, .int .i64 s)]).run Tryz.prog w = .ok (.agg #[.int .i64 x, .int .i64 y, .int .i64 s]) w :=
 run_build w 79 _ _ (by kernel_rfl)
theorem Bs (w : World) (es : Array Event) (x y s : Int) : (Instr.build 79 #[(0, .int .i64 x), (1, .int .i64 y), (2, .int .i64 s)]).events Tryz.prog w es = es := by
 obtain ⟨i0, hi, E7, M9, Zt⟩ := info_parts Ir
 obtain ⟨i3, hi3, hy0, hy1, Zu⟩ := info_parts Oz
 simp [Instr.build, run_underlying Tryz.underlying79, sizeOf, typeInfo, zeroValue, hi, E7, hi3, hy1]
 split <;> simp
noncomputable def D1 : Code := Tryz.f102.body.getD .skip
noncomputable def X84 : Code := match D1 with | .seq x _ => x | _ => .skip
noncomputable def Wo : Code := match D1 with | .seq _ r => r | _ => .skip
theorem CK (a b : Wk) (x y : Int) (ys : List Int) : msgs a b x (y :: ys) = (fI a b x y).map (xK x y) ++ msgs a b x ys := by simp [msgs]
def adB (cf cl bl : Nat) (tv : Value) (γ' : Gm) (e : Exit) (a' : Act) (w' : World) : Prop := e = .normal ∧ γ'.1 = wk cf cl tv [] ∧ bD γ'.2 w' ⟨bl, 0, none⟩ (.chan (some cl)) ∧ a'.defers = [] ∧ a'.tmps.size = 46 ∧ a'.tmps[4]? = some (.pointer (some ⟨bl, 0, none⟩))
theorem Rg {bb ba bx bf bl : Nat} {vl : Value} {nl k : Nat} {y : Int} {v : Value} {m : Nat} {a : Act} (hd : a.defers = []) (hsz : a.tmps.size = 46) (t0 : a.tmps[0]? = some (.pointer (some ⟨bb, 0, none⟩))) (t1 : a.tmps[1]? = some (.pointer (some ⟨ba, 0, none⟩))) (t2 : a.tmps[2]? = some (.pointer (some ⟨bx, 0, none⟩))) (t3 : a.tmps[3]? = some (.pointer (some ⟨bf, 0, none⟩))) (t4 : a.tmps[4]? = some (.pointer (some ⟨bl, 0, none⟩)))
  (t6 : a.tmps[6]? = some (.int .i64 y)) (t11 : a.tmps[11]? = some vl) (t12 : a.tmps[12]? = some (.int .i64 nl)) (t13 : a.tmps[13]? = some (.int .i64 k)) (t32 : a.tmps[32]? = some v) (t33 : a.tmps[33]? = some (.int .i64 m)) (t34 : a.tmps[34]? = some (.int .i64 0)) : ∃ u, a = OL bb ba bx bf bl vl nl k y v m 0 u := by
 obtain ⟨T, df⟩ := a
 simp only at hd hsz
 subst hd
 obtain ⟨v0, v1, v2, v3, v4, v5, v6, v7, v8, v9, v10, v11, v12, v13, v14, v15, v16, v17, v18, v19, v20, v21, v22, v23, v24, v25, v26, v27, v28, v29, v30, v31, v32, v33, v34, v35, v36, v37, v38, v39, v40, v41, v42, v43, v44, v45, rfl⟩ := U3 T hsz
 simp at t0 t1 t2 t3 t4 t6 t11 t12 t13 t32 t33 t34
 subst t0 t1 t2 t3 t4 t6 t11 t12 t13 t32 t33 t34
 exact nO rfl
set_option maxRecDepth 100000 in
set_option maxHeartbeats 2000000 in
theorem GJ (hP : Plain Tryz.prog) {bb ba bx bf bl cf cl : Nat} {tv : Value} {da db : Wk} {x : Int} (sP : da.ok) (xG : db.ok) (E9 : 0 ≤ x) (hx3 : x < 4)
  (ha : fG γ w ba da) (hb : fG γ w bb db) (hx : bD γ w ⟨bx, 0, none⟩ (.int .i64 x)) (hf : bD γ w ⟨bf, 0, none⟩ (.chan (some cf))) (hl : bD γ w ⟨bl, 0, none⟩ (.chan (some cl))) :
  KJ (KG Tryz.prog aa false) 102 (wk cf cl tv (msgs da db x db.aZ), γ) X84 (adB cf cl bl tv)
   ⟨#[.pointer (some ⟨bb, 0, none⟩), .pointer (some ⟨ba, 0, none⟩), .pointer (some ⟨bx, 0, none⟩), .pointer (some ⟨bf, 0, none⟩), .pointer (some ⟨bl, 0, none⟩), undef, undef, undef, undef, undef, undef, undef, undef, undef, undef, undef, undef, undef, undef, undef, undef, undef, undef, undef, undef, undef, undef, undef, undef, undef, undef, undef, undef, undef, undef, undef, undef, undef, undef, undef, undef, undef, undef, undef, undef, undef], []⟩ w := by
 have C := xQ (aa := aa) (main := false) hP
 have hp : ∀ vs, wk cf cl tv vs ≠ .ret := fun vs => (JB vs).1
 obtain ⟨vl, hvl, A, cap, rfl, hA⟩ := hb.aZ
 have aav := xG.few
 refine aT C (bX C ?_)
 iterate 2 (refine aj C ?_; try walk_nrm)
 refine iF C (hp _) hvl ?_
 iterate 2 (try walk_nrm; refine aj C ?_)
 try walk_nrm
 refine aO C ?_
 co_then
 refine fS C ?_
 refine nL C (fun n γ' a w' => ∃ γ3 k, γ' = (wk cf cl tv (msgs da db x (db.aZ.drop k)), γ3) ∧ Kept γ w γ3 w' ∧ k ≤ db.aZ.length ∧ n = db.aZ.length - k ∧ ∃ u, a = Wh bb ba bx bf bl (.slice A db.aZ.length cap) db.aZ.length k u) (n := db.aZ.length) ⟨γ, 0, rfl, Kept.refl _ _, by omega, by omega, nO rfl⟩ ?_
 rintro n γ' a w' ⟨γ3, k, hγ, zy, hk, hn, u, BG⟩
 subst hγ
 unfold Wh at BG
 subst BG
 refine aT C (bX C ?_)
 by_cases hlt : k < db.aZ.length
 ·have WR : decide ((k : Int) < (db.aZ.length : Int)) = true := by simpa using hlt
  obtain ⟨y, hy⟩ : ∃ y, db.aZ[k]? = some y := ⟨_, bK hlt⟩
  obtain ⟨ad, hAe, Zz⟩ := hA k y hy
  subst hAe
  have hyb := xG.aZ k y hy
  have OH : db.aZ.drop k = y :: db.aZ.drop (k + 1) := by
   rw [mO hlt]
   congr 1
   exact cg ((bK hlt).symm.trans hy)
  have hs3 := zy.sees Zz
  have hw5 : IntKind.i64.wrap ((k : Int) + 1) = (k : Int) + 1 := by rw [tJ] <;> omega
  refine aj C ?_
  try walk_nrm
  refine aO C ?_
  co_then
  refine aT C (c9 C (t := true) rfl ?_)
  simp only [if_true]
  refine jC C ?_
  co_then
  refine aT C (fS C (aT C (bX C ?_)))
  refine aj C ?_
  try walk_nrm
  refine iF C (hp _) hs3 ?_
  try walk_nrm
  refine aj C ?_
  try walk_nrm
  refine aO C ?_
  co_then
  rw [OH, CK]
  clear hs3 hA
  refine aT C (Ub C (hp _) (ha.kept zy) (hb.kept zy) (zy.sees hx) E9 hx3 hyb.1 (by omega) sP xG rfl rfl rfl rfl rfl rfl ?_)
  intro v γ4 a4 w4 Sl aak hold h32 h33 h34 eN RQ
  co_then
  obtain ⟨A2, qD, rfl, hA2⟩ := eN.Dh
  obtain ⟨u4, ha4⟩ := Rg (bb := bb) (ba := ba) (bx := bx) (bf := bf) (bl := bl) (vl := .slice (some ad) db.aZ.length cap) (nl := db.aZ.length) (k := k) Sl aak (hold 0 (by omega)) (hold 1 (by omega)) (hold 2 (by omega)) (hold 3 (by omega)) (hold 4 (by omega)) (hold 6 (by omega)) (hold 11 (by omega)) (hold 12 (by omega)) (hold 13 (by omega)) h32 h33 h34
  clear hold h32 h33 h34 Sl aak eN
  have ac2 := zy.trans RQ
  generalize WJ : fI da db x y = l at *
  refine fS C ?_
  refine nL C (fun n γ' a w' => ∃ γ5 j, γ' = (wk cf cl tv ((l.drop j).map (xK x y) ++ msgs da db x (db.aZ.drop (k + 1))), γ5) ∧ Kept γ4 w4 γ5 w' ∧ j ≤ l.length ∧ n = l.length - j ∧ ∃ u, a = OL bb ba bx bf bl (.slice (some ad) db.aZ.length cap) db.aZ.length k y (.slice A2 l.length qD) l.length j u) (n := l.length) ⟨γ4, 0, rfl, Kept.refl _ _, by omega, by omega, u4, ha4⟩ ?_
  clear ha4 zy
  rintro n2 γ' a w6 ⟨γ5, j, hγ, Ju, hj, hn2, u, ha5⟩
  subst hγ
  unfold OL at ha5
  subst ha5
  have Vg := ac2.trans Ju
  refine aT C (bX C ?_)
  by_cases SN : j < l.length
  ·have hd2 : decide ((j : Int) < (l.length : Int)) = true := by simpa using SN
   obtain ⟨s, hs⟩ : ∃ s, l[j]? = some s := ⟨_, bK SN⟩
   obtain ⟨Vt, adp, acR⟩ := hA2 j s hs
   subst adp
   have YZ : l.drop j = s :: l.drop (j + 1) := by
    rw [mO SN]
    congr 1
    exact cg ((bK SN).symm.trans hs)
   have Wy := Ju.sees acR
   have hf5 := Vg.sees hf
   have hx5 := Vg.sees hx
   have hw6 : IntKind.i64.wrap ((j : Int) + 1) = (j : Int) + 1 := by
    have h1 := (xG.up y.toNat).1
    have h2 := (sP.lo x.toNat).1
    have h3 : l.length ≤ 2001 := by
     rw [← WJ]
     exact aM (Eg _ _ _ _) (by omega)
    rw [tJ] <;> omega
   refine aj C ?_
   try walk_nrm
   refine aO C ?_
   co_then
   refine aT C (c9 C (t := true) rfl ?_)
   simp only [if_true]
   refine jC C ?_
   co_then
   refine aT C (fS C (aT C (bX C ?_)))
   refine aj C ?_
   try walk_nrm
   refine iF C (hp _) Wy ?_
   try walk_nrm
   refine aj C ?_
   try walk_nrm
   refine aO C ?_
   co_then
   refine bX C ?_
   refine iF C (hp _) hf5 ?_
   try walk_nrm
   refine iF C (hp _) hx5 ?_
   iterate 2 (try walk_nrm; refine aj C ?_)
   try walk_nrm
   have hbr := fun w => GR w x y s
   have Bx := fun w => Bs w #[] x y s
   refine dB C (v := ?v18) rfl (by rfl) (fun w => run_eq_of fun K hK => ?r18) (fun w => ?e18) ?h18
   case r18 => go_simp; exact hK
   case e18 => simp [go_sem, Bx]
   try walk_nrm
   clear hbr Bx
   rw [YZ]
   show KO _ _ (Pc.send cf (xK x y s) (wk cf cl tv ((l.drop (j + 1)).map (xK x y) ++ msgs da db x (db.aZ.drop (k + 1)))), γ5) _ _ _ _ _
   refine Uw rfl (by rfl) rfl rfl rfl (JB _).2 (hp _) (fun w7 r7 => ?_)
   have RP := Ju.trans (Kept.rely r7)
   clear Wy hf5 hx5 Vg Ju
   try walk_nrm
   refine aO C ?_
   co_then
   refine bX C ?_
   iterate 2 (refine aj C ?_; try walk_nrm)
   refine aO C (dQ ?_)
   exact ⟨l.length - (j + 1), by omega, γ5, j + 1, rfl, RP, by omega, rfl, nO rfl⟩
  ·have hje : j = l.length := by omega
   subst hje
   have hd2 : decide ((l.length : Int) < (l.length : Int)) = false := by simp
   simp only [List.drop_length, fB, List.nil_append]
   refine aj C ?_
   try walk_nrm
   refine aO C ?_
   co_then
   refine aT C (c9 C (t := false) rfl ?_)
   simp only [aD, if_false]
   refine mB C ?_
   co_then
   refine bX C ?_
   iterate 2 (refine aj C ?_; try walk_nrm)
   refine aO C (dQ ?_)
   exact ⟨db.aZ.length - (k + 1), by omega, γ5, k + 1, rfl, Vg, by omega, rfl, nO rfl⟩
 ·have Jt : k = db.aZ.length := by omega
  subst Jt
  have WR : decide ((db.aZ.length : Int) < (db.aZ.length : Int)) = false := by simp
  simp only [List.drop_length]
  refine aj C ?_
  try walk_nrm
  refine aO C ?_
  co_then
  refine aT C (c9 C (t := false) rfl ?_)
  simp only [aD, if_false]
  refine mB C ?_
  co_then
  exact ⟨rfl, rfl, zy.sees hl, rfl, rfl, rfl⟩
noncomputable def bot : Frame := { (default : Frame) with fn := Tryz.prog.funcs.size, defers := [], mode := .panicking [goexitEntry] }
def RY : Frame := { (default : Frame) with fn := 102, kind := .deferred }
def call84 (bb ba bx bf bl : Nat) : Deferred := { target := .fn (.func 102) #[.pointer (some ⟨bb, 0, none⟩), .pointer (some ⟨ba, 0, none⟩), .pointer (some ⟨bx, 0, none⟩), .pointer (some ⟨bf, 0, none⟩), .pointer (some ⟨bl, 0, none⟩)], args := #[] }
theorem Ui (a : Act) (hd : a.defers = []) (ops : Array Oper) : QuitsIn Tryz.prog 4 (G (RY.at a [.inRegion ops []]) [bot]) := by
 obtain ⟨T, df⟩ := a
 simp only at hd
 subst hd
 refine .inr ⟨rfl, _, fun w => stepG_region_end, ?_⟩
 refine .inr ⟨rfl, _, fun w => stepG_end, ?_⟩
 refine .inr ⟨rfl, G bot [], fun w => ?_, ?_⟩
 ·simp [G, stepG, unwind, doReturn, results, Frame.at, RY, bot, Tryz.func102, Tryz.f102, seen, GStep.after, goexitEntry]
 refine .inr ⟨rfl, { G bot [] with status := .finished }, fun w => ?_, rfl⟩
 simp [G, stepG, unwind, bot, goexitEntry, Frame.catches]
 rfl
theorem Zc (bb ba bx bf bl : Nat) (w : World) : stepG Tryz.prog false (born Tryz.prog (call84 bb ba bx bf bl)) w =
  .go (G (RY.at ⟨#[.pointer (some ⟨bb, 0, none⟩), .pointer (some ⟨ba, 0, none⟩), .pointer (some ⟨bx, 0, none⟩), .pointer (some ⟨bf, 0, none⟩), .pointer (some ⟨bl, 0, none⟩), undef, undef, undef, undef, undef, undef, undef, undef, undef, undef, undef, undef, undef, undef, undef, undef, undef, undef, undef, undef, undef, undef, undef, undef, undef, undef, undef, undef, undef, undef, undef, undef, undef, undef, undef, undef, undef, undef, undef, undef, undef], []⟩ [.code D1]) [bot]) w #[] := by
 simp [born, call84, stepG, unwind, callDeferred, invoke, callFunc, Tryz.func102, Tryz.f102, seen, GStep.after, G, Frame.enter, Frame.at, RY, bot, D1]
set_option maxRecDepth 100000 in
theorem LI (hP : Plain Tryz.prog) {bb ba bx bf bl cf cl : Nat} {da db : Wk} {x : Int} (sP : da.ok) (xG : db.ok) (E9 : 0 ≤ x) (hx3 : x < 4)
  (ha : fG γ w ba da) (hb : fG γ w bb db) (hx : bD γ w ⟨bx, 0, none⟩ (.int .i64 x)) (hf : bD γ w ⟨bf, 0, none⟩ (.chan (some cf))) (hl : bD γ w ⟨bl, 0, none⟩ (.chan (some cl))) :
  Pr Tryz.prog aa false (wk cf cl (.bool true) (msgs da db x db.aZ)) γ (born Tryz.prog (call84 bb ba bx bf bl)) w := by
 have C := xQ (aa := aa) (main := false) hP
 have hne := JB (cf := cf) (cl := cl) (tv := .bool true) (msgs da db x db.aZ)
 suffices h : KG Tryz.prog aa false (wk cf cl (.bool true) (msgs da db x db.aZ), γ) (born Tryz.prog (call84 bb ba bx bf bl)) w from h (fun _ => hne.1) hne.2
 refine C.go (fr := (born Tryz.prog (call84 bb ba bx bf bl)).frame) (cs := []) (fun w => Zc bb ba bx bf bl w) ?_
 show KG Tryz.prog aa false _ (G (RY.at _ (.code (.seq X84 Wo) :: [])) [bot]) w
 refine C.go (fun w => stepG_seq) ?_
 refine GJ hP sP xG E9 hx3 ha hb hx hf hl RY [.code Wo] [bot] rfl (by simp [RY]) ?_
 rintro ⟨p', γ'⟩ e a' w' ⟨rfl, qu, js, Bw, hsz', ht4⟩
 simp only at qu js
 subst qu
 show KG Tryz.prog aa false _ (G (RY.at a' (.code (.region _ _ false) :: [])) [bot]) w'
 refine C.go (fun w => stepG_region) ?_
 refine Kl C (JB _).1 (v := .chan (some cl)) rfl (by rfl) (by simp [RY]) (fun w₁ h₁ => ⟨run_eq_of fun K hK => ?_, ?_⟩) ?_
 ·have hc := (js.rely h₁).2
  clear hsz'
  go_simp
  exact hK
 ·have hc := (js.rely h₁).2
  intro e he
  simp [go_sem, hc, ht4] at he
  subst he
  exact (js.rely h₁).EZ
 ·refine EN rfl (by rfl) rfl ?_ rfl (by simp [RY]) ⟨4, QuitsD.of_quitsIn (Ui _ (by exact Bw) _)⟩
  simp [Act.eval, Act.put, hsz']
end Go.Co
end
section
namespace Go.Co
open Go Go.Conc Go.Proofs
variable {aa : Machine → Trace → Prop} {γ : So} {w : World}
theorem Ac {cf cl : Nat} {z2 : Value} {oL : Bool} (k : Nat) : E0 cf cl z2 oL k ≠ .ret ∧ E0 cf cl z2 oL k ≠ .stop := by cases k <;> simp [E0]
theorem DR {P : Program} {main : Bool} {fn : FuncId} {ops : Array Oper} {todo : List Nat} {Q : Gm → Exit → Act → World → Prop} {a : Act} : KO (KG P aa main) fn (.bad, γ) ops todo Q a w := fun _ _ _ _ _ _ _ _ => trivial
theorem VX : (Tryz.prog.info? 4).map (fun i => (i.zero, i.size, i.bytes)) = some (some (.bool false), 1, 1) := by kernel_rfl
theorem acJ (f : FuncId) : (Tryz.prog.funcs[f]?).any (·.norace) = false := by
 have h : Tryz.prog.funcs.all (fun f => !f.norace) = true := by kernel_rfl
 cases hf : Tryz.prog.funcs[f]? with
 | none => rfl
 | some fn =>
  obtain ⟨hlt, rfl⟩ := aN.1 hf
  simpa using Array.all_eq_true.1 h f hlt
noncomputable def DZ : Code := Tryz.f104.body.getD .skip
noncomputable def X85 : Code := match DZ with | .seq x _ => x | _ => .skip
noncomputable def Wn : Code := match DZ with | .seq _ r => r | _ => .skip
def aaI (ba bl bf : Nat) (vl : Value) (nl k : Nat) (u : Nat → Value) : Act :=
 ⟨#[.pointer (some ⟨ba, 0, none⟩), .pointer (some ⟨bl, 0, none⟩), .pointer (some ⟨bf, 0, none⟩), u 3, u 4, vl, .int .i64 nl, .int .i64 k, u 8, u 9, u 10, u 11, u 12], []⟩
def Od (cf cl bf : Nat) (z2 : Value) (γ' : Gm) (e : Exit) (a' : Act) (w' : World) : Prop := e = .normal ∧ γ'.1 = E0 cf cl z2 false 0 ∧ bD γ'.2 w' ⟨bf, 0, none⟩ (.chan (some cf)) ∧ a'.defers = [] ∧ a'.tmps.size = 13 ∧ a'.tmps[2]? = some (.pointer (some ⟨bf, 0, none⟩))
set_option maxRecDepth 100000 in
set_option maxHeartbeats 1000000 in
theorem Hi (hP : Plain Tryz.prog) {ba bl bf cf cl : Nat} {da : Wk} (sP : da.ok)
  (ha : fG γ w ba da) (hf : bD γ w ⟨bf, 0, none⟩ (.chan (some cf))) (hl : bD γ w ⟨bl, 0, none⟩ (.chan (some cl))) :
  KJ (KG Tryz.prog aa false) 104 (E0 cf cl (.bool false) false da.aZ.length, γ) X85 (Od cf cl bf (.bool false))
   ⟨#[.pointer (some ⟨ba, 0, none⟩), .pointer (some ⟨bl, 0, none⟩), .pointer (some ⟨bf, 0, none⟩), undef, undef, undef, undef, undef, undef, undef, undef, undef, undef], []⟩ w := by
 have C := xQ (aa := aa) (main := false) hP
 have hp : ∀ k, E0 cf cl (.bool false) false k ≠ .ret := fun k => (Ac k).1
 obtain ⟨vl, hvl, A, cap, rfl, -⟩ := ha.aZ
 have aav := sP.few
 obtain ⟨i4, hi4, hy0, hy1, Zu⟩ := info_parts VX
 refine aT C (bX C ?_)
 iterate 2 (refine aj C ?_; try walk_nrm)
 refine iF C (hp _) hvl ?_
 iterate 2 (try walk_nrm; refine aj C ?_)
 try walk_nrm
 refine aO C ?_
 co_then
 refine fS C ?_
 refine nL C (fun n γ' a w' => ∃ γ3 k, γ' = (E0 cf cl (.bool false) false (da.aZ.length - k), γ3) ∧ Kept γ w γ3 w' ∧ k ≤ da.aZ.length ∧ n = da.aZ.length - k ∧ ∃ u, a = aaI ba bl bf (.slice A da.aZ.length cap) da.aZ.length k u) (n := da.aZ.length) ⟨γ, 0, rfl, Kept.refl _ _, by omega, by omega, nO rfl⟩ ?_
 rintro n γ' a w' ⟨γ3, k, hγ, zy, hk, hn, u, BG⟩
 subst hγ
 unfold aaI at BG
 subst BG
 refine aT C (bX C ?_)
 by_cases hlt : k < da.aZ.length
 ·have WR : decide ((k : Int) < (da.aZ.length : Int)) = true := by simpa using hlt
  have hl3 := zy.sees hl
  have hw5 : IntKind.i64.wrap ((k : Int) + 1) = (k : Int) + 1 := by rw [tJ] <;> omega
  refine aj C ?_
  try walk_nrm
  refine aO C ?_
  co_then
  refine aT C (c9 C (t := true) rfl ?_)
  simp only [if_true]
  refine jC C ?_
  co_then
  refine aT C (fS C (bX C ?_))
  refine iF C (hp _) hl3 ?_
  try walk_nrm
  have hm : da.aZ.length - k = (da.aZ.length - (k + 1)) + 1 := by omega
  rw [hm]
  show KO _ _ (Pc.recv cl false (.bool false) (fun x => match x with | some _ => E0 cf cl (.bool false) false (da.aZ.length - (k + 1)) | none => .bad), γ3) _ _ _ _ _
  refine Es rfl (by rfl) (fun w => ?_) (fun w => ?_) (fun x => ?_) (fun _ x => ?_) (fun x w7 r7 => ?_)
  ·simp [execOp, Act.eval, run_underlying Tryz.underlying137, zeroValue, typeInfo, hi4, hy0, rcase]
  ·simp [execOp, Act.eval, run_underlying Tryz.underlying137, zeroValue, typeInfo, hi4, hy0]
  ·cases x with
   | none => simp
   | some v => exact (Ac _).2
  ·cases x with
   | none => simp
   | some v => exact (Ac _).1
  cases x with
  | none => exact DR
  | some v =>
   have RP := zy.trans (Kept.rely r7)
   clear hl3 zy
   simp only []
   try walk_nrm
   refine aO C ?_
   co_then
   refine bX C ?_
   iterate 2 (refine aj C ?_; try walk_nrm)
   refine aO C (dQ ?_)
   exact ⟨da.aZ.length - (k + 1), by omega, γ3, k + 1, rfl, RP, by omega, rfl, nO rfl⟩
 ·have Jt : k = da.aZ.length := by omega
  subst Jt
  have WR : decide ((da.aZ.length : Int) < (da.aZ.length : Int)) = false := by simp
  simp only [Nat.sub_self]
  refine aj C ?_
  try walk_nrm
  refine aO C ?_
  co_then
  refine aT C (c9 C (t := false) rfl ?_)
  simp only [aD, if_false]
  refine mB C ?_
  co_then
  exact ⟨rfl, rfl, zy.sees hf, rfl, rfl, rfl⟩
def RX : Frame := { (default : Frame) with fn := 104, kind := .deferred }
def call85 (ba bl bf : Nat) : Deferred := { target := .fn (.func 104) #[.pointer (some ⟨ba, 0, none⟩), .pointer (some ⟨bl, 0, none⟩), .pointer (some ⟨bf, 0, none⟩)], args := #[] }
theorem Uh (a : Act) (hd : a.defers = []) (ops : Array Oper) : QuitsIn Tryz.prog 4 (G (RX.at a [.inRegion ops []]) [bot]) := by
 obtain ⟨T, df⟩ := a
 simp only at hd
 subst hd
 refine .inr ⟨rfl, _, fun w => stepG_region_end, ?_⟩
 refine .inr ⟨rfl, _, fun w => stepG_end, ?_⟩
 refine .inr ⟨rfl, G bot [], fun w => ?_, ?_⟩
 ·simp [G, stepG, unwind, doReturn, results, Frame.at, RX, bot, Tryz.func104, Tryz.f104, seen, GStep.after, goexitEntry]
 refine .inr ⟨rfl, { G bot [] with status := .finished }, fun w => ?_, rfl⟩
 simp [G, stepG, unwind, bot, goexitEntry, Frame.catches]
 rfl
theorem Zb (ba bl bf : Nat) (w : World) : stepG Tryz.prog false (born Tryz.prog (call85 ba bl bf)) w =
  .go (G (RX.at ⟨#[.pointer (some ⟨ba, 0, none⟩), .pointer (some ⟨bl, 0, none⟩), .pointer (some ⟨bf, 0, none⟩), undef, undef, undef, undef, undef, undef, undef, undef, undef, undef], []⟩ [.code DZ]) [bot]) w #[] := by
 simp [born, call85, stepG, unwind, callDeferred, invoke, callFunc, Tryz.func104, Tryz.f104, seen, GStep.after, G, Frame.enter, Frame.at, RX, bot, DZ]
set_option maxRecDepth 100000 in
theorem MV (hP : Plain Tryz.prog) {ba bl bf cf cl : Nat} {da : Wk} (sP : da.ok)
  (ha : fG γ w ba da) (hf : bD γ w ⟨bf, 0, none⟩ (.chan (some cf))) (hl : bD γ w ⟨bl, 0, none⟩ (.chan (some cl))) :
  Pr Tryz.prog aa false (E0 cf cl (.bool false) false da.aZ.length) γ (born Tryz.prog (call85 ba bl bf)) w := by
 have C := xQ (aa := aa) (main := false) hP
 have hne := Ac (cf := cf) (cl := cl) (z2 := .bool false) (oL := false) da.aZ.length
 suffices h : KG Tryz.prog aa false (E0 cf cl (.bool false) false da.aZ.length, γ) (born Tryz.prog (call85 ba bl bf)) w from h (fun _ => hne.1) hne.2
 refine C.go (fr := (born Tryz.prog (call85 ba bl bf)).frame) (cs := []) (fun w => Zb ba bl bf w) ?_
 show KG Tryz.prog aa false _ (G (RX.at _ (.code (.seq X85 Wn) :: [])) [bot]) w
 refine C.go (fun w => stepG_seq) ?_
 refine Hi hP sP ha hf hl RX [.code Wn] [bot] rfl (by simp [RX]) ?_
 rintro ⟨p', γ'⟩ e a' w' ⟨rfl, qu, Vl, Bw, hsz', ht2⟩
 simp only at qu Vl
 subst qu
 show KG Tryz.prog aa false _ (G (RX.at a' (.code (.region _ _ false) :: [])) [bot]) w'
 refine C.go (fun w => stepG_region) ?_
 refine Kl C (Ac _).1 (v := .chan (some cf)) rfl (by rfl) (by simp [RX]) (fun w₁ h₁ => ⟨run_eq_of fun K hK => ?_, ?_⟩) ?_
 ·have hc := (Vl.rely h₁).2
  clear hsz'
  go_simp
  exact hK
 ·have hc := (Vl.rely h₁).2
  intro e he
  simp [go_sem, hc, ht2] at he
  subst he
  exact (Vl.rely h₁).EZ
 ·refine B1 acJ rfl (by rfl) rfl ?_ (by simp [RX]) ⟨4, QuitsD.of_quitsIn (Uh _ (by exact Bw) _)⟩
  simp [Act.eval, Act.put, hsz']
end Go.Co
end
section
namespace Go.Co
open Go Go.Conc Go.Proofs
open Classical
variable {P : Program} {aa : Machine → Trace → Prop} {γ : So} {w : World}
theorem GH {b : Nat} : γ.give.all b ↔ γ.all b := ⟨fun h => h.elim id fun h => h.elim, .inl⟩
theorem bD.give {ad : Addr} {v : Value} (h : bD γ w ad v) : bD γ.give w ad v := ⟨GH.2 h.1, h.2⟩
theorem wu.give {v : Value} {l : List Int} (h : wu γ w v l) : wu γ.give w v l := by
 obtain ⟨A, cap, rfl, h⟩ := h
 exact ⟨A, cap, rfl, fun i x hx => by obtain ⟨ad, h1, h2⟩ := h i x hx; exact ⟨ad, h1, h2.give⟩⟩
theorem fG.give {b : Nat} {d : Wk} (h : fG γ w b d) : fG γ.give w b d :=
 ⟨h.cq.give, h.aZ.imp fun _ ⟨h1, h2⟩ => ⟨h1.give, h2.give⟩, fun i hi => (h.up i hi).imp fun _ ⟨h1, h2⟩ => ⟨h1.give, h2.give⟩, fun i hi => (h.lo i hi).imp fun _ ⟨h1, h2⟩ => ⟨h1.give, h2.give⟩⟩
theorem Kept.put {γ0 : So} {w0 : World} {ad : Addr} {v : Value} (k : Kept γ0 w0 γ w) (h : w0.heap.size ≤ ad.block) : Kept γ0 w0 γ (w.setCell ad v) :=
 ⟨k.shr, k.own, fun b hb hlt => (heap_setCell_other _ _ _ _ (by omega)).trans (k.blk b hb hlt), by rw [World.size_setCell]; exact k.size, k.env⟩
structure Ff (A : Nat → Prop) (B0 : Nat) (w0 : World) (γ : So) (w : World) : Prop where
 lt : ∀ b, A b → b < B0
 all : ∀ b, A b → γ.all b
 blk : ∀ b, A b → w.heap[b]? = w0.heap[b]?
 size : B0 ≤ w.heap.size
 env : w.os = w0.os ∧ w.output = w0.output
theorem Ff.kept {A : Nat → Prop} {B0 : Nat} {w0 w' : World} {γ' : So} (h : Ff A B0 w0 γ w) (k : Kept γ w γ' w') : Ff A B0 w0 γ' w' :=
 ⟨h.lt, fun b hb => k.all (h.all b hb), fun b hb => (k.blk b (h.all b hb) (cI (h.lt b hb) h.size)).trans (h.blk b hb), aM h.size k.size, k.env.1.trans h.env.1, k.env.2.trans h.env.2⟩
theorem Ff.give {A : Nat → Prop} {B0 : Nat} {w0 : World} (h : Ff A B0 w0 γ w) : Ff A B0 w0 γ.give w := ⟨h.lt, fun b hb => GH.2 (h.all b hb), h.blk, h.size, h.env⟩
structure Fx (da db : Wk) (b2 b3 b5 b6 cf cl : Nat) (γ : So) (w : World) : Prop where
 wa : fG γ w b2 da
 wb : fG γ w b3 db
 f : bD γ w ⟨b5, 0, none⟩ (.chan (some cf))
 l : bD γ w ⟨b6, 0, none⟩ (.chan (some cl))
theorem Fx.kept {da db : Wk} {b2 b3 b5 b6 cf cl : Nat} {γ' : So} {w' : World} (h : Fx da db b2 b3 b5 b6 cf cl γ w) (k : Kept γ w γ' w') : Fx da db b2 b3 b5 b6 cf cl γ' w' := ⟨h.wa.kept k, h.wb.kept k, k.sees h.f, k.sees h.l⟩
theorem Fx.give {da db : Wk} {b2 b3 b5 b6 cf cl : Nat} (h : Fx da db b2 b3 b5 b6 cf cl γ w) : Fx da db b2 b3 b5 b6 cf cl γ.give w := ⟨h.wa.give, h.wb.give, h.f.give, h.l.give⟩
def JO (b2 b3 b5 b6 : Nat) (u : Nat → Value) : Act :=
 ⟨#[u 0, u 1, .pointer (some ⟨b2, 0, none⟩), .pointer (some ⟨b3, 0, none⟩), u 4, .pointer (some ⟨b5, 0, none⟩), .pointer (some ⟨b6, 0, none⟩), u 7, u 8, u 9, u 10, u 11, u 12, u 13, u 14, u 15, u 16, u 17, u 18, u 19, u 20, u 21, u 22, u 23, u 24, u 25, u 26, u 27, u 28, u 29, u 30, u 31, u 32, u 33, u 34], []⟩
def FC (b2 b3 b5 b6 : Nat) (vl : Value) (nl k : Nat) (u : Nat → Value) : Act :=
 ⟨#[u 0, u 1, .pointer (some ⟨b2, 0, none⟩), .pointer (some ⟨b3, 0, none⟩), u 4, .pointer (some ⟨b5, 0, none⟩), .pointer (some ⟨b6, 0, none⟩), u 7, u 8, u 9, u 10, u 11, u 12, u 13, u 14, vl, .int .i64 nl, .int .i64 k, u 18, u 19, u 20, u 21, u 22, u 23, u 24, u 25, u 26, u 27, u 28, u 29, u 30, u 31, u 32, u 33, u 34], []⟩
def adL (b2 b3 b5 b6 cf : Nat) (out : Value) (u : Nat → Value) : Act :=
 ⟨#[u 0, u 1, .pointer (some ⟨b2, 0, none⟩), .pointer (some ⟨b3, 0, none⟩), u 4, .pointer (some ⟨b5, 0, none⟩), .pointer (some ⟨b6, 0, none⟩), u 7, u 8, out, u 10, u 11, u 12, u 13, u 14, u 15, u 16, u 17, u 18, u 19, u 20, u 21, u 22, u 23, .chan (some cf), u 25, u 26, u 27, u 28, u 29, u 30, u 31, u 32, u 33, u 34], []⟩
noncomputable def Zd : Code := Tryz.f60.body.getD .skip
noncomputable def pO : Code := match Zd with | .seq _ (.seq _ (.seq _ x)) => x | _ => .skip
noncomputable def aaN : Code := match pO with | .seq x _ => x | _ => .skip
theorem Gz {cf cl : Nat} {tv z2 : Value} {oL : Bool} {K : Nat} {p : Pc} (todo : List (List Value)) : chain cf cl tv z2 oL K p todo ≠ .ret ∧ chain cf cl tv z2 oL K p todo ≠ .stop := by cases todo <;> simp [chain]
def adC (da db : Wk) (b2 b3 b5 b6 cf cl : Nat) (K : Nat) (p : Pc) (A : Nat → Prop) (B0 : Nat) (w0 : World) (γ' : Gm) (e : Exit) (a' : Act) (w' : World) : Prop :=
 e = .normal ∧ γ'.1 = chain cf cl (.bool true) (.bool false) false K p [] ∧ Ff A B0 w0 γ'.2 w' ∧ Fx da db b2 b3 b5 b6 cf cl γ'.2 w' ∧ (∀ b, A b → γ'.2.1 b ∨ γ'.2.2 b) ∧ ∃ vl nl k u, a' = FC b2 b3 b5 b6 vl nl k u
set_option maxRecDepth 100000 in
set_option maxHeartbeats 2000000 in
theorem Yo (hP : Plain Tryz.prog) {b2 b3 b5 b6 cf cl : Nat} {da db : Wk} (sP : da.ok) (xG : db.ok) {K : Nat} {p : Pc} {A : Nat → Prop} {B0 : Nat} {w0 : World} (hS : Ff A B0 w0 γ w) (hF : Fx da db b2 b3 b5 b6 cf cl γ w) (u : Nat → Value) :
  KJ (KG Tryz.prog aa true) 60 (chain cf cl (.bool true) (.bool false) false K p (da.aZ.map fun x => msgs da db x db.aZ), γ) aaN (adC da db b2 b3 b5 b6 cf cl K p A B0 w0) (JO b2 b3 b5 b6 u) w := by
 have C := xQ (aa := aa) (main := true) hP
 have hp : ∀ todo, chain cf cl (.bool true) (.bool false) false K p todo ≠ .ret := fun todo => (Gz todo).1
 obtain ⟨v0, Sf, AA, cap, rfl, hA⟩ := hF.wa.aZ
 have hI : wu γ w (.slice AA da.aZ.length cap) da.aZ := ⟨AA, cap, rfl, hA⟩
 have aav := sP.few
 unfold JO
 refine aT C (bX C ?_)
 iterate 2 (refine aj C ?_; try walk_nrm)
 refine iF C (hp _) Sf ?_
 iterate 2 (try walk_nrm; refine aj C ?_)
 try walk_nrm
 refine aO C ?_
 co_then
 refine fS C ?_
 clear Sf hA
 refine nL C (fun n γ' a w' => ∃ γ3 k, γ' = (chain cf cl (.bool true) (.bool false) false K p ((da.aZ.drop k).map fun x => msgs da db x db.aZ), γ3) ∧ Ff A B0 w0 γ3 w' ∧ Fx da db b2 b3 b5 b6 cf cl γ3 w' ∧ wu γ3 w' (.slice AA da.aZ.length cap) da.aZ ∧ k ≤ da.aZ.length ∧ n = da.aZ.length - k ∧ ∃ u, a = FC b2 b3 b5 b6 (.slice AA da.aZ.length cap) da.aZ.length k u) (n := da.aZ.length) ⟨γ, 0, rfl, hS, hF, hI, by omega, by omega, nO rfl⟩ ?_
 clear hS hF hI
 rintro n γ' a w' ⟨γ3, k, hγ, hS, hF, hI, hk, hn, u, BG⟩
 subst hγ
 unfold FC at BG
 subst BG
 refine aT C (bX C ?_)
 by_cases hlt : k < da.aZ.length
 ·have WR : decide ((k : Int) < (da.aZ.length : Int)) = true := by simpa using hlt
  obtain ⟨x, hx⟩ : ∃ x, da.aZ[k]? = some x := ⟨_, bK hlt⟩
  have hxb := sP.aZ k x hx
  obtain ⟨ad, rfl, Zz⟩ : ∃ ad, AA = some ad ∧ bD γ3 w' (ad.add k) (.int .i64 x) := by
   obtain ⟨A2, qD, he, h2⟩ := hI
   cases he
   exact h2 k x hx
  have OH : da.aZ.drop k = x :: da.aZ.drop (k + 1) := by
   rw [mO hlt]
   congr 1
   exact cg ((bK hlt).symm.trans hx)
  have hw5 : IntKind.i64.wrap ((k : Int) + 1) = (k : Int) + 1 := by rw [tJ] <;> omega
  refine aj C ?_
  try walk_nrm
  refine aO C ?_
  co_then
  refine aT C (c9 C (t := true) rfl ?_)
  simp only [if_true]
  refine jC C ?_
  co_then
  refine aT C (fS C (aT C (bX C ?_)))
  refine aj C ?_
  try walk_nrm
  refine iF C (hp _) Zz ?_
  try walk_nrm
  refine oD C (hp _) (ob := ?ob9) rfl (by rfl) (fun w => run_eq_of fun K hK => ?r9) (fun w => ?e9) ?h9
  case r9 => go_simp; exact hK
  case e9 => simp [go_sem]
  intro w5 R9
  try walk_nrm
  have Ju := (Kept.rely R9).trans (Kept.alloc γ3 w5 w5.heap.size (.cells #[.int .i64 0] 3))
  have Wt : (w5.alloc (.cells #[.int .i64 0] 3)).frozen? ⟨w5.heap.size, 0, none⟩ = false := World.frozen?_alloc_new _ _ _ _
  have Wy : bD _ _ ⟨w5.heap.size, 0, none⟩ (.int .i64 0) := bD.fresh (γ := γ3) (w := w5) (cs := #[.int .i64 0]) (t := 3) rfl rfl
  have Nk : (γ3.more w5.heap.size).2 w5.heap.size := .inr rfl
  have HV : w'.heap.size ≤ w5.heap.size := R9.1
  generalize w5.alloc (.cells #[.int .i64 0] 3) = w6 at *
  generalize γ3.more w5.heap.size = γ6 at *
  generalize w5.heap.size = b8 at *
  clear Zz R9
  refine Io C (hp _) (ad := ⟨b8, 0, none⟩) (v := .int .i64 x) rfl (by rfl) Nk (fun w₁ h₁ => ⟨?_, ?_⟩) ?_
  ·have hc := (Wy.rely h₁).2
   have hz : w₁.frozen? ⟨b8, 0, none⟩ = false := (World.frozen?_of_block (h₁.2.1 b8 (.inr Nk))).trans Wt
   refine (?_ : ∀ K : Result Next → Prop, K (.ok .skip (w₁.setCell ⟨b8, 0, none⟩ (.int .i64 x))) → K _) (· = _) rfl
   intro K hK
   go_simp
   try (unfold stored; go_simp)
   exact hK
  ·have hc := (Wy.rely h₁).2
   have hz : w₁.frozen? ⟨b8, 0, none⟩ = false := (World.frozen?_of_block (h₁.2.1 b8 (.inr Nk))).trans Wt
   intro e he
   simp [go_sem, hc, hz] at he
   exact he
  intro w7 r7
  try walk_nrm
  have RP := (Ju.trans (Kept.rely r7)).put (ad := ⟨b8, 0, none⟩) (v := .int .i64 x) HV
  have hx7 : bD γ6 (w7.setCell ⟨b8, 0, none⟩ (.int .i64 x)) ⟨b8, 0, none⟩ (.int .i64 x) := ⟨.inr Nk, World.cell?_setCell_same _ _ _ (Wy.rely r7).2⟩
  generalize w7.setCell ⟨b8, 0, none⟩ (.int .i64 x) = w8 at *
  clear Wy Wt r7 Ju HV
  have hF8 := hF.kept RP
  have hS8 := hS.kept RP
  have hI8 := RP.Dh hI
  clear hF hS hI RP
  refine aO C ?_
  co_then
  refine bX C ?_
  refine dB C (v := ?v10) rfl (by rfl) (fun w => run_eq_of fun K hK => ?r10) (fun w => ?e10) ?wB
  case r10 => go_simp; exact hK
  case e10 => simp [go_sem, Instr.makeFunc]
  try walk_nrm
  rw [OH, bT]
  show KO _ _ (Pc.go (wk cf cl (.bool true) (msgs da db x db.aZ)) (chain cf cl (.bool true) (.bool false) false K p ((da.aZ.drop (k + 1)).map fun x => msgs da db x db.aZ)), γ6) _ _ _ _ _
  refine VW (d := call84 b3 b2 b8 b5 b6) (f := .func 102) (cap := #[.pointer (some ⟨b3, 0, none⟩), .pointer (some ⟨b2, 0, none⟩), .pointer (some ⟨b8, 0, none⟩), .pointer (some ⟨b5, 0, none⟩), .pointer (some ⟨b6, 0, none⟩)]) rfl (by rfl) (fun w => ?_) (fun w => ?_) rfl (Gz _).2 (fun _ => hp _) (fun w9 r9 w10 r10 => ?_) (fun w9 r9 w10 r10 => ?_)
  ·simp [execOp, resolve, Act.eval, call84, Deferred.ofValue]
  ·simp [execOp, resolve, Act.eval, Deferred.ofValue]
  ·have hk := (Kept.rely r9)
   have oI := (Kept.rely r10)
   have Lk := ((hF8.kept hk).give).kept oI
   exact LI hP sP xG hxb.1 (by omega) Lk.wa Lk.wb (oI.sees (hk.sees hx7).give) Lk.f Lk.l
  have Lk := ((hF8.kept (Kept.rely r9)).give).kept (Kept.rely r10)
  have hS9 := ((hS8.kept (Kept.rely r9)).give).kept (Kept.rely r10)
  have hI9 := (Kept.rely r10).Dh ((Kept.rely r9).Dh hI8).give
  clear hF8 hS8 hI8 hx7
  try walk_nrm
  refine aO C ?_
  co_then
  refine bX C ?_
  iterate 2 (refine aj C ?_; try walk_nrm)
  refine aO C (dQ ?_)
  exact ⟨da.aZ.length - (k + 1), by omega, _, k + 1, rfl, hS9, Lk, hI9, by omega, rfl, nO rfl⟩
 ·have Jt : k = da.aZ.length := by omega
  subst Jt
  have WR : decide ((da.aZ.length : Int) < (da.aZ.length : Int)) = false := by simp
  simp only [List.drop_length, fB]
  refine aj C ?_
  try walk_nrm
  refine aO C ?_
  co_then
  refine aT C (c9 C (t := false) rfl ?_)
  simp only [aD, if_false]
  refine mB C ?_
  co_then
  exact ⟨rfl, rfl, hS, hF, hS.all, _, _, _, nO (F := fun u => FC b2 b3 b5 b6 (.slice AA da.aZ.length cap) da.aZ.length da.aZ.length u) rfl⟩
end Go.Co
end
section
namespace Go.Co
open Go Go.Conc Go.Proofs
open Classical
variable {P : Program} {aa : Machine → Trace → Prop} {main : Bool} {K : Gm → Goroutine → World → Prop} {fn : FuncId} {p : Pc} {γ : So} {Q : Gm → Exit → Act → World → Prop} {a : Act} {w : World} {ops : Array Oper} {i : Nat} {rest : List Nat} {o : Oper}
theorem Ux (C : KC P main K yR Dq) (hp : p ≠ .ret) {b : Nat} {x y z : Value} (ho : ops[i]? = some o) (hw : Region.wanted o (yielded ops a.tmps) = true) (hO : γ.2 b)
  (hrun : ∀ w₁, ir γ w w₁ → (execOp a.eval o).run P w₁ = .ok .skip (((w₁.setCell ⟨b, 0, none⟩ x).setCell ⟨b, 1, none⟩ y).setCell ⟨b, 2, none⟩ z) ∧ ∀ e ∈ (execOp a.eval o).events P w₁ #[], ∃ j, e = ⟨.cell ⟨b, j, none⟩, true, false⟩)
  (h : ∀ w₁, ir γ w w₁ → KO K fn (p, γ) ops rest Q (a.put o.dst undef) (((w₁.setCell ⟨b, 0, none⟩ x).setCell ⟨b, 1, none⟩ y).setCell ⟨b, 2, none⟩ z)) : KO K fn (p, γ) ops (i :: rest) Q a w :=
 vr C ho hw fun w₁ r => by
  obtain ⟨h1, h2⟩ := hrun w₁ (Sa hp r)
  rw [h1]
  have hsz : (((w₁.setCell ⟨b, 0, none⟩ x).setCell ⟨b, 1, none⟩ y).setCell ⟨b, 2, none⟩ z).heap.size = w₁.heap.size := by rw [World.size_setCell, World.size_setCell, World.size_setCell]
  refine ⟨(p, γ), Z0 hp ⟨rfl, fun c => ⟨.inl, fun h => h.elim id fun h => absurd h.2 (by omega)⟩, by omega, fun c _ hn => ?_, rfl, rfl, rfl, fun e he => ?_⟩, h w₁ (Sa hp r)⟩
  ·have hne : c ≠ b := fun e => hn (e ▸ hO)
   rw [heap_setCell_other _ _ _ _ hne, heap_setCell_other _ _ _ _ hne, heap_setCell_other _ _ _ _ hne]
  ·obtain ⟨j, rfl⟩ := h2 e (mem_listed he)
   exact .inl ⟨_, true, false, rfl, fun _ => hO, .inr hO⟩
theorem Ff.append {A : Nat → Prop} {B0 : Nat} {w0 w' : World} {γ' : So} {v : Value} (h : Ff A B0 w0 γ w) (h1 : γ'.1 = γ.1) (h2 : ∀ b, γ.2 b → γ'.2 b) (h3 : w.heap.size ≤ w'.heap.size)
  (h4 : ∀ b, γ.all b → b < w.heap.size → some b ≠ v.ownBlock → w'.heap[b]? = w.heap[b]?) (h5 : w'.os = w.os ∧ w'.output = w.output) (hb : ∀ b, v.ownBlock = some b → B0 ≤ b) : Ff A B0 w0 γ' w' :=
 ⟨h.lt, fun b hlt => (h.all b hlt).imp (by rw [h1]; exact id) (h2 b), fun b hlt => (h4 b (h.all b hlt) (cI (h.lt b hlt) h.size) fun e => by have := hb b e.symm; have := h.lt b hlt; omega).trans (h.blk b hlt), aM h.size h3, h5.1.trans h.env.1, h5.2.trans h.env.2⟩
abbrev Sm := Int × Int × Int
def sN (m : Sm) : Value := xK m.1 m.2.1 m.2.2
def pH (m : Sm) : List Value := [.int .i64 m.1, .int .i64 m.2.1, .int .i64 m.2.2]
theorem EP {id : Nat} {R : Exit → Act → World → Prop} (h : R .normal a w) : Exit.inBlock id R .normal a w := h
theorem Ee (l : List Sm) : (l.flatMap pH).length = l.length * 3 := by
 induction l with
 | nil => rfl
 | cons m l ih => simp only [fP, bU, ih, pH, List.length_cons, List.length_nil]; omega
theorem TJ {m m' : Sm} (h : sN m = sN m') : m = m' := by
 obtain ⟨a, b, c⟩ := m
 obtain ⟨a', b', c'⟩ := m'
 simp [sN, xK] at h
 obtain ⟨rfl, rfl, rfl⟩ := h
 rfl
theorem C4 (m : Sm) : ∀ l : List Sm, (l.map sN).erase (sN m) = (l.erase m).map sN
 | [] => rfl
 | a :: l => by
  rw [bT, List.erase_cons, List.erase_cons]
  by_cases h : a = m
  ·subst h; simp
  ·have h2 : ¬ sN a = sN m := fun e => h (TJ e)
   simp [h, h2, C4 m l]
theorem UO (cf : Nat) (z : Value) : yQ cf z [] = .recv cf true z fun x => match x with | some _ => .bad | none => .ret := rfl
theorem Rs (cf : Nat) (z v0 : Value) (vs : List Value) : yQ cf z (v0 :: vs) = .recv cf true z fun x => match x with | some v => if v ∈ v0 :: vs then yQ cf z ((v0 :: vs).erase v) else .bad | none => .bad := by
 unfold yQ
 show Pc.recv cf true z (fun x => match x with | some v => if v ∈ v0 :: vs then SY cf z vs.length ((v0 :: vs).erase v) else .bad | none => .bad) = _
 congr 1
 funext x
 cases x with
 | none => rfl
 | some v =>
  simp only
  split
  ·rename_i h
   rw [List.length_erase_of_mem h]
   rfl
  ·rfl
def OM (out : Value) (u : Nat → Value) : Act :=
 ⟨#[u 0, u 1, u 2, u 3, u 4, u 5, u 6, u 7, u 8, out, u 10, u 11, u 12, u 13, u 14, u 15, u 16, u 17, u 18, u 19, u 20, u 21, u 22, u 23, u 24, u 25, u 26, u 27, u 28, u 29, u 30, u 31, u 32, u 33, u 34], []⟩
def JP (cf : Nat) (out : Value) (u : Nat → Value) : Act :=
 ⟨#[u 0, u 1, u 2, u 3, u 4, u 5, u 6, u 7, u 8, out, u 10, u 11, u 12, u 13, u 14, u 15, u 16, u 17, u 18, u 19, u 20, u 21, u 22, u 23, .chan (some cf), u 25, u 26, u 27, u 28, u 29, u 30, u 31, u 32, u 33, u 34], []⟩
def XR (A : Nat → Prop) (B0 : Nat) (w0 : World) (R : List Sm) (γ' : Gm) (e : Exit) (a' : Act) (w' : World) : Prop :=
 e = .normal ∧ γ'.1 = .ret ∧ Ff A B0 w0 γ'.2 w' ∧ ∃ (got : List Sm) (out : Value), got.Perm R ∧ w'.ownsRow B0 79 3 out got.length (got.flatMap pH) ∧ ∃ u, a' = OM out u
noncomputable def OW : Code := match pO with | .seq _ (.seq _ (.seq _ (.seq (.seq _ x) _))) => x | _ => .skip
set_option maxRecDepth 100000 in
set_option maxHeartbeats 2000000 in
theorem Rr (hP : Plain Tryz.prog) {cf : Nat} {A : Nat → Prop} {B0 : Nat} {w0 : World} {R : List Sm} (hR : R.length ≤ 4294967296) (hS : Ff A B0 w0 γ w) (u : Nat → Value) :
  KJ (KG Tryz.prog aa true) 60 (yQ cf (.agg #[.int .i64 0, .int .i64 0, .int .i64 0]) (R.map sN), γ) OW (XR A B0 w0 R) (JP cf (.slice none 0 0) u) w := by
 have C := xQ (aa := aa) (main := true) hP
 obtain ⟨i0, zA, E7, M9, Zt⟩ := info_parts Ir
 have hzv : ∀ w, (zeroValue 79).run Tryz.prog w = .ok (.agg #[.int .i64 0, .int .i64 0, .int .i64 0]) w := fun w => by simp [zeroValue, typeInfo, zA, E7]
 have hze : ∀ w es, (zeroValue 79).events Tryz.prog w es = es := fun w es => by simp [zeroValue, typeInfo, zA, E7]
 have hrun : ∀ (T : Act) (o : Oper) (w : World), o.op = .recv 136 (.tmp 24) true → T.eval (.tmp 24) = .chan (some cf) → (execOp T.eval o).run Tryz.prog w = .ok (.comm #[rcase cf (.agg #[.int .i64 0, .int .i64 0, .int .i64 0])] true (.recv true)) w := by
  intro T o w ho hT
  simp [execOp, ho, run_underlying Tryz.underlying136, hzv, rcase, hT]
 have s6 : ∀ (T : Act) (o : Oper) (w : World), o.op = .recv 136 (.tmp 24) true → (execOp T.eval o).events Tryz.prog w #[] = #[] := by
  intro T o w ho
  simp [execOp, ho, run_underlying Tryz.underlying136, hze]
 refine fS C ?_
 refine nL C (fun n γ' a w' => ∃ (γ3 : So) (rem got : List Sm) (out : Value), γ' = (yQ cf (.agg #[.int .i64 0, .int .i64 0, .int .i64 0]) (rem.map sN), γ3) ∧ Ff A B0 w0 γ3 w' ∧ j4 γ3 w' B0 79 3 out got.length (got.flatMap pH) ∧ (got ++ rem).Perm R ∧ n = rem.length ∧ ∃ u, a = JP cf out u) (n := R.length) ⟨γ, R, [], .slice none 0 0, rfl, hS, j4.nil _ _ _, by simp, rfl, u, rfl⟩ ?_
 clear hS
 rintro n γ' a w' ⟨γ3, rem, got, out, hγ, hS, eN, OB, hn, u, BG⟩
 subst hγ
 unfold JP at BG
 subst BG
 have hlen : got.length + rem.length ≤ 4294967296 := by
  have h1 := OB.length_eq
  rw [bU] at h1
  omega
 refine aT C (bX C ?_)
 cases rem with
 | nil =>
  simp only [fB]
  rw [UO]
  refine Es rfl (by rfl) (fun w => hrun _ _ w rfl rfl) (fun w => s6 _ _ w rfl) (fun x => by cases x <;> simp) (fun h => by cases h) (fun x w7 r7 => ?_)
  cases x with
  | some v => exact DR
  | none =>
   have hS7 := hS.kept (Kept.rely r7)
   have Cm := eN.rely r7
   simp only [Option.getD_none, Option.isSome_none, recvd]
   try walk_nrm
   refine aj C ?_
   try walk_nrm
   refine aO C ?_
   co_then
   refine aT C (c9 C (t := false) rfl ?_)
   simp only [aD, if_false]
   refine mB C ?_
   co_then
   exact ⟨rfl, rfl, hS7, got, out, by simpa using OB, Cm.1, nO (F := fun u => OM out u) rfl⟩
 | cons m0 ms =>
  simp only [bT]
  rw [Rs]
  refine Es rfl (by rfl) (fun w => hrun _ _ w rfl rfl) (fun w => s6 _ _ w rfl) (fun x => ?_) (fun h => by cases h) (fun x w7 r7 => ?_)
  ·cases x with
   | none => simp
   | some v =>
    simp only
    split
    ·obtain ⟨q, hq⟩ := sI (cf := cf) (z := .agg #[.int .i64 0, .int .i64 0, .int .i64 0]) ((sN m0 :: ms.map sN).erase v)
     rw [hq]; simp
    ·simp
  cases x with
  | none => exact DR
  | some v =>
   simp only
   by_cases hv : v ∈ sN m0 :: ms.map sN
   ·rw [if_pos hv]
    obtain ⟨m, hm, rfl⟩ : ∃ m, m ∈ m0 :: ms ∧ sN m = v := by
     have : v ∈ (m0 :: ms).map sN := hv
     exact eF.1 this
    have acW : (sN m0 :: ms.map sN).erase (sN m) = ((m0 :: ms).erase m).map sN := C4 m (m0 :: ms)
    rw [acW]
    have ZD := List.perm_cons_erase hm
    have OD := List.length_erase_of_mem hm
    generalize (m0 :: ms).erase m = Lr at *
    obtain ⟨x, y, s⟩ := m
    have hp : yQ cf (.agg #[.int .i64 0, .int .i64 0, .int .i64 0]) (Lr.map sN) ≠ .ret := by
     obtain ⟨q, hq⟩ := sI (cf := cf) (z := .agg #[.int .i64 0, .int .i64 0, .int .i64 0]) (Lr.map sN)
     rw [hq]; simp
    have hS7 := hS.kept (Kept.rely r7)
    have Cm := eN.rely r7
    clear hS eN
    simp only [Option.getD_some, Option.isSome_some, recvd, sN, xK]
    try walk_nrm
    refine aj C ?_
    try walk_nrm
    refine aO C ?_
    co_then
    refine aT C (c9 C (t := true) rfl ?_)
    simp only [if_true]
    refine jC C ?_
    co_then
    refine fS C (aT C (bX C ?_))
    refine aj C ?_
    try walk_nrm
    refine oD C hp (ob := ?ob4) rfl (by rfl) (fun w => run_eq_of fun K hK => ?r4) (fun w => ?e4) ?h4
    case r4 => go_simp; exact hK
    case e4 => simp [go_sem]
    intro w5 R9
    try walk_nrm
    have Ju := (Kept.rely R9).trans (Kept.alloc γ3 w5 w5.heap.size (.cells #[.int .i64 0, .int .i64 0, .int .i64 0] 79))
    have Wt : ∀ j, (w5.alloc (.cells #[.int .i64 0, .int .i64 0, .int .i64 0] 79)).frozen? ⟨w5.heap.size, j, none⟩ = false := fun j => World.frozen?_alloc_new _ _ _ _
    have ZO : bD _ _ ⟨w5.heap.size, 0, none⟩ (.int .i64 0) := bD.fresh (γ := γ3) (w := w5) (cs := #[.int .i64 0, .int .i64 0, .int .i64 0]) (t := 79) rfl rfl
    have h51 : bD _ _ ⟨w5.heap.size, 1, none⟩ (.int .i64 0) := bD.fresh (γ := γ3) (w := w5) (cs := #[.int .i64 0, .int .i64 0, .int .i64 0]) (t := 79) rfl rfl
    have h52 : bD _ _ ⟨w5.heap.size, 2, none⟩ (.int .i64 0) := bD.fresh (γ := γ3) (w := w5) (cs := #[.int .i64 0, .int .i64 0, .int .i64 0]) (t := 79) rfl rfl
    have Nk : (γ3.more w5.heap.size).2 w5.heap.size := .inr rfl
    have HV : w7.heap.size ≤ w5.heap.size := R9.1
    generalize w5.alloc (.cells #[.int .i64 0, .int .i64 0, .int .i64 0] 79) = w6 at *
    generalize γ3.more w5.heap.size = γ6 at *
    generalize w5.heap.size = b8 at *
    clear R9
    refine Ux C hp (b := b8) (x := .int .i64 x) (y := .int .i64 y) (z := .int .i64 s) rfl (by rfl) Nk (fun w₁ h₁ => ⟨?_, ?_⟩) ?_
    ·have hc0 := (ZO.rely h₁).2
     have EW := (h51.rely h₁).2
     have wA := (h52.rely h₁).2
     have hz : ∀ j, w₁.frozen? ⟨b8, j, none⟩ = false := fun j => (World.frozen?_of_block (h₁.2.1 b8 (.inr Nk))).trans (Wt j)
     refine (?_ : ∀ K : Result Next → Prop, K (.ok .skip (((w₁.setCell ⟨b8, 0, none⟩ (.int .i64 x)).setCell ⟨b8, 1, none⟩ (.int .i64 y)).setCell ⟨b8, 2, none⟩ (.int .i64 s))) → K _) (· = _) rfl
     intro K hK
     go_simp
     try (unfold stored; go_simp)
     exact hK
    ·have hc0 := (ZO.rely h₁).2
     have EW := (h51.rely h₁).2
     have wA := (h52.rely h₁).2
     have hz : ∀ j, w₁.frozen? ⟨b8, j, none⟩ = false := fun j => (World.frozen?_of_block (h₁.2.1 b8 (.inr Nk))).trans (Wt j)
     intro e he
     simp [go_sem, hc0, EW, wA, hz] at he
     rcases he with rfl | rfl | rfl
     ·exact ⟨0, rfl⟩
     ·exact ⟨1, rfl⟩
     ·exact ⟨2, rfl⟩
    intro w9 r9
    try walk_nrm
    have hk9 := (((Ju.trans (Kept.rely r9)).put (ad := ⟨b8, 0, none⟩) (v := .int .i64 x) HV).put (ad := ⟨b8, 1, none⟩) (v := .int .i64 y) HV).put (ad := ⟨b8, 2, none⟩) (v := .int .i64 s) HV
    have s0 : bD γ6 (((w9.setCell ⟨b8, 0, none⟩ (.int .i64 x)).setCell ⟨b8, 1, none⟩ (.int .i64 y)).setCell ⟨b8, 2, none⟩ (.int .i64 s)) ⟨b8, 0, none⟩ (.int .i64 x) :=
     bD.put (bD.put ⟨.inr Nk, World.cell?_setCell_same _ _ _ (ZO.rely r9).2⟩ (by simp)) (by simp)
    have s1 : bD γ6 (((w9.setCell ⟨b8, 0, none⟩ (.int .i64 x)).setCell ⟨b8, 1, none⟩ (.int .i64 y)).setCell ⟨b8, 2, none⟩ (.int .i64 s)) ⟨b8, 1, none⟩ (.int .i64 y) :=
     bD.put ⟨.inr Nk, World.cell?_setCell_same _ _ _ ((h51.rely r9).put (by simp)).2⟩ (by simp)
    have s2 : bD γ6 (((w9.setCell ⟨b8, 0, none⟩ (.int .i64 x)).setCell ⟨b8, 1, none⟩ (.int .i64 y)).setCell ⟨b8, 2, none⟩ (.int .i64 s)) ⟨b8, 2, none⟩ (.int .i64 s) :=
     ⟨.inr Nk, World.cell?_setCell_same _ _ _ (((h52.rely r9).put (by simp)).put (by simp)).2⟩
    generalize ((w9.setCell ⟨b8, 0, none⟩ (.int .i64 x)).setCell ⟨b8, 1, none⟩ (.int .i64 y)).setCell ⟨b8, 2, none⟩ (.int .i64 s) = w10 at *
    have aaC := hS7.kept hk9
    have Pp := Cm.kept hk9
    clear hk9 Ju ZO h51 h52 Wt r9 HV hS7 Cm Nk
    refine aO C ?_
    co_then
    refine bX C ?_
    refine aj C ?_
    try walk_nrm
    refine oC C hp (v := ?v6) rfl (by rfl) (fun w₁ h₁ => ⟨run_eq_of fun K hK => ?r6, ?e6⟩) ?h6
    case r6 => have hc0 := (bD.rely s0 h₁).2; have EW := (bD.rely s1 h₁).2; have wA := (bD.rely s2 h₁).2; go_simp; exact hK
    case e6 =>
     have hc0 := (bD.rely s0 h₁).2
     have EW := (bD.rely s1 h₁).2
     have wA := (bD.rely s2 h₁).2
     intro e he
     simp [go_sem, hc0, EW, wA] at he
     rcases he with rfl | rfl | rfl
     ·exact (bD.rely s0 h₁).EZ
     ·exact (bD.rely s1 h₁).EZ
     ·exact (bD.rely s2 h₁).EZ
    try walk_nrm
    refine Pk C hp (ob := ?ob7) (n := 1) rfl (by rfl) (fun w => run_eq_of fun K hK => ?r7) (fun w => ?e7) ?h7
    case r7 => go_simp; exact hK
    case e7 => simp [go_sem]
    intro Ns acv
    try walk_nrm
    have Xz := (Kept.rely acv).trans (Kept.alloc γ6 Ns Ns.heap.size (.cells #[.int .i64 x, .int .i64 y, .int .i64 s] 79))
    have ac0 : ∀ (j : Nat) (u : Value), (pH (x, y, s))[j]? = some u → bD (γ6.more Ns.heap.size) (Ns.alloc (.cells #[.int .i64 x, .int .i64 y, .int .i64 s] 79)) ((⟨Ns.heap.size, 0, none⟩ : Addr).add j) u := by
     intro j u hu
     rw [Addr.add_lit]
     simp only [gL]
     refine bD.fresh (γ := γ6) (w := Ns) rfl ?_
     simpa [pH] using hu
    have aaB := aaC.kept Xz
    have Po := Pp.kept Xz
    have Y3 : (γ6.more Ns.heap.size).all Ns.heap.size := .inr (.inr rfl)
    generalize Ns.alloc (.cells #[.int .i64 x, .int .i64 y, .int .i64 s] 79) = w12 at *
    generalize γ6.more Ns.heap.size = γ12 at *
    generalize Ns.heap.size = b12 at *
    clear aaC Pp s0 s1 s2 Xz
    have Dk := Ee got
    refine CS C hp (B := B0) (news := pH (x, y, s)) (m := 1) (c := 1) (ad := ⟨b12, 0, none⟩) (n := got.length) (xs := got.flatMap pH) (v := out) rfl (by rfl) rfl Tryz.underlying34 zA E7 M9 Zt rfl (by decide) rfl rfl aaB.size Po rfl ac0 Y3 (by simp [pH, Value.oneCell']) (by simp only [maxLen]; omega) (by omega) ?_
    intro v13 w13 γ13 Sj Ht hg3 hg4 hg5 YY
    have ado := aaB.append Sj Ht hg3 hg4 hg5 (v := out) (fun b hb => (Po.1.lt b hb).1)
    try walk_nrm
    refine aj C ?_
    try walk_nrm
    refine aO C (EP (dQ ?_))
    refine ⟨Lr.length, by simp only [List.length_cons] at OD hn; omega, γ13, Lr, got ++ [(x, y, s)], v13, rfl, ado, ?_, ?_, rfl, nO rfl⟩
    ·rw [bU, List.flatMap_append]
     simpa using YY
    ·rw [eV]
     exact (List.Perm.append_left got ZD.symm).trans OB
   ·rw [if_neg hv]
    exact DR
end Go.Co
end
