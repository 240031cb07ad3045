import Derived.Test.YtedcgbkilmlbhaaGreatPk28
section
namespace Go.Co
open Go Go.Conc Go.Proofs
variable {aa : Machine → Trace → Prop} {γ : So} {w : World}
theorem J2 {P : Program} {main : Bool} {K : Gm → Goroutine → World → Prop} {p : Pc} {a : Act} {ops : Array Oper} {i : Nat} {rest : List Nat} {o : Oper} (C : KC P main K y8 Dm) (hp : p ≠ .ret) {v : Value} {b : Frame} {k : List Item} {cs : List Frame} (ho : ops[i]? = some o) (hw : Region.wanted o (yielded ops a.tmps) = true) (hk : b.kind ≠ .early)
  (hrun : ∀ w₁, gU γ w w₁ → (execOp a.eval o).run P w₁ = .ok (.value v) w₁ ∧ ∀ e ∈ (execOp a.eval o).events P w₁ #[], RE γ.1 γ.2 e) (h : K (p, γ) (G (b.at (a.put o.dst v) (.inRegion ops rest :: k)) cs) w) : K (p, γ) (G (b.at a (.inRegion ops (i :: rest) :: k)) cs) w :=
 C.step _ _ _ _ fun w₁ r => ⟨_, _, _, _, (p, γ), stepG_value ho hw hk (hrun w₁ (Ri hp r)).1, Zj hp ⟨rfl, FJ fun e he => (hrun w₁ (Ri hp r)).2 e (mem_listed he)⟩, C.rely _ _ _ _ r h⟩
theorem Ib : (Tryz.prog.info? 79).map (fun i => (i.zero, i.size, i.bytes)) = some (some (.agg #[.int .i64 0, .int .i64 0, .int .i64 0]), 3, 24) := by kernel_rfl
theorem GJ (w : World) (x y s : Int) : (Instr.build 79 #[(0, .int .i64 x), (1, .int .i64 y), (2, .int .i64 s)]).run Tryz.prog w = .ok (.agg #[.int .i64 x, .int .i64 y, .int .i64 s]) w :=
 run_build w 79 _ _ (by kernel_rfl)
theorem Br (w : World) (es : Array Event) (x y s : Int) : (Instr.build 79 #[(0, .int .i64 x), (1, .int .i64 y), (2, .int .i64 s)]).events Tryz.prog w es = es := by
 obtain ⟨i0, hi, EO, ML, YM⟩ := info_parts Ib
 obtain ⟨i3, hi3, hy0, hy1, hy2⟩ := info_parts Of
 simp [Instr.build, run_underlying Tryz.underlying79, sizeOf, typeInfo, zeroValue, hi, EO, hi3, hy1]
 split <;> simp
noncomputable def DM : Code := Tryz.f102.body.getD .skip
noncomputable def X84 : Code := match DM with | .seq x _ => x | _ => .skip
noncomputable def VU : Code := match DM with | .seq _ r => r | _ => .skip
theorem CG (a b : Wk) (x y : Int) (ys : List Int) : msgs a b x (y :: ys) = (fL a b x y).map (xL x y) ++ msgs a b x ys := by simp [msgs]
def adj (cf cl bl : Nat) (tv : Value) (γ' : Gm) (e : Exit) (a' : Act) (w' : World) : Prop := e = .normal ∧ γ'.1 = wk cf cl tv [] ∧ bn γ'.2 w' ⟨bl, 0, none⟩ (.chan (some cl)) ∧ a'.defers = [] ∧ a'.tmps.size = 46 ∧ a'.tmps[4]? = some (.pointer (some ⟨bl, 0, none⟩))
theorem Qy {bb ba bx bf bl : Nat} {vl : Value} {nl k : Nat} {y : Int} {v : Value} {m : Nat} {a : Act} (hd : a.defers = []) (hsz : a.tmps.size = 46) (t0 : a.tmps[0]? = some (.pointer (some ⟨bb, 0, none⟩))) (t1 : a.tmps[1]? = some (.pointer (some ⟨ba, 0, none⟩))) (t2 : a.tmps[2]? = some (.pointer (some ⟨bx, 0, none⟩))) (t3 : a.tmps[3]? = some (.pointer (some ⟨bf, 0, none⟩))) (t4 : a.tmps[4]? = some (.pointer (some ⟨bl, 0, none⟩)))
  (t6 : a.tmps[6]? = some (.int .i64 y)) (t11 : a.tmps[11]? = some vl) (t12 : a.tmps[12]? = some (.int .i64 nl)) (t13 : a.tmps[13]? = some (.int .i64 k)) (t32 : a.tmps[32]? = some v) (t33 : a.tmps[33]? = some (.int .i64 m)) (t34 : a.tmps[34]? = some (.int .i64 0)) : ∃ u, a = Ou bb ba bx bf bl vl nl k y v m 0 u := by
 obtain ⟨T, df⟩ := a
 simp only at hd hsz
 subst hd
 obtain ⟨v0, v1, v2, v3, v4, v5, v6, v7, v8, v9, v10, v11, v12, v13, v14, v15, v16, v17, v18, v19, v20, v21, v22, v23, v24, v25, v26, v27, v28, v29, v30, v31, v32, v33, v34, v35, v36, v37, v38, v39, v40, v41, v42, v43, v44, v45, rfl⟩ := Uu T hsz
 simp at t0 t1 t2 t3 t4 t6 t11 t12 t13 t32 t33 t34
 subst t0 t1 t2 t3 t4 t6 t11 t12 t13 t32 t33 t34
 exact nj rfl
set_option maxRecDepth 100000 in
set_option maxHeartbeats 2000000 in
theorem GB (hP : Plain Tryz.prog) {bb ba bx bf bl cf cl : Nat} {tv : Value} {da db : Wk} {x : Int} (sH : da.ok) (xG : db.ok) (ER : 0 ≤ x) (hx3 : x < 4)
  (ha : eV γ w ba da) (hb : eV γ w bb db) (hx : bn γ w ⟨bx, 0, none⟩ (.int .i64 x)) (hf : bn γ w ⟨bf, 0, none⟩ (.chan (some cf))) (hl : bn γ w ⟨bl, 0, none⟩ (.chan (some cl))) :
  KJ (KG Tryz.prog aa false) 102 (wk cf cl tv (msgs da db x db.aY), γ) X84 (adj cf cl bl tv)
   ⟨#[.pointer (some ⟨bb, 0, none⟩), .pointer (some ⟨ba, 0, none⟩), .pointer (some ⟨bx, 0, none⟩), .pointer (some ⟨bf, 0, none⟩), .pointer (some ⟨bl, 0, none⟩), undef, undef, undef, undef, undef, undef, undef, undef, undef, undef, undef, undef, undef, undef, undef, undef, undef, undef, undef, undef, undef, undef, undef, undef, undef, undef, undef, undef, undef, undef, undef, undef, undef, undef, undef, undef, undef, undef, undef, undef, undef], []⟩ w := by
 have C := xR (aa := aa) (main := false) hP
 have hp : ∀ vs, wk cf cl tv vs ≠ .ret := fun vs => (Jo vs).1
 obtain ⟨vl, Rn, A, cap, rfl, hA⟩ := hb.aY
 have aat := xG.ZZ
 refine aR C (bP C ?_)
 refine aj C ?_
 try walk_nrm
 refine aj C ?_
 try walk_nrm
 refine hU C (hp _) Rn ?_
 try walk_nrm
 refine aj C ?_
 try walk_nrm
 refine aj C ?_
 try walk_nrm
 refine aM C ?_
 co_then
 refine fu C ?_
 refine mW C (fun n γ' a w' => ∃ γ3 k, γ' = (wk cf cl tv (msgs da db x (db.aY.drop k)), γ3) ∧ Kept γ w γ3 w' ∧ k ≤ db.aY.length ∧ n = db.aY.length - k ∧ ∃ u, a = VK bb ba bx bf bl (.slice A db.aY.length cap) db.aY.length k u) (n := db.aY.length) ⟨γ, 0, rfl, Kept.refl _ _, by omega, by omega, nj rfl⟩ ?_
 rintro n γ' a w' ⟨γ3, k, hγ, zA, hk, hn, u, BC⟩
 subst hγ
 unfold VK at BC
 subst BC
 refine aR C (bP C ?_)
 by_cases hlt : k < db.aY.length
 ·have Rv : decide ((k : Int) < (db.aY.length : Int)) = true := by simpa using hlt
  obtain ⟨y, hy⟩ : ∃ y, db.aY[k]? = some y := ⟨_, bV hlt⟩
  obtain ⟨ad, hAe, YS⟩ := hA k y hy
  subst hAe
  have hyb := xG.aY k y hy
  have On : db.aY.drop k = y :: db.aY.drop (k + 1) := by
   rw [mg hlt]
   congr 1
   exact bU ((bV hlt).symm.trans hy)
  have hs3 := zA.sees YS
  have hw5 : IntKind.i64.wrap ((k : Int) + 1) = (k : Int) + 1 := by rw [tn] <;> omega
  refine aj C ?_
  try walk_nrm
  refine aM C ?_
  co_then
  refine aR C (cU C (t := true) rfl ?_)
  simp only [if_true]
  refine jf C ?_
  co_then
  refine aR C (fu C (aR C (bP C ?_)))
  refine aj C ?_
  try walk_nrm
  refine hU C (hp _) hs3 ?_
  try walk_nrm
  refine aj C ?_
  try walk_nrm
  refine aM C ?_
  co_then
  rw [On, CG]
  clear hs3 hA
  refine aR C (Tj C (hp _) (ha.kept zA) (hb.kept zA) (zA.sees hx) ER hx3 hyb.1 (by omega) sH xG rfl rfl rfl rfl rfl rfl ?_)
  intro v γ4 a4 w4 Ru aah hold h32 h33 h34 eA Q1
  co_then
  obtain ⟨A2, qy, rfl, ZW⟩ := eA.De
  obtain ⟨u4, ha4⟩ := Qy (bb := bb) (ba := ba) (bx := bx) (bf := bf) (bl := bl) (vl := .slice (some ad) db.aY.length cap) (nl := db.aY.length) (k := k) Ru aah (hold 0 (by omega)) (hold 1 (by omega)) (hold 2 (by omega)) (hold 3 (by omega)) (hold 4 (by omega)) (hold 6 (by omega)) (hold 11 (by omega)) (hold 12 (by omega)) (hold 13 (by omega)) h32 h33 h34
  clear hold h32 h33 h34 Ru aah eA
  have acN := zA.trans Q1
  generalize We : fL da db x y = l at *
  refine fu C ?_
  refine mW C (fun n γ' a w' => ∃ γ5 j, γ' = (wk cf cl tv ((l.drop j).map (xL x y) ++ msgs da db x (db.aY.drop (k + 1))), γ5) ∧ Kept γ4 w4 γ5 w' ∧ j ≤ l.length ∧ n = l.length - j ∧ ∃ u, a = Ou bb ba bx bf bl (.slice (some ad) db.aY.length cap) db.aY.length k y (.slice A2 l.length qy) l.length j u) (n := l.length) ⟨γ4, 0, rfl, Kept.refl _ _, by omega, by omega, u4, ha4⟩ ?_
  clear ha4 zA
  rintro n2 γ' a w6 ⟨γ5, j, hγ, Ji, hj, hn2, u, ha5⟩
  subst hγ
  unfold Ou at ha5
  subst ha5
  have UI := acN.trans Ji
  refine aR C (bP C ?_)
  by_cases R7 : j < l.length
  ·have ZN : decide ((j : Int) < (l.length : Int)) = true := by simpa using R7
   obtain ⟨s, hs⟩ : ∃ s, l[j]? = some s := ⟨_, bV R7⟩
   obtain ⟨UZ, ac8, acF⟩ := ZW j s hs
   subst ac8
   have Yn : l.drop j = s :: l.drop (j + 1) := by
    rw [mg R7]
    congr 1
    exact bU ((bV R7).symm.trans hs)
   have V5 := Ji.sees acF
   have hf5 := UI.sees hf
   have hx5 := UI.sees hx
   have hw6 : IntKind.i64.wrap ((j : Int) + 1) = (j : Int) + 1 := by
    have h1 := (xG.up y.toNat).1
    have h2 := (sH.lo x.toNat).1
    have h3 : l.length ≤ 2001 := by
     rw [← We]
     exact bk (D1 _ _ _ _) (by omega)
    rw [tn] <;> omega
   refine aj C ?_
   try walk_nrm
   refine aM C ?_
   co_then
   refine aR C (cU C (t := true) rfl ?_)
   simp only [if_true]
   refine jf C ?_
   co_then
   refine aR C (fu C (aR C (bP C ?_)))
   refine aj C ?_
   try walk_nrm
   refine hU C (hp _) V5 ?_
   try walk_nrm
   refine aj C ?_
   try walk_nrm
   refine aM C ?_
   co_then
   refine bP C ?_
   refine hU C (hp _) hf5 ?_
   try walk_nrm
   refine hU C (hp _) hx5 ?_
   try walk_nrm
   refine aj C ?_
   try walk_nrm
   refine aj C ?_
   try walk_nrm
   have hbr := fun w => GJ w x y s
   have Bv := fun w => Br w #[] x y s
   refine di C (v := ?v18) rfl (by rfl) (fun w => run_eq_of fun K hK => ?r18) (fun w => ?e18) ?h18
   case r18 => go_simp; exact hK
   case e18 => simp [go_sem, Bv]
   try walk_nrm
   clear hbr Bv
   rw [Yn]
   show KO _ _ (Pc.send cf (xL x y s) (wk cf cl tv ((l.drop (j + 1)).map (xL x y) ++ msgs da db x (db.aY.drop (k + 1)))), γ5) _ _ _ _ _
   refine TQ rfl (by rfl) rfl rfl rfl (Jo _).2 (hp _) (fun w7 r7 => ?_)
   have Q0 := Ji.trans (Kept.rely r7)
   clear V5 hf5 hx5 UI Ji
   try walk_nrm
   refine aM C ?_
   co_then
   refine bP C ?_
   refine aj C ?_
   try walk_nrm
   refine aj C ?_
   try walk_nrm
   refine aM C (dG ?_)
   exact ⟨l.length - (j + 1), by omega, γ5, j + 1, rfl, Q0, by omega, rfl, nj rfl⟩
  ·have ZF : j = l.length := by omega
   subst ZF
   have ZN : decide ((l.length : Int) < (l.length : Int)) = false := by simp
   simp only [List.drop_length, ek, List.nil_append]
   refine aj C ?_
   try walk_nrm
   refine aM C ?_
   co_then
   refine aR C (cU C (t := false) rfl ?_)
   simp only [aD, if_false]
   refine lT C ?_
   co_then
   refine bP C ?_
   refine aj C ?_
   try walk_nrm
   refine aj C ?_
   try walk_nrm
   refine aM C (dG ?_)
   exact ⟨db.aY.length - (k + 1), by omega, γ5, k + 1, rfl, UI, by omega, rfl, nj rfl⟩
 ·have Jh : k = db.aY.length := by omega
  subst Jh
  have Rv : decide ((db.aY.length : Int) < (db.aY.length : Int)) = false := by simp
  simp only [List.drop_length]
  refine aj C ?_
  try walk_nrm
  refine aM C ?_
  co_then
  refine aR C (cU C (t := false) rfl ?_)
  simp only [aD, if_false]
  refine lT C ?_
  co_then
  exact ⟨rfl, rfl, zA.sees hl, rfl, rfl, rfl⟩
noncomputable def bot : Frame := { (default : Frame) with fn := Tryz.prog.funcs.size, defers := [], mode := .panicking [goexitEntry] }
def Q8 : Frame := { (default : Frame) with fn := 102, kind := .deferred }
def call84 (bb ba bx bf bl : Nat) : Deferred := { target := .fn (.func 102) #[.pointer (some ⟨bb, 0, none⟩), .pointer (some ⟨ba, 0, none⟩), .pointer (some ⟨bx, 0, none⟩), .pointer (some ⟨bf, 0, none⟩), .pointer (some ⟨bl, 0, none⟩)], args := #[] }
theorem Tq (a : Act) (hd : a.defers = []) (ops : Array Oper) : QuitsIn Tryz.prog 4 (G (Q8.at a [.inRegion ops []]) [bot]) := by
 obtain ⟨T, df⟩ := a
 simp only at hd
 subst hd
 refine .inr ⟨rfl, _, fun w => stepG_region_end, ?_⟩
 refine .inr ⟨rfl, _, fun w => stepG_end, ?_⟩
 refine .inr ⟨rfl, G bot [], fun w => ?_, ?_⟩
 ·simp [G, stepG, unwind, doReturn, results, Frame.at, Q8, bot, Tryz.func102, Tryz.f102, seen, GStep.after, goexitEntry]
 refine .inr ⟨rfl, { G bot [] with status := .finished }, fun w => ?_, rfl⟩
 simp [G, stepG, unwind, bot, goexitEntry, Frame.catches]
 rfl
theorem Yz (bb ba bx bf bl : Nat) (w : World) : stepG Tryz.prog false (born Tryz.prog (call84 bb ba bx bf bl)) w =
  .go (G (Q8.at ⟨#[.pointer (some ⟨bb, 0, none⟩), .pointer (some ⟨ba, 0, none⟩), .pointer (some ⟨bx, 0, none⟩), .pointer (some ⟨bf, 0, none⟩), .pointer (some ⟨bl, 0, none⟩), undef, undef, undef, undef, undef, undef, undef, undef, undef, undef, undef, undef, undef, undef, undef, undef, undef, undef, undef, undef, undef, undef, undef, undef, undef, undef, undef, undef, undef, undef, undef, undef, undef, undef, undef, undef, undef, undef, undef, undef, undef], []⟩ [.code DM]) [bot]) w #[] := by
 simp [born, call84, stepG, unwind, callDeferred, invoke, callFunc, Tryz.func102, Tryz.f102, seen, GStep.after, G, Frame.enter, Frame.at, Q8, bot, DM]
set_option maxRecDepth 100000 in
theorem Lp (hP : Plain Tryz.prog) {bb ba bx bf bl cf cl : Nat} {da db : Wk} {x : Int} (sH : da.ok) (xG : db.ok) (ER : 0 ≤ x) (hx3 : x < 4)
  (ha : eV γ w ba da) (hb : eV γ w bb db) (hx : bn γ w ⟨bx, 0, none⟩ (.int .i64 x)) (hf : bn γ w ⟨bf, 0, none⟩ (.chan (some cf))) (hl : bn γ w ⟨bl, 0, none⟩ (.chan (some cl))) :
  Pr Tryz.prog aa false (wk cf cl (.bool true) (msgs da db x db.aY)) γ (born Tryz.prog (call84 bb ba bx bf bl)) w := by
 have C := xR (aa := aa) (main := false) hP
 have hne := Jo (cf := cf) (cl := cl) (tv := .bool true) (msgs da db x db.aY)
 suffices h : KG Tryz.prog aa false (wk cf cl (.bool true) (msgs da db x db.aY), γ) (born Tryz.prog (call84 bb ba bx bf bl)) w from h (fun _ => hne.1) hne.2
 refine C.go (fr := (born Tryz.prog (call84 bb ba bx bf bl)).frame) (cs := []) (fun w => Yz bb ba bx bf bl w) ?_
 show KG Tryz.prog aa false _ (G (Q8.at _ (.code (.seq X84 VU) :: [])) [bot]) w
 refine C.go (fun w => stepG_seq) ?_
 refine GB hP sH xG ER hx3 ha hb hx hf hl Q8 [.code VU] [bot] rfl (by simp [Q8]) ?_
 rintro ⟨p', γ'⟩ e a' w' ⟨rfl, qb, iV, uC, hsz', ht4⟩
 simp only at qb iV
 subst qb
 show KG Tryz.prog aa false _ (G (Q8.at a' (.code (.region _ _ false) :: [])) [bot]) w'
 refine C.go (fun w => stepG_region) ?_
 refine J2 C (Jo _).1 (v := .chan (some cl)) rfl (by rfl) (by simp [Q8]) (fun w₁ h₁ => ⟨run_eq_of fun K hK => ?_, ?_⟩) ?_
 ·have hc := (iV.rely h₁).2
  clear hsz'
  go_simp
  exact hK
 ·have hc := (iV.rely h₁).2
  intro e he
  simp [go_sem, hc, ht4] at he
  subst he
  exact (iV.rely h₁).EJ
 ·refine EC rfl (by rfl) rfl ?_ rfl (by simp [Q8]) ⟨4, QuitsD.of_quitsIn (Tq _ (by exact uC) _)⟩
  simp [Act.eval, Act.put, hsz']
end Go.Co
end
section
namespace Go.Co
open Go Go.Conc Go.Proofs
variable {aa : Machine → Trace → Prop} {γ : So} {w : World}
theorem z8 {cf cl : Nat} {z2 : Value} {od : Bool} (k : Nat) : EK cf cl z2 od k ≠ .ret ∧ EK cf cl z2 od k ≠ .stop := by cases k <;> simp [EK]
theorem DJ {P : Program} {main : Bool} {fn : FuncId} {ops : Array Oper} {todo : List Nat} {Q : Gm → Exit → Act → World → Prop} {a : Act} : KO (KG P aa main) fn (.bad, γ) ops todo Q a w := fun _ _ _ _ _ _ _ _ => trivial
theorem Vq : (Tryz.prog.info? 4).map (fun i => (i.zero, i.size, i.bytes)) = some (some (.bool false), 1, 1) := by kernel_rfl
theorem acv (f : FuncId) : (Tryz.prog.funcs[f]?).any (·.norace) = false := by
 have h : Tryz.prog.funcs.all (fun f => !f.norace) = true := by kernel_rfl
 cases hf : Tryz.prog.funcs[f]? with
 | none => rfl
 | some fn =>
  obtain ⟨hlt, rfl⟩ := aG.1 hf
  simpa using Array.all_eq_true.1 h f hlt
noncomputable def DL : Code := Tryz.f104.body.getD .skip
noncomputable def X85 : Code := match DL with | .seq x _ => x | _ => .skip
noncomputable def VT : Code := match DL with | .seq _ r => r | _ => .skip
def aaI (ba bl bf : Nat) (vl : Value) (nl k : Nat) (u : Nat → Value) : Act :=
 ⟨#[.pointer (some ⟨ba, 0, none⟩), .pointer (some ⟨bl, 0, none⟩), .pointer (some ⟨bf, 0, none⟩), u 3, u 4, vl, .int .i64 nl, .int .i64 k, u 8, u 9, u 10, u 11, u 12], []⟩
def NW (cf cl bf : Nat) (z2 : Value) (γ' : Gm) (e : Exit) (a' : Act) (w' : World) : Prop := e = .normal ∧ γ'.1 = EK cf cl z2 false 0 ∧ bn γ'.2 w' ⟨bf, 0, none⟩ (.chan (some cf)) ∧ a'.defers = [] ∧ a'.tmps.size = 13 ∧ a'.tmps[2]? = some (.pointer (some ⟨bf, 0, none⟩))
set_option maxRecDepth 100000 in
set_option maxHeartbeats 1000000 in
theorem GY (hP : Plain Tryz.prog) {ba bl bf cf cl : Nat} {da : Wk} (sH : da.ok)
  (ha : eV γ w ba da) (hf : bn γ w ⟨bf, 0, none⟩ (.chan (some cf))) (hl : bn γ w ⟨bl, 0, none⟩ (.chan (some cl))) :
  KJ (KG Tryz.prog aa false) 104 (EK cf cl (.bool false) false da.aY.length, γ) X85 (NW cf cl bf (.bool false))
   ⟨#[.pointer (some ⟨ba, 0, none⟩), .pointer (some ⟨bl, 0, none⟩), .pointer (some ⟨bf, 0, none⟩), undef, undef, undef, undef, undef, undef, undef, undef, undef, undef], []⟩ w := by
 have C := xR (aa := aa) (main := false) hP
 have hp : ∀ k, EK cf cl (.bool false) false k ≠ .ret := fun k => (z8 k).1
 obtain ⟨vl, Rn, A, cap, rfl, -⟩ := ha.aY
 have aat := sH.ZZ
 obtain ⟨i4, hi4, hy0, hy1, hy2⟩ := info_parts Vq
 refine aR C (bP C ?_)
 refine aj C ?_
 try walk_nrm
 refine aj C ?_
 try walk_nrm
 refine hU C (hp _) Rn ?_
 try walk_nrm
 refine aj C ?_
 try walk_nrm
 refine aj C ?_
 try walk_nrm
 refine aM C ?_
 co_then
 refine fu C ?_
 refine mW C (fun n γ' a w' => ∃ γ3 k, γ' = (EK cf cl (.bool false) false (da.aY.length - k), γ3) ∧ Kept γ w γ3 w' ∧ k ≤ da.aY.length ∧ n = da.aY.length - k ∧ ∃ u, a = aaI ba bl bf (.slice A da.aY.length cap) da.aY.length k u) (n := da.aY.length) ⟨γ, 0, rfl, Kept.refl _ _, by omega, by omega, nj rfl⟩ ?_
 rintro n γ' a w' ⟨γ3, k, hγ, zA, hk, hn, u, BC⟩
 subst hγ
 unfold aaI at BC
 subst BC
 refine aR C (bP C ?_)
 by_cases hlt : k < da.aY.length
 ·have Rv : decide ((k : Int) < (da.aY.length : Int)) = true := by simpa using hlt
  have ZD := zA.sees hl
  have hw5 : IntKind.i64.wrap ((k : Int) + 1) = (k : Int) + 1 := by rw [tn] <;> omega
  refine aj C ?_
  try walk_nrm
  refine aM C ?_
  co_then
  refine aR C (cU C (t := true) rfl ?_)
  simp only [if_true]
  refine jf C ?_
  co_then
  refine aR C (fu C (bP C ?_))
  refine hU C (hp _) ZD ?_
  try walk_nrm
  have hm : da.aY.length - k = (da.aY.length - (k + 1)) + 1 := by omega
  rw [hm]
  show KO _ _ (Pc.recv cl false (.bool false) (fun x => match x with | some _ => EK cf cl (.bool false) false (da.aY.length - (k + 1)) | none => .bad), γ3) _ _ _ _ _
  refine Ef rfl (by rfl) (fun w => ?_) (fun w => ?_) (fun x => ?_) (fun _ x => ?_) (fun x w7 r7 => ?_)
  ·simp [execOp, Act.eval, run_underlying Tryz.underlying137, zeroValue, typeInfo, hi4, hy0, rcase]
  ·simp [execOp, Act.eval, run_underlying Tryz.underlying137, zeroValue, typeInfo, hi4, hy0]
  ·cases x with
   | none => simp
   | some v => exact (z8 _).2
  ·cases x with
   | none => simp
   | some v => exact (z8 _).1
  cases x with
  | none => exact DJ
  | some v =>
   have Q0 := zA.trans (Kept.rely r7)
   clear ZD zA
   simp only []
   try walk_nrm
   refine aM C ?_
   co_then
   refine bP C ?_
   refine aj C ?_
   try walk_nrm
   refine aj C ?_
   try walk_nrm
   refine aM C (dG ?_)
   exact ⟨da.aY.length - (k + 1), by omega, γ3, k + 1, rfl, Q0, by omega, rfl, nj rfl⟩
 ·have Jh : k = da.aY.length := by omega
  subst Jh
  have Rv : decide ((da.aY.length : Int) < (da.aY.length : Int)) = false := by simp
  simp only [Nat.sub_self]
  refine aj C ?_
  try walk_nrm
  refine aM C ?_
  co_then
  refine aR C (cU C (t := false) rfl ?_)
  simp only [aD, if_false]
  refine lT C ?_
  co_then
  exact ⟨rfl, rfl, zA.sees hf, rfl, rfl, rfl⟩
def Q7 : Frame := { (default : Frame) with fn := 104, kind := .deferred }
def call85 (ba bl bf : Nat) : Deferred := { target := .fn (.func 104) #[.pointer (some ⟨ba, 0, none⟩), .pointer (some ⟨bl, 0, none⟩), .pointer (some ⟨bf, 0, none⟩)], args := #[] }
theorem To (a : Act) (hd : a.defers = []) (ops : Array Oper) : QuitsIn Tryz.prog 4 (G (Q7.at a [.inRegion ops []]) [bot]) := by
 obtain ⟨T, df⟩ := a
 simp only at hd
 subst hd
 refine .inr ⟨rfl, _, fun w => stepG_region_end, ?_⟩
 refine .inr ⟨rfl, _, fun w => stepG_end, ?_⟩
 refine .inr ⟨rfl, G bot [], fun w => ?_, ?_⟩
 ·simp [G, stepG, unwind, doReturn, results, Frame.at, Q7, bot, Tryz.func104, Tryz.f104, seen, GStep.after, goexitEntry]
 refine .inr ⟨rfl, { G bot [] with status := .finished }, fun w => ?_, rfl⟩
 simp [G, stepG, unwind, bot, goexitEntry, Frame.catches]
 rfl
theorem Yy (ba bl bf : Nat) (w : World) : stepG Tryz.prog false (born Tryz.prog (call85 ba bl bf)) w =
  .go (G (Q7.at ⟨#[.pointer (some ⟨ba, 0, none⟩), .pointer (some ⟨bl, 0, none⟩), .pointer (some ⟨bf, 0, none⟩), undef, undef, undef, undef, undef, undef, undef, undef, undef, undef], []⟩ [.code DL]) [bot]) w #[] := by
 simp [born, call85, stepG, unwind, callDeferred, invoke, callFunc, Tryz.func104, Tryz.f104, seen, GStep.after, G, Frame.enter, Frame.at, Q7, bot, DL]
set_option maxRecDepth 100000 in
theorem MA (hP : Plain Tryz.prog) {ba bl bf cf cl : Nat} {da : Wk} (sH : da.ok)
  (ha : eV γ w ba da) (hf : bn γ w ⟨bf, 0, none⟩ (.chan (some cf))) (hl : bn γ w ⟨bl, 0, none⟩ (.chan (some cl))) :
  Pr Tryz.prog aa false (EK cf cl (.bool false) false da.aY.length) γ (born Tryz.prog (call85 ba bl bf)) w := by
 have C := xR (aa := aa) (main := false) hP
 have hne := z8 (cf := cf) (cl := cl) (z2 := .bool false) (od := false) da.aY.length
 suffices h : KG Tryz.prog aa false (EK cf cl (.bool false) false da.aY.length, γ) (born Tryz.prog (call85 ba bl bf)) w from h (fun _ => hne.1) hne.2
 refine C.go (fr := (born Tryz.prog (call85 ba bl bf)).frame) (cs := []) (fun w => Yy ba bl bf w) ?_
 show KG Tryz.prog aa false _ (G (Q7.at _ (.code (.seq X85 VT) :: [])) [bot]) w
 refine C.go (fun w => stepG_seq) ?_
 refine GY hP sH ha hf hl Q7 [.code VT] [bot] rfl (by simp [Q7]) ?_
 rintro ⟨p', γ'⟩ e a' w' ⟨rfl, qb, UN, uC, hsz', ht2⟩
 simp only at qb UN
 subst qb
 show KG Tryz.prog aa false _ (G (Q7.at a' (.code (.region _ _ false) :: [])) [bot]) w'
 refine C.go (fun w => stepG_region) ?_
 refine J2 C (z8 _).1 (v := .chan (some cf)) rfl (by rfl) (by simp [Q7]) (fun w₁ h₁ => ⟨run_eq_of fun K hK => ?_, ?_⟩) ?_
 ·have hc := (UN.rely h₁).2
  clear hsz'
  go_simp
  exact hK
 ·have hc := (UN.rely h₁).2
  intro e he
  simp [go_sem, hc, ht2] at he
  subst he
  exact (UN.rely h₁).EJ
 ·refine BZ acv rfl (by rfl) rfl ?_ (by simp [Q7]) ⟨4, QuitsD.of_quitsIn (To _ (by exact uC) _)⟩
  simp [Act.eval, Act.put, hsz']
end Go.Co
end
section
namespace Go.Co
open Go Go.Conc Go.Proofs
open Classical
variable {P : Program} {aa : Machine → Trace → Prop} {γ : So} {w : World}
theorem Gz {b : Nat} : γ.give.all b ↔ γ.all b := ⟨fun h => h.elim id fun h => h.elim, .inl⟩
theorem bn.give {ad : Addr} {v : Value} (h : bn γ w ad v) : bn γ.give w ad v := ⟨Gz.2 h.1, h.2⟩
theorem wm.give {v : Value} {l : List Int} (h : wm γ w v l) : wm γ.give w v l := by
 obtain ⟨A, cap, rfl, h⟩ := h
 exact ⟨A, cap, rfl, fun i x hx => by obtain ⟨ad, h1, h2⟩ := h i x hx; exact ⟨ad, h1, h2.give⟩⟩
theorem eV.give {b : Nat} {d : Wk} (h : eV γ w b d) : eV γ.give w b d :=
 ⟨h.bX.give, h.aY.imp fun _ ⟨h1, h2⟩ => ⟨h1.give, h2.give⟩, fun i hi => (h.up i hi).imp fun _ ⟨h1, h2⟩ => ⟨h1.give, h2.give⟩, fun i hi => (h.lo i hi).imp fun _ ⟨h1, h2⟩ => ⟨h1.give, h2.give⟩⟩
theorem Kept.put {γ0 : So} {w0 : World} {ad : Addr} {v : Value} (k : Kept γ0 w0 γ w) (h : w0.heap.size ≤ ad.block) : Kept γ0 w0 γ (w.setCell ad v) :=
 ⟨k.shr, k.own, fun b hb hlt => (heap_setCell_other _ _ _ _ (by omega)).trans (k.blk b hb hlt), by rw [World.size_setCell]; exact k.size, k.env⟩
structure EX (A : Nat → Prop) (B0 : Nat) (w0 : World) (γ : So) (w : World) : Prop where
 lt : ∀ b, A b → b < B0
 all : ∀ b, A b → γ.all b
 blk : ∀ b, A b → w.heap[b]? = w0.heap[b]?
 size : B0 ≤ w.heap.size
 env : w.os = w0.os ∧ w.output = w0.output
theorem EX.kept {A : Nat → Prop} {B0 : Nat} {w0 w' : World} {γ' : So} (h : EX A B0 w0 γ w) (k : Kept γ w γ' w') : EX A B0 w0 γ' w' :=
 ⟨h.lt, fun b hb => k.all (h.all b hb), fun b hb => (k.blk b (h.all b hb) (cz (h.lt b hb) h.size)).trans (h.blk b hb), bk h.size k.size, k.env.1.trans h.env.1, k.env.2.trans h.env.2⟩
theorem EX.give {A : Nat → Prop} {B0 : Nat} {w0 : World} (h : EX A B0 w0 γ w) : EX A B0 w0 γ.give w := ⟨h.lt, fun b hb => Gz.2 (h.all b hb), h.blk, h.size, h.env⟩
structure Fx (da db : Wk) (b2 b3 b5 b6 cf cl : Nat) (γ : So) (w : World) : Prop where
 wa : eV γ w b2 da
 wb : eV γ w b3 db
 f : bn γ w ⟨b5, 0, none⟩ (.chan (some cf))
 l : bn γ w ⟨b6, 0, none⟩ (.chan (some cl))
theorem Fx.kept {da db : Wk} {b2 b3 b5 b6 cf cl : Nat} {γ' : So} {w' : World} (h : Fx da db b2 b3 b5 b6 cf cl γ w) (k : Kept γ w γ' w') : Fx da db b2 b3 b5 b6 cf cl γ' w' := ⟨h.wa.kept k, h.wb.kept k, k.sees h.f, k.sees h.l⟩
theorem Fx.give {da db : Wk} {b2 b3 b5 b6 cf cl : Nat} (h : Fx da db b2 b3 b5 b6 cf cl γ w) : Fx da db b2 b3 b5 b6 cf cl γ.give w := ⟨h.wa.give, h.wb.give, h.f.give, h.l.give⟩
def Jy (b2 b3 b5 b6 : Nat) (u : Nat → Value) : Act :=
 ⟨#[u 0, u 1, .pointer (some ⟨b2, 0, none⟩), .pointer (some ⟨b3, 0, none⟩), u 4, .pointer (some ⟨b5, 0, none⟩), .pointer (some ⟨b6, 0, none⟩), u 7, u 8, u 9, u 10, u 11, u 12, u 13, u 14, u 15, u 16, u 17, u 18, u 19, u 20, u 21, u 22, u 23, u 24, u 25, u 26, u 27, u 28, u 29, u 30, u 31, u 32, u 33, u 34], []⟩
def Fj (b2 b3 b5 b6 : Nat) (vl : Value) (nl k : Nat) (u : Nat → Value) : Act :=
 ⟨#[u 0, u 1, .pointer (some ⟨b2, 0, none⟩), .pointer (some ⟨b3, 0, none⟩), u 4, .pointer (some ⟨b5, 0, none⟩), .pointer (some ⟨b6, 0, none⟩), u 7, u 8, u 9, u 10, u 11, u 12, u 13, u 14, vl, .int .i64 nl, .int .i64 k, u 18, u 19, u 20, u 21, u 22, u 23, u 24, u 25, u 26, u 27, u 28, u 29, u 30, u 31, u 32, u 33, u 34], []⟩
def adr (b2 b3 b5 b6 cf : Nat) (out : Value) (u : Nat → Value) : Act :=
 ⟨#[u 0, u 1, .pointer (some ⟨b2, 0, none⟩), .pointer (some ⟨b3, 0, none⟩), u 4, .pointer (some ⟨b5, 0, none⟩), .pointer (some ⟨b6, 0, none⟩), u 7, u 8, out, u 10, u 11, u 12, u 13, u 14, u 15, u 16, u 17, u 18, u 19, u 20, u 21, u 22, u 23, .chan (some cf), u 25, u 26, u 27, u 28, u 29, u 30, u 31, u 32, u 33, u 34], []⟩
noncomputable def YA : Code := Tryz.f60.body.getD .skip
noncomputable def pn : Code := match YA with | .seq _ (.seq _ (.seq _ x)) => x | _ => .skip
noncomputable def aaO : Code := match pn with | .seq x _ => x | _ => .skip
theorem Gp {cf cl : Nat} {tv z2 : Value} {od : Bool} {K : Nat} {p : Pc} (todo : List (List Value)) : chain cf cl tv z2 od K p todo ≠ .ret ∧ chain cf cl tv z2 od K p todo ≠ .stop := by cases todo <;> simp [chain]
def adk (da db : Wk) (b2 b3 b5 b6 cf cl : Nat) (K : Nat) (p : Pc) (A : Nat → Prop) (B0 : Nat) (w0 : World) (γ' : Gm) (e : Exit) (a' : Act) (w' : World) : Prop :=
 e = .normal ∧ γ'.1 = chain cf cl (.bool true) (.bool false) false K p [] ∧ EX A B0 w0 γ'.2 w' ∧ Fx da db b2 b3 b5 b6 cf cl γ'.2 w' ∧ (∀ b, A b → γ'.2.1 b ∨ γ'.2.2 b) ∧ ∃ vl nl k u, a' = Fj b2 b3 b5 b6 vl nl k u
set_option maxRecDepth 100000 in
set_option maxHeartbeats 2000000 in
theorem XN (hP : Plain Tryz.prog) {b2 b3 b5 b6 cf cl : Nat} {da db : Wk} (sH : da.ok) (xG : db.ok) {K : Nat} {p : Pc} {A : Nat → Prop} {B0 : Nat} {w0 : World} (hS : EX A B0 w0 γ w) (hF : Fx da db b2 b3 b5 b6 cf cl γ w) (u : Nat → Value) :
  KJ (KG Tryz.prog aa true) 60 (chain cf cl (.bool true) (.bool false) false K p (da.aY.map fun x => msgs da db x db.aY), γ) aaO (adk da db b2 b3 b5 b6 cf cl K p A B0 w0) (Jy b2 b3 b5 b6 u) w := by
 have C := xR (aa := aa) (main := true) hP
 have hp : ∀ todo, chain cf cl (.bool true) (.bool false) false K p todo ≠ .ret := fun todo => (Gp todo).1
 obtain ⟨v0, Rp, AA, cap, rfl, hA⟩ := hF.wa.aY
 have hI : wm γ w (.slice AA da.aY.length cap) da.aY := ⟨AA, cap, rfl, hA⟩
 have aat := sH.ZZ
 unfold Jy
 refine aR C (bP C ?_)
 refine aj C ?_
 try walk_nrm
 refine aj C ?_
 try walk_nrm
 refine hU C (hp _) Rp ?_
 try walk_nrm
 refine aj C ?_
 try walk_nrm
 refine aj C ?_
 try walk_nrm
 refine aM C ?_
 co_then
 refine fu C ?_
 clear Rp hA
 refine mW C (fun n γ' a w' => ∃ γ3 k, γ' = (chain cf cl (.bool true) (.bool false) false K p ((da.aY.drop k).map fun x => msgs da db x db.aY), γ3) ∧ EX A B0 w0 γ3 w' ∧ Fx da db b2 b3 b5 b6 cf cl γ3 w' ∧ wm γ3 w' (.slice AA da.aY.length cap) da.aY ∧ k ≤ da.aY.length ∧ n = da.aY.length - k ∧ ∃ u, a = Fj b2 b3 b5 b6 (.slice AA da.aY.length cap) da.aY.length k u) (n := da.aY.length) ⟨γ, 0, rfl, hS, hF, hI, by omega, by omega, nj rfl⟩ ?_
 clear hS hF hI
 rintro n γ' a w' ⟨γ3, k, hγ, hS, hF, hI, hk, hn, u, BC⟩
 subst hγ
 unfold Fj at BC
 subst BC
 refine aR C (bP C ?_)
 by_cases hlt : k < da.aY.length
 ·have Rv : decide ((k : Int) < (da.aY.length : Int)) = true := by simpa using hlt
  obtain ⟨x, hx⟩ : ∃ x, da.aY[k]? = some x := ⟨_, bV hlt⟩
  have hxb := sH.aY k x hx
  obtain ⟨ad, rfl, YS⟩ : ∃ ad, AA = some ad ∧ bn γ3 w' (ad.add k) (.int .i64 x) := by
   obtain ⟨A2, qy, he, h2⟩ := hI
   cases he
   exact h2 k x hx
  have On : da.aY.drop k = x :: da.aY.drop (k + 1) := by
   rw [mg hlt]
   congr 1
   exact bU ((bV hlt).symm.trans hx)
  have hw5 : IntKind.i64.wrap ((k : Int) + 1) = (k : Int) + 1 := by rw [tn] <;> omega
  refine aj C ?_
  try walk_nrm
  refine aM C ?_
  co_then
  refine aR C (cU C (t := true) rfl ?_)
  simp only [if_true]
  refine jf C ?_
  co_then
  refine aR C (fu C (aR C (bP C ?_)))
  refine aj C ?_
  try walk_nrm
  refine hU C (hp _) YS ?_
  try walk_nrm
  refine nU C (hp _) (ob := ?ob9) rfl (by rfl) (fun w => run_eq_of fun K hK => ?r9) (fun w => ?e9) ?h9
  case r9 => go_simp; exact hK
  case e9 => simp [go_sem]
  intro w5 Rh
  try walk_nrm
  have Ji := (Kept.rely Rh).trans (Kept.alloc γ3 w5 w5.heap.size (.cells #[.int .i64 0] 3))
  have V0 : (w5.alloc (.cells #[.int .i64 0] 3)).frozen? ⟨w5.heap.size, 0, none⟩ = false := World.frozen?_alloc_new _ _ _ _
  have V5 : bn _ _ ⟨w5.heap.size, 0, none⟩ (.int .i64 0) := bn.fresh (γ := γ3) (w := w5) (cs := #[.int .i64 0]) (t := 3) rfl rfl
  have MW : (γ3.more w5.heap.size).2 w5.heap.size := .inr rfl
  have HJ : w'.heap.size ≤ w5.heap.size := Rh.1
  generalize w5.alloc (.cells #[.int .i64 0] 3) = w6 at *
  generalize γ3.more w5.heap.size = γ6 at *
  generalize w5.heap.size = b8 at *
  clear YS Rh
  refine H8 C (hp _) (ad := ⟨b8, 0, none⟩) (v := .int .i64 x) rfl (by rfl) MW (fun w₁ h₁ => ⟨?_, ?_⟩) ?_
  ·have hc := (V5.rely h₁).2
   have hz : w₁.frozen? ⟨b8, 0, none⟩ = false := (World.frozen?_of_block (h₁.2.1 b8 (.inr MW))).trans V0
   refine (?_ : ∀ K : Result Next → Prop, K (.ok .skip (w₁.setCell ⟨b8, 0, none⟩ (.int .i64 x))) → K _) (· = _) rfl
   intro K hK
   go_simp
   try (unfold stored; go_simp)
   exact hK
  ·have hc := (V5.rely h₁).2
   have hz : w₁.frozen? ⟨b8, 0, none⟩ = false := (World.frozen?_of_block (h₁.2.1 b8 (.inr MW))).trans V0
   intro e he
   simp [go_sem, hc, hz] at he
   exact he
  intro w7 r7
  try walk_nrm
  have Q0 := (Ji.trans (Kept.rely r7)).put (ad := ⟨b8, 0, none⟩) (v := .int .i64 x) HJ
  have hx7 : bn γ6 (w7.setCell ⟨b8, 0, none⟩ (.int .i64 x)) ⟨b8, 0, none⟩ (.int .i64 x) := ⟨.inr MW, World.cell?_setCell_same _ _ _ (V5.rely r7).2⟩
  generalize w7.setCell ⟨b8, 0, none⟩ (.int .i64 x) = w8 at *
  clear V5 V0 r7 Ji HJ
  have hF8 := hF.kept Q0
  have hS8 := hS.kept Q0
  have hI8 := Q0.De hI
  clear hF hS hI Q0
  refine aM C ?_
  co_then
  refine bP C ?_
  refine di C (v := ?v10) rfl (by rfl) (fun w => run_eq_of fun K hK => ?r10) (fun w => ?e10) ?uD
  case r10 => go_simp; exact hK
  case e10 => simp [go_sem, Instr.makeFunc]
  try walk_nrm
  rw [On, bD]
  show KO _ _ (Pc.go (wk cf cl (.bool true) (msgs da db x db.aY)) (chain cf cl (.bool true) (.bool false) false K p ((da.aY.drop (k + 1)).map fun x => msgs da db x db.aY)), γ6) _ _ _ _ _
  refine Vp (d := call84 b3 b2 b8 b5 b6) (f := .func 102) (cap := #[.pointer (some ⟨b3, 0, none⟩), .pointer (some ⟨b2, 0, none⟩), .pointer (some ⟨b8, 0, none⟩), .pointer (some ⟨b5, 0, none⟩), .pointer (some ⟨b6, 0, none⟩)]) rfl (by rfl) (fun w => ?_) (fun w => ?_) rfl (Gp _).2 (fun _ => hp _) (fun w9 r9 w10 r10 => ?_) (fun w9 r9 w10 r10 => ?_)
  ·simp [execOp, resolve, Act.eval, call84, Deferred.ofValue]
  ·simp [execOp, resolve, Act.eval, Deferred.ofValue]
  ·have hk := (Kept.rely r9)
   have sS := (Kept.rely r10)
   have K5 := ((hF8.kept hk).give).kept sS
   exact Lp hP sH xG hxb.1 (by omega) K5.wa K5.wb (sS.sees (hk.sees hx7).give) K5.f K5.l
  have K5 := ((hF8.kept (Kept.rely r9)).give).kept (Kept.rely r10)
  have hS9 := ((hS8.kept (Kept.rely r9)).give).kept (Kept.rely r10)
  have hI9 := (Kept.rely r10).De ((Kept.rely r9).De hI8).give
  clear hF8 hS8 hI8 hx7
  try walk_nrm
  refine aM C ?_
  co_then
  refine bP C ?_
  refine aj C ?_
  try walk_nrm
  refine aj C ?_
  try walk_nrm
  refine aM C (dG ?_)
  exact ⟨da.aY.length - (k + 1), by omega, _, k + 1, rfl, hS9, K5, hI9, by omega, rfl, nj rfl⟩
 ·have Jh : k = da.aY.length := by omega
  subst Jh
  have Rv : decide ((da.aY.length : Int) < (da.aY.length : Int)) = false := by simp
  simp only [List.drop_length, ek]
  refine aj C ?_
  try walk_nrm
  refine aM C ?_
  co_then
  refine aR C (cU C (t := false) rfl ?_)
  simp only [aD, if_false]
  refine lT C ?_
  co_then
  exact ⟨rfl, rfl, hS, hF, hS.all, _, _, _, nj (F := fun u => Fj b2 b3 b5 b6 (.slice AA da.aY.length cap) da.aY.length da.aY.length u) rfl⟩
end Go.Co
end
section
namespace Go.Co
open Go Go.Conc Go.Proofs
open Classical
variable {P : Program} {aa : Machine → Trace → Prop} {main : Bool} {K : Gm → Goroutine → World → Prop} {fn : FuncId} {p : Pc} {γ : So} {Q : Gm → Exit → Act → World → Prop} {a : Act} {w : World} {ops : Array Oper} {i : Nat} {rest : List Nat} {o : Oper}
theorem TS (C : KC P main K y8 Dm) (hp : p ≠ .ret) {b : Nat} {x y z : Value} (ho : ops[i]? = some o) (hw : Region.wanted o (yielded ops a.tmps) = true) (hO : γ.2 b)
  (hrun : ∀ w₁, gU γ w w₁ → (execOp a.eval o).run P w₁ = .ok .skip (((w₁.setCell ⟨b, 0, none⟩ x).setCell ⟨b, 1, none⟩ y).setCell ⟨b, 2, none⟩ z) ∧ ∀ e ∈ (execOp a.eval o).events P w₁ #[], ∃ j, e = ⟨.cell ⟨b, j, none⟩, true, false⟩)
  (h : ∀ w₁, gU γ w w₁ → KO K fn (p, γ) ops rest Q (a.put o.dst undef) (((w₁.setCell ⟨b, 0, none⟩ x).setCell ⟨b, 1, none⟩ y).setCell ⟨b, 2, none⟩ z)) : KO K fn (p, γ) ops (i :: rest) Q a w :=
 vg C ho hw fun w₁ r => by
  obtain ⟨h1, h2⟩ := hrun w₁ (Ri hp r)
  rw [h1]
  have hsz : (((w₁.setCell ⟨b, 0, none⟩ x).setCell ⟨b, 1, none⟩ y).setCell ⟨b, 2, none⟩ z).heap.size = w₁.heap.size := by rw [World.size_setCell, World.size_setCell, World.size_setCell]
  refine ⟨(p, γ), Zj hp ⟨rfl, fun c => ⟨.inl, fun h => h.elim id fun h => absurd h.2 (by omega)⟩, by omega, fun c _ hn => ?_, rfl, rfl, rfl, fun e he => ?_⟩, h w₁ (Ri hp r)⟩
  ·have hne : c ≠ b := fun e => hn (e ▸ hO)
   rw [heap_setCell_other _ _ _ _ hne, heap_setCell_other _ _ _ _ hne, heap_setCell_other _ _ _ _ hne]
  ·obtain ⟨j, rfl⟩ := h2 e (mem_listed he)
   exact .inl ⟨_, true, false, rfl, fun _ => hO, .inr hO⟩
theorem EX.append {A : Nat → Prop} {B0 : Nat} {w0 w' : World} {γ' : So} {v : Value} (h : EX A B0 w0 γ w) (h1 : γ'.1 = γ.1) (h2 : ∀ b, γ.2 b → γ'.2 b) (h3 : w.heap.size ≤ w'.heap.size)
  (h4 : ∀ b, γ.all b → b < w.heap.size → some b ≠ v.ownBlock → w'.heap[b]? = w.heap[b]?) (h5 : w'.os = w.os ∧ w'.output = w.output) (hb : ∀ b, v.ownBlock = some b → B0 ≤ b) : EX A B0 w0 γ' w' :=
 ⟨h.lt, fun b hlt => (h.all b hlt).imp (by rw [h1]; exact id) (h2 b), fun b hlt => (h4 b (h.all b hlt) (cz (h.lt b hlt) h.size) fun e => by have := hb b e.symm; have := h.lt b hlt; omega).trans (h.blk b hlt), bk h.size h3, h5.1.trans h.env.1, h5.2.trans h.env.2⟩
abbrev Sm := Int × Int × Int
def sG (m : Sm) : Value := xL m.1 m.2.1 m.2.2
def oT (m : Sm) : List Value := [.int .i64 m.1, .int .i64 m.2.1, .int .i64 m.2.2]
theorem EE {id : Nat} {R : Exit → Act → World → Prop} (h : R .normal a w) : Exit.inBlock id R .normal a w := h
theorem DY (l : List Sm) : (l.flatMap oT).length = l.length * 3 := by
 induction l with
 | nil => rfl
 | cons m l ih => simp only [gv, cO, ih, oT, List.length_cons, List.length_nil]; omega
theorem SY {m m' : Sm} (h : sG m = sG m') : m = m' := by
 obtain ⟨a, b, c⟩ := m
 obtain ⟨a', b', c'⟩ := m'
 simp [sG, xL] at h
 obtain ⟨rfl, rfl, rfl⟩ := h
 rfl
theorem C2 (m : Sm) : ∀ l : List Sm, (l.map sG).erase (sG m) = (l.erase m).map sG
 | [] => rfl
 | a :: l => by
  rw [bD, List.erase_cons, List.erase_cons]
  by_cases h : a = m
  ·subst h; simp
  ·have h2 : ¬ sG a = sG m := fun e => h (SY e)
   simp [h, h2, C2 m l]
theorem Ul (cf : Nat) (z : Value) : y7 cf z [] = .recv cf true z fun x => match x with | some _ => .bad | none => .ret := rfl
theorem QH (cf : Nat) (z v0 : Value) (vs : List Value) : y7 cf z (v0 :: vs) = .recv cf true z fun x => match x with | some v => if v ∈ v0 :: vs then y7 cf z ((v0 :: vs).erase v) else .bad | none => .bad := by
 unfold y7
 show Pc.recv cf true z (fun x => match x with | some v => if v ∈ v0 :: vs then Si cf z vs.length ((v0 :: vs).erase v) else .bad | none => .bad) = _
 congr 1
 funext x
 cases x with
 | none => rfl
 | some v =>
  simp only
  split
  ·rename_i h
   rw [List.length_erase_of_mem h]
   rfl
  ·rfl
def Ov (out : Value) (u : Nat → Value) : Act :=
 ⟨#[u 0, u 1, u 2, u 3, u 4, u 5, u 6, u 7, u 8, out, u 10, u 11, u 12, u 13, u 14, u 15, u 16, u 17, u 18, u 19, u 20, u 21, u 22, u 23, u 24, u 25, u 26, u 27, u 28, u 29, u 30, u 31, u 32, u 33, u 34], []⟩
def Jz (cf : Nat) (out : Value) (u : Nat → Value) : Act :=
 ⟨#[u 0, u 1, u 2, u 3, u 4, u 5, u 6, u 7, u 8, out, u 10, u 11, u 12, u 13, u 14, u 15, u 16, u 17, u 18, u 19, u 20, u 21, u 22, u 23, .chan (some cf), u 25, u 26, u 27, u 28, u 29, u 30, u 31, u 32, u 33, u 34], []⟩
def Xn (A : Nat → Prop) (B0 : Nat) (w0 : World) (R : List Sm) (γ' : Gm) (e : Exit) (a' : Act) (w' : World) : Prop :=
 e = .normal ∧ γ'.1 = .ret ∧ EX A B0 w0 γ'.2 w' ∧ ∃ (got : List Sm) (out : Value), got.Perm R ∧ w'.ownsRow B0 79 3 out got.length (got.flatMap oT) ∧ ∃ u, a' = Ov out u
noncomputable def OD : Code := match pn with | .seq _ (.seq _ (.seq _ (.seq (.seq _ x) _))) => x | _ => .skip
set_option maxRecDepth 100000 in
set_option maxHeartbeats 2000000 in
theorem QG (hP : Plain Tryz.prog) {cf : Nat} {A : Nat → Prop} {B0 : Nat} {w0 : World} {R : List Sm} (hR : R.length ≤ 4294967296) (hS : EX A B0 w0 γ w) (u : Nat → Value) :
  KJ (KG Tryz.prog aa true) 60 (y7 cf (.agg #[.int .i64 0, .int .i64 0, .int .i64 0]) (R.map sG), γ) OD (Xn A B0 w0 R) (Jz cf (.slice none 0 0) u) w := by
 have C := xR (aa := aa) (main := true) hP
 obtain ⟨i0, zB, EO, ML, YM⟩ := info_parts Ib
 have hzv : ∀ w, (zeroValue 79).run Tryz.prog w = .ok (.agg #[.int .i64 0, .int .i64 0, .int .i64 0]) w := fun w => by simp [zeroValue, typeInfo, zB, EO]
 have hze : ∀ w es, (zeroValue 79).events Tryz.prog w es = es := fun w es => by simp [zeroValue, typeInfo, zB, EO]
 have hrun : ∀ (T : Act) (o : Oper) (w : World), o.op = .recv 136 (.tmp 24) true → T.eval (.tmp 24) = .chan (some cf) → (execOp T.eval o).run Tryz.prog w = .ok (.comm #[rcase cf (.agg #[.int .i64 0, .int .i64 0, .int .i64 0])] true (.recv true)) w := by
  intro T o w ho hT
  simp [execOp, ho, run_underlying Tryz.underlying136, hzv, rcase, hT]
 have sU : ∀ (T : Act) (o : Oper) (w : World), o.op = .recv 136 (.tmp 24) true → (execOp T.eval o).events Tryz.prog w #[] = #[] := by
  intro T o w ho
  simp [execOp, ho, run_underlying Tryz.underlying136, hze]
 refine fu C ?_
 refine mW C (fun n γ' a w' => ∃ (γ3 : So) (rem got : List Sm) (out : Value), γ' = (y7 cf (.agg #[.int .i64 0, .int .i64 0, .int .i64 0]) (rem.map sG), γ3) ∧ EX A B0 w0 γ3 w' ∧ jF γ3 w' B0 79 3 out got.length (got.flatMap oT) ∧ (got ++ rem).Perm R ∧ n = rem.length ∧ ∃ u, a = Jz cf out u) (n := R.length) ⟨γ, R, [], .slice none 0 0, rfl, hS, jF.nil _ _ _, by simp, rfl, u, rfl⟩ ?_
 clear hS
 rintro n γ' a w' ⟨γ3, rem, got, out, hγ, hS, eA, Oh, hn, u, BC⟩
 subst hγ
 unfold Jz at BC
 subst BC
 have hlen : got.length + rem.length ≤ 4294967296 := by
  have h1 := Oh.length_eq
  rw [cO] at h1
  omega
 refine aR C (bP C ?_)
 cases rem with
 | nil =>
  simp only [ek]
  rw [Ul]
  refine Ef rfl (by rfl) (fun w => hrun _ _ w rfl rfl) (fun w => sU _ _ w rfl) (fun x => by cases x <;> simp) (fun h => by cases h) (fun x w7 r7 => ?_)
  cases x with
  | some v => exact DJ
  | none =>
   have hS7 := hS.kept (Kept.rely r7)
   have Cf := eA.rely r7
   simp only [Option.getD_none, Option.isSome_none, recvd]
   try walk_nrm
   refine aj C ?_
   try walk_nrm
   refine aM C ?_
   co_then
   refine aR C (cU C (t := false) rfl ?_)
   simp only [aD, if_false]
   refine lT C ?_
   co_then
   exact ⟨rfl, rfl, hS7, got, out, by simpa using Oh, Cf.1, nj (F := fun u => Ov out u) rfl⟩
 | cons m0 ms =>
  simp only [bD]
  rw [QH]
  refine Ef rfl (by rfl) (fun w => hrun _ _ w rfl rfl) (fun w => sU _ _ w rfl) (fun x => ?_) (fun h => by cases h) (fun x w7 r7 => ?_)
  ·cases x with
   | none => simp
   | some v =>
    simp only
    split
    ·obtain ⟨q, hq⟩ := sx (cf := cf) (z := .agg #[.int .i64 0, .int .i64 0, .int .i64 0]) ((sG m0 :: ms.map sG).erase v)
     rw [hq]; simp
    ·simp
  cases x with
  | none => exact DJ
  | some v =>
   simp only
   by_cases hv : v ∈ sG m0 :: ms.map sG
   ·rw [if_pos hv]
    obtain ⟨m, hm, rfl⟩ : ∃ m, m ∈ m0 :: ms ∧ sG m = v := by
     have : v ∈ (m0 :: ms).map sG := hv
     exact fN.1 this
    have acK : (sG m0 :: ms.map sG).erase (sG m) = ((m0 :: ms).erase m).map sG := C2 m (m0 :: ms)
    rw [acK]
    have YV := List.perm_cons_erase hm
    have Oj := List.length_erase_of_mem hm
    generalize (m0 :: ms).erase m = RN at *
    obtain ⟨x, y, s⟩ := m
    have hp : y7 cf (.agg #[.int .i64 0, .int .i64 0, .int .i64 0]) (RN.map sG) ≠ .ret := by
     obtain ⟨q, hq⟩ := sx (cf := cf) (z := .agg #[.int .i64 0, .int .i64 0, .int .i64 0]) (RN.map sG)
     rw [hq]; simp
    have hS7 := hS.kept (Kept.rely r7)
    have Cf := eA.rely r7
    clear hS eA
    simp only [Option.getD_some, Option.isSome_some, recvd, sG, xL]
    try walk_nrm
    refine aj C ?_
    try walk_nrm
    refine aM C ?_
    co_then
    refine aR C (cU C (t := true) rfl ?_)
    simp only [if_true]
    refine jf C ?_
    co_then
    refine fu C (aR C (bP C ?_))
    refine aj C ?_
    try walk_nrm
    refine nU C hp (ob := ?ob4) rfl (by rfl) (fun w => run_eq_of fun K hK => ?r4) (fun w => ?e4) ?h4
    case r4 => go_simp; exact hK
    case e4 => simp [go_sem]
    intro w5 Rh
    try walk_nrm
    have Ji := (Kept.rely Rh).trans (Kept.alloc γ3 w5 w5.heap.size (.cells #[.int .i64 0, .int .i64 0, .int .i64 0] 79))
    have V0 : ∀ j, (w5.alloc (.cells #[.int .i64 0, .int .i64 0, .int .i64 0] 79)).frozen? ⟨w5.heap.size, j, none⟩ = false := fun j => World.frozen?_alloc_new _ _ _ _
    have h50 : bn _ _ ⟨w5.heap.size, 0, none⟩ (.int .i64 0) := bn.fresh (γ := γ3) (w := w5) (cs := #[.int .i64 0, .int .i64 0, .int .i64 0]) (t := 79) rfl rfl
    have h51 : bn _ _ ⟨w5.heap.size, 1, none⟩ (.int .i64 0) := bn.fresh (γ := γ3) (w := w5) (cs := #[.int .i64 0, .int .i64 0, .int .i64 0]) (t := 79) rfl rfl
    have h52 : bn _ _ ⟨w5.heap.size, 2, none⟩ (.int .i64 0) := bn.fresh (γ := γ3) (w := w5) (cs := #[.int .i64 0, .int .i64 0, .int .i64 0]) (t := 79) rfl rfl
    have MW : (γ3.more w5.heap.size).2 w5.heap.size := .inr rfl
    have HJ : w7.heap.size ≤ w5.heap.size := Rh.1
    generalize w5.alloc (.cells #[.int .i64 0, .int .i64 0, .int .i64 0] 79) = w6 at *
    generalize γ3.more w5.heap.size = γ6 at *
    generalize w5.heap.size = b8 at *
    clear Rh
    refine TS C hp (b := b8) (x := .int .i64 x) (y := .int .i64 y) (z := .int .i64 s) rfl (by rfl) MW (fun w₁ h₁ => ⟨?_, ?_⟩) ?_
    ·have ZO := (h50.rely h₁).2
     have EG := (h51.rely h₁).2
     have wu := (h52.rely h₁).2
     have hz : ∀ j, w₁.frozen? ⟨b8, j, none⟩ = false := fun j => (World.frozen?_of_block (h₁.2.1 b8 (.inr MW))).trans (V0 j)
     refine (?_ : ∀ K : Result Next → Prop, K (.ok .skip (((w₁.setCell ⟨b8, 0, none⟩ (.int .i64 x)).setCell ⟨b8, 1, none⟩ (.int .i64 y)).setCell ⟨b8, 2, none⟩ (.int .i64 s))) → K _) (· = _) rfl
     intro K hK
     go_simp
     try (unfold stored; go_simp)
     exact hK
    ·have ZO := (h50.rely h₁).2
     have EG := (h51.rely h₁).2
     have wu := (h52.rely h₁).2
     have hz : ∀ j, w₁.frozen? ⟨b8, j, none⟩ = false := fun j => (World.frozen?_of_block (h₁.2.1 b8 (.inr MW))).trans (V0 j)
     intro e he
     simp [go_sem, ZO, EG, wu, hz] at he
     rcases he with rfl | rfl | rfl
     ·exact ⟨0, rfl⟩
     ·exact ⟨1, rfl⟩
     ·exact ⟨2, rfl⟩
    intro w9 r9
    try walk_nrm
    have hk9 := (((Ji.trans (Kept.rely r9)).put (ad := ⟨b8, 0, none⟩) (v := .int .i64 x) HJ).put (ad := ⟨b8, 1, none⟩) (v := .int .i64 y) HJ).put (ad := ⟨b8, 2, none⟩) (v := .int .i64 s) HJ
    have s0 : bn γ6 (((w9.setCell ⟨b8, 0, none⟩ (.int .i64 x)).setCell ⟨b8, 1, none⟩ (.int .i64 y)).setCell ⟨b8, 2, none⟩ (.int .i64 s)) ⟨b8, 0, none⟩ (.int .i64 x) :=
     bn.put (bn.put ⟨.inr MW, World.cell?_setCell_same _ _ _ (h50.rely r9).2⟩ (by simp)) (by simp)
    have s1 : bn γ6 (((w9.setCell ⟨b8, 0, none⟩ (.int .i64 x)).setCell ⟨b8, 1, none⟩ (.int .i64 y)).setCell ⟨b8, 2, none⟩ (.int .i64 s)) ⟨b8, 1, none⟩ (.int .i64 y) :=
     bn.put ⟨.inr MW, World.cell?_setCell_same _ _ _ ((h51.rely r9).put (by simp)).2⟩ (by simp)
    have s2 : bn γ6 (((w9.setCell ⟨b8, 0, none⟩ (.int .i64 x)).setCell ⟨b8, 1, none⟩ (.int .i64 y)).setCell ⟨b8, 2, none⟩ (.int .i64 s)) ⟨b8, 2, none⟩ (.int .i64 s) :=
     ⟨.inr MW, World.cell?_setCell_same _ _ _ (((h52.rely r9).put (by simp)).put (by simp)).2⟩
    generalize ((w9.setCell ⟨b8, 0, none⟩ (.int .i64 x)).setCell ⟨b8, 1, none⟩ (.int .i64 y)).setCell ⟨b8, 2, none⟩ (.int .i64 s) = w10 at *
    have aaA := hS7.kept hk9
    have OX := Cf.kept hk9
    clear hk9 Ji h50 h51 h52 V0 r9 HJ hS7 Cf MW
    refine aM C ?_
    co_then
    refine bP C ?_
    refine aj C ?_
    try walk_nrm
    refine nS C hp (v := ?v6) rfl (by rfl) (fun w₁ h₁ => ⟨run_eq_of fun K hK => ?r6, ?e6⟩) ?h6
    case r6 => have ZO := (bn.rely s0 h₁).2; have EG := (bn.rely s1 h₁).2; have wu := (bn.rely s2 h₁).2; go_simp; exact hK
    case e6 =>
     have ZO := (bn.rely s0 h₁).2
     have EG := (bn.rely s1 h₁).2
     have wu := (bn.rely s2 h₁).2
     intro e he
     simp [go_sem, ZO, EG, wu] at he
     rcases he with rfl | rfl | rfl
     ·exact (bn.rely s0 h₁).EJ
     ·exact (bn.rely s1 h₁).EJ
     ·exact (bn.rely s2 h₁).EJ
    try walk_nrm
    refine OT C hp (ob := ?ob7) (n := 1) rfl (by rfl) (fun w => run_eq_of fun K hK => ?r7) (fun w => ?e7) ?h7
    case r7 => go_simp; exact hK
    case e7 => simp [go_sem]
    intro M4 ack
    try walk_nrm
    have W3 := (Kept.rely ack).trans (Kept.alloc γ6 M4 M4.heap.size (.cells #[.int .i64 x, .int .i64 y, .int .i64 s] 79))
    have acL : ∀ (j : Nat) (u : Value), (oT (x, y, s))[j]? = some u → bn (γ6.more M4.heap.size) (M4.alloc (.cells #[.int .i64 x, .int .i64 y, .int .i64 s] 79)) ((⟨M4.heap.size, 0, none⟩ : Addr).add j) u := by
     intro j u hu
     rw [Addr.add_lit]
     simp only [gQ]
     refine bn.fresh (γ := γ6) (w := M4) rfl ?_
     simpa [oT] using hu
    have aaz := aaA.kept W3
    have OW := OX.kept W3
    have Yr : (γ6.more M4.heap.size).all M4.heap.size := .inr (.inr rfl)
    generalize M4.alloc (.cells #[.int .i64 x, .int .i64 y, .int .i64 s] 79) = w12 at *
    generalize γ6.more M4.heap.size = γ12 at *
    generalize M4.heap.size = b12 at *
    clear aaA OX s0 s1 s2 W3
    have Dg := DY got
    refine CP C hp (B := B0) (news := oT (x, y, s)) (m := 1) (c := 1) (ad := ⟨b12, 0, none⟩) (n := got.length) (xs := got.flatMap oT) (v := out) rfl (by rfl) rfl Tryz.underlying34 zB EO ML YM rfl (by decide) rfl rfl aaz.size OW rfl acL Yr (by simp [oT, Value.oneCell']) (by simp only [maxLen]; omega) (by omega) ?_
    intro v13 w13 γ13 ZH Y0 hg3 hg4 hg5 Ym
    have ac7 := aaz.append ZH Y0 hg3 hg4 hg5 (v := out) (fun b hb => (OW.1.lt b hb).1)
    try walk_nrm
    refine aj C ?_
    try walk_nrm
    refine aM C (EE (dG ?_))
    refine ⟨RN.length, by simp only [List.length_cons] at Oj hn; omega, γ13, RN, got ++ [(x, y, s)], v13, rfl, ac7, ?_, ?_, rfl, nj rfl⟩
    ·rw [cO, List.flatMap_append]
     simpa using Ym
    ·rw [jQ]
     exact (List.Perm.append_left got YV.symm).trans Oh
   ·rw [if_neg hv]
    exact DJ
end Go.Co
end
