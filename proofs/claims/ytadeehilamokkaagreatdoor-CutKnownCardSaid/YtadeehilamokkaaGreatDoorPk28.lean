/- The law CutKnown: part 28: Ks4 Ks5 Kw4 Ch Kw5. By an AI agent. -/
import Derived.Test.YtadeehilamokkaaGreatDoorPk00
import Derived.Test.YtadeehilamokkaaGreatDoorPk27
import Derived.WalkKit
import Derived.LaidEql
import Derived.Stop.Asserts
import Derived.RowKitTokens
import Derived.Test.YtadeehilamokkaaGreatDoorProg
section
namespace Go.Proofs
open Go.RowKit Go.Extern.Stop Go.Stop Go.Extern
abbrev hdlP : Value := .pointer (some ⟨4, 104, none⟩)
abbrev hdlT : Value := .pointer (some ⟨4, 102, none⟩)
abbrev hdlE : Value := .pointer (some ⟨4, 91, none⟩)
theorem as_nil (t : Value) (w : World) :
    Calls Tryz.prog 53 #[.nilIface, t] w fun e w' => e = .returned (.bool false) ∧ w' = w := by
  go_enter Tryz.func53, Tryz.ntmps53
  go_wp2
  go_ret
  exact ⟨rfl, rfl⟩
theorem Tryz.vOfP (t : Addr) (w : World) : (ReflectliteValue.unpack (.iface 104 (.pointer (some t)))).run Tryz.prog w
    = .ok (.agg #[hdlP, .pointer (some ⟨w.heap.size, 0, none⟩), .int .u64 150]) (w.alloc (.cells #[.pointer (some t)] 104)) := by kernel_rfl
theorem Tryz.tyP (a : Addr) (w : World) : (ReflectliteValue.methodAny (ReflectliteValue.valueError "reflectlite.Value.Type" 0) (fun t _ _ _ => ReflectliteType.toType t) #[.agg #[hdlP, .pointer (some a), .int .u64 150]]).run Tryz.prog w
    = .ok (.iface 196 (.agg #[hdlP])) w := by kernel_rfl
theorem Tryz.methodKind (h : Value) (w : World) : (Go.method 380 196 (.agg #[h]) "Kind").run Tryz.prog w = .ok (189, h) w := by kernel_rfl
theorem Tryz.kdP (w : World) : ((ReflectliteType.abiMethod fun t => (fun a : Nat => Value.int IntKind.u8 (a : Int)) <$> Rtype.kind t) #[hdlP]).run Tryz.prog w = .ok (.int .u8 22) w := by kernel_rfl
theorem Tryz.kdT (w : World) : ((ReflectliteType.abiMethod fun t => (fun a : Nat => Value.int IntKind.u8 (a : Int)) <$> Rtype.kind t) #[hdlT]).run Tryz.prog w = .ok (.int .u8 25) w := by kernel_rfl
theorem ksRlm (z : Sem Value) (f : TypeId → Addr → Nat → Nat → Sem Value) (v : Value) :
    ReflectliteValue.method z f #[v] = (do match ← ReflectliteValue.parts v with | none => z | some (t, a, fl) => f t a fl (fl % 32)) := rfl
theorem Tryz.ptP (a : Addr) (w : World) : (ReflectliteValue.parts (.agg #[hdlP, .pointer (some a), .int .u64 150])).run Tryz.prog w = .ok (some (104, a, 150)) w := by kernel_rfl
theorem Tryz.inP (a p : Addr) (W : World) (ha : W.cell? a = some (.pointer (some p))) :
    (ReflectliteValue.method (ReflectliteValue.valueError "reflectlite.Value.IsNil" 0) ReflectliteValue.isNil #[.agg #[hdlP, .pointer (some a), .int .u64 150]]).run Tryz.prog W = .ok (.bool false) W := by
  rw [ksRlm]
  simp only [Sem.run_bind, Tryz.ptP, Result.andThen]
  simp [ReflectliteValue.isNil, loadVar, isAgg, underlying, Tryz.underlying104, ha, Result.andThen]
theorem Tryz.methodElem (h : Value) (w : World) : (Go.method 380 196 (.agg #[h]) "Elem").run Tryz.prog w = .ok (201, .agg #[h]) w := by kernel_rfl
theorem Tryz.methodImplements (h : Value) (w : World) : (Go.method 380 196 (.agg #[h]) "Implements").run Tryz.prog w = .ok (202, .agg #[h]) w := by kernel_rfl
theorem Tryz.methodAssignableTo (h : Value) (w : World) : (Go.method 380 196 (.agg #[h]) "AssignableTo").run Tryz.prog w = .ok (199, .agg #[h]) w := by kernel_rfl
theorem Tryz.elP (w : World) : (ReflectliteType.method ReflectliteType.elem #[.agg #[hdlP]]).run Tryz.prog w = .ok (.iface 196 (.agg #[hdlT])) w := by kernel_rfl
theorem Tryz.imT (w : World) : (ReflectliteType.relation "Implements" ReflectliteType.implements_ #[.agg #[hdlT], .iface 196 (.agg #[hdlE])]).run Tryz.prog w = .ok (.bool true) w := by kernel_rfl
theorem Tryz.toT (v : Value) (w : World) : (ReflectliteType.typeOf #[.iface 102 v]).run Tryz.prog w = .ok (.iface 196 (.agg #[hdlT])) w := by kernel_rfl
theorem Tryz.asT (w : World) : (ReflectliteType.relation "AssignableTo" ReflectliteType.assignableTo #[.agg #[hdlT], .iface 196 (.agg #[hdlT])]).run Tryz.prog w = .ok (.bool true) w := by kernel_rfl
theorem Tryz.vOfT (n : Int) (w : World) : (ReflectliteValue.unpack (.iface 102 (.agg #[.int .i64 n]))).run Tryz.prog w
    = .ok (.agg #[hdlT, .pointer (some ⟨w.heap.size, 0, none⟩), .int .u64 153]) (w.alloc (.cells #[.int .i64 n] 102)) := by kernel_rfl
theorem Tryz.eoP (w : World) : (Rtype.elem? 104).run Tryz.prog w = .ok (some 102) w := by kernel_rfl
theorem Tryz.mkT (p : Addr) (w : World) : (ReflectliteValue.mk 102 p ReflectliteValue.flagAddr).run Tryz.prog w = .ok (.agg #[hdlT, .pointer (some p), .int .u64 409]) w := by kernel_rfl
theorem Tryz.evP (a p : Addr) (W : World) (ha : W.cell? a = some (.pointer (some p))) :
    (ReflectliteValue.method (ReflectliteValue.valueError "reflectlite.Value.Elem" 0) ReflectliteValue.elem #[.agg #[hdlP, .pointer (some a), .int .u64 150]]).run Tryz.prog W
      = .ok (.agg #[hdlT, .pointer (some p), .int .u64 409]) W := by
  rw [ksRlm]
  simp only [Sem.run_bind, Tryz.ptP, Result.andThen]
  simp [ReflectliteValue.elem, loadVar, isAgg, underlying, Tryz.underlying104, ha, Result.andThen, Tryz.eoP, Tryz.mkT]
theorem ksRls (v x : Value) : ReflectliteValue.set #[v, x] = (do
    let (some (dst, a, fl), some (src, b, _)) := (← ReflectliteValue.parts v, ← ReflectliteValue.parts x)
      | unsupported (.noEntry "extern/(internal/reflectlite.Value).Set.zeroValue")
    if fl / ReflectliteValue.flagAddr % 2 == 0 then unsupported (.noEntry "extern/(internal/reflectlite.Value).Set.unaddressable")
    let val ← loadVar src b
    if ← Rtype.directlyAssignable dst src then storeVar dst a val
    else if ← Rtype.implements dst src then
      if (← Rtype.kind src) == 20 then
        match val with
        | .nilIface => unsupported (.noEntry "extern/reflectlite: a nil value of one interface type handed on as a value of another")
        | _ => storeVar dst a val
      else storeVar dst a (.iface src val)
    else panicString ("reflectlite.Set: value of type " ++ (← Rtype.spelt src) ++ " is not assignable to type " ++ (← Rtype.spelt dst))
    pure (.tuple #[])) := rfl
theorem Tryz.ptTa (a : Addr) (w : World) : (ReflectliteValue.parts (.agg #[hdlT, .pointer (some a), .int .u64 409])).run Tryz.prog w = .ok (some (102, a, 409)) w := by kernel_rfl
theorem Tryz.ptT (a : Addr) (w : World) : (ReflectliteValue.parts (.agg #[hdlT, .pointer (some a), .int .u64 153])).run Tryz.prog w = .ok (some (102, a, 153)) w := by kernel_rfl
theorem Tryz.drT (w : World) : (Rtype.directlyAssignable 102 102).run Tryz.prog w = .ok true w := by kernel_rfl
theorem Tryz.ldT (b : Addr) (n : Int) (W : World) (hb : W.cell? b = some (.int .i64 n)) : (loadVar 102 b).run Tryz.prog W = .ok (.agg #[.int .i64 n]) W := by
  simp [loadVar, Tryz.isAgg102, Tryz.sizeOf102, loadCells, loadCellsFrom, Addr.add, hb, Result.andThen]
theorem Tryz.stV (a : Addr) (n : Int) (old : Value) (W : World) (ht : W.cell? a = some old) (hf : W.frozen? a = false) : (storeVar 102 a (.agg #[.int .i64 n])).run Tryz.prog W = .ok () (W.setCell a (.int .i64 n)) := by
  simp [storeVar, Value.cells, Tryz.sizeOf102, storeCells, Addr.add, Result.andThen]
  rw [run_store Tryz.prog W a _ _ (by rfl)]
  simp [ht, hf]
theorem Tryz.stT (ta b : Addr) (n : Int) (old : Value) (W : World) (hb : W.cell? b = some (.int .i64 n)) (ht : W.cell? ta = some old) (hf : W.frozen? ta = false) :
    (ReflectliteValue.set #[.agg #[hdlT, .pointer (some ta), .int .u64 409], .agg #[hdlT, .pointer (some b), .int .u64 153]]).run Tryz.prog W
      = .ok (.tuple #[]) (W.setCell ta (.int .i64 n)) := by
  rw [ksRls]
  simp only [Sem.run_bind, Tryz.ptTa, Tryz.ptT, Result.andThen]
  simp [ReflectliteValue.flagAddr, Tryz.ldT b n W hb, Result.andThen, Tryz.drT, Tryz.stV ta n old W ht hf]
abbrev ob1 (t : Addr) : Obj := .cells #[.pointer (some t)] 104
abbrev ob2 (w : World) : Obj := .cells #[hdlP, .pointer (some ⟨w.heap.size, 0, none⟩), .int .u64 150] 155
set_option maxHeartbeats 4000000 in
theorem as_hit (n : Int) (t : Addr) (old : Value) (w : World) (hg : w.cell? ⟨0, 0, none⟩ = some (.iface 196 (.agg #[hdlE]))) (ht0 : w.cell? t = some old) (hf0 : w.frozen? t = false) :
    Calls Tryz.prog 53 #[.iface 102 (.agg #[.int .i64 n]), .iface 104 (.pointer (some t))] w fun ev w' => ev = .returned (.bool true) ∧ w' = ((((w.alloc (ob1 t)).alloc (ob2 w)).alloc (ob2 w)).alloc (.cells #[.int .i64 n] 102)).setCell t (.int .i64 n) := by
  have h6 := @run_callFunc_extern Tryz.prog 89 _ (fun args => ReflectliteValue.unpack (args.getD 0 (.tuple #[]))) Tryz.func89 (by kernel_rfl) (by kernel_rfl) (by kernel_rfl) (by kernel_rfl)
  have h7 := @run_callFunc_extern Tryz.prog 90 _ (ReflectliteValue.methodAny (ReflectliteValue.valueError "reflectlite.Value.Type" 0) (fun t _ _ _ => ReflectliteType.toType t)) Tryz.func90 (by kernel_rfl) (by kernel_rfl) (by kernel_rfl) (by kernel_rfl)
  have h8 := @run_callFunc_extern Tryz.prog 91 _ (ReflectliteValue.method (ReflectliteValue.valueError "reflectlite.Value.IsNil" 0) ReflectliteValue.isNil) Tryz.func91 (by kernel_rfl) (by kernel_rfl) (by kernel_rfl) (by kernel_rfl)
  have h27 := @run_callFunc_extern Tryz.prog 189 _ (ReflectliteType.abiMethod fun t => do pure (.int .u8 (← Rtype.kind t))) Tryz.func189 (by kernel_rfl) (by kernel_rfl) (by kernel_rfl) (by kernel_rfl)
  have h37 := @run_callFunc_extern Tryz.prog 201 _ (ReflectliteType.method ReflectliteType.elem) Tryz.func201 (by kernel_rfl) (by kernel_rfl) (by kernel_rfl) (by kernel_rfl)
  have h38 := @run_callFunc_extern Tryz.prog 202 _ (ReflectliteType.relation "Implements" ReflectliteType.implements_) Tryz.func202 (by kernel_rfl) (by kernel_rfl) (by kernel_rfl) (by kernel_rfl)
  have h10 := @run_callFunc_extern Tryz.prog 121 _ ReflectliteType.typeOf Tryz.func121 (by kernel_rfl) (by kernel_rfl) (by kernel_rfl) (by kernel_rfl)
  have h35 := @run_callFunc_extern Tryz.prog 199 _ (ReflectliteType.relation "AssignableTo" ReflectliteType.assignableTo) Tryz.func199 (by kernel_rfl) (by kernel_rfl) (by kernel_rfl) (by kernel_rfl)
  have h11 := @run_callFunc_extern Tryz.prog 122 _ (ReflectliteValue.method (ReflectliteValue.valueError "reflectlite.Value.Elem" 0) ReflectliteValue.elem) Tryz.func122 (by kernel_rfl) (by kernel_rfl) (by kernel_rfl) (by kernel_rfl)
  have h12 := @run_callFunc_extern Tryz.prog 123 _ ReflectliteValue.set Tryz.func123 (by kernel_rfl) (by kernel_rfl) (by kernel_rfl) (by kernel_rfl)
  have tO := Tryz.toT
  have mA := Tryz.methodAssignableTo
  have a25 := Tryz.asT
  have v25 := Tryz.vOfT
  have f6 := Tryz.vOfP
  have f7 := Tryz.tyP
  have mK := Tryz.methodKind
  have mE := Tryz.methodElem
  have mI := Tryz.methodImplements
  have k27 := Tryz.kdP
  have k25 := Tryz.kdT
  have e27 := Tryz.elP
  have i25 := Tryz.imT
  have n8 := Tryz.inP ⟨w.heap.size, 0, none⟩ t ((w.alloc (ob1 t)).alloc (ob2 w)) (by simp)
  have hlt : 0 < w.heap.size := by
    rcases Nat.eq_zero_or_pos w.heap.size with h0 | h
    · simp [World.cell?, h0] at hg
    · exact h
  have hg2 : ((w.alloc (ob1 t)).alloc (ob2 w)).cell? ⟨0, 0, none⟩ = some (.iface 196 (.agg #[hdlE])) := by
    rw [World.cell?_alloc_lt _ _ ⟨0, 0, none⟩ (by simp), World.cell?_alloc_lt _ _ ⟨0, 0, none⟩ hlt]; exact hg
  have htl : t.block < w.heap.size := by
    rcases Nat.lt_or_ge t.block w.heap.size with h | h
    · exact h
    · simp [World.cell?, Array.getElem?_eq_none h] at ht0
  have el := Tryz.evP ⟨w.heap.size, 0, none⟩ t (((w.alloc (ob1 t)).alloc (ob2 w)).alloc (ob2 w)) (by rw [World.cell?_alloc_lt _ _ ⟨w.heap.size, 0, none⟩ (by simp; omega)]; simp)
  have st := Tryz.stT t ⟨w.heap.size + 1 + 1 + 1, 0, none⟩ n old ((((w.alloc (ob1 t)).alloc (ob2 w)).alloc (ob2 w)).alloc (.cells #[.int .i64 n] 102))
    (by rw [World.cell?_alloc_at _ _ _ _ (by simp)]; rfl)
    (by rw [World.cell?_alloc_lt _ _ t (by simp; omega), World.cell?_alloc_lt _ _ t (by simp; omega), World.cell?_alloc_lt _ _ t (by simp; omega), World.cell?_alloc_lt _ _ t htl]; exact ht0)
    (by rw [World.frozen?_alloc_old _ _ t (by simp; omega), World.frozen?_alloc_old _ _ t (by simp; omega), World.frozen?_alloc_old _ _ t (by simp; omega), World.frozen?_alloc_old _ _ t (Nat.ne_of_lt htl)]; exact hf0)
  go_enter Tryz.func53, Tryz.ntmps53
  go_wp2
  refine wp_loop_rounds 1 ?_
  rw [rounds_succ]
  go_wp2
  go_ret
  exact ⟨rfl, rfl⟩
end Go.Proofs
end
section
namespace Go.Proofs
open Go.RowKit
noncomputable def rR5 : Code := match Tryz.f14.body with
  | some (.seq _ (.seq _ (.seq _ (.seq (.seq _ (.seq r _)) _)))) => r
  | _ => .skip
set_option maxRecDepth 100000 in
set_option maxHeartbeats 1000000 in
theorem r5_nil (a : Value) (w : World) (t0 t1 t2 t3 t4 t7 t8 t9 t10 t11 t12 t13 t14 t15 t16 t17 t18 t19 t20 t21 t22 t23 t24 t25 t26 t27 : Value) :
    Code.wp Tryz.prog rR5 (fun e a' w' => e = .normal ∧ a' = ⟨#[t0, t1, t2, t3, t4, .nilIface, a, t7, t8, t9, t10, t11, t12, t13, t14, t15, t16, .nilIface, .iface 104 a, .bool false, t20, t21, t22, t23, t24, t25, t26, t27], []⟩ ∧ w' = w) ⟨#[t0, t1, t2, t3, t4, .nilIface, a, t7, t8, t9, t10, t11, t12, t13, t14, t15, t16, t17, t18, t19, t20, t21, t22, t23, t24, t25, t26, t27], []⟩ w := by
  simp only [rR5, Tryz.f14]
  go_wp2_with (go_at_call 53; refine (as_nil _ _).mono ?_; rintro e w' ⟨rfl, rfl⟩)
set_option maxRecDepth 100000 in
set_option maxHeartbeats 1000000 in
theorem r5_hit (n : Int) (t : Addr) (old : Value) (w : World) (hg : w.cell? ⟨0, 0, none⟩ = some (.iface 196 (.agg #[hdlE]))) (ht0 : w.cell? t = some old) (hf0 : w.frozen? t = false) (t0 t1 t2 t3 t4 t7 t8 t9 t10 t11 t12 t13 t14 t15 t16 t17 t18 t19 t20 t21 t22 t23 t24 t25 t26 t27 : Value) :
    Code.wp Tryz.prog rR5 (fun e a' w' => e = .normal ∧ a' = ⟨#[t0, t1, t2, t3, t4, .iface 102 (.agg #[.int .i64 n]), .pointer (some t), t7, t8, t9, t10, t11, t12, t13, t14, t15, t16, .iface 102 (.agg #[.int .i64 n]), .iface 104 (.pointer (some t)), .bool true, t20, t21, t22, t23, t24, t25, t26, t27], []⟩ ∧ w' = ((((w.alloc (ob1 t)).alloc (ob2 w)).alloc (ob2 w)).alloc (.cells #[.int .i64 n] 102)).setCell t (.int .i64 n)) ⟨#[t0, t1, t2, t3, t4, .iface 102 (.agg #[.int .i64 n]), .pointer (some t), t7, t8, t9, t10, t11, t12, t13, t14, t15, t16, t17, t18, t19, t20, t21, t22, t23, t24, t25, t26, t27], []⟩ w := by
  simp only [rR5, Tryz.f14]
  go_wp2_with (go_at_call 53; refine (as_hit n t old w hg ht0 hf0).mono ?_; rintro e w' ⟨rfl, rfl⟩)
end Go.Proofs
end
section
namespace Go.Di
open Go Go.Conc Go.Co Go.Proofs Go.RowKit
variable {Final : Machine → Trace → Prop} {ty : Tys} {iso : IsoF} {call : CallF} {yf : YldF} {x : Cx}
theorem list28 {tm : List Value} (h : tm.length = 28) : ∃ t0 t1 t2 t3 t4 t5 t6 t7 t8 t9 t10 t11 t12 t13 t14 t15 t16 t17 t18 t19 t20 t21 t22 t23 t24 t25 t26 t27, tm = t0 :: t1 :: t2 :: t3 :: t4 :: t5 :: t6 :: t7 :: t8 :: t9 :: t10 :: t11 :: t12 :: t13 :: t14 :: t15 :: t16 :: t17 :: t18 :: t19 :: t20 :: t21 :: t22 :: t23 :: t24 :: t25 :: t26 :: t27 :: [] := by
  match tm, h with
  | t0 :: t1 :: t2 :: t3 :: t4 :: t5 :: t6 :: t7 :: t8 :: t9 :: t10 :: t11 :: t12 :: t13 :: t14 :: t15 :: t16 :: t17 :: t18 :: t19 :: t20 :: t21 :: t22 :: t23 :: t24 :: t25 :: t26 :: t27 :: [], _ => exact ⟨t0, t1, t2, t3, t4, t5, t6, t7, t8, t9, t10, t11, t12, t13, t14, t15, t16, t17, t18, t19, t20, t21, t22, t23, t24, t25, t26, t27, rfl⟩
noncomputable def y14 : Code := match Tryz.f14.body with
  | some c => c
  | none => .skip
theorem body14 : Tryz.f14.body = some y14 := rfl
noncomputable def x14 : Code := lft (rgt (rgt (rgt y14)))
noncomputable def z14 : Code := rgt (rgt (rgt (rgt y14)))
noncomputable def c14 : Code := rgt (rgt x14)
theorem y14_eq : y14 = seqs [lft y14, lft (rgt y14), lft (rgt (rgt y14))] (.seq x14 z14) := by kernel_rfl
theorem x14_eq : x14 = seqs [lft x14] (.seq rR5 c14) := by kernel_rfl
theorem res14 : Tryz.f14.results.toList = [.tmp 2, .tmp 3, .tmp 4] := by kernel_rfl
theorem rvs_at {env : List DV} {arr arr' : Array Value} (h : RVs x env arr) {j : Nat} {d : DV} {v : Value} (hd : RV x d v) (he : arr' = arr.setIfInBounds j v) : RVs x (env.set j d) arr' := by
  subst he
  exact rvs_set h hd
theorem hit_state (hty : TyOk Tryz.prog ty) {id : Nat} {n : Int} {d0 : DV} {td : TyD} (h102 : ty 102 = some td) (hsz : td.size = 1) (hR : Rel x) (hS : x.S[id]? = some (.cells [d0])) {w4 : World} (h1 : x.w.heap.size ≤ w4.heap.size) (h2 : w4.os = x.w.os ∧ w4.output = x.w.output) (h3 : ∀ b, b < x.w.heap.size → w4.heap[b]? = x.w.heap[b]?) :
    ∃ y, y.w = w4.setCell ⟨x.μ id, 0, none⟩ (.int .i64 n) ∧ y.S = x.S.set id (.cells [.val (.int .i64 n)]) ∧ Rel y ∧ Mono x y := by
  have hR1 := rel_grow hR h1 h2 h3
  have hS1 : (x.grow w4).S[id]? = some (.cells [d0]) := hS
  obtain ⟨arr, e, g1, g2, g3⟩ := hR1.cells id _ hS1
  obtain ⟨y, y1, y2, y3, y4⟩ := storeD_ok (ty := ty) (t := 102) (a := .ptr id 0) (d := .agg [.val (.int .i64 n)]) (vd := .agg #[.int .i64 n]) (S' := x.S.set id (.cells [.val (.int .i64 n)])) hty hR1 (.ptr hS1) (.agg rfl fun j c hc => by
    match j, hc with
    | 0, hc => cases hc; exact .val rfl) (by
    unfold storeD
    rw [h102]
    simp only [hS1, DV.cells, List.length_cons, List.length_nil, hsz, Nat.zero_add, decide_true, List.all_cons, List.all_nil, DV.one, Bool.and_true, putR, Bool.true_and]
    rfl)
  refine ⟨y, ?_, y2, y3, (mono_grow hR h1 h2 h3).trans y4⟩
  have hc : (x.grow w4).w.cell? ⟨(x.grow w4).μ id, 0, none⟩ = some (arr.getD 0 undef) := by
    have : 0 < arr.size := by rw [g2]; simp
    rw [Lib.cell_of_heap g1]
    simp [Array.getD_eq_getD_getElem?, this]
  have hf : (x.grow w4).w.frozen? ⟨(x.grow w4).μ id, 0, none⟩ = false := Lib.frozen_of_heap g1 0
  have := Tryz.stV ⟨(x.grow w4).μ id, 0, none⟩ n _ _ hc hf
  rw [show (Instr.storeAt 102 (.pointer (some ⟨(x.grow w4).μ id, 0, none⟩)) (.agg #[.int .i64 n])).run Tryz.prog (x.grow w4).w = (storeVar 102 ⟨(x.grow w4).μ id, 0, none⟩ (.agg #[.int .i64 n])).run Tryz.prog (x.grow w4).w from by simp [Instr.storeAt, Instr.sureAddr], this] at y1
  exact (Result.ok.inj y1).2.symm
structure Post14 (ty : Tys) (iso : IsoF) (call : CallF) (yf : YldF) (L : Nat) (e2 : List DV) (S3 : Store) (d5 : DV) (hit : Bool) (l : List DV) : Prop where
  run : ∀ v : Value, ∃ e4 S4, (codeD Tryz.prog ty iso call yf L 14 false c14 (((e2.set 17 d5).set 18 (.val (.iface 104 v))).set 19 (.val (.bool hit))) S3 = some (.ret, e4, S4) ∨
    ∃ e5 S5, codeD Tryz.prog ty iso call yf L 14 false c14 (((e2.set 17 d5).set 18 (.val (.iface 104 v))).set 19 (.val (.bool hit))) S3 = some (.normal, e5, S5) ∧ codeD Tryz.prog ty iso call yf L 14 false z14 e5 S5 = some (.ret, e4, S4)) ∧
    resD ty e4 S4 Tryz.f14.results.toList = some l
variable {L : Nat}
theorem read_end (hty : TyOk Tryz.prog ty) (hc : CallOK Tryz.prog Final call) (hreg : ∀ id ops draw, RegOK Tryz.prog Final ty iso call yf id ops draw) {x0 y : Cx} {e2 : List DV} {S3 : Store} {d5 : DV} {hit : Bool} {l : List DV} (h : Post14 ty iso call yf L e2 S3 d5 hit l) {v : Value} {a : Act} {ds : List Nat} (h0 : x0.S = []) (hS : y.S = S3) (hR : Rel y) (hM : Mono x0 y)
    (he : RVs y (((e2.set 17 d5).set 18 (.val (.iface 104 v))).set 19 (.val (.bool hit))) a.tmps) (hd : DefOK 0 y ds a.defers) {fr : Frame} {cs : List Frame} (hn : ∀ z u, Rel z → Mono x0 z → RV z (oneOf l) u → KMu Tryz.prog Final () (G (fr.finish u) cs) z.w) :
    KMu Tryz.prog Final () (G ((base 14).atR a (.code c14 :: .code z14 :: [])) (fr :: cs)) y.w := by
  obtain ⟨e4, S4, hrun, hres⟩ := h.run v
  have key : ∀ z a' ds' todo, z.S = S4 → Rel z → Mono y z → RVs z e4 a'.tmps → DefOK 0 z ds' a'.defers → KMu Tryz.prog Final () (G { (base 14).at a' todo with mode := .returning } (fr :: cs)) z.w := fun z a' ds' todo q1 q2 q3 q4 q5 =>
    mu_leave plain_try hty (x0 := x0) (b := base 14) (env := e4) (l := l) (Sr := S4) rfl Tryz.func14 ds' q1 q2 (hM.trans q3) q4 (by rw [h0]; exact q5) hres fun u w r1 r2 r3 r4 => hn u w r2 r3 r4
  rcases hrun with hrun | ⟨e5, S5, hr1, hr2⟩
  · refine codeD_ok (n0 := 0) (ds := ds) (b := base 14) (cs := fr :: cs) (rnd := false) plain_try hc (by simp [base]) rfl (fun _ => rfl) c14 (regs_all hreg _) (by rw [hS]; exact hrun) hR he hd (Nat.zero_le _) fun z a' ds' q1 q2 q3 q4 q5 => ?_
    intro k'
    rw [Frame.atR_of_none (b := base 14) rfl]
    exact mu_ctl plain_try (fun w => ⟨_, stepG_ret'⟩) (key z a' ds' _ q1 q2 q3 q4 q5)
  · refine codeD_ok (n0 := 0) (ds := ds) (b := base 14) (cs := fr :: cs) (rnd := false) plain_try hc (by simp [base]) rfl (fun _ => rfl) c14 (regs_all hreg _) (by rw [hS]; exact hr1) hR he hd (Nat.zero_le _) fun z a' ds' q1 q2 q3 q4 q5 => ?_
    refine codeD_ok (n0 := 0) (ds := ds') (b := base 14) (cs := fr :: cs) (rnd := false) plain_try hc (by simp [base]) rfl (fun _ => rfl) z14 (regs_all hreg _) (by rw [q1]; exact hr2) q2 q4 q5 (Nat.zero_le _) fun z2 a2 ds2 p1 p2 p3 p4 p5 => ?_
    intro k'
    rw [Frame.atR_of_none (b := base 14) rfl]
    exact mu_ctl plain_try (fun w => ⟨_, stepG_ret'⟩) (key z2 a2 ds2 _ p1 p2 (q3.trans p3) p4 p5)
theorem defs_nil1 {ds : List Nat} {l : List Deferred} {n0 : Nat} {d : List DV} (h : DefOK n0 x ds l) (hS : x.S = [.cells d]) : l = [] := by
  obtain ⟨rfl, -, h3⟩ := h
  cases ds with
  | nil => rfl
  | cons i ds =>
    obtain ⟨-, h4, -⟩ := h3 i (by simp)
    rw [hS] at h4
    match i, h4 with
    | 0, h4 => cases h4
    | i + 1, h4 => simp at h4
theorem read_upto (hc : CallOK Tryz.prog Final call) (hreg : ∀ id ops draw, RegOK Tryz.prog Final ty iso call yf id ops draw) {d : DV} {e1 e2 : List DV} {S1 : Store} {d0 : DV}
    (h1 : codeD Tryz.prog ty iso call yf L 14 false (seqs [lft y14, lft (rgt y14), lft (rgt (rgt y14))] .skip) ([d] ++ List.replicate 27 dundef) [] = some (.normal, e1, S1)) (h2 : codeD Tryz.prog ty iso call yf L 14 false (seqs [lft x14] .skip) e1 S1 = some (.normal, e2, [.cells [d0]]))
    (hR : Rel x) (hS : x.S = []) {vals : Array Value} (ha : RVs x [d] vals) {Post : Cx → Value → Prop}
    (hq : ∀ (fr : Frame) (cs : List Frame), (∀ y v, Post y v → KMu Tryz.prog Final () (G (fr.finish v) cs) y.w) → ∀ y2 a, y2.S = [.cells [d0]] → Rel y2 → Mono x y2 → RVs y2 e2 a.tmps → a.defers = [] → KMu Tryz.prog Final () (G ((base 14).at a (.code rR5 :: .code c14 :: .code z14 :: [])) (fr :: cs)) y2.w) : EnterOK Tryz.prog Final x 14 vals Post := by
  refine ⟨⟨Tryz.f14, y14, Tryz.func14, body14⟩, fun fr cs hn => ?_⟩
  rw [enter_at vals Tryz.func14 body14, ← Frame.atR_of_none (b := base 14) rfl]
  have he := rvs_enter ha Tryz.f14.ntmps
  generalize hA0 : ({ tmps := vals ++ Array.replicate (Tryz.f14.ntmps - vals.size) undef, defers := [] } : Act) = a0
  have he' : RVs x ([d] ++ List.replicate 27 dundef) a0.tmps := by rw [← hA0]; exact he
  have hd0 : a0.defers = [] := by rw [← hA0]
  rw [y14_eq]
  refine chain_ok (n0 := 0) (ds := []) (b := base 14) (cs := fr :: cs) plain_try hc hreg (by simp [base]) rfl rfl _ _ (by rw [hS]; exact h1) hR he' (by rw [hd0]; exact defOK_nil _ _) (Nat.zero_le _) fun y1 a1 ds1 q1 q2 q3 q4 q5 => ?_
  refine mu_ctl plain_try (fun w => ⟨_, rG_seq⟩) ?_
  rw [x14_eq]
  refine chain_ok (n0 := 0) (ds := ds1) (b := base 14) (cs := fr :: cs) plain_try hc hreg (by simp [base]) rfl rfl _ _ (by rw [q1]; exact h2) q2 q4 q5 (Nat.zero_le _) fun y2 a2 ds2 p1 p2 p3 p4 p5 => ?_
  refine mu_ctl plain_try (fun w => ⟨_, rG_seq⟩) ?_
  rw [Frame.atR_of_none (b := base 14) rfl]
  exact hq fr cs hn y2 a2 p1 p2 (q3.trans p3) p4 (defs_nil1 p5 p1)
theorem read_hit (hty : TyOk Tryz.prog ty) (hc : CallOK Tryz.prog Final call) (hreg : ∀ id ops draw, RegOK Tryz.prog Final ty iso call yf id ops draw) {td : TyD} (h102 : ty 102 = some td) (hsz : td.size = 1) {d : DV} {e1 e2 : List DV} {S1 : Store} {d0 : DV} {n : Int} {l : List DV}
    (h1 : codeD Tryz.prog ty iso call yf L 14 false (seqs [lft y14, lft (rgt y14), lft (rgt (rgt y14))] .skip) ([d] ++ List.replicate 27 dundef) [] = some (.normal, e1, S1)) (h2 : codeD Tryz.prog ty iso call yf L 14 false (seqs [lft x14] .skip) e1 S1 = some (.normal, e2, [.cells [d0]]))
    (hl : e2.length = 28) (h5 : e2[5]? = some (.val (.iface 102 (.agg #[.int .i64 n])))) (h6 : e2[6]? = some (.ptr 0 0)) (hp : Post14 ty iso call yf L e2 [.cells [.val (.int .i64 n)]] (.val (.iface 102 (.agg #[.int .i64 n]))) true l)
    (hR : Rel x) (hS : x.S = []) {vals : Array Value} (ha : RVs x [d] vals) : EnterOK Tryz.prog Final x 14 vals fun y v => Rel y ∧ Mono x y ∧ RV y (oneOf l) v := by
  refine read_upto hc hreg h1 h2 hR hS ha fun fr cs hn y2 a q1 q2 q3 q4 q5 => ?_
  have v5 := rv_val (q4.2 5 _ h5)
  have v6 := q4.2 6 _ h6
  have hs0 : y2.S[0]? = some (.cells [d0]) := by rw [q1]; rfl
  have e6 : a.tmps.getD 6 undef = .pointer (some ⟨y2.μ 0, 0, none⟩) := by
    generalize a.tmps.getD 6 undef = u at v6
    cases v6 with
    | ptr _ => rfl
  have hszt : a.tmps.size = 28 := q4.1.trans hl
  obtain ⟨⟨tm⟩, df⟩ := a
  simp only at q5 hszt v5 e6 q4
  subst q5
  obtain ⟨t0, t1, t2, t3, t4, t5, t6, t7, t8, t9, t10, t11, t12, t13, t14, t15, t16, t17, t18, t19, t20, t21, t22, t23, t24, t25, t26, t27, rfl⟩ := list28 hszt
  have v5 : t5 = .iface 102 (.agg #[.int .i64 n]) := v5
  have e6 : t6 = .pointer (some ⟨y2.μ 0, 0, none⟩) := e6
  subst v5
  subst e6
  obtain ⟨arr, e, g1, g2, g3⟩ := q2.cells 0 _ hs0
  have hc0 : y2.w.cell? ⟨y2.μ 0, 0, none⟩ = some (arr.getD 0 undef) := by
    have : 0 < arr.size := by rw [g2]; simp
    rw [Lib.cell_of_heap g1]
    simp [Array.getD_eq_getD_getElem?, this]
  have hf0 : y2.w.frozen? ⟨y2.μ 0, 0, none⟩ = false := Lib.frozen_of_heap g1 0
  have hw := kj_of_wp (Final := Final) (fn := 14) (c := rR5) (w := y2.w) (Q0 := fun e a' w' => e = .normal ∧ a' = ⟨⟨t0 :: t1 :: t2 :: t3 :: t4 :: .iface 102 (.agg #[.int .i64 n]) :: .pointer (some ⟨y2.μ 0, 0, none⟩) :: t7 :: t8 :: t9 :: t10 :: t11 :: t12 :: t13 :: t14 :: t15 :: t16 :: .iface 102 (.agg #[.int .i64 n]) :: .iface 104 (.pointer (some ⟨y2.μ 0, 0, none⟩)) :: .bool true :: t20 :: t21 :: t22 :: t23 :: t24 :: t25 :: t26 :: t27 :: []⟩, []⟩ ∧ ∃ w4, Behind y2 w4 ∧ w' = w4.setCell ⟨y2.μ 0, 0, none⟩ (.int .i64 n)) plain_try (Q := fun _ e a' w' => e = .normal ∧ a' = ⟨⟨t0 :: t1 :: t2 :: t3 :: t4 :: .iface 102 (.agg #[.int .i64 n]) :: .pointer (some ⟨y2.μ 0, 0, none⟩) :: t7 :: t8 :: t9 :: t10 :: t11 :: t12 :: t13 :: t14 :: t15 :: t16 :: .iface 102 (.agg #[.int .i64 n]) :: .iface 104 (.pointer (some ⟨y2.μ 0, 0, none⟩)) :: .bool true :: t20 :: t21 :: t22 :: t23 :: t24 :: t25 :: t26 :: t27 :: []⟩, []⟩ ∧ ∃ w4, Behind y2 w4 ∧ w' = w4.setCell ⟨y2.μ 0, 0, none⟩ (.int .i64 n))
    (fun τ => Code.wp_mono (fun e a w' ⟨h1, h2, h3⟩ => ⟨h1, h2, _, (by
      have b1 := ((((Below.refl (y2.w.re τ 0).heap.size (y2.w.re τ 0)).alloc (Nat.le_refl _) (ob1 ⟨y2.μ 0, 0, none⟩)).alloc (by simp) (ob2 (y2.w.re τ 0))).alloc (by simp; omega) (ob2 (y2.w.re τ 0))).alloc (by simp; omega) (.cells #[.int .i64 n] 102)
      exact ⟨b1.size, ⟨b1.os, b1.output⟩, b1.block⟩), h3⟩) (r5_hit n ⟨y2.μ 0, 0, none⟩ (arr.getD 0 undef) (y2.w.re τ 0) q2.glob.1.2 hc0 hf0 t0 t1 t2 t3 t4 t7 t8 t9 t10 t11 t12 t13 t14 t15 t16 t17 t18 t19 t20 t21 t22 t23 t24 t25 t26 t27)) (fun e a w' ⟨h1, h2, w4, h3, h4⟩ τ d => ⟨h1, h2, w4.re τ d, h3, by rw [h4]; rfl⟩)
  refine hw (base 14) [.code c14, .code z14] (fr :: cs) rfl (by simp [base]) fun γ' e a' w' ⟨h1, h2, w4, h3, h4⟩ => ?_
  subst h1
  subst h2
  subst h4
  obtain ⟨y3, z1, z2, z3, z4⟩ := hit_state (n := n) hty h102 hsz q2 hs0 h3.1 h3.2.1 h3.2.2
  show KMu Tryz.prog Final () (G ((base 14).at _ _) (fr :: cs)) _
  rw [← z1, ← Frame.atR_of_none (b := base 14) rfl]
  have he2 := RVs.mono z4 q4
  refine read_end (x0 := x) (ds := []) hty hc hreg (v := .pointer (some ⟨y2.μ 0, 0, none⟩)) hp hS (by rw [z2, q1]; rfl) z3 (q3.trans z4) ?_ (defOK_nil _ _) fun z u r1 r2 r3 => hn z u ⟨r1, r2, r3⟩
  exact rvs_at (rvs_at (rvs_at he2 (.val rfl) rfl) (.val rfl) rfl) (.val rfl) rfl
end Go.Di
end
section
namespace Go.Di
open Go Go.Proofs
def hintD (d : Tmp) (t : TypeId) : Nat := if t == 23 then (if d == 53 then 1 else if d == 2 then 1 else 0) else if t == 42 then (if d == 39 then 1 else if d == 53 then 2 else 0) else 0
noncomputable abbrev TyH : Tys := ⟨tyOf Tryz.prog, hintD⟩
end Go.Di
end
section
namespace Go.Di
open Go Go.Conc Go.Co Go.Proofs
variable {Final : Machine → Trace → Prop} {x : Cx}
def tab1 : IsoF := fun f args => match f, args with
  | 64, [a, b] => seamsD a b
  | 124, [a] => revD a
  | 87, [a, b] => cutSD a b
  | 119, [a, b] => splitSD a b
  | _, _ => none
theorem tab1_ok : TabOK Tryz.prog Final tab1 := by
  intro f args v h _ _ x vals hR ha
  unfold tab1 at h
  split at h
  · exact seams_known h hR ha
  · exact rev_known h hR ha
  · exact cut_known h hR ha
  · exact split_known h hR ha
  · cases h
theorem ty_any (P : Program) (g : Tmp → TypeId → Nat) : TyOk P ⟨tyOf P, g⟩ := fun _ _ h => h
theorem ty_ok : TyOk Tryz.prog TyH := ty_any _ _
theorem mixed_try : Tryz.prog.follows .mixedOrders = true := by kernel_rfl
mutual
def DV.eqb : DV → DV → Bool
  | .val (.int k n), .val (.int k' n') => decide (k = k') && decide (n = n')
  | .val (.bool b), .val (.bool b') => b == b'
  | .val (.string b), .val (.string b') => decide (b.data.toList = b'.data.toList)
  | .val .nilIface, .val .nilIface => true
  | .agg l, .agg l' => DV.eqbs l l'
  | .tup l, .tup l' => DV.eqbs l l'
  | .sl l none ⟨f, i⟩, .sl l' none ⟨f', i'⟩ => f == f' && decide (i = i') && DV.eqbs l l'
  | _, _ => false
def DV.eqbs : List DV → List DV → Bool
  | [], [] => true
  | d :: l, d' :: l' => DV.eqb d d' && DV.eqbs l l'
  | _, _ => false
end
mutual
theorem eqb_eq : ∀ d d' : DV, DV.eqb d d' = true → d = d' := by
  intro d d' h
  unfold DV.eqb at h
  split at h
  · simp at h; obtain ⟨rfl, rfl⟩ := h; rfl
  · simp at h; subst h; rfl
  · rename_i b b'
    obtain ⟨⟨l⟩⟩ := b
    obtain ⟨⟨l'⟩⟩ := b'
    simp only [decide_eq_true_eq] at h
    rw [h]
  · rfl
  · rw [eqbs_eq _ _ h]
  · rw [eqbs_eq _ _ h]
  · simp at h; obtain ⟨⟨rfl, rfl⟩, h⟩ := h; rw [eqbs_eq _ _ h]
  · cases h
theorem eqbs_eq : ∀ l l' : List DV, DV.eqbs l l' = true → l = l' := by
  intro l l' h
  unfold DV.eqbs at h
  split at h
  · rfl
  · simp at h; rw [eqb_eq _ _ h.1, eqbs_eq _ _ h.2]
  · cases h
end
abbrev Row := FuncId × List DV × DV
def more (tab : IsoF) (rows : List Row) : IsoF := fun f args => match rows.find? (fun r => decide (r.1 = f) && DV.eqbs r.2.1 args) with
  | some r => some r.2.2
  | none => tab f args
def GoodRow (P : Program) (Final : Machine → Trace → Prop) (r : Row) : Prop :=
  ∀ x vals, Rel x → RVs x r.2.1 vals → EnterOK P Final x r.1 vals fun y u => y.S = x.S ∧ Rel y ∧ Mono x y ∧ RV y r.2.2 u
theorem more_ok {P : Program} {tab : IsoF} {rows : List Row} (ht : TabOK P Final tab) (h : ∀ r ∈ rows, GoodRow P Final r) : TabOK P Final (more tab rows) := by
  intro f args v h1 hp hv x vals hR ha
  unfold more at h1
  split at h1
  · rename_i r hr
    cases h1
    have h2 := List.find?_some hr
    simp only [Bool.and_eq_true, decide_eq_true_eq] at h2
    obtain ⟨rfl, h3⟩ := h2
    cases eqbs_eq _ _ h3
    exact h r (List.mem_of_find?_eq_some hr) x vals hR ha
  · exact ht f args v h1 hp hv x vals hR ha
noncomputable def ran (tab : IsoF) (L n : Nat) (r : Row) : Bool := r.2.1.all DV.pure && match isoOf tab (deepP Tryz.prog TyH tab L n).1 r.1 r.2.1 with
  | some v => DV.eqb r.2.2 v
  | none => false
theorem good_of_ran {tab : IsoF} {L n : Nat} {r : Row} (ht : TabOK Tryz.prog Final tab) (h : ran tab L n r = true) : GoodRow Tryz.prog Final r := by
  unfold ran at h
  simp only [Bool.and_eq_true] at h
  obtain ⟨hp, h⟩ := h
  split at h
  · rename_i v hv
    cases eqb_eq _ _ h
    exact (iso_ok ht (deepP_ok plain_try mixed_try ty_ok ht n).1 r.1 r.2.1 _ hv hp).2
  · cases h
abbrev ss (l : List UInt8) : DV := .val (.string ⟨l.toArray⟩)
abbrev ii (n : Int) : DV := .val (.int .i64 n)
abbrev bb (b : Bool) : DV := .val (.bool b)
abbrev sn : SF := ⟨false, some false⟩
abbrev su : SF := ⟨false, none⟩
abbrev va : DV := (.agg [(.sl [(ii (0)), (ii (0)), (ii (0)), (ii (0))] none sn), (.sl [(ii (1)), (ii (2)), (ii (1)), (ii (3))] none sn), (ii (0)), (.sl [(ii (0))] none sn)])
abbrev vb : DV := (.agg [(.sl [(ii (4)), (ii (3)), (ii (4)), (ii (2))] none sn), (.sl [(ii (0)), (ii (1)), (ii (0)), (ii (0))] none sn), (ii (0)), (.sl [(ii (0)), (ii (1)), (ii (2)), (ii (3))] none sn)])
abbrev row54 : Row := (17, [], va)
abbrev row55 : Row := (18, [], vb)
abbrev row21 : Row := (24, [va, vb, (ii (0))], (.tup [(.agg [(ii (5)), (ii (5))]), (ii (0))]))
abbrev row15 : Row := (26, [(.sl [va, vb] none sn), (ii (0)), (ii (1))], (.tup [(.sl [(.agg [(ii (0)), (ii (0)), (ii (0))]), (.agg [(ii (0)), (ii (2)), (ii (-1))])] none su), (ii (0))]))
abbrev row14 : Row := (27, [(.sl [va, vb] none sn), (ii (0)), (ii (1))], (.tup [(ii (2)), (ii (0))]))
abbrev row32 : Row := (32, [(.sl [va, vb] none sn)], (.tup [(.sl [(.agg [(ii (0)), (ii (0)), (ii (0))]), (.agg [(ii (1)), (ii (0)), (ii (0))])] none su), (ii (0))]))
abbrev row38 : Row := (33, [(.sl [va, vb] none sn), (.sl [(.agg [(ii (0)), (ii (0)), (ii (0))]), (.agg [(ii (1)), (ii (0)), (ii (1))])] none sn)], (.tup [(ii (1)), (ii (0))]))
abbrev row33 : Row := (39, [(.sl [va, vb] none sn)], (.tup [(.sl [(.sl [(ii (0)), (ii (0))] none sn), (.sl [(ii (1)), (ii (1))] none sn)] none su), (ii (0))]))
abbrev row56 : Row := (40, [(.sl [(.agg [(ii (0)), (ii (0)), (ii (0))]), (.agg [(ii (0)), (ii (2)), (ii (-1))])] none su), (.sl [(.agg [(ii (0)), (ii (0)), (ii (0))]), (.agg [(ii (0)), (ii (2)), (ii (-1))])] none sn)], (bb true))
abbrev row37 : Row := (34, [(.sl [(.agg [(ii (0)), (ii (0)), (ii (0))]), (.agg [(ii (1)), (ii (0)), (ii (0))])] none su), (.sl [(.agg [(ii (0)), (ii (0)), (ii (0))]), (.agg [(ii (1)), (ii (0)), (ii (0))])] none sn)], (bb true))
abbrev row57 : Row := (30, [(.sl [(.sl [(ii (0)), (ii (0))] none sn), (.sl [(ii (1)), (ii (1))] none sn)] none su), (.sl [(.sl [(ii (0)), (ii (0))] none sn), (.sl [(ii (1)), (ii (1))] none sn)] none sn)], (bb true))
set_option maxRecDepth 1000000
theorem ran54 : ran tab1 100 40 row54 = true := by decide +kernel
theorem ran55 : ran tab1 100 40 row55 = true := by decide +kernel
theorem ran21 : ran tab1 100 40 row21 = true := by decide +kernel
theorem ran15 : ran tab1 100 40 row15 = true := by decide +kernel
theorem ran14 : ran tab1 100 40 row14 = true := by decide +kernel
theorem ran32 : ran tab1 100 40 row32 = true := by decide +kernel
theorem ran38 : ran tab1 100 40 row38 = true := by decide +kernel
theorem ran33 : ran tab1 100 40 row33 = true := by decide +kernel
theorem ran56 : ran tab1 100 40 row56 = true := by decide +kernel
theorem ran37 : ran tab1 100 40 row37 = true := by decide +kernel
theorem ran57 : ran tab1 100 40 row57 = true := by decide +kernel
abbrev rows17 : List Row := [row54, row55, row21, row15, row14, row32, row38, row33, row56, row37, row57]
theorem ran17 : ran (more tab1 rows17) 100 2 (7, [], bb true) = true := by decide +kernel
theorem tab17_ok : TabOK Tryz.prog Final (more tab1 rows17) := more_ok tab1_ok (by
  intro r hr
  simp only [rows17, List.mem_cons, List.not_mem_nil, or_false] at hr
  rcases hr with rfl | rfl | rfl | rfl | rfl | rfl | rfl | rfl | rfl | rfl | rfl
  · exact good_of_ran tab1_ok ran54
  · exact good_of_ran tab1_ok ran55
  · exact good_of_ran tab1_ok ran21
  · exact good_of_ran tab1_ok ran15
  · exact good_of_ran tab1_ok ran14
  · exact good_of_ran tab1_ok ran32
  · exact good_of_ran tab1_ok ran38
  · exact good_of_ran tab1_ok ran33
  · exact good_of_ran tab1_ok ran56
  · exact good_of_ran tab1_ok ran37
  · exact good_of_ran tab1_ok ran57)
def tabF : IsoF := more tab1 [(7, [], bb true)]
theorem tabF_ok : TabOK Tryz.prog Final tabF := more_ok tab1_ok (by
  intro r hr
  simp only [List.mem_cons, List.not_mem_nil, or_false] at hr
  subst hr
  exact good_of_ran tab17_ok ran17)
end Go.Di
end
