/- The law CutKnown: part 26: Co6p Co7c Co7d Cd20 Cd21. By an AI agent. -/
import Derived.Test.YtadeehilamokkaaGreatDoorPk15
import Derived.Test.YtadeehilamokkaaGreatDoorPk20
import Derived.Test.YtadeehilamokkaaGreatDoorPk25
import Derived.Test.YtadeehilamokkaaGreatDoorChecked
import Derived.KernelRfl
import Derived.WalkKit
import Derived.Deep.LoopGhost
import Derived.Ground.SlgnProg
import Derived.Shelf.Lay
import Derived.Shelf.SlicesG.Clone
import Derived.Shelf.SlicesG.Reverse
import Derived.Lib.OwnBridge
section
namespace Go.Co
open Go Go.Proofs
open Go.Extern.RuntimeError
variable {P : Program}
theorem t_described (v : Value) : T1 P (described v) := by
  unfold described
  (repeat' first | exact TC.out | (with_reducible refine tm_bind1 ?_ (fun _ => ?_)) | (with_reducible refine tm_ite ?_ ?_) | split | dsimp only)
theorem t_text (s : String) : T1 P (text s) := tm_pure trivial
theorem t_pkgpathOf (i : TypeInfo) : T1 P (pkgpathOf i) := by
  unfold pkgpathOf
  (repeat' first | exact TC.out | (with_reducible refine tm_bind1 ?_ (fun _ => ?_)) | (with_reducible refine tm_ite ?_ ?_) | split | dsimp only)
theorem t_boundsError (args : Array Value) : T1 P (boundsError args) := by
  unfold boundsError
  rcases args with ⟨_ | ⟨x, _ | ⟨y, l⟩⟩⟩
  · exact tm_stuck _
  rotate_left
  · exact tm_stuck _
  cases x <;> try exact tm_stuck _
  rename_i cs
  rcases cs with ⟨_ | ⟨a, _ | ⟨b, _ | ⟨c, _ | ⟨d, _ | ⟨e, l⟩⟩⟩⟩⟩⟩ <;> try exact tm_stuck _
  cases a <;> try exact tm_stuck _
  cases b <;> try exact tm_stuck _
  cases c <;> try exact tm_stuck _
  cases d <;> try exact tm_stuck _
  rename_i k x k1 y signed k2 code
  show T1 P (match (if (signed && decide (x < 0)) = true then boundsNegErrorFmts else boundsErrorFmts)[code.toNat]? with
    | some fmt => text ("runtime error: " ++ (fmt.replace "%x" (toString (if signed = true then x else IntKind.u64.wrap x))).replace "%y" (toString y))
    | none => stuck "boundsError: no such code")
  split
  · exact t_text _
  · exact tm_stuck _
theorem t_nothing (args : Array Value) : T1 P (nothing args) := tm_pure trivial
theorem t_unhashable (args : Array Value) : T1 P (unhashableTypeError args) := by
  unfold unhashableTypeError
  rcases args with ⟨_ | ⟨x, _ | ⟨y, l⟩⟩⟩
  · exact tm_stuck _
  rotate_left
  · exact tm_stuck _
  cases x <;> try exact tm_stuck _
  rename_i cs
  rcases cs with ⟨_ | ⟨a, _ | ⟨b, l⟩⟩⟩ <;> try exact tm_stuck _
  refine (?_ : T1 P (described a >>= _))
  refine tm_bind1 (t_described a) fun o => ?_
  cases o with
  | none => exact TC.out
  | some t => exact t_text _
theorem t_typeAssertion (args : Array Value) : T1 P (typeAssertionError args) := by
  unfold typeAssertionError
  (repeat' first | exact TC.out | exact t_text _ | exact t_described _ | exact t_pkgpathOf _ | (with_reducible refine tm_bind1 ?_ (fun _ => ?_)) | (with_reducible refine tm_ite ?_ ?_) | split | dsimp only)
theorem fd0 : Extern.find Tryz.f0 = none := by kernel_rfl
theorem fd1 : Extern.find Tryz.f1 = none := by kernel_rfl
theorem fd89 : Extern.find Tryz.f89 = some (fun args => Extern.ReflectliteValue.unpack (args.getD 0 (.tuple #[]))) := by kernel_rfl
theorem fd90 : Extern.find Tryz.f90 = some (Extern.ReflectliteValue.methodAny (Extern.ReflectliteValue.valueError "reflectlite.Value.Type" 0) (fun t _ _ _ => Extern.ReflectliteType.toType t)) := by kernel_rfl
theorem fd91 : Extern.find Tryz.f91 = some (Extern.ReflectliteValue.method (Extern.ReflectliteValue.valueError "reflectlite.Value.IsNil" 0) Extern.ReflectliteValue.isNil) := by kernel_rfl
theorem fd114 : Extern.find Tryz.f114 = some (Extern.AbiNoEscape.same) := by kernel_rfl
theorem fd121 : Extern.find Tryz.f121 = some (Extern.ReflectliteType.typeOf) := by kernel_rfl
theorem fd122 : Extern.find Tryz.f122 = some (Extern.ReflectliteValue.method (Extern.ReflectliteValue.valueError "reflectlite.Value.Elem" 0) Extern.ReflectliteValue.elem) := by kernel_rfl
theorem fd123 : Extern.find Tryz.f123 = some (Extern.ReflectliteValue.set) := by kernel_rfl
theorem fd140 : Extern.find Tryz.f140 = some (Extern.BytealgMakeNoZero.makeNoZero #[3] #[33]) := by kernel_rfl
theorem fd158 : Extern.find Tryz.f158 = some (Extern.BytealgIndex.index) := by kernel_rfl
theorem fd168 : Extern.find Tryz.f168 = some (Extern.BytealgIndexByte.indexByte) := by kernel_rfl
theorem fd172 : Extern.find Tryz.f172 = some (Extern.BytealgCount.count) := by kernel_rfl
theorem fd175 : Extern.find Tryz.f175 = some (boundsError) := by kernel_rfl
theorem fd176 : Extern.find Tryz.f176 = some (nothing) := by kernel_rfl
theorem fd177 : Extern.find Tryz.f177 = some ((fun args => do pure (.string ("runtime error: ".toUTF8 ++ (← asString (args.getD 0 (.tuple #[]))))))) := by kernel_rfl
theorem fd178 : Extern.find Tryz.f178 = some (nothing) := by kernel_rfl
theorem fd179 : Extern.find Tryz.f179 = some ((fun args => do pure (.string (← asString (args.getD 0 (.tuple #[])))))) := by kernel_rfl
theorem fd180 : Extern.find Tryz.f180 = some (nothing) := by kernel_rfl
theorem fd181 : Extern.find Tryz.f181 = some ((fun args => do pure (.string ("runtime error: ".toUTF8 ++ (← asString ((← asAgg (args.getD 0 (.tuple #[]))).getD 0 (.tuple #[]))))))) := by kernel_rfl
theorem fd182 : Extern.find Tryz.f182 = some (nothing) := by kernel_rfl
theorem fd183 : Extern.find Tryz.f183 = some (typeAssertionError) := by kernel_rfl
theorem fd184 : Extern.find Tryz.f184 = some (nothing) := by kernel_rfl
theorem fd185 : Extern.find Tryz.f185 = some ((fun _ => text "runtime error: panic called with nil argument")) := by kernel_rfl
theorem fd186 : Extern.find Tryz.f186 = some (nothing) := by kernel_rfl
theorem fd187 : Extern.find Tryz.f187 = none := by kernel_rfl
theorem fd188 : Extern.find Tryz.f188 = none := by kernel_rfl
theorem fd189 : Extern.find Tryz.f189 = some (Extern.ReflectliteType.abiMethod (fun t => do pure (.int .u8 (← Extern.Rtype.kind t)))) := by kernel_rfl
theorem fd190 : Extern.find Tryz.f190 = some (unhashableTypeError) := by kernel_rfl
theorem fd191 : Extern.find Tryz.f191 = some (nothing) := by kernel_rfl
theorem fd192 : Extern.find Tryz.f192 = none := by kernel_rfl
theorem fd193 : Extern.find Tryz.f193 = none := by kernel_rfl
theorem fd194 : Extern.find Tryz.f194 = none := by kernel_rfl
theorem fd195 : Extern.find Tryz.f195 = none := by kernel_rfl
theorem fd196 : Extern.find Tryz.f196 = some (Extern.ReflectliteValue.method (pure (.int .u8 0)) (fun _ _ _ k => pure (.int .u8 (Int.ofNat k)))) := by kernel_rfl
theorem fd197 : Extern.find Tryz.f197 = some ((fun args => do pure (strVal (Extern.Rtype.kindName (← asInt (args.getD 0 (.tuple #[]))).toNat)))) := by kernel_rfl
theorem fd198 : Extern.find Tryz.f198 = some (Extern.ReflectliteType.abiMethod (fun t => do Extern.Rtype.noPackHeld "Size" t; pure (.int .u64 (← typeInfo t).bytes))) := by kernel_rfl
theorem fd199 : Extern.find Tryz.f199 = some (Extern.ReflectliteType.relation "AssignableTo" Extern.ReflectliteType.assignableTo) := by kernel_rfl
theorem fd200 : Extern.find Tryz.f200 = some (Extern.ReflectliteType.method (fun t => do Extern.Rtype.noPackHeld "Comparable" t; pure (.bool (← typeInfo t).comparable))) := by kernel_rfl
theorem fd201 : Extern.find Tryz.f201 = some (Extern.ReflectliteType.method Extern.ReflectliteType.elem) := by kernel_rfl
theorem fd202 : Extern.find Tryz.f202 = some (Extern.ReflectliteType.relation "Implements" Extern.ReflectliteType.implements_) := by kernel_rfl
theorem fd203 : Extern.find Tryz.f203 = some (Extern.ReflectliteType.method (fun t => do Extern.Rtype.noPackNamed "Name" t; Extern.ReflectliteType.name t)) := by kernel_rfl
theorem fd204 : Extern.find Tryz.f204 = some (Extern.ReflectliteType.method (fun t => do Extern.Rtype.noPackNamed "PkgPath" t; Extern.ReflectliteType.pkgPath t)) := by kernel_rfl
theorem fd205 : Extern.find Tryz.f205 = some (Extern.ReflectliteType.method (fun t => do Extern.Rtype.noPackNamed "String" t; pure (strVal (← Extern.Rtype.spelt t)))) := by kernel_rfl
theorem fd206 : Extern.find Tryz.f206 = some (Extern.ReflectliteType.method Extern.Rtype.handle) := by kernel_rfl
theorem fd207 : Extern.find Tryz.f207 = none := by kernel_rfl
theorem fd208 : Extern.find Tryz.f208 = some (Extern.ReflectliteValue.errorText) := by kernel_rfl
theorem fd209 : Extern.find Tryz.f209 = none := by kernel_rfl
theorem fd210 : Extern.find Tryz.f210 = none := by kernel_rfl
theorem fd211 : Extern.find Tryz.f211 = none := by kernel_rfl
theorem fd212 : Extern.find Tryz.f212 = none := by kernel_rfl
theorem fd213 : Extern.find Tryz.f213 = none := by kernel_rfl
theorem fd214 : Extern.find Tryz.f214 = none := by kernel_rfl
theorem bodies : (Tryz.prog.funcs.toList.zipIdx.all fun (f, i) => !f.body.isNone || [0, 1, 89, 90, 91, 114, 121, 122, 123, 140, 158, 168, 172, 175, 176, 177, 178, 179, 180, 181, 182, 183, 184, 185, 186, 187, 188, 189, 190, 191, 192, 193, 194, 195, 196, 197, 198, 199, 200, 201, 202, 203, 204, 205, 206, 207, 208, 209, 210, 211, 212, 213, 214].contains i) = true := by kernel_rfl
theorem nexts : (Tryz.prog.funcs.toList.all fun f => !f.body.isNone || (Extern.findNext f).isNone) = true := by kernel_rfl
theorem names : (Tryz.prog.funcs.toList.all fun f => !(f.name == "runtime.NumGoroutine")) = true := by kernel_rfl
theorem louds : (Tryz.prog.funcs.toList.all fun f => !f.norace) = true := by kernel_rfl
theorem mem_funcs {f : FuncId} {fn : Func} (h : Tryz.prog.funcs[f]? = some fn) : fn ∈ Tryz.prog.funcs.toList := by grind
theorem plain_try : Plain Tryz.prog where
  count f fn h := by
    have := List.all_eq_true.1 names fn (mem_funcs h)
    simpa using this
  quiet f := by
    cases h : Tryz.prog.funcs[f]? with
    | none => rfl
    | some fn =>
      have := List.all_eq_true.1 louds fn (mem_funcs h)
      simpa using this
  next f fn h hb := by
    have := List.all_eq_true.1 nexts fn (mem_funcs h)
    simpa [hb] using this
  find f fn e h hb he args := by
    have hz : (fn, f) ∈ Tryz.prog.funcs.toList.zipIdx := by grind
    have h1 := List.all_eq_true.1 bodies _ hz
    have h2 : f ∈ [0, 1, 89, 90, 91, 114, 121, 122, 123, 140, 158, 168, 172, 175, 176, 177, 178, 179, 180, 181, 182, 183, 184, 185, 186, 187, 188, 189, 190, 191, 192, 193, 194, 195, 196, 197, 198, 199, 200, 201, 202, 203, 204, 205, 206, 207, 208, 209, 210, 211, 212, 213, 214] := by
      simp only [hb, Option.isNone_none, Bool.not_true, Bool.false_or] at h1
      exact List.contains_iff_mem.1 h1
    have pick : ∀ {i : Nat} {g : Func}, f = i → Tryz.prog.funcs[i]? = some g → fn = g := fun hi hg => by subst hi; rw [hg] at h; exact (Option.some.inj h).symm
    simp only [List.mem_cons, List.not_mem_nil, or_false] at h2
    rcases h2 with hi | hi | hi | hi | hi | hi | hi | hi | hi | hi | hi | hi | hi | hi | hi | hi | hi | hi | hi | hi | hi | hi | hi | hi | hi | hi | hi | hi | hi | hi | hi | hi | hi | hi | hi | hi | hi | hi | hi | hi | hi | hi | hi | hi | hi | hi | hi | hi | hi | hi | hi | hi | hi
    · rw [pick hi Tryz.func0, fd0] at he
      cases he
    · rw [pick hi Tryz.func1, fd1] at he
      cases he
    · rw [pick hi Tryz.func89, fd89] at he
      cases he; exact TC.out
    · rw [pick hi Tryz.func90, fd90] at he
      cases he; exact t_vany TC.out (fun _ _ _ _ => TC.out) _
    · rw [pick hi Tryz.func91, fd91] at he
      cases he; exact t_vmeth TC.out (fun _ _ _ _ => TC.out) _
    · rw [pick hi Tryz.func114, fd114] at he
      cases he; exact TC.out
    · rw [pick hi Tryz.func121, fd121] at he
      cases he; exact TC.out
    · rw [pick hi Tryz.func122, fd122] at he
      cases he; exact t_vmeth TC.out (fun _ _ _ _ => TC.out) _
    · rw [pick hi Tryz.func123, fd123] at he
      cases he; exact TC.out
    · rw [pick hi Tryz.func140, fd140] at he
      cases he; exact TC.out
    · rw [pick hi Tryz.func158, fd158] at he
      cases he; exact TC.out
    · rw [pick hi Tryz.func168, fd168] at he
      cases he; exact TC.out
    · rw [pick hi Tryz.func172, fd172] at he
      cases he; exact TC.out
    · rw [pick hi Tryz.func175, fd175] at he
      cases he; exact t_boundsError _
    · rw [pick hi Tryz.func176, fd176] at he
      cases he; exact t_nothing _
    · rw [pick hi Tryz.func177, fd177] at he
      cases he; (repeat' first | exact TC.out | (with_reducible refine tm_bind1 ?_ (fun _ => ?_)) | (with_reducible refine tm_ite ?_ ?_) | split | dsimp only)
    · rw [pick hi Tryz.func178, fd178] at he
      cases he; exact t_nothing _
    · rw [pick hi Tryz.func179, fd179] at he
      cases he; (repeat' first | exact TC.out | (with_reducible refine tm_bind1 ?_ (fun _ => ?_)) | (with_reducible refine tm_ite ?_ ?_) | split | dsimp only)
    · rw [pick hi Tryz.func180, fd180] at he
      cases he; exact t_nothing _
    · rw [pick hi Tryz.func181, fd181] at he
      cases he; (repeat' first | exact TC.out | (with_reducible refine tm_bind1 ?_ (fun _ => ?_)) | (with_reducible refine tm_ite ?_ ?_) | split | dsimp only)
    · rw [pick hi Tryz.func182, fd182] at he
      cases he; exact t_nothing _
    · rw [pick hi Tryz.func183, fd183] at he
      cases he; exact t_typeAssertion _
    · rw [pick hi Tryz.func184, fd184] at he
      cases he; exact t_nothing _
    · rw [pick hi Tryz.func185, fd185] at he
      cases he; exact t_text _
    · rw [pick hi Tryz.func186, fd186] at he
      cases he; exact t_nothing _
    · rw [pick hi Tryz.func187, fd187] at he
      cases he
    · rw [pick hi Tryz.func188, fd188] at he
      cases he
    · rw [pick hi Tryz.func189, fd189] at he
      cases he; exact t_rabi (fun _ => tm_bind1 TC.out fun _ => TC.out) _
    · rw [pick hi Tryz.func190, fd190] at he
      cases he; exact t_unhashable _
    · rw [pick hi Tryz.func191, fd191] at he
      cases he; exact t_nothing _
    · rw [pick hi Tryz.func192, fd192] at he
      cases he
    · rw [pick hi Tryz.func193, fd193] at he
      cases he
    · rw [pick hi Tryz.func194, fd194] at he
      cases he
    · rw [pick hi Tryz.func195, fd195] at he
      cases he
    · rw [pick hi Tryz.func196, fd196] at he
      cases he; exact t_vmeth TC.out (fun _ _ _ _ => TC.out) _
    · rw [pick hi Tryz.func197, fd197] at he
      cases he; (repeat' first | exact TC.out | (with_reducible refine tm_bind1 ?_ (fun _ => ?_)) | (with_reducible refine tm_ite ?_ ?_) | split | dsimp only)
    · rw [pick hi Tryz.func198, fd198] at he
      cases he; exact t_rabi (fun _ => tm_bind1 TC.out fun _ => tm_bind1 TC.out fun _ => TC.out) _
    · rw [pick hi Tryz.func199, fd199] at he
      cases he; exact t_rrel (fun _ _ => TC.out) _
    · rw [pick hi Tryz.func200, fd200] at he
      cases he; exact t_rmeth (fun _ => tm_bind1 TC.out fun _ => tm_bind1 TC.out fun _ => TC.out) _
    · rw [pick hi Tryz.func201, fd201] at he
      cases he; exact t_rmeth (fun _ => TC.out) _
    · rw [pick hi Tryz.func202, fd202] at he
      cases he; exact t_rrel (fun _ _ => TC.out) _
    · rw [pick hi Tryz.func203, fd203] at he
      cases he; exact t_rmeth (fun _ => tm_bind1 TC.out fun _ => TC.out) _
    · rw [pick hi Tryz.func204, fd204] at he
      cases he; exact t_rmeth (fun _ => tm_bind1 TC.out fun _ => TC.out) _
    · rw [pick hi Tryz.func205, fd205] at he
      cases he; exact t_rmeth (fun _ => tm_bind1 TC.out fun _ => tm_bind1 TC.out fun _ => TC.out) _
    · rw [pick hi Tryz.func206, fd206] at he
      cases he; exact t_rmeth (fun _ => TC.out) _
    · rw [pick hi Tryz.func207, fd207] at he
      cases he
    · rw [pick hi Tryz.func208, fd208] at he
      cases he; exact TC.out
    · rw [pick hi Tryz.func209, fd209] at he
      cases he
    · rw [pick hi Tryz.func210, fd210] at he
      cases he
    · rw [pick hi Tryz.func211, fd211] at he
      cases he
    · rw [pick hi Tryz.func212, fd212] at he
      cases he
    · rw [pick hi Tryz.func213, fd213] at he
      cases he
    · rw [pick hi Tryz.func214, fd214] at he
      cases he
end Go.Co
end
section
namespace Go.Proofs
open Go.Shelf Go.RowKit Go.Lib Go.Sort
set_option maxHeartbeats 400000 in
theorem Tryz.ins111_nil (v : Value) (w : World) : Calls Tryz.prog 149 #[.slice none 0 0, .int .i64 0, .int .i64 0, v] w fun e w' => e = .returned (.tuple #[]) ∧ w' = w := by
  go_enter Tryz.func149, Tryz.ntmps149
  go_wp2
  go_loop [8] (fun i => i = .int .i64 1) (fun _ => 0)
  case atStart => rfl
  case round =>
    subst hrel
    go_wp2
    go_end0
    exact ⟨rfl, rfl⟩
set_option maxRecDepth 100000 in
set_option maxHeartbeats 1000000 in
theorem Tryz.pdq103_nil (l : Int) (v : Value) (w : World) : Calls Tryz.prog 136 #[.slice none 0 0, .int .i64 0, .int .i64 0, .int .i64 l, v] w fun e w' => e = .returned (.tuple #[]) ∧ w' = w := by
  have hi := Tryz.ins111_nil v
  go_enter Tryz.func136, Tryz.ntmps136
  go_wp2
  go_loop [1, 2] (fun a b => a = .int .i64 0 ∧ b = .int .i64 0) (fun _ _ => 0)
  case atStart => exact ⟨rfl, rfl⟩
  case round =>
    obtain ⟨rfl, rfl⟩ := hrel
    go_wp2_with (go_at_call 149; refine (hi _).mono ?_; rintro e w' ⟨rfl, rfl⟩)
    exact ⟨rfl, .tuple #[], results_none (by rfl) _ _ _, rfl, rfl⟩
theorem Tryz.len104_0 (w : World) : Calls Tryz.prog 99 #[.int .u64 0] w fun e w' => e = .returned (.int .i64 (Lib.bitLen 0 : Nat)) ∧ w' = w := by
  have h := Any.bits_Len (SlLaysF0.n15.bits (P := Tryz.prog) { Tryz.sortSeam with }) (0 : Int) w (by omega) (by omega)
  exact h
set_option maxHeartbeats 1000000 in
theorem Tryz.sort86_nil (v : Value) (w : World) : Calls Tryz.prog 102 #[.slice none 0 0, v] w fun e w' => e = .returned (.tuple #[]) ∧ w' = w := by
  have hl := Tryz.len104_0
  have hp := fun l => Tryz.pdq103_nil l v
  go_enter Tryz.func102, Tryz.ntmps102
  go_wp2_with (first | (go_at_call 99; refine (hl _).mono ?_; rintro e w' ⟨rfl, rfl⟩) | (go_at_call 136; refine (hp _ _).mono ?_; rintro e w' ⟨rfl, rfl⟩))
  go_end0
  exact ⟨rfl, rfl⟩
end Go.Proofs
end
section
namespace Go.Proofs
open Go.Shelf Go.RowKit Go.Lib Go.Sort Go.Co
theorem Tryz.sort86 (g cap : Nat) (d : Array Sm) (w : World) (hH : HoldsK smC 3 w g 0 d) (hg : g < w.heap.size) (hsz : d.size < 4611686018427387904) :
    Calls Tryz.prog 102 #[.slice (some ⟨g, 0, none⟩) d.size cap, .func (.func 103) #[] #[]] w fun e w' => e = .returned (.tuple #[]) ∧ ∃ d' n os, PermIn 0 d.size d d' ∧ SortedIn (ltOf cmpSm) 0 d.size d' ∧ w' = sortWorldK smC 3 w g 0 n d' os := by
  have eg : ∀ args w, (callFunc 103 args).run Tryz.prog w = .ok (.enter 103 args) w := enters_of Tryz.func103 (by kernel_rfl) rfl
  exact AnyQ.slices_SortFunc Tryz.sortSeam 3 Tryz.isAgg79 Tryz.sizeOf79 smC (fun _ => rfl) (fun x v hv => by simp [smC] at hv; rcases hv with rfl | rfl | rfl <;> rfl) cmpSm swoSm 103 #[] g 0 cap d w eg (fun _ _ _ _ x y => Tryz.closure87 x y _) hH hg hsz
end Go.Proofs
namespace Go.Co
open Go Go.Conc Go.Proofs Go.Sort Go.Shelf
variable {P : Program} {Final : Machine → Trace → Prop} {γ : So} {w : World}
theorem ko_pureG {Γ : Type} {main : Bool} {K : Γ → Goroutine → World → Prop} {Rl : Γ → World → World → Prop} {St : Γ → World → Γ → World → Array Event → Prop} {fn : FuncId} {Q : Γ → Exit → Act → World → Prop} {a : Act} {ops : Array Oper} {i : Nat} {rest : List Nat} {o : Oper} (C : KC P main K Rl St) {γ : Γ} {v : Value} (ho : ops[i]? = some o) (hw : Region.wanted o (yielded ops a.tmps) = true) (hrun : ∀ w, (execOp a.eval o).run P w = .ok (.value v) w) (hev : ∀ w, (execOp a.eval o).events P w #[] = #[])
    (h : KO K fn γ ops rest Q (a.put o.dst v) w) : KO K fn γ ops (i :: rest) Q a w :=
  ko_cons C ho hw fun w₁ r => by rw [hrun w₁]; exact ⟨γ, by rw [listed_nil (hev w₁)]; exact C.idle _ _, ko_rely C r h⟩
def SortedRow (A : Nat → Prop) (B0 : Nat) (w0 : World) (R : List Sm) (out : Value) (w : World) : Prop := Old A B0 w0 w ∧ w.ownsRow B0 79 3 out R.length (R.flatMap smC)
theorem sort_any {A : Nat → Prop} {B0 : Nat} {w0 : World} {R got : List Sm} {out : Value} (hR : R.Pairwise ltS) (hlen : R.length ≤ 4294967296) (hA : ∀ b, A b → b < B0) (hO : Old A B0 w0 w) (hp : got.Perm R) (hrow : w.ownsRow B0 79 3 out got.length (got.flatMap smC)) :
    Calls Tryz.prog 102 #[out, .func (.func 103) #[] #[]] w fun e w' => ∃ v, e = .returned v ∧ SortedRow A B0 w0 R out w' := by
  have hl := hp.length_eq
  rcases hrow.2 with ⟨rfl, h0⟩ | ⟨g, cap, cur, rfl, hb, hg, hn, hc, hcs, ht⟩
  · have hgot : got = [] := List.eq_nil_of_length_eq_zero h0
    have hRn : R = [] := List.eq_nil_of_length_eq_zero (by omega)
    subst hgot
    subst hRn
    exact (Tryz.sort86_nil _ w).mono fun e w' ⟨he, hw⟩ => ⟨_, he, by subst hw; exact ⟨hO, hrow⟩⟩
  · have hlt : g < w.heap.size := (Array.getElem?_eq_some_iff.1 hg).1
    have hH : HoldsK smC 3 w g 0 got.toArray := holds_flat hg (by simpa using ht)
    have h := Tryz.sort86 g cap got.toArray w hH hlt (by simp; omega)
    simp only [List.size_toArray] at h
    refine h.mono ?_
    rintro e w' ⟨he, d', n, os, hpm, hs, rfl⟩
    obtain ⟨hsz, -, hpm⟩ := hpm
    have hsz' : d'.size = got.length := by simpa using hsz
    have hd : d'.toList = R := by
      refine sorted_is ?_ (by rw [hsz']; exact hs) hR
      have h1 : (d'.extract 0 got.length) = d' := by rw [← hsz']; simp
      have h2 : (got.toArray.extract 0 got.length) = got.toArray := by simp
      rw [h1, h2] at hpm
      exact hpm.trans hp
    have hgr := grownBy_flat (w := w) (g := g) (n := n) (os := os) d'
    refine ⟨_, he, ⟨fun b hb' => ?_, Nat.le_trans hO.2.1 hgr.size, hgr.os.trans hO.2.2.1, hgr.output.trans hO.2.2.2⟩, ?_⟩
    · have := hA b hb'
      exact (hgr.block b (Nat.lt_of_lt_of_le this hO.2.1) (fun e => by cases e; omega)).trans (hO.1 b hb')
    · have := ownsRow_flat (n := n) (os := os) (d := d') hb hg (by omega) hc hcs
      rw [hsz', hd] at this
      rw [← hl]
      exact this
set_option maxRecDepth 100000 in
theorem tail_ok {da db : Wk} (hda : da.ok) (hdb : db.ok) (haa : Asc da.lies) (hab : Asc db.lies) : TailOK Final (seamsM da db) := by
  intro A B0 w0 γ' a' w' hE
  obtain ⟨-, -, hS, got, out, hp, hrow, u, rfl⟩ := hE
  have C := kc_main (Final := Final) plain_try
  unfold fr51c
  show KJ _ _ _ (.seq (.region _ _ false) (.seq (.region _ _ false) .ret)) _ _ _
  refine kj_seq C (kj_region C ?_)
  simp only [List.size_toArray, List.length_cons, List.length_nil, Nat.reduceAdd, Nat.zero_add, List.range, List.range.loop]
  refine ko_pureG C (v := ?v1) rfl (by rfl) (fun w => run_eq_of fun K hK => ?r1) (fun w => ?e1) ?h1
  case r1 => go_simp; exact hK
  case e1 => simp [go_sem]
  try walk_nrm
  refine mu_call plain_try (R := fun _ w => SortedRow A B0 w0 (seamsM da db) out w) rfl (by rfl) rfl Tryz.func102 rfl (fun τ => ?_) (fun v w2 hR τ d => ?_)
  · simp only [List.map_toArray, List.map_cons, List.map_nil]
    have hO : Old A B0 w0 (w'.re τ 0) := ⟨hS.blk, hS.size, hS.env.1, hS.env.2⟩
    exact sort_any (seams_asc haa hab) (seamsM_len hda hdb) hS.lt hO hp hrow
  · have hR' : SortedRow A B0 w0 (seamsM da db) out (w2.re τ d) := hR
    generalize w2.re τ d = w3 at *
    try walk_nrm
    refine ko_nil C ?_
    co_then
    refine kj_seq C (kj_region C ?_)
    simp only [List.size_toArray, List.length_cons, List.length_nil, Nat.reduceAdd, Nat.zero_add, List.range, List.range.loop]
    refine ko_pureG C (v := ?v2) rfl (by rfl) (fun w => run_eq_of fun K hK => ?r2) (fun w => ?e2) ?h2
    case r2 => go_simp; exact hK
    case e2 => simp [go_sem]
    try walk_nrm
    refine ko_pureG C (v := ?v3) rfl (by rfl) (fun w => run_eq_of fun K hK => ?r3) (fun w => ?e3) ?h3
    case r3 => go_simp; exact hK
    case e3 => simp [go_sem]
    try walk_nrm
    refine ko_nil C ?_
    co_then
    refine kj_ret C ?_
    exact ⟨rfl, rfl, hR'.1, hR'.2⟩
theorem seams_k {ca cb : Array Value} {da db : Wk} (hda : da.ok) (hdb : db.ok) (haa : Asc da.lies) (hab : Asc db.lies) (hva : WorkV γ w ca da) (hvb : WorkV γ w cb db) :
    KCall (KAll Tryz.prog Final) Tryz.prog (.bad, γ) 64 #[.agg ca, .agg cb] w fun γ' v w' => γ'.1 = .bad ∧ Kept γ w γ'.2 w' ∧ OwnV γ'.2 w' w.heap.size 79 3 v (seamsM da db).length ((seamsM da db).flatMap smC) :=
  seams_entry plain_try hda hdb hva hvb (tail_ok hda hdb haa hab)
end Go.Co
end
section
namespace Go.Di
open Go Go.Conc Go.Co Go.Proofs
variable {P : Program} {Final : Machine → Trace → Prop} {x : Cx}
theorem enter_kcall {g : FuncId} {vals : Array Value} {Post' : Value → World → Prop} (hP : Plain P) (h : KCall (KMu P Final) P () g vals x.w (fun _ => Post')) {Post : Cx → Value → Prop} (hq : ∀ v w', Post' v w' → ∃ y : Cx, y.w = w' ∧ Post y v) : EnterOK P Final x g vals Post := by
  obtain ⟨fn', c, hf, -, hbody, hwp⟩ := h
  refine ⟨⟨fn', c, hf, hbody⟩, fun fr cs hc => ?_⟩
  have C := kc_main (Final := Final) hP
  rw [enter_at vals hf hbody]
  have hleave : ∀ (a' : Act) (w' : World) (todo : List Item), (a'.defers = [] ∧ ∃ v, ResultsC P fn' a'.tmps v ∧ Post' v w') →
      KMu P Final () (G { (base g).at a' todo with mode := .returning } (fr :: cs)) w' := by
    rintro a' w' todo ⟨hd, v, hr, hp⟩
    obtain ⟨y, rfl, hy⟩ := hq v w' hp
    refine C.go (fun w₁ => ?_) (hc y v hy)
    rw [stepG_leave (b := base g) rfl hd hf (hr w₁).1 (hr w₁).2]
  refine hwp (base g) [] _ rfl (by simp [base]) fun γ' e a' w' q => ?_
  cases e with
  | normal => exact C.go (fun _ => stepG_end) (hleave a' w' [] q)
  | ret => exact fun todo => hleave a' w' todo q
  | exit id => exact q.elim
  | goto l => exact q.elim
  | panic ch => exact q.elim
  | outgrown => exact q.elim
def newB (v : Value) (n : Nat) (b o : Nat) : Prop := v.ownBlock = some b ∧ o < n
def Cx.rowed (x : Cx) (w' : World) (v : Value) (n : Nat) : Cx := { x with w := w', Fz := fun b o => x.Fz b o ∨ newB v n b o }
section
variable {w' : World} {v : Value} {e : TypeId} {s n : Nat} {xs : List Value}
theorem mono_rowed (hR : Rel x) (hs : x.w.heap.size ≤ w'.heap.size) (he : w'.os = x.w.os ∧ w'.output = x.w.output) (ho : ∀ b, b < x.w.heap.size → w'.heap[b]? = x.w.heap[b]?) (hr : w'.ownsRow x.w.heap.size e s v n xs) : Mono x (x.rowed w' v (n * s)) where
  size := hs
  env := he
  fz := fun b o h => ⟨.inl h, by
    obtain ⟨u, hu⟩ := hR.frz b o h
    exact cell_of_block (ho b (World.block_lt_of_cell? _ ⟨b, o, none⟩ hu)) o⟩
  nfz := fun b o h => h.imp id fun h => .inl (hr.lt b h.1).1
  old := fun b hb _ => ho b hb
  len := Nat.le_refl _
  cells := fun id l h => ⟨rfl, l, h⟩
  objs := fun id b h hb => ⟨rfl, ⟨b, h, like_refl hb⟩, fun hd => by
    obtain ⟨o, h1, -⟩ := hR.objs id b h hb
    exact ho _ (Array.getElem?_eq_some_iff.1 h1).1⟩
  tails := fun t e s n h => ⟨n, h, Nat.le_refl _, fun _ => ⟨rfl, rfl⟩⟩
  live := fun i h => .inl ⟨h, rfl⟩
  ops := fun _ _ _ l z h => ⟨l, z, h, Nat.le_refl _, fun e => ⟨rfl, e⟩, fun _ => ⟨rfl, rfl⟩⟩
theorem rel_rowed (hR : Rel x) (hs : x.w.heap.size ≤ w'.heap.size) (he : w'.os = x.w.os ∧ w'.output = x.w.output) (ho : ∀ b, b < x.w.heap.size → w'.heap[b]? = x.w.heap[b]?) (hr : w'.ownsRow x.w.heap.size e s v n xs) : Rel (x.rowed w' v (n * s)) := by
  have M := mono_rowed hR hs he ho hr
  have hlt : ∀ {b : Nat} {o : Obj}, x.w.heap[b]? = some o → b < x.w.heap.size := fun h => (Array.getElem?_eq_some_iff.1 h).1
  have hnew : ∀ b o, newB v (n * s) b o → x.w.heap.size ≤ b := fun b o h => (hr.lt b h.1).1
  refine ⟨fun id l hl => ?_, fun id e' s' n' hl => ?_, fun id b hl hb => ?_, hR.inj, fun b o h => ?_, fun id hl o h => ?_, fun id e' s' n' hl o h => ?_, fun id e' s' l z hl => ?_, hR.glob.keep M.fz⟩
  · obtain ⟨arr, e', h1, h2, h3⟩ := hR.cells id l hl
    exact ⟨arr, e', (ho _ (hlt h1)).trans h1, h2, fun j c hc => (h3 j c hc).mono M⟩
  · obtain ⟨arr, h1, h2⟩ := hR.tails id e' s' n' hl
    exact ⟨arr, (ho _ (hlt h1)).trans h1, h2⟩
  · obtain ⟨o, h1, h2⟩ := hR.objs id b hl hb
    exact ⟨o, (ho _ (hlt h1)).trans h1, h2.mono M⟩
  · rcases h with h | h
    · obtain ⟨u, hu⟩ := hR.frz b o h
      exact ⟨u, ((M.fz b o h).2).trans hu⟩
    · obtain ⟨hv, hon⟩ := h
      rcases hr.2 with ⟨rfl, -⟩ | ⟨g, cap, cur, rfl, hb, hg, hn, hc, hcs, ht⟩
      · simp [Value.ownBlock] at hv
      · simp only [Value.ownBlock, Option.some.injEq] at hv
        subst hv
        have : o < cur.size := by rw [hcs]; exact Nat.lt_of_lt_of_le hon (Nat.mul_le_mul_right _ hn)
        exact ⟨cur[o], by simp only [World.cell?, Cx.rowed, hg]; exact Array.getElem?_eq_getElem this⟩
  · rcases h with h | h
    · exact hR.sep id hl o h
    · obtain ⟨l, hl⟩ := hl
      obtain ⟨arr, e', h1, -⟩ := hR.cells id l hl
      have := hnew _ _ h
      have := hlt h1
      show False
      change x.w.heap.size ≤ x.μ id at *
      omega
  · rcases h with h | h
    · exact hR.sept id e' s' n' hl o h
    · obtain ⟨arr, h1, -⟩ := hR.tails id e' s' n' hl
      have h3 := hnew _ _ h
      have h4 := hlt h1
      change x.w.heap.size ≤ x.μ id at h3
      omega
  · obtain ⟨arr, h1, h2, h3, h4, h5, h6, h7⟩ := hR.ops id e' s' l z hl
    refine ⟨arr, (ho _ (hlt h1)).trans h1, h2, h3, h4, fun j c hc => ⟨(h5 j c hc).1, (h5 j c hc).2.mono M⟩, fun hz j hj => .inl (h6 hz j hj), fun hz o h => ?_⟩
    rcases h with h | h
    · exact h7 hz o h
    · have h3 := hnew _ _ h
      have h4 := hlt h1
      change x.w.heap.size ≤ x.μ id at h3
      omega
theorem rv_rowed {rows : List DV} (hn : rows.length = n) (hrows : ∀ r ∈ rows, r.cells.length = s) (hfl : flat rows = xs.map .val) (hpl : ∀ u ∈ xs, plainV u = true ∧ (DV.val u).pure1 = true) (hr : w'.ownsRow x.w.heap.size e s v n xs) : RV (x.rowed w' v (n * s)) (.sl rows none ⟨false, none⟩) v := by
  have hlen := hr.1
  have hcell : ∀ (j : Nat) (c : DV), (flat rows)[j]? = some c → ∃ u, xs[j]? = some u ∧ c = DV.val u ∧ plainV u = true ∧ c.pure1 = true := by grind
  subst hn
  rcases hr.2 with ⟨rfl, h0⟩ | ⟨g, cap, cur, rfl, hb, hg, hn, hc, hcs, ht⟩
  · have hrn : rows = [] := List.eq_nil_of_length_eq_zero h0
    subst hrn
    exact RV.sl (rows := []) (A := none) (cap := 0) (s := 0) (vs := fun _ => undef) ⟨by simp, by simp [flat]⟩ (by simp [flat]) (Nat.le_refl _) ⟨fun _ => rfl, fun b h => nomatch h⟩ (fun _ => rfl) (fun _ h _ => by cases h) (fun t ht => by cases ht)
  · have hget : ∀ j u, xs[j]? = some u → cur[j]? = some u ∧ j < rows.length * s := by
      intro j u hu
      rw [← ht, List.getElem?_take] at hu
      split at hu
      · grind
      · cases hu
    refine RV.sl (s := s) (vs := fun j => xs.getD j undef) ⟨hrows, fun j c hcj => ?_⟩ (fun j c hcj => ?_) hn ⟨by simp, fun b h => nomatch h⟩ (by simp) (fun ad h _ => by cases h; rfl) (fun t ht => nomatch ht)
    · obtain ⟨u, h1, rfl, h2, h3⟩ := hcell j c hcj
      obtain ⟨h4, h5⟩ := hget j u h1
      refine ⟨h3, g, 0, rfl, .inr ⟨rfl, by omega⟩, ?_⟩
      simp [World.cell?, Cx.rowed, hg, h4, List.getD_eq_getElem?_getD, h1]
    · obtain ⟨u, h1, rfl, h2, h3⟩ := hcell j c hcj
      simp only [List.getD_eq_getElem?_getD, h1, Option.getD_some]
      exact .val h2
end
def intsD : List DV → Option (List Int)
  | [] => some []
  | .val (.int .i64 n) :: l => (intsD l).map (n :: ·)
  | _ => none
def rowD : DV → Option (List Int)
  | .sl rows _ _ => intsD rows
  | _ => none
def rowsD : List DV → Option (List (List Int))
  | [] => some []
  | d :: l => match rowD d, rowsD l with
    | some r, some rs => some (r :: rs)
    | _, _ => none
def wkD : DV → Option Wk
  | .agg [_, _, .val (.int .i64 wear), l, u0, l0, u1, l1, u2, l2, u3, l3] => match rowD l, rowsD [u0, u1, u2, u3], rowsD [l0, l1, l2, l3] with
    | some l, some us, some ls => some ⟨l, wear, fun i => us.getD i [], fun i => ls.getD i []⟩
    | _, _, _ => none
  | _ => none
def htsB (l : List Int) : Bool := decide (l.length ≤ 1000) && l.all fun x => decide (0 ≤ x) && decide (x ≤ 9)
def ascB : List Int → Bool
  | [] => true
  | a :: l => l.all (fun b => decide (a < b)) && ascB l
def wkB (d : Wk) : Bool := decide (d.lies.length ≤ 1000) && d.lies.all (fun x => decide (0 ≤ x) && decide (x ≤ 3)) && decide (0 ≤ d.wear) && decide (d.wear ≤ 1000) &&
  (List.range 4).all (fun i => htsB (d.up i) && htsB (d.lo i)) && ascB d.lies
def smD (m : Sm) : DV := .agg [.val (.int .i64 m.1), .val (.int .i64 m.2.1), .val (.int .i64 m.2.2)]
def seamsD (a b : DV) : Option DV := match wkD a, wkD b with
  | some da, some db => if wkB da && wkB db then some (.sl ((seamsM da db).map smD) none ⟨false, none⟩) else none
  | _, _ => none
theorem htsB_ok {l : List Int} (h : htsB l = true) : Hts l := by
  simp only [htsB, Bool.and_eq_true, decide_eq_true_eq, List.all_eq_true] at h
  exact ⟨h.1, fun i x hx => h.2 x (List.mem_of_getElem? hx)⟩
theorem ascB_ok : ∀ {l : List Int}, ascB l = true → Asc l
  | [], _ => List.Pairwise.nil
  | a :: l, h => by
    simp only [ascB, Bool.and_eq_true, List.all_eq_true, decide_eq_true_eq] at h
    exact List.Pairwise.cons h.1 (ascB_ok h.2)
theorem rowsD_len : ∀ {l : List DV} {r : List (List Int)}, rowsD l = some r → r.length = l.length ∧ ∀ i : Nat, ∀ d, l[i]? = some d → rowD d = some (r.getD i [])
  | [], r, h => by cases h; simp
  | d :: l, r, h => by
    simp only [rowsD] at h
    split at h
    · rename_i r1 rs h1 h2
      cases h
      obtain ⟨h3, h4⟩ := rowsD_len h2
      refine ⟨by simp [h3], fun i d' hd => ?_⟩
      cases i with
      | zero => simp at hd; subst hd; simpa using h1
      | succ i => simp at hd; simpa using h4 i d' hd
    · cases h
theorem intsD_get : ∀ {l : List DV} {r : List Int}, intsD l = some r → r.length = l.length ∧ (∀ (i : Nat) (n : Int), r[i]? = some n → l[i]? = some (.val (.int .i64 n))) ∧ flat l = l
  | [], r, h => by cases h; simp [flat]
  | .val (.int .i64 n) :: l, r, h => by
    simp only [intsD, Option.map_eq_some_iff] at h
    obtain ⟨r', h1, rfl⟩ := h
    obtain ⟨h2, h3, h4⟩ := intsD_get h1
    refine ⟨by simp [h2], fun i m hm => ?_, ?_⟩
    · grind
    · simp only [flat, List.flatMap_cons, DV.cells] at h4 ⊢
      rw [h4]
      rfl
def oldG (w : World) : So := (fun b => b < w.heap.size, fun _ => False)
theorem rv_ils {d : DV} {r : List Int} {v : Value} (hd : rowD d = some r) (h : RV x d v) : Ils (oldG x.w) x.w v r := by
  unfold rowD at hd
  split at hd
  · rename_i rows tok f
    obtain ⟨h1, h2, h3⟩ := intsD_get hd
    cases h with
    | @sl _ _ _ A cap s vs hv hr k1 k2 k3 k4 k5 =>
      refine ⟨A, cap, by rw [h1], fun i n hn => ?_⟩
      have hc : (flat rows)[i]? = some (.val (.int .i64 n)) := by rw [h3]; exact h2 i n hn
      obtain ⟨-, b, o, q1, q2, q3⟩ := hv.2 i _ hc
      have := hr i _ hc
      generalize vs i = u at *
      cases this with
      | val _ =>
        refine ⟨_, q1, ?_⟩
        rw [addr_add]
        exact ⟨.inl (World.block_lt_of_cell? _ ⟨b, o + i, none⟩ q3), q3⟩
  · cases hd
theorem wkD_ok {d : DV} {k : Wk} {v : Value} (hd : wkD d = some k) (h : RV x d v) : ∃ ca, v = .agg ca ∧ WorkV (oldG x.w) x.w ca k := by
  unfold wkD at hd
  split at hd
  · rename_i c0 c1 wear l u0 l0 u1 l1 u2 l2 u3 l3
    split at hd
    · rename_i lr us ls h1 h2 h3
      cases hd
      cases h with
      | @agg _ ca hsz hc =>
        refine ⟨ca, rfl, ?_⟩
        have hget : ∀ (j : Nat) d, ([c0, c1, .val (.int .i64 wear), l, u0, l0, u1, l1, u2, l2, u3, l3] : List DV)[j]? = some d → ∃ u, ca[j]? = some u ∧ RV x d u := by
          intro j d hj
          have hlt : j < ca.size := by rw [hsz]; exact (List.getElem?_eq_some_iff.1 hj).1
          have := hc j d hj
          simp only [Array.getD_eq_getD_getElem?, Array.getElem?_eq_getElem hlt, Option.getD_some] at this
          exact ⟨ca[j], Array.getElem?_eq_getElem hlt, this⟩
        obtain ⟨-, hu⟩ := rowsD_len h2
        obtain ⟨-, hl⟩ := rowsD_len h3
        refine ⟨?_, ?_, fun i hi => ?_, fun i hi => ?_⟩
        · obtain ⟨u, q1, q2⟩ := hget 2 _ rfl
          cases q2
          exact q1
        · obtain ⟨u, q1, q2⟩ := hget 3 _ rfl
          exact ⟨u, q1, rv_ils h1 q2⟩
        · have : i = 0 ∨ i = 1 ∨ i = 2 ∨ i = 3 := by omega
          rcases this with rfl | rfl | rfl | rfl
          · obtain ⟨u, q1, q2⟩ := hget 4 _ rfl; exact ⟨u, q1, rv_ils (hu 0 _ rfl) q2⟩
          · obtain ⟨u, q1, q2⟩ := hget 6 _ rfl; exact ⟨u, q1, rv_ils (hu 1 _ rfl) q2⟩
          · obtain ⟨u, q1, q2⟩ := hget 8 _ rfl; exact ⟨u, q1, rv_ils (hu 2 _ rfl) q2⟩
          · obtain ⟨u, q1, q2⟩ := hget 10 _ rfl; exact ⟨u, q1, rv_ils (hu 3 _ rfl) q2⟩
        · have : i = 0 ∨ i = 1 ∨ i = 2 ∨ i = 3 := by omega
          rcases this with rfl | rfl | rfl | rfl
          · obtain ⟨u, q1, q2⟩ := hget 5 _ rfl; exact ⟨u, q1, rv_ils (hl 0 _ rfl) q2⟩
          · obtain ⟨u, q1, q2⟩ := hget 7 _ rfl; exact ⟨u, q1, rv_ils (hl 1 _ rfl) q2⟩
          · obtain ⟨u, q1, q2⟩ := hget 9 _ rfl; exact ⟨u, q1, rv_ils (hl 2 _ rfl) q2⟩
          · obtain ⟨u, q1, q2⟩ := hget 11 _ rfl; exact ⟨u, q1, rv_ils (hl 3 _ rfl) q2⟩
    · cases hd
  · cases hd
theorem wkD_far {d : DV} {k : Wk} (hd : wkD d = some k) : ∀ i, 4 ≤ i → k.up i = [] ∧ k.lo i = [] := by
  unfold wkD at hd
  split at hd
  · split at hd
    · rename_i lr us ls h1 h2 h3
      cases hd
      have h4 := (rowsD_len h2).1
      have h5 := (rowsD_len h3).1
      simp only [List.length_cons, List.length_nil] at h4 h5
      intro i hi
      simp only [List.getD_eq_getElem?_getD]
      rw [List.getElem?_eq_none (by omega), List.getElem?_eq_none (by omega)]
      exact ⟨rfl, rfl⟩
    · cases hd
  · cases hd
theorem wkB_ok {d : DV} {k : Wk} (hd : wkD d = some k) (h : wkB k = true) : k.ok ∧ Asc k.lies := by
  simp only [wkB, Bool.and_eq_true, decide_eq_true_eq, List.all_eq_true] at h
  obtain ⟨⟨⟨⟨⟨h1, h2⟩, h3⟩, h4⟩, h5⟩, h6⟩ := h
  have far := wkD_far hd
  refine ⟨⟨h1, fun i x hx => h2 x (List.mem_of_getElem? hx), ⟨h3, h4⟩, fun i => ?_, fun i => ?_⟩, ascB_ok h6⟩
  · rcases Nat.lt_or_ge i 4 with hi | hi
    · exact htsB_ok (h5 i (by simpa using hi)).1
    · rw [(far i hi).1]; exact ⟨by simp, by simp⟩
  · rcases Nat.lt_or_ge i 4 with hi | hi
    · exact htsB_ok (h5 i (by simpa using hi)).2
    · rw [(far i hi).2]; exact ⟨by simp, by simp⟩
theorem flat_smD (l : List Sm) : flat (l.map smD) = (l.flatMap smC).map .val := by
  induction l with
  | nil => rfl
  | cons m l ih =>
    simp only [flat, List.map_cons, List.flatMap_cons, List.map_append] at ih ⊢
    rw [ih]
    rfl
theorem seams_known {a b d : DV} (h : seamsD a b = some d) {vals : Array Value} (hR : Rel x) (ha : RVs x [a, b] vals) : EnterOK Tryz.prog Final x 64 vals fun y u => y.S = x.S ∧ Rel y ∧ Mono x y ∧ RV y d u := by
  unfold seamsD at h
  split at h
  · rename_i da db h1 h2
    split at h
    · rename_i hb
      cases h
      simp only [Bool.and_eq_true] at hb
      obtain ⟨hda, haa⟩ := wkB_ok h1 hb.1
      obtain ⟨hdb, hab⟩ := wkB_ok h2 hb.2
      obtain ⟨hsz, hget⟩ := ha
      have e : vals = #[vals.getD 0 undef, vals.getD 1 undef] := by
        obtain ⟨l⟩ := vals
        match l, hsz with
        | [u, v], _ => rfl
      obtain ⟨ca, hca, hva⟩ := wkD_ok h1 (hget 0 _ rfl)
      obtain ⟨cb, hcb, hvb⟩ := wkD_ok h2 (hget 1 _ rfl)
      rw [hca, hcb] at e
      subst e
      have key := seams_k (Final := Final) hda hdb haa hab hva hvb
      refine enter_kcall plain_try (kcall_down (Post' := fun v w' => x.w.heap.size ≤ w'.heap.size ∧ (w'.os = x.w.os ∧ w'.output = x.w.output) ∧ (∀ b, b < x.w.heap.size → w'.heap[b]? = x.w.heap[b]?) ∧ w'.ownsRow x.w.heap.size 79 3 v (seamsM da db).length ((seamsM da db).flatMap smC)) (fun γ' v w w1 hp _ r => ?_) key) fun v w' hp => ?_
      · obtain ⟨hk, ho⟩ := hp
        refine ⟨Nat.le_trans hk.size r.1, ⟨r.2.2.2.1.trans hk.env.1, r.2.2.2.2.trans hk.env.2⟩, fun b hb => ?_, (ho.rely r).1⟩
        have hall : (oldG x.w).all b := .inl hb
        exact (r.2.1 b (hk.all hall)).trans (hk.blk b hall hb)
      · obtain ⟨p1, p2, p3, p4⟩ := hp
        refine ⟨x.rowed w' v ((seamsM da db).length * 3), rfl, rfl, rel_rowed hR p1 p2 p3 p4, mono_rowed hR p1 p2 p3 p4, rv_rowed (by simp) (fun r hr => ?_) (flat_smD _) (fun u hu => ?_) p4⟩
        · simp only [List.mem_map] at hr
          obtain ⟨m, -, rfl⟩ := hr
          rfl
        · simp only [List.mem_flatMap, smC, List.mem_cons, List.not_mem_nil, or_false] at hu
          obtain ⟨m, -, rfl | rfl | rfl⟩ := hu <;> exact ⟨rfl, rfl⟩
    · cases h
  · cases h
end Go.Di
end
section
namespace Go.Proofs
open Go.Shelf Go.RowKit Go.Lib Go.Sort
def Tryz.layClone_ren : Go.Shelf.Ren := ⟨fun | 41 => 59 | n => n, fun | 22 => 23 | 23 => 3 | 4 => 4 | n => n, fun | n => n⟩
theorem Tryz.layClone : Go.Proofs.SlLaysN.n41 Tryz.prog Tryz.layClone_ren := {
  mixed := by kernel_rfl
  f41 := ⟨Tryz.f59.name, by decide, Tryz.func59.trans (congrArg some (by kernel_rfl))⟩
  t4 := Tryz.underlying4
  a4 := Tryz.isAgg4
  z4 := Tryz.sizeOf4
  v4 := Tryz.zeroValue4
  t22 := Tryz.underlying23
  a22 := Tryz.isAgg23
  z22 := Tryz.sizeOf23
  v22 := Tryz.zeroValue23
  t23 := Tryz.underlying3
  a23 := Tryz.isAgg3
  z23 := Tryz.sizeOf3
  v23 := Tryz.zeroValue3
  i23 := by kernel_rfl }
def Tryz.layReverse_ren : Go.Shelf.Ren := ⟨fun | 35 => 143 | n => n, fun | 22 => 23 | 23 => 3 | 3 => 3 | 4 => 4 | 0 => 0 | n => n, fun | n => n⟩
theorem Tryz.layReverse : Go.Proofs.SlLaysN.n35 Tryz.prog Tryz.layReverse_ren := {
  mixed := by kernel_rfl
  f35 := ⟨Tryz.f143.name, by decide, Tryz.func143.trans (congrArg some (by kernel_rfl))⟩
  t0 := Tryz.underlying0
  a0 := Tryz.isAgg0
  z0 := Tryz.sizeOf0
  v0 := Tryz.zeroValue0
  t3 := Tryz.underlying3
  a3 := Tryz.isAgg3
  z3 := Tryz.sizeOf3
  v3 := Tryz.zeroValue3
  t4 := Tryz.underlying4
  a4 := Tryz.isAgg4
  z4 := Tryz.sizeOf4
  v4 := Tryz.zeroValue4
  t22 := Tryz.underlying23
  a22 := Tryz.isAgg23
  z22 := Tryz.sizeOf23
  v22 := Tryz.zeroValue23
  t23 := Tryz.underlying3
  a23 := Tryz.isAgg3
  z23 := Tryz.sizeOf3
  v23 := Tryz.zeroValue3 }
set_option maxHeartbeats 1000000 in
theorem Tryz.rev_any (b off n c : Nat) (zs : List Int) (w : World) (hz : n ≤ zs.length) (hbig : n * 8 ≤ 140737488355328) (hc : ∀ j, j < zs.length → w.cell? ⟨b, off + j, none⟩ = some (.int .i64 (zs.getD j 0))) :
    Calls Tryz.prog 124 #[.slice (some ⟨b, off, none⟩) n c] w fun e w' => ∃ v', e = .returned v' ∧ w'.ownsRow w.heap.size 3 1 v' n ((zs.take n).reverse.map (Value.int .i64)) ∧ Below w.heap.size w w' := by
  have hclone := AnyG.slices_Clone_int Tryz.layClone b off n c zs w hz hbig hc
  clear hc
  go_enter Tryz.func124, Tryz.ntmps124
  go_wp2_with (first
    | (go_at_call 59; refine hclone.mono ?_; rintro e w1 ⟨v1, rfl, hown, hnn, hbel⟩
       obtain ⟨g, cap, rfl, hbg, _, _, hcm, hlen, hH⟩ := Lib.holds_of_ownsRow hown hnn
       have hrev := AnyG.slices_Reverse_int Tryz.layReverse g 0 cap (zs.take n) w1 hH (by unfold maxLen at hcm; omega)
       rw [hlen] at hrev
       have X : Aside (w1.ownsRow w.heap.size 3 1 (.slice (some ⟨g, 0, none⟩) n cap) n ((zs.take n).map (Value.int .i64)) ∧ Below w.heap.size w w1 ∧ w.heap.size ≤ g) := ⟨hown, hbel, hbg⟩
       clear hown hbel hH hnn)
    | (go_at_call 143; refine hrev.mono ?_; rintro e w2 ⟨rfl, q, rfl⟩))
  go_ret
  have hy : (zs.take n).reverse.length = n := by simpa using hlen
  have h1 := Lib.ownsRow_putRow (q := q) (ys := (zs.take n).reverse) X.out.1 hy (Nat.le_refl n)
  rw [List.take_of_length_le (Nat.le_of_eq hy)] at h1
  exact ⟨_, rfl, by simpa [List.map_reverse, List.map_take] using h1, Lib.below_putRow X.out.2.1 X.out.2.2⟩
theorem Tryz.rev_zero (a : Addr) (c : Nat) (w : World) :
    Calls Tryz.prog 124 #[.slice (some a) 0 c] w fun e w' => ∃ v', e = .returned v' ∧ w'.ownsRow w.heap.size 3 1 v' 0 [] ∧ Below w.heap.size w w' := by
  have hclone := AnyG.slices_Clone_int_zero Tryz.layClone a c w
  go_enter Tryz.func124, Tryz.ntmps124
  go_wp2_with (first
    | (go_at_call 59; refine hclone.mono ?_; rintro e w1 ⟨v1, rfl, hown, hnn, hbel⟩
       obtain ⟨g, cap, rfl, _, _, _, _, _, _⟩ := Lib.holds_of_ownsRow (enc := Value.int .i64) (zs := []) hown hnn
       have X : Aside (w1.ownsRow w.heap.size 3 1 (.slice (some ⟨g, 0, none⟩) 0 cap) 0 [] ∧ Below w.heap.size w w1) := ⟨hown, hbel⟩
       clear hown hbel hnn)
    | (go_at_call 143; refine (AnyG.slices_Reverse_int_empty Tryz.layReverse _ _ _).mono ?_; rintro e w2 ⟨rfl, rfl⟩))
  go_ret
  exact ⟨_, rfl, X.out.1, X.out.2⟩
theorem Tryz.rev_nil (n c : Nat) (w : World) :
    Calls Tryz.prog 124 #[.slice none n c] w fun e w' => e = .returned (.slice none 0 0) ∧ w' = w := by
  go_enter Tryz.func124, Tryz.ntmps124
  go_wp2_with (first
    | (go_at_call 59; refine (AnyG.slices_Clone_int_nil Tryz.layClone n c _).mono ?_; rintro e w' ⟨rfl, rfl⟩)
    | (go_at_call 143; refine (AnyG.slices_Reverse_int_empty Tryz.layReverse none 0 _).mono ?_; rintro e w' ⟨rfl, rfl⟩))
  go_ret
  exact ⟨rfl, rfl⟩
end Go.Proofs
namespace Go.Di
open Go Go.Conc Go.Co Go.Proofs
variable {P : Program} {Final : Machine → Trace → Prop} {x : Cx}
theorem enter_calls {g : FuncId} {vals : Array Value} {fn : Func} {c : Code} {R : Value → World → Prop} (hP : Plain P) (hf : P.funcs[g]? = some fn) (hb : fn.body = some c) (hcall : ∀ τ, Calls P g vals (x.w.re τ 0) fun e w' => ∃ v, e = .returned v ∧ R v w')
    {Post : Cx → Value → Prop} (hq : ∀ v w', R v w' → ∀ τ d, ∃ y : Cx, y.w = w'.re τ d ∧ Post y v) : EnterOK P Final x g vals Post := by
  refine ⟨⟨fn, c, hf, hb⟩, fun fr cs hc => km_lone hP fun _ τ => ?_⟩
  obtain ⟨e, w', fr', ⟨v, rfl, hR⟩, hcomes, hfn, hleave⟩ := hcall τ (fr :: cs)
  obtain ⟨n, hn⟩ := Steps.trans hcomes (Steps.one (step_leave_returned hleave))
  refine ⟨n, _, w', hn, rfl, rfl, fun τ d => ?_⟩
  obtain ⟨y, hy, hp⟩ := hq v w' hR τ d
  have := hc y v hp
  rw [hy] at this
  exact this
def revD : DV → Option DV
  | .sl rows _ _ => match intsD rows with
    | some l => if l.length ≤ 1000000 then some (.sl (l.reverse.map fun n => .val (.int .i64 n)) none ⟨false, none⟩) else none
    | none => none
  | _ => none
theorem flat_vals (l : List Value) : flat (l.map DV.val) = l.map DV.val := by
  induction l with
  | nil => rfl
  | cons m l ih =>
    simp only [flat, List.map_cons, List.flatMap_cons] at ih ⊢
    rw [ih]
    rfl
theorem rev_known {a d : DV} (h : revD a = some d) {vals : Array Value} (hR : Rel x) (ha : RVs x [a] vals) : EnterOK Tryz.prog Final x 124 vals fun y u => y.S = x.S ∧ Rel y ∧ Mono x y ∧ RV y d u := by
  unfold revD at h
  split at h
  · rename_i rows tok f
    split at h
    · rename_i l hl
      split at h
      · rename_i hlen
        cases h
        obtain ⟨h1, h2, h3⟩ := intsD_get hl
        obtain ⟨hsz, hget⟩ := ha
        have e : vals = #[vals.getD 0 undef] := by
          obtain ⟨l⟩ := vals
          match l, hsz with
          | [u], _ => rfl
        have hv := hget 0 _ rfl
        generalize vals.getD 0 undef = u at e hv
        subst e
        cases hv with
        | @sl _ _ _ A cap s vs hv hr k1 k2 k3 k4 k5 =>
          have hcall : ∀ τ, Calls Tryz.prog 124 #[.slice A rows.length cap] (x.w.re τ 0) fun e w' => ∃ v, e = .returned v ∧ (x.w.heap.size ≤ w'.heap.size ∧ (w'.os = x.w.os ∧ w'.output = x.w.output) ∧ (∀ b, b < x.w.heap.size → w'.heap[b]? = x.w.heap[b]?) ∧ w'.ownsRow x.w.heap.size 3 1 v l.length (l.reverse.map (Value.int .i64))) := by
            intro τ
            cases A with
            | none =>
              have h0 : rows.length = 0 := by have := k3 rfl; omega
              have hl0 : l = [] := List.eq_nil_of_length_eq_zero (by omega)
              subst hl0
              refine (Tryz.rev_nil rows.length cap (x.w.re τ 0)).mono ?_
              rintro e w' ⟨rfl, rfl⟩
              exact ⟨_, rfl, Nat.le_refl _, ⟨rfl, rfl⟩, fun _ _ => rfl, World.ownsRow_nil _ _ _ _⟩
            | some ad =>
              have hz : rows.length = l.length := h1.symm
              by_cases h0 : l.length = 0
              · have hl0 : l = [] := List.eq_nil_of_length_eq_zero h0
                subst hl0
                rw [hz]
                refine (Tryz.rev_zero ad cap (x.w.re τ 0)).mono ?_
                rintro e w' ⟨v, rfl, ho, hb⟩
                exact ⟨_, rfl, hb.size, ⟨hb.os, hb.output⟩, hb.block, ho⟩
              · have hs := k4 ad rfl (by omega)
                obtain ⟨b, o, sp⟩ := ad
                simp only at hs
                subst hs
                rw [hz]
                refine (Tryz.rev_any b o l.length cap l (x.w.re τ 0) (Nat.le_refl _) (by omega) fun j hj => ?_).mono ?_
                · have hc : (flat rows)[j]? = some (.val (.int .i64 (l.getD j 0))) := by
                    rw [h3]
                    refine h2 j _ ?_
                    simp [List.getD_eq_getElem?_getD, hj]
                  obtain ⟨-, b', o', q1, q2, q3⟩ := hv.2 j _ hc
                  cases q1
                  have := hr j _ hc
                  generalize vs j = u at *
                  cases this with
                  | val _ => exact q3
                · rintro e w' ⟨v, rfl, ho, hb⟩
                  rw [List.take_length] at ho
                  exact ⟨_, rfl, hb.size, ⟨hb.os, hb.output⟩, hb.block, ho⟩
          refine enter_calls plain_try Tryz.func124 rfl hcall fun v w' hp τ d => ?_
          obtain ⟨p1, p2, p3, p4⟩ : x.w.heap.size ≤ (w'.re τ d).heap.size ∧ ((w'.re τ d).os = x.w.os ∧ (w'.re τ d).output = x.w.output) ∧ (∀ b, b < x.w.heap.size → (w'.re τ d).heap[b]? = x.w.heap[b]?) ∧ (w'.re τ d).ownsRow x.w.heap.size 3 1 v l.length (l.reverse.map (Value.int .i64)) := hp
          refine ⟨x.rowed (w'.re τ d) v (l.length * 1), rfl, rfl, rel_rowed hR p1 p2 p3 p4, mono_rowed hR p1 p2 p3 p4, rv_rowed (by simp) (fun r hr => ?_) ?_ (fun u hu => ?_) p4⟩
          · simp only [List.mem_map] at hr
            obtain ⟨m, -, rfl⟩ := hr
            rfl
          · have := flat_vals (l.reverse.map (Value.int .i64))
            simpa only [List.map_map, Function.comp_def] using this
          · simp only [List.mem_map] at hu
            obtain ⟨m, -, rfl⟩ := hu
            exact ⟨rfl, rfl⟩
      · cases h
    · cases h
  · cases h
end Go.Di
end
