/- The law CutKnown: part 9: Co2b Co2c. By an AI agent. -/
import Derived.Test.YtadeehilamokkaaGreatDoorPk08
section
namespace Go.Co
open Go
section
variable {P : Program}
instance (t : TypeId) (h : Bool) (v : Value) : TC P (Instr.alloc t h v) := ⟨by
  unfold Instr.alloc
  exact tgo⟩
instance (v : Value) : TC P (Instr.sureAddr v) := ⟨by
  unfold Instr.sureAddr
  exact tgo⟩
instance (t : TypeId) (v : Value) : TC P (Instr.loadAt t v) := ⟨by
  unfold Instr.loadAt
  exact tgo⟩
instance (t : TypeId) (v u : Value) : TC P (Instr.storeAt t v u) := ⟨by
  unfold Instr.storeAt
  exact tgo⟩
instance (t : TypeId) (v : Value) (n : Nat) : TC P (Instr.fieldAt t v n) := ⟨by
  unfold Instr.fieldAt
  exact tgo⟩
instance (t : TypeId) (v u : Value) : TC P (Instr.indexAt t v u) := ⟨by
  unfold Instr.indexAt
  exact tgo⟩
instance (v : Value) (n : Nat) (c : BoundsCode) : TC P (Instr.sliceBound v n c) := ⟨by
  unfold Instr.sliceBound
  exact tgo⟩
instance (b : Bool) (n m : Nat) (x y z : Option Value) : TC P (Instr.sliceBounds b n m x y z) := ⟨by
  unfold Instr.sliceBounds
  exact tgo⟩
instance (t : TypeId) (v : Value) (x y z : Option Value) : TC P (Instr.slice t v x y z) := ⟨by
  unfold Instr.slice
  exact tgo⟩
instance (t : TypeId) (v : Value) (x y z : Option Value) : TC P (Instr.sliceAt t v x y z) := ⟨by
  unfold Instr.sliceAt
  exact tgo⟩
instance (t : TypeId) (v : Value) : TC P (Instr.arrayAt t v) := ⟨by
  unfold Instr.arrayAt
  exact tgo⟩
instance (t : TypeId) (v : Value) : TC P (Instr.box t v) := ⟨by
  unfold Instr.box
  exact tgo⟩
instance (t : TypeId) (p : Array (Nat × Value)) : TC P (Instr.build t p) := ⟨by
  unfold Instr.build
  exact tgo⟩
instance (t : TypeId) (n : Nat) (p : Array (Nat × Value)) : TC P (Instr.buildSlice t n p) := ⟨by
  unfold Instr.buildSlice
  exact tgo⟩
instance (g : Nat) : TC P (Instr.waits g) := ⟨by
  unfold Instr.waits
  exact tgo⟩
instance (g : Nat) : TC P (Instr.ready g) := ⟨by
  unfold Instr.ready
  exact tgo⟩
instance (t : TypeId) (v : Value) : TC P (Instr.makeInterface t v) := ⟨by
  unfold Instr.makeInterface
  exact tgo⟩
instance (f : Fn) (a b : Array Value) : TC P (Instr.makeFunc f a b) := ⟨by
  unfold Instr.makeFunc
  exact tgo⟩
instance (t : TypeId) (r : Option Value) : TC P (Instr.makeMap t r) := ⟨by
  unfold Instr.makeMap
  exact tgo⟩
instance (t : TypeId) (v : Value) : TC P (Instr.makeChan t v) := ⟨by
  unfold Instr.makeChan
  exact tgo⟩
instance (t : TypeId) (v u : Value) : TC P (Instr.makeSlice t v u) := ⟨by
  unfold Instr.makeSlice
  exact tgo⟩
instance (t : TypeId) (v : Value) (n : Nat) : TC P (Instr.field t v n) := ⟨by
  unfold Instr.field
  exact tgo⟩
instance (t : TypeId) (v u : Value) : TC P (Instr.index t v u) := ⟨by
  unfold Instr.index
  exact tgo⟩
instance (v : Value) (n : Nat) : TC P (Instr.extract v n) := ⟨by
  unfold Instr.extract
  exact tgo⟩
instance (a b : Addr) : TC P (Op.twoPlaces a b) := ⟨by
  unfold Op.twoPlaces
  exact tgo⟩
instance (k : IntKind) (a b : Addr) : TC P (Op.addrSub k a b) := ⟨by
  unfold Op.addrSub
  exact tgo⟩
instance (o : BinOp) (a b : Addr) : TC P (Op.addrCmp o a b) := ⟨by
  unfold Op.addrCmp
  exact tgo⟩
instance (k : IntKind) (a : Addr) (n : Int) : TC P (Op.addrMod k a n) := ⟨by
  unfold Op.addrMod
  exact tgo⟩
instance (o : BinOp) (a b : ByteArray) : TC P (Op.stringOp o a b) := ⟨by
  unfold Op.stringOp
  exact tgo⟩
instance (o : BinOp) (k : IntKind) (x : Int) (l : IntKind) (y : Int) : TC P (Op.shift o k x l y) := ⟨by
  unfold Op.shift
  exact tgo⟩
instance (o : BinOp) (k : IntKind) (x y : Int) : TC P (Op.intDiv o k x y) := ⟨by
  unfold Op.intDiv
  exact tgo⟩
instance (o : BinOp) (k : IntKind) (x y : Int) : TC P (Op.intArith o k x y) := ⟨by
  unfold Op.intArith
  exact tgo⟩
instance (o : BinOp) (k : IntKind) (x y : Int) : TC P (Op.intBits o k x y) := ⟨by
  unfold Op.intBits
  exact tgo⟩
instance (o : BinOp) (x y : Int) : TC P (Op.intCmp o x y) := ⟨by
  unfold Op.intCmp
  exact tgo⟩
instance (o : BinOp) (k : FloatKind) (x y : Nat) : TC P (Op.floatArith o k x y) := ⟨by
  unfold Op.floatArith
  exact tgo⟩
instance (o : BinOp) (k : FloatKind) (x y : Nat) : TC P (Op.floatCmp o k x y) := ⟨by
  unfold Op.floatCmp
  exact tgo⟩
instance (o : UnOp) (v : Value) : TC P (Op.unary o v) := ⟨by
  unfold Op.unary
  exact tgo⟩
instance (k : FloatKind) (n : Nat) (l : FloatKind) : TC P (Conv.floatToFloat k n l) := ⟨by
  unfold Conv.floatToFloat
  exact tgo⟩
instance (o : BinOp) (k : FloatKind) (x y : Nat) : TC P (Op.Complex.arith o k x y) := ⟨by
  unfold Op.Complex.arith
  exact tgo⟩
instance (o : BinOp) (k : FloatKind) (x y : Nat) : TC P (Op.Complex.cmp o k x y) := ⟨by
  unfold Op.Complex.cmp
  exact tgo⟩
instance (k : FloatKind) (n : Nat) (l : FloatKind) : TC P (Op.Complex.conv k n l) := ⟨by
  unfold Op.Complex.conv
  exact tgo⟩
instance (x y : Nat) : TC P (Op.Complex.add x y) := ⟨by
  unfold Op.Complex.add
  exact tgo⟩
instance (x y : Nat) : TC P (Op.Complex.sub x y) := ⟨by
  unfold Op.Complex.sub
  exact tgo⟩
instance (x y : Nat) : TC P (Op.Complex.mul x y) := ⟨by
  unfold Op.Complex.mul
  exact tgo⟩
instance (x y : Nat) : TC P (Op.Complex.quo x y) := ⟨by
  unfold Op.Complex.quo
  exact tgo⟩
instance (a b c d : Nat) : TC P (Op.Complex.product a b c d) := ⟨by
  unfold Op.Complex.product
  exact tgo⟩
instance (s a b c d : Nat) : TC P (Op.Complex.corrected s a b c d) := ⟨by
  unfold Op.Complex.corrected
  exact tgo⟩
instance (a b c d : Nat) : TC P (Op.Complex.quotient a b c d) := ⟨by
  unfold Op.Complex.quotient
  exact tgo⟩
instance (o : BinOp) (k : FloatKind) (a b c d : Nat) : TC P (Op.complexOp o k a b c d) := ⟨by
  unfold Op.complexOp
  exact tgo⟩
theorem t_equalIn : ∀ (d : Nat) (t : TypeId) (x y : Value), T1 P (Op.equalIn d t x y)
  | 0, _, _, _ => tm_unsupported _
  | d + 1, t, x, y => by
    have ih := t_equalIn d
    unfold Op.equalIn
    exact tgo
instance (d : Nat) (t : TypeId) (x y : Value) : TC P (Op.equalIn d t x y) := ⟨t_equalIn d t x y⟩
instance (t : TypeId) (x y : Value) : TC P (Op.equal t x y) := ⟨by
  unfold Op.equal
  exact tgo⟩
theorem t_eqGuardIn : ∀ (d : Nat) (t : TypeId) (x y : Value), T1 P (Op.eqGuardIn d t x y)
  | 0, _, _, _ => tm_unsupported _
  | d + 1, t, x, y => by
    have ih := t_eqGuardIn d
    unfold Op.eqGuardIn
    exact tgo
instance (d : Nat) (t : TypeId) (x y : Value) : TC P (Op.eqGuardIn d t x y) := ⟨t_eqGuardIn d t x y⟩
theorem t_checkKey (b : Bool) : ∀ (d : Nat) (t : TypeId) (x : Value), T1 P (Instr.checkKey b d t x)
  | 0, _, _ => tm_unsupported _
  | d + 1, t, x => by
    have ih := t_checkKey b d
    unfold Instr.checkKey
    exact tgo
instance (b : Bool) (d : Nat) (t : TypeId) (x : Value) : TC P (Instr.checkKey b d t x) := ⟨t_checkKey b d t x⟩
theorem t_findAsking (t : TypeId) (k : Value) : ∀ (l : List MapEntry) (i : Nat), T1 P (Instr.findAsking t k l i)
  | [], _ => tm_pure trivial
  | e :: es, i => by
    have ih := t_findAsking t k es
    unfold Instr.findAsking
    exact tgo
instance (t : TypeId) (k : Value) (l : List MapEntry) (i : Nat) : TC P (Instr.findAsking t k l i) := ⟨t_findAsking t k l i⟩
instance (t : TypeId) (k : Value) (l : List MapEntry) : TC P (Instr.findKey t k l) := ⟨by
  unfold Instr.findKey
  exact tgo⟩
instance (t : TypeId) (x y : Value) (b : Bool) : TC P (Instr.lookup t x y b) := ⟨by
  unfold Instr.lookup
  exact tgo⟩
instance (x y : Value) : TC P (Instr.keyThatStays x y) := ⟨by
  unfold Instr.keyThatStays
  exact tgo⟩
instance (t : TypeId) (x y z : Value) : TC P (Instr.mapUpdate t x y z) := ⟨by
  unfold Instr.mapUpdate
  exact tgo⟩
instance (t : TypeId) (x y : Value) : TC P (Instr.mapEntry t x y) := ⟨by
  unfold Instr.mapEntry
  exact tgo⟩
instance (t : TypeId) (x y z : Value) : TC P (Instr.entryStore t x y z) := ⟨by
  unfold Instr.entryStore
  exact tgo⟩
instance (t : TypeId) (x : Value) : TC P (Instr.range t x) := ⟨by
  unfold Instr.range
  exact tgo⟩
instance (x : Value) (b : Bool) (t : TypeId) : TC P (Instr.next x b t) := ⟨by
  unfold Instr.next
  exact tgo⟩
instance (x : Value) : TC P (Instr.entry x) := ⟨by
  unfold Instr.entry
  exact tgo⟩
instance (x : Value) (t u : TypeId) (b : Bool) : TC P (Instr.typeAssert x t u b) := ⟨by
  unfold Instr.typeAssert
  exact tgo⟩
instance  : TC P (Instr.panicnil ) := ⟨by
  unfold Instr.panicnil
  exact tgo⟩
instance (x : Value) : TC P (Instr.panic x) := ⟨by
  unfold Instr.panic
  exact tgo⟩
instance (l : Nat) : TC P (Instr.getLoop l) := ⟨by
  unfold Instr.getLoop
  exact tgo⟩
instance (f : FuncId) (t : Array Value) (p : Array Tmp) (a b : Code) (r : Option Nat) : TC P (Instr.enterLoop f t p a b r) := ⟨by
  unfold Instr.enterLoop
  exact tgo⟩
instance (l : Nat) : TC P (Instr.beginRound l) := ⟨by
  unfold Instr.beginRound
  exact tgo⟩
instance (l : Nat) (j : Option Code) : TC P (Instr.endRound l j) := ⟨by
  unfold Instr.endRound
  exact tgo⟩
instance (l : Nat) : TC P (Instr.endLoop l) := ⟨by
  unfold Instr.endLoop
  exact tgo⟩
instance (l : Nat) (d : Deferred) : TC P (Instr.deferInRound l d) := ⟨by
  unfold Instr.deferInRound
  exact tgo⟩
instance (b : Nat) : TC P (Instr.takeDeferred b) := ⟨by
  unfold Instr.takeDeferred
  exact tgo⟩
instance (a : Addr) (n : Nat) : TC P (Builtin.holdsCells a n) := ⟨by
  unfold Builtin.holdsCells
  exact tgo⟩
instance (s l n : Nat) (b : Option Addr) (x : Value) : TC P (Builtin.mayShare s l n b x) := ⟨by
  unfold Builtin.mayShare
  exact tgo⟩
instance (x : Value) : TC P (Builtin.lenOf x) := ⟨by
  unfold Builtin.lenOf
  exact tgo⟩
instance (s n : Nat) (x : Value) : TC P (Builtin.firstCells s n x) := ⟨by
  unfold Builtin.firstCells
  exact tgo⟩
instance (a : Array TypeId) (t : TypeId) (x : Array Value) : TC P (Builtin.append_ a t x) := ⟨by
  unfold Builtin.append_
  exact tgo⟩
instance (a : Array TypeId) (t : TypeId) (x : Array Value) : TC P (Builtin.cap_ a t x) := ⟨by
  unfold Builtin.cap_
  exact tgo⟩
instance (a : Array TypeId) (t : TypeId) (x : Array Value) : TC P (Builtin.clear_ a t x) := ⟨by
  unfold Builtin.clear_
  exact tgo⟩
instance (a : Array TypeId) (t : TypeId) (x : Array Value) : TC P (Builtin.close_ a t x) := ⟨by
  unfold Builtin.close_
  obtain ⟨l⟩ := x
  rcases l with _ | ⟨z, _ | ⟨y, l⟩⟩
  · exact tm_stuck _
  · cases z <;> first | exact tm_stuck _ | skip
    rename_i r
    cases r with
    | none => exact TC.out (s := runtimePanic _)
    | some r => show T1 P (_ >>= _); exact tgo
  · cases z <;> exact tm_stuck _⟩
instance (a : Array TypeId) (t : TypeId) (x : Array Value) : TC P (Builtin.complex_ a t x) := ⟨by
  unfold Builtin.complex_
  obtain ⟨l⟩ := x
  rcases l with _ | ⟨z, _ | ⟨y, _ | ⟨x, l⟩⟩⟩
  · exact tm_stuck _
  · cases z <;> exact tm_stuck _
  · cases z <;> first | exact tm_stuck _ | (cases y <;> first | exact tm_stuck _ | exact tm_ite (tm_pure trivial) (tm_stuck _))
  · cases z <;> first | exact tm_stuck _ | (cases y <;> exact tm_stuck _)⟩
instance (a : Array TypeId) (t : TypeId) (x : Array Value) : TC P (Builtin.copy_ a t x) := ⟨by
  unfold Builtin.copy_
  exact tgo⟩
instance (a : Array TypeId) (t : TypeId) (x : Array Value) : TC P (Builtin.delete_ a t x) := ⟨by
  unfold Builtin.delete_
  exact tgo⟩
instance (a : Array TypeId) (t : TypeId) (x : Array Value) : TC P (Builtin.imag_ a t x) := ⟨by
  unfold Builtin.imag_
  obtain ⟨l⟩ := x
  rcases l with _ | ⟨z, _ | ⟨y, l⟩⟩
  · exact tm_stuck _
  · cases z <;> first | exact tm_pure trivial | exact tm_stuck _
  · cases z <;> exact tm_stuck _⟩
instance (a : Array TypeId) (t : TypeId) (x : Array Value) : TC P (Builtin.len_ a t x) := ⟨by
  unfold Builtin.len_
  exact tgo⟩
instance (x y : Value) : TC P (Builtin.max2 x y) := ⟨by
  unfold Builtin.max2
  exact tgo⟩
instance (a : Array TypeId) (t : TypeId) (x : Array Value) : TC P (Builtin.max_ a t x) := ⟨by
  unfold Builtin.max_
  exact tgo⟩
instance (x y : Value) : TC P (Builtin.min2 x y) := ⟨by
  unfold Builtin.min2
  exact tgo⟩
instance (a : Array TypeId) (t : TypeId) (x : Array Value) : TC P (Builtin.min_ a t x) := ⟨by
  unfold Builtin.min_
  exact tgo⟩
instance (a : Array TypeId) (t : TypeId) (x : Array Value) : TC P (Builtin.real_ a t x) := ⟨by
  unfold Builtin.real_
  obtain ⟨l⟩ := x
  rcases l with _ | ⟨z, _ | ⟨y, l⟩⟩
  · exact tm_stuck _
  · cases z <;> first | exact tm_pure trivial | exact tm_stuck _
  · cases z <;> exact tm_stuck _⟩
instance (a : Array TypeId) (t : TypeId) (x : Array Value) : TC P (Builtin.ssaWrapNilChk_ a t x) := ⟨by
  unfold Builtin.ssaWrapNilChk_
  obtain ⟨l⟩ := x
  rcases l with _ | ⟨z, _ | ⟨y, _ | ⟨x, _ | ⟨v, l⟩⟩⟩⟩
  · exact tm_stuck _
  · exact tm_stuck _
  · cases y <;> exact tm_stuck _
  · cases y <;> first | exact tm_stuck _ | skip
    cases x <;> first | exact tm_stuck _ | skip
    cases z <;> first | exact tm_stuck _ | skip
    rename_i p
    cases p with
    | some p => exact tm_pure trivial
    | none => show T1 P (_ >>= _); exact tgo
  · cases y <;> first | exact tm_stuck _ | (cases x <;> exact tm_stuck _)⟩
instance (a : Array TypeId) (t : TypeId) (x : Array Value) : TC P (Builtin.unsafeAdd_ a t x) := ⟨by
  unfold Builtin.unsafeAdd_
  obtain ⟨l⟩ := x
  rcases l with _ | ⟨z, _ | ⟨y, _ | ⟨x, l⟩⟩⟩
  · exact tm_stuck _
  · cases z <;> exact tm_stuck _
  · cases z <;> first | exact tm_stuck _ | skip
    show T1 P (_ >>= _); exact tgo
  · cases z <;> exact tm_stuck _⟩
instance (a : Array TypeId) (t : TypeId) (x : Array Value) : TC P (Builtin.unsafeSlice_ a t x) := ⟨by
  unfold Builtin.unsafeSlice_
  obtain ⟨l⟩ := x
  rcases l with _ | ⟨z, _ | ⟨y, _ | ⟨x, l⟩⟩⟩
  · exact tm_stuck _
  · cases z <;> exact tm_stuck _
  · cases z <;> first | exact tm_stuck _ | skip
    show T1 P (_ >>= _); exact tgo
  · cases z <;> exact tm_stuck _⟩
instance (a : Array TypeId) (t : TypeId) (x : Array Value) : TC P (Builtin.unsafeSliceData_ a t x) := ⟨by
  unfold Builtin.unsafeSliceData_
  obtain ⟨l⟩ := x
  rcases l with _ | ⟨z, _ | ⟨y, l⟩⟩
  · exact tm_stuck _
  · cases z <;> first | exact tm_stuck _ | skip
    rename_i r n c
    cases r with
    | none => exact tm_pure trivial
    | some r => show T1 P (if c ≠ 0 then _ else _); exact tgo
  · cases z <;> exact tm_stuck _⟩
instance (a : Array TypeId) (t : TypeId) (x : Array Value) : TC P (Builtin.unsafeString_ a t x) := ⟨by
  unfold Builtin.unsafeString_
  obtain ⟨l⟩ := x
  rcases l with _ | ⟨z, _ | ⟨y, _ | ⟨x, l⟩⟩⟩
  · exact tm_stuck _
  · cases z <;> exact tm_stuck _
  · cases z <;> first | exact tm_stuck _ | skip
    show T1 P (_ >>= _); exact tgo
  · cases z <;> exact tm_stuck _⟩
instance (a : Array TypeId) (t : TypeId) (x : Array Value) : TC P (Builtin.unsafeStringData_ a t x) := ⟨by
  unfold Builtin.unsafeStringData_
  obtain ⟨l⟩ := x
  rcases l with _ | ⟨z, _ | ⟨y, l⟩⟩
  · exact tm_stuck _
  · cases z <;> first | exact tm_stuck _ | skip
    rename_i s
    show T1 P (if s.size = 0 then _ else _); exact tgo
  · cases z <;> exact tm_stuck _⟩
instance (k : IntKind) (n : Int) : TC P (Conv.intToInt k n) := ⟨by
  unfold Conv.intToInt
  exact tgo⟩
instance (k : FloatKind) (n : Int) : TC P (Conv.intToFloat k n) := ⟨by
  unfold Conv.intToFloat
  exact tgo⟩
instance (k : FloatKind) (n : Nat) (l : IntKind) : TC P (Conv.floatToInt k n l) := ⟨by
  unfold Conv.floatToInt
  exact tgo⟩
instance (k : FloatKind) (m n : Nat) (l : FloatKind) : TC P (Conv.complexToComplex k m n l) := ⟨by
  unfold Conv.complexToComplex
  exact tgo⟩
instance (n : Int) : TC P (Conv.intToString n) := ⟨by
  unfold Conv.intToString
  exact tgo⟩
instance (t : TypeId) (s : ByteArray) : TC P (Conv.stringToBytes t s) := ⟨by
  unfold Conv.stringToBytes
  exact tgo⟩
instance (t : TypeId) (s : ByteArray) : TC P (Conv.stringToRunes t s) := ⟨by
  unfold Conv.stringToRunes
  exact tgo⟩
instance (x : Value) : TC P (Conv.bytesToString x) := ⟨by
  unfold Conv.bytesToString
  exact tgo⟩
instance (x : Value) : TC P (Conv.runesToString x) := ⟨by
  unfold Conv.runesToString
  exact tgo⟩
instance (a : Addr) : TC P (Conv.seenAt a) := ⟨by
  unfold Conv.seenAt
  exact tgo⟩
instance (s d : TypeId) (x : Value) : TC P (Conv.unsafePointer s d x) := ⟨by
  unfold Conv.unsafePointer
  exact tgo⟩
instance (t : TypeId) (x y : Value) : TC P (movedNumber t x y) := ⟨by
  unfold movedNumber
  exact tgo⟩
instance (t : TypeId) (x y : Value) : TC P (movedPointer t x y) := ⟨by
  unfold movedPointer
  exact tgo⟩
instance (o : BinOp) (t : TypeId) (x y : Operand) (a b : Value) : TC P (eqGuard o t x y a b) := ⟨by
  unfold eqGuard
  exact tgo⟩
instance (o : BinOp) (t : TypeId) (x y : Value) : TC P (binOp o t x y) := ⟨by
  unfold binOp
  exact tgo⟩
instance (s d : TypeId) (x : Value) : TC P (convert s d x) := ⟨by
  unfold convert
  exact tgo⟩
end
end Go.Co
end
section
namespace Go.Co
open Go
def NextOk : Next → Prop
  | .callThen .. | .stack .. | .numGoroutine | .collect | .watch _ | .newcoro .. | .sleep _ | .timer _ | .alone .. => False
  | .row r _ => r = "runtime.print$piece"
  | _ => True
structure Plain (P : Program) : Prop where
  count : ∀ (f : FuncId) (fn : Func), P.funcs[f]? = some fn → (fn.name == "runtime.NumGoroutine") = false
  quiet : ∀ f : FuncId, (P.funcs[f]?).any (·.norace) = false
  next : ∀ (f : FuncId) (fn : Func), P.funcs[f]? = some fn → fn.body.isNone = true → Extern.findNext fn = none
  find : ∀ (f : FuncId) (fn : Func) (e : Array Value → Sem Value), P.funcs[f]? = some fn → fn.body.isNone = true → Extern.find fn = some e → ∀ args, T1 P (e args)
def Td (P : Program) {α : Type} (d d' : Nat) (s : Sem α) : Prop :=
  ∀ (w : World) (es : Array Event), deafBehind 0 es = d → match s.runT P w es with
    | (.ok _ _, es') => deafBehind 0 es' = d'
    | (.halt h _, _) => ¬ Loud h
section
variable {P : Program}
theorem td_bind {α β : Type} {d d' d'' : Nat} {s : Sem α} {f : α → Sem β} (h : Td P d d' s) (hf : ∀ a, Td P d' d'' (f a)) : Td P d d'' (s >>= f) := by
  intro w es he
  rw [runT_bind']
  have := h w es he
  revert this
  cases s.runT P w es with
  | mk r es' =>
    cases r with
    | ok a w' => exact fun hb => hf a w' es' hb
    | halt x w' => exact id
theorem td_pure {α : Type} {d : Nat} (a : α) : Td P d d (pure a) := fun _ _ he => he
theorem td_halt {α : Type} {d d' : Nat} {h : Halt} (hh : ¬ Loud h) : Td P d d' (Sem.halt h : Sem α) := fun _ _ _ => hh
theorem td_disable {d : Nat} : Td P d (d + 1) (mark .disable) := fun _ es he => by
  show deafBehind 0 (es.push _) = _
  rw [deafBehind_push, he]
theorem td_enable {d : Nat} : Td P (d + 1) d (mark .enable) := fun _ es he => by
  show deafBehind 0 (es.push _) = _
  rw [deafBehind_push, he]; rfl
theorem deafBehind_plain {d : Nat} {es es' : Array Event} (he : deafBehind 0 es = d) (h : ∀ e ∈ es', ∃ a, e.loc = .cell a) : deafBehind 0 (es ++ es') = d := by
  obtain ⟨l⟩ := es'
  rw [deafBehind_append, he]
  induction l with
  | nil => rfl
  | cons e l ih =>
    have e1 : (⟨e :: l⟩ : Array Event) = #[e] ++ ⟨l⟩ := by simp
    rw [e1, deafBehind_append]
    have : deafBehind d #[e] = d := by
      obtain ⟨a, ha⟩ := h e (by simp)
      have := deafBehind_push d #[] e
      rw [ha] at this
      exact this
    rw [this]
    exact ih fun x hx => h x (by simp at hx ⊢; exact .inr hx)
theorem td_load {d : Nat} (a : Addr) (m : Mode) : Td P d d (load a m) := by
  intro w es he
  unfold load
  simp only [Sem.runT]
  cases w.cell? a with
  | some v =>
    show deafBehind 0 (es.push _) = _
    rw [deafBehind_push, he]
  | none =>
    cases hf : w.farLoad P a (m == .atomic) with
    | ok r => exact deafBehind_plain he (by simp)
    | error x =>
      show ¬ Loud x
      unfold World.farLoad at hf
      split at hf
      · split at hf
        · cases hf
        · cases hf; exact id
      · simp only [Except.error.injEq] at hf
        subst hf
        unfold World.noCell
        split <;> exact id
theorem td_store {d : Nat} (a : Addr) (v : Value) (m : Mode) : Td P d d (store a v m) := by
  intro w es he
  unfold store
  cases v <;> simp only [Sem.runT] <;> first
    | exact id
    | (cases w.cell? a with
       | some _ =>
         by_cases hz : w.frozen? a = true
         · simp only [hz, if_true]; exact id
         · simp only [hz, if_false, Bool.false_eq_true]
           show deafBehind 0 (es.push _) = _
           rw [deafBehind_push, he]
       | none =>
         generalize hf : w.farStore P a _ _ = r
         cases r with
         | ok r => exact deafBehind_plain he (by simp)
         | error x =>
           show ¬ Loud x
           unfold World.farStore at hf
           split at hf
           · split at hf
             · cases hf
             · cases hf; exact id
           · simp only [Except.error.injEq] at hf
             subst hf
             unfold World.noCell
             split <;> exact id)
theorem td_program {d : Nat} : Td P d d program := fun _ _ he => he
theorem tb_of_td {α : Type} {s : Sem α} (h : Td P 0 0 s) : Tb P (fun _ => True) s := by
  intro w es he
  have := h w es he
  revert this
  cases s.runT P w es with
  | mk r es' =>
    cases r with
    | ok a w' => exact fun hb => ⟨trivial, hb⟩
    | halt x w' => exact fun hb hl => absurd hl hb
theorem t_of_td {α : Type} {s : Sem α} (h : Td P 0 0 s) (hp : Pf P s) : T1 P s := ⟨tb_of_td h, hp⟩
theorem td_held {d : Nat} : Td P d d Extern.PrintPieces.held := by
  unfold Extern.PrintPieces.held
  refine td_bind td_program fun p => td_bind (td_load _ _) fun v => ?_
  split
  · exact td_pure _
  · exact td_halt id
theorem td_haltBind {α β : Type} {d d' : Nat} {h : Halt} (hh : ¬ Loud h) (f : α → Sem β) : Td P d d' ((Sem.halt h : Sem α) >>= f) := fun _ _ _ => hh
theorem td_stuckBind {α β : Type} {d d' : Nat} (m : String) (f : α → Sem β) : Td P d d' ((stuck m : Sem α) >>= f) := fun _ _ _ => id
theorem td_unsBind {α β : Type} {d d' : Nat} (m : Unsupported) (f : α → Sem β) : Td P d d' ((unsupported m : Sem α) >>= f) := fun _ _ _ => id
theorem td_stuck {α : Type} {d d' : Nat} (m : String) : Td P d d' (stuck m : Sem α) := td_halt id
theorem td_write (fd : Nat) (b : ByteArray) : Td P 0 0 (writeFd fd b) := by
  intro w es he
  unfold writeFd
  simp only [Sem.runT]
  have h0 : deafBehind 0 (es.push ⟨.output, true, false⟩) = 0 := by rw [deafBehind_push, he]
  split
  · rename_i h; revert h; split <;> intro h <;> simp only [Sem.runT] at h
    · cases h
    · cases h
    · grind
  · rename_i h; revert h; split <;> intro h <;> simp only [Sem.runT] at h
    · cases h; exact id
    · cases h; exact id
    · cases h
theorem nextOk_value (v : Value) : NextOk (.value v) := trivial
theorem nextOk_row (a : Array Value) : NextOk (.row "runtime.print$piece" a) := rfl
def Yl (P : Program) {α : Type} (Q : α → Prop) (s : Sem α) : Prop := ∀ w es a w' es', s.runT P w es = (.ok a w', es') → Q a
theorem yl_pure {α : Type} {Q : α → Prop} {a : α} (h : Q a) : Yl P Q (pure a : Sem α) := fun _ _ _ _ _ e => by cases e; exact h
theorem yl_halt {α : Type} {Q : α → Prop} (h : Halt) : Yl P Q (Sem.halt h : Sem α) := fun _ _ _ _ _ e => by cases e
theorem yl_bind {α β : Type} {Q : β → Prop} {s : Sem α} {f : α → Sem β} (h : ∀ a, Yl P Q (f a)) : Yl P Q (s >>= f) := by
  intro w es b w' es' e
  rw [runT_bind'] at e
  revert e
  cases s.runT P w es with
  | mk r es' =>
    cases r with
    | ok a w' => exact fun e => h a _ _ _ _ _ e
    | halt x w' => exact fun e => by cases e
theorem piece_ok (a b : Array TypeId) (args : Array Value) : Yl P NextOk (Extern.PrintPieces.piece a b args) := by
  unfold Extern.PrintPieces.piece
  (repeat' first | (with_reducible exact yl_pure (nextOk_value _)) | (with_reducible exact yl_pure (nextOk_row _)) | (with_reducible exact yl_halt _) | (with_reducible refine yl_bind (fun _ => ?_)) | split | dsimp only | exact yl_pure rfl | exact yl_halt _)
theorem td_piece (a b : Array TypeId) (args : Array Value) : Td P 0 0 (Extern.PrintPieces.piece a b args) := by
  unfold Extern.PrintPieces.piece
  (repeat' first | (with_reducible exact td_stuck _) | (with_reducible exact td_pure _) | (with_reducible refine td_stuckBind _ _) | (with_reducible refine td_unsBind _ _) | (with_reducible refine td_haltBind id _) | (with_reducible refine td_bind td_disable (fun _ => ?_)) | (with_reducible refine td_bind td_enable (fun _ => ?_)) | (with_reducible exact td_enable) | (with_reducible refine td_bind td_held (fun _ => ?_)) | (with_reducible refine td_bind td_program (fun _ => ?_)) | (with_reducible refine td_bind (td_store _ _ _) (fun _ => ?_)) | (with_reducible refine td_bind (td_write _ _) (fun _ => ?_)) | split | dsimp only)
instance (t : TypeId) (x : Place) : TC P (Place.get t x) := ⟨by cases x <;> unfold Place.get <;> first | exact TC.out | exact tm_pure trivial⟩
theorem t_follow : ∀ (l : List FieldStep) (t : TypeId) (x : Place), T1 P (follow l t x)
  | [], _, _ => tm_pure trivial
  | s :: rest, t, x => by
    have ih := t_follow rest
    unfold follow
    (repeat' first | exact ih _ _ | exact TC.out | (with_reducible refine tm_bind1 ?_ (fun _ => ?_)) | (with_reducible refine tm_ite ?_ ?_) | split | dsimp only)
instance (l : List FieldStep) (t : TypeId) (x : Place) : TC P (follow l t x) := ⟨t_follow l t x⟩
instance (t : TypeId) (x : Place) (b : Bool) (o : Option String) : TC P (receiverAt t x b o) := ⟨by
  unfold receiverAt
  (repeat' first | exact TC.out | (with_reducible refine tm_bind1 ?_ (fun _ => ?_)) | (with_reducible refine tm_map1 ?_ (fun _ => trivial)) | (with_reducible exact tm_pure trivial) | (with_reducible refine t_forInArray _ (fun _ _ => ?_) _ _) | (with_reducible refine t_forInList _ (fun _ _ => ?_) _ _) | (with_reducible refine t_forInRange _ (fun _ _ => ?_) _ _) | (with_reducible refine t_mapMArray _ (fun _ => ?_) _) | (with_reducible refine t_mapMList _ (fun _ => ?_) _) | (with_reducible refine tm_ite ?_ ?_) | split | dsimp only)⟩
instance (t : TypeId) (v : Value) (p : Array FieldStep) (b : Bool) : TC P (receiverVia t v p b) := ⟨by
  unfold receiverVia
  (repeat' first | exact TC.out | (with_reducible refine tm_bind1 ?_ (fun _ => ?_)) | (with_reducible refine tm_map1 ?_ (fun _ => trivial)) | (with_reducible exact tm_pure trivial) | (with_reducible refine t_forInArray _ (fun _ _ => ?_) _ _) | (with_reducible refine t_forInList _ (fun _ _ => ?_) _ _) | (with_reducible refine t_forInRange _ (fun _ _ => ?_) _ _) | (with_reducible refine t_mapMArray _ (fun _ => ?_) _) | (with_reducible refine t_mapMList _ (fun _ => ?_) _) | (with_reducible refine tm_ite ?_ ?_) | split | dsimp only)⟩
theorem t_method : ∀ (d : Nat) (t : TypeId) (v : Value) (n : String), T1 P (method d t v n)
  | 0, _, _, _ => tm_unsupported _
  | d + 1, t, v, n => by
    have ih := t_method d
    unfold method
    (repeat' first | exact ih _ _ _ | exact TC.out | (with_reducible refine tm_bind1 ?_ (fun _ => ?_)) | (with_reducible refine tm_ite ?_ ?_) | split | dsimp only)
instance (d : Nat) (t : TypeId) (v : Value) (n : String) : TC P (method d t v n) := ⟨t_method d t v n⟩
theorem t_followBlind : ∀ (l : List FieldStep) (t : TypeId) (x : Option Value), T1 P (followBlind l t x)
  | [], _, _ => tm_pure trivial
  | s :: rest, t, x => by
    have ih := t_followBlind rest
    unfold followBlind
    (repeat' first | exact ih _ _ | exact TC.out | (with_reducible refine tm_bind1 ?_ (fun _ => ?_)) | (with_reducible refine tm_ite ?_ ?_) | split | dsimp only)
instance (l : List FieldStep) (t : TypeId) (x : Option Value) : TC P (followBlind l t x) := ⟨t_followBlind l t x⟩
theorem t_nilAhead : ∀ (d : Nat) (t : TypeId) (v : Value) (n : String), T1 P (nilAhead d t v n)
  | 0, _, _, _ => tm_pure trivial
  | d + 1, t, v, n => by
    have ih := t_nilAhead d
    unfold nilAhead
    (repeat' first | exact ih _ _ _ | exact TC.out | (with_reducible refine tm_bind1 ?_ (fun _ => ?_)) | (with_reducible refine tm_ite ?_ ?_) | split | dsimp only)
instance (d : Nat) (t : TypeId) (v : Value) (n : String) : TC P (nilAhead d t v n) := ⟨t_nilAhead d t v n⟩
instance (t : TypeId) (v : Value) : TC P (Builtin.printOne t v) := ⟨by
  unfold Builtin.printOne
  (repeat' first | exact TC.out | (with_reducible refine tm_bind1 ?_ (fun _ => ?_)) | (with_reducible refine tm_map1 ?_ (fun _ => trivial)) | (with_reducible exact tm_pure trivial) | (with_reducible refine t_forInArray _ (fun _ _ => ?_) _ _) | (with_reducible refine t_forInList _ (fun _ _ => ?_) _ _) | (with_reducible refine t_forInRange _ (fun _ _ => ?_) _ _) | (with_reducible refine t_mapMArray _ (fun _ => ?_) _) | (with_reducible refine t_mapMList _ (fun _ => ?_) _) | (with_reducible refine tm_ite ?_ ?_) | split | dsimp only)⟩
theorem t_forInList' {γ σ : Type} : ∀ (l : List γ) (f : (c : γ) → c ∈ l → σ → Sem (ForInStep σ)) (_ : ∀ c hc s, T1 P (f c hc s)) (s : σ), T1 P (forIn' l s f)
  | [], _, _, _ => tm_pure trivial
  | c :: l, f, h, s => by
    rw [List.forIn'_cons]
    refine tm_bind1 (h _ _ _) fun r => ?_
    split
    · exact tm_pure trivial
    · exact t_forInList' l _ (fun _ _ _ => h _ _ _) _
theorem t_forInRange' {σ : Type} (n : Nat) (f : (i : Nat) → i ∈ ([:n] : Std.Legacy.Range) → σ → Sem (ForInStep σ)) (h : ∀ i hi s, T1 P (f i hi s)) (s : σ) : T1 P (forIn' [:n] s f) := by
  rw [Std.Legacy.Range.forIn'_eq_forIn'_range']
  exact t_forInList' _ _ (fun _ _ _ => h _ _ _) _
instance (ln : Bool) (c : Array Bool) (ts : Array TypeId) (args : Array Value) : TC P (Builtin.pieces ln c ts args) := ⟨by
  unfold Builtin.pieces
  (repeat' first | exact TC.out | (with_reducible refine tm_bind1 ?_ (fun _ => ?_)) | (with_reducible refine tm_map1 ?_ (fun _ => trivial)) | (with_reducible exact tm_pure trivial) | (with_reducible refine t_forInRange' _ _ (fun _ _ _ => ?_) _) | (with_reducible refine t_forInArray _ (fun _ _ => ?_) _ _) | (with_reducible refine t_forInList _ (fun _ _ => ?_) _ _) | (with_reducible refine tm_ite ?_ ?_) | split | dsimp only)⟩
abbrev TN (P : Program) (s : Sem Next) : Prop := Tm P NextOk s
theorem tn_of {s : Sem Next} (h : T1 P s) (h' : Yl P NextOk s) : TN P s := by
  refine ⟨fun w es he => ?_, h.pf⟩
  have := h.tb w es he
  have h2 := h' w es
  revert this h2
  cases s.runT P w es with
  | mk r es' => grind
theorem pf_load (a : Addr) (m : Mode) : Pf P (load a m) := (t_load a m).pf
theorem pf_store (a : Addr) (v : Value) (m : Mode) : Pf P (store a v m) := (t_store a v m).pf
theorem pf_stuck {α : Type} (m : String) : Pf P (stuck m : Sem α) := pf_halt _
theorem pf_uns {α : Type} (m : Unsupported) : Pf P (unsupported m : Sem α) := pf_halt _
theorem pf_held : Pf P Extern.PrintPieces.held := by
  unfold Extern.PrintPieces.held
  (repeat' first | (with_reducible exact pf_pure _) | (with_reducible exact pf_halt _) | (with_reducible exact pf_stuck _) | (with_reducible exact pf_load _ _) | (with_reducible exact t_program1.pf) | (with_reducible refine pf_bind ?_ (fun _ => ?_)) | split | dsimp only)
theorem pf_piece (a b : Array TypeId) (args : Array Value) : Pf P (Extern.PrintPieces.piece a b args) := by
  unfold Extern.PrintPieces.piece
  (repeat' first | (with_reducible exact pf_pure _) | (with_reducible exact pf_halt _) | (with_reducible exact pf_stuck _) | (with_reducible exact pf_uns _) | (with_reducible exact pf_load _ _) | (with_reducible exact pf_store _ _ _) | (with_reducible exact pf_mark _) | (with_reducible exact pf_held) | (with_reducible exact (t_writeFd _ _).pf) | (with_reducible exact t_program1.pf) | (with_reducible refine pf_bind ?_ (fun _ => ?_)) | split | dsimp only)
theorem tn_piece (a b : Array TypeId) (args : Array Value) : TN P (Extern.PrintPieces.piece a b args) := tn_of (t_of_td (td_piece a b args) (pf_piece a b args)) (piece_ok a b args)
theorem tn_printMarked (ln : Bool) (c : Array Bool) (ts : Array TypeId) (args : Array Value) : TN P (Builtin.printMarked ln c ts args) := by
  unfold Builtin.printMarked
  refine tm_bind1 TC.out fun ps => ?_
  split
  · exact tm_pure trivial
  · exact tn_piece _ _ _
theorem tn_v {s : Sem Value} (h : T1 P s) : TN P (do pure (.value (← s))) := tm_bind1 h fun _ => tm_pure trivial
theorem tn_u {s : Sem Unit} (h : T1 P s) : TN P (do s; pure .skip) := tm_bind1 h fun _ => tm_pure trivial
theorem tn_builtin (b : Builtin) (ts : Array TypeId) (t : TypeId) (c : Array Bool) (args : Array Value) : TN P (builtin b ts t c args) := by
  unfold builtin
  dsimp only
  split <;> first
    | (with_reducible exact tn_v TC.out)
    | exact tn_printMarked _ _ _ _
    | exact tm_pure trivial
    | exact tm_stuck _
    | exact tm_unsupported _
    | exact tm_bind1 TC.out fun _ => tm_pure trivial
theorem tn_callFunc (hP : Plain P) (f : FuncId) (args : Array Value) : TN P (callFunc f args) := by
  unfold callFunc
  refine tm_program ?_
  split
  · exact tm_stuck _
  · rename_i fn hfn
    rw [hP.count f fn hfn]
    simp only [Bool.false_eq_true, if_false]
    · split
      · rename_i hb
        refine tm_bind1 (t_mark (by simp)) fun _ => ?_
        rw [hP.next f fn hfn hb]
        dsimp only
        split
        · rename_i e he
          exact tn_v (hP.find f fn e hfn hb he args)
        · split
          · exact tm_pure trivial
          · exact tm_unsupported _
      · exact tm_pure trivial
theorem tm_runtimePanic {α : Type} {R : α → Prop} (e : RuntimeError) : Tm P R (runtimePanic e : Sem α) := by
  unfold runtimePanic
  refine tm_bind1 t_program1 fun p => ?_
  dsimp only
  split <;> first | exact tm_goPanic _ | exact tm_bind1 TC.out fun _ => tm_bind1 TC.out fun _ => tm_goPanic _
theorem tn_callMethod (hP : Plain P) (r : Value) (n : String) (args : Array Value) : TN P (callMethod r n args) := by
  unfold callMethod
  split
  · refine tm_bind1 t_program1 fun p => tm_bind1 TC.out fun x => ?_
    exact tn_callFunc hP _ _
  · exact tm_runtimePanic _
  · exact tm_stuck _
theorem tn_invoke (hP : Plain P) (t : Target) (args : Array Value) : TN P (invoke t args) := by
  unfold invoke
  split
  · exact tm_runtimePanic _
  · exact tn_builtin _ _ _ _ _
  · exact tn_callFunc hP _ _
  · split
    · exact tn_callMethod hP _ _ _
    · exact tm_stuck _
  · split
    · refine tm_bind1 TC.out fun _ => ?_
      exact tn_callMethod hP _ _ _
    · exact tm_stuck _
  · split
    · refine tm_bind1 TC.out fun _ => ?_
      exact tn_callFunc hP _ _
    · exact tm_stuck _
  · unfold Instr.yield
    refine tm_bind1 TC.out fun r => ?_
    dsimp only
    split
    · exact tm_bind1 (tm_stuck _) fun _ => tm_pure trivial
    · exact tm_pure trivial
  · exact tm_stuck _
  · exact tm_pure trivial
instance (f : Value) (args : Array Value) : TC P (Deferred.ofValue f args) := ⟨by
  unfold Deferred.ofValue
  split <;> first | exact tm_pure trivial | exact tm_stuck _⟩
instance (ρ : Operand → Value) (c : Call) (t : TypeId) : TC P (resolve ρ c t) := ⟨by
  unfold resolve
  dsimp only
  split <;> first | exact tm_pure trivial | exact TC.out⟩
theorem tn_execOp (hP : Plain P) (ρ : Operand → Value) (o : Oper) : TN P (execOp ρ o) := by
  unfold execOp
  dsimp only
  split <;> first
    | (with_reducible exact tn_v TC.out)
    | (with_reducible exact tn_u TC.out)
    | exact tm_pure trivial
    | exact tm_bind1 TC.out fun _ => tm_pure trivial
    | exact tm_bind1 TC.out fun _ => tn_invoke hP _ _
    | skip
  · split <;> first
      | exact tm_runtimePanic _
      | exact tm_pure trivial
      | skip
    split <;> first
      | exact tm_runtimePanic _
      | exact tm_pure trivial
      | skip
    refine tm_bind1 t_program1 fun _ => tm_bind1 TC.out fun _ => ?_
    split
    · exact tm_bind1 (tm_unsupported _) fun _ => tm_pure trivial
    · exact tm_pure trivial
  · exact tn_v (tm_bind1 TC.out fun _ => TC.out)
  · refine tm_bind1 TC.out fun _ => ?_
    split
    · exact tm_bind1 TC.out fun _ => tm_pure trivial
    · exact tm_stuck _
  · exact tm_bind1 (t_mapMArray _ (fun _ => tm_bind1 TC.out fun _ => tm_pure trivial) _) fun _ => tm_pure trivial
instance (fn : Func) (ts : Array Value) : TC P (results fn ts) := ⟨by
  unfold results
  refine tm_bind1 (t_mapMArray _ (fun r => ?_) _) fun vs => ?_
  · split
    · exact tm_pure trivial
    · exact tm_bind1 TC.out fun _ => TC.out
  · split <;> exact tm_pure trivial⟩
end
end Go.Co
end
