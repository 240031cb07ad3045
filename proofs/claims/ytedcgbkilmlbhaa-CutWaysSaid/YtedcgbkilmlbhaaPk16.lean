import Derived.Test.YtedcgbkilmlbhaaPk15
namespace Go.Co
open Go
section
variable {P:Program}
instance (t:TypeId) (h:Bool) (v:Value):TC P (Instr.alloc t h v):=⟨by
 unfold Instr.alloc
 try dsimp only
 (repeat' first | exact TC.out | (with_reducible refine tm_bind1 ?_ (fun _ => ?_)) | (with_reducible refine tm_map1 ?_ (fun _=>trivial)) | (with_reducible refine t_forInArray _ (fun _ _ => ?_) _ _) | (with_reducible refine t_forInList _ (fun _ _ => ?_) _ _) | (with_reducible refine t_forInRange _ (fun _ _ => ?_) _ _) | (with_reducible refine t_mapMArray _ (fun _ => ?_) _) | (with_reducible refine t_mapMList _ (fun _ => ?_) _) | (with_reducible refine t_foldlM _ (fun _ _ => ?_) _ _) | (with_reducible refine tm_ite ?_ ?_) | split | dsimp only)⟩
instance (v:Value):TC P (Instr.sureAddr v):=⟨by
 unfold Instr.sureAddr
 try dsimp only
 (repeat' first | exact TC.out | (with_reducible refine tm_bind1 ?_ (fun _ => ?_)) | (with_reducible refine tm_map1 ?_ (fun _=>trivial)) | (with_reducible refine t_forInArray _ (fun _ _ => ?_) _ _) | (with_reducible refine t_forInList _ (fun _ _ => ?_) _ _) | (with_reducible refine t_forInRange _ (fun _ _ => ?_) _ _) | (with_reducible refine t_mapMArray _ (fun _ => ?_) _) | (with_reducible refine t_mapMList _ (fun _ => ?_) _) | (with_reducible refine t_foldlM _ (fun _ _ => ?_) _ _) | (with_reducible refine tm_ite ?_ ?_) | split | dsimp only)⟩
instance (t:TypeId) (v:Value):TC P (Instr.loadAt t v):=⟨by
 unfold Instr.loadAt
 try dsimp only
 (repeat' first | exact TC.out | (with_reducible refine tm_bind1 ?_ (fun _ => ?_)) | (with_reducible refine tm_map1 ?_ (fun _=>trivial)) | (with_reducible refine t_forInArray _ (fun _ _ => ?_) _ _) | (with_reducible refine t_forInList _ (fun _ _ => ?_) _ _) | (with_reducible refine t_forInRange _ (fun _ _ => ?_) _ _) | (with_reducible refine t_mapMArray _ (fun _ => ?_) _) | (with_reducible refine t_mapMList _ (fun _ => ?_) _) | (with_reducible refine t_foldlM _ (fun _ _ => ?_) _ _) | (with_reducible refine tm_ite ?_ ?_) | split | dsimp only)⟩
instance (t:TypeId) (v u:Value):TC P (Instr.storeAt t v u):=⟨by
 unfold Instr.storeAt
 try dsimp only
 (repeat' first | exact TC.out | (with_reducible refine tm_bind1 ?_ (fun _ => ?_)) | (with_reducible refine tm_map1 ?_ (fun _=>trivial)) | (with_reducible refine t_forInArray _ (fun _ _ => ?_) _ _) | (with_reducible refine t_forInList _ (fun _ _ => ?_) _ _) | (with_reducible refine t_forInRange _ (fun _ _ => ?_) _ _) | (with_reducible refine t_mapMArray _ (fun _ => ?_) _) | (with_reducible refine t_mapMList _ (fun _ => ?_) _) | (with_reducible refine t_foldlM _ (fun _ _ => ?_) _ _) | (with_reducible refine tm_ite ?_ ?_) | split | dsimp only)⟩
instance (t:TypeId) (v:Value) (n:Nat):TC P (Instr.fieldAt t v n):=⟨by
 unfold Instr.fieldAt
 try dsimp only
 (repeat' first | exact TC.out | (with_reducible refine tm_bind1 ?_ (fun _ => ?_)) | (with_reducible refine tm_map1 ?_ (fun _=>trivial)) | (with_reducible refine t_forInArray _ (fun _ _ => ?_) _ _) | (with_reducible refine t_forInList _ (fun _ _ => ?_) _ _) | (with_reducible refine t_forInRange _ (fun _ _ => ?_) _ _) | (with_reducible refine t_mapMArray _ (fun _ => ?_) _) | (with_reducible refine t_mapMList _ (fun _ => ?_) _) | (with_reducible refine t_foldlM _ (fun _ _ => ?_) _ _) | (with_reducible refine tm_ite ?_ ?_) | split | dsimp only)⟩
instance (t:TypeId) (v u:Value):TC P (Instr.indexAt t v u):=⟨by
 unfold Instr.indexAt
 try dsimp only
 (repeat' first | exact TC.out | (with_reducible refine tm_bind1 ?_ (fun _ => ?_)) | (with_reducible refine tm_map1 ?_ (fun _=>trivial)) | (with_reducible refine t_forInArray _ (fun _ _ => ?_) _ _) | (with_reducible refine t_forInList _ (fun _ _ => ?_) _ _) | (with_reducible refine t_forInRange _ (fun _ _ => ?_) _ _) | (with_reducible refine t_mapMArray _ (fun _ => ?_) _) | (with_reducible refine t_mapMList _ (fun _ => ?_) _) | (with_reducible refine t_foldlM _ (fun _ _ => ?_) _ _) | (with_reducible refine tm_ite ?_ ?_) | split | dsimp only)⟩
instance (v:Value) (n:Nat) (c:BoundsCode):TC P (Instr.sliceBound v n c):=⟨by
 unfold Instr.sliceBound
 try dsimp only
 (repeat' first | exact TC.out | (with_reducible refine tm_bind1 ?_ (fun _ => ?_)) | (with_reducible refine tm_map1 ?_ (fun _=>trivial)) | (with_reducible refine t_forInArray _ (fun _ _ => ?_) _ _) | (with_reducible refine t_forInList _ (fun _ _ => ?_) _ _) | (with_reducible refine t_forInRange _ (fun _ _ => ?_) _ _) | (with_reducible refine t_mapMArray _ (fun _ => ?_) _) | (with_reducible refine t_mapMList _ (fun _ => ?_) _) | (with_reducible refine t_foldlM _ (fun _ _ => ?_) _ _) | (with_reducible refine tm_ite ?_ ?_) | split | dsimp only)⟩
instance (b:Bool) (n m:Nat) (x y z:Option Value):TC P (Instr.sliceBounds b n m x y z):=⟨by
 unfold Instr.sliceBounds
 try dsimp only
 (repeat' first | exact TC.out | (with_reducible refine tm_bind1 ?_ (fun _ => ?_)) | (with_reducible refine tm_map1 ?_ (fun _=>trivial)) | (with_reducible refine t_forInArray _ (fun _ _ => ?_) _ _) | (with_reducible refine t_forInList _ (fun _ _ => ?_) _ _) | (with_reducible refine t_forInRange _ (fun _ _ => ?_) _ _) | (with_reducible refine t_mapMArray _ (fun _ => ?_) _) | (with_reducible refine t_mapMList _ (fun _ => ?_) _) | (with_reducible refine t_foldlM _ (fun _ _ => ?_) _ _) | (with_reducible refine tm_ite ?_ ?_) | split | dsimp only)⟩
instance (t:TypeId) (v:Value) (x y z:Option Value):TC P (Instr.slice t v x y z):=⟨by
 unfold Instr.slice
 try dsimp only
 (repeat' first | exact TC.out | (with_reducible refine tm_bind1 ?_ (fun _ => ?_)) | (with_reducible refine tm_map1 ?_ (fun _=>trivial)) | (with_reducible refine t_forInArray _ (fun _ _ => ?_) _ _) | (with_reducible refine t_forInList _ (fun _ _ => ?_) _ _) | (with_reducible refine t_forInRange _ (fun _ _ => ?_) _ _) | (with_reducible refine t_mapMArray _ (fun _ => ?_) _) | (with_reducible refine t_mapMList _ (fun _ => ?_) _) | (with_reducible refine t_foldlM _ (fun _ _ => ?_) _ _) | (with_reducible refine tm_ite ?_ ?_) | split | dsimp only)⟩
instance (t:TypeId) (v:Value) (x y z:Option Value):TC P (Instr.sliceAt t v x y z):=⟨by
 unfold Instr.sliceAt
 try dsimp only
 (repeat' first | exact TC.out | (with_reducible refine tm_bind1 ?_ (fun _ => ?_)) | (with_reducible refine tm_map1 ?_ (fun _=>trivial)) | (with_reducible refine t_forInArray _ (fun _ _ => ?_) _ _) | (with_reducible refine t_forInList _ (fun _ _ => ?_) _ _) | (with_reducible refine t_forInRange _ (fun _ _ => ?_) _ _) | (with_reducible refine t_mapMArray _ (fun _ => ?_) _) | (with_reducible refine t_mapMList _ (fun _ => ?_) _) | (with_reducible refine t_foldlM _ (fun _ _ => ?_) _ _) | (with_reducible refine tm_ite ?_ ?_) | split | dsimp only)⟩
instance (t:TypeId) (v:Value):TC P (Instr.arrayAt t v):=⟨by
 unfold Instr.arrayAt
 try dsimp only
 (repeat' first | exact TC.out | (with_reducible refine tm_bind1 ?_ (fun _ => ?_)) | (with_reducible refine tm_map1 ?_ (fun _=>trivial)) | (with_reducible refine t_forInArray _ (fun _ _ => ?_) _ _) | (with_reducible refine t_forInList _ (fun _ _ => ?_) _ _) | (with_reducible refine t_forInRange _ (fun _ _ => ?_) _ _) | (with_reducible refine t_mapMArray _ (fun _ => ?_) _) | (with_reducible refine t_mapMList _ (fun _ => ?_) _) | (with_reducible refine t_foldlM _ (fun _ _ => ?_) _ _) | (with_reducible refine tm_ite ?_ ?_) | split | dsimp only)⟩
instance (t:TypeId) (v:Value):TC P (Instr.box t v):=⟨by
 unfold Instr.box
 try dsimp only
 (repeat' first | exact TC.out | (with_reducible refine tm_bind1 ?_ (fun _ => ?_)) | (with_reducible refine tm_map1 ?_ (fun _=>trivial)) | (with_reducible refine t_forInArray _ (fun _ _ => ?_) _ _) | (with_reducible refine t_forInList _ (fun _ _ => ?_) _ _) | (with_reducible refine t_forInRange _ (fun _ _ => ?_) _ _) | (with_reducible refine t_mapMArray _ (fun _ => ?_) _) | (with_reducible refine t_mapMList _ (fun _ => ?_) _) | (with_reducible refine t_foldlM _ (fun _ _ => ?_) _ _) | (with_reducible refine tm_ite ?_ ?_) | split | dsimp only)⟩
instance (t:TypeId) (p:Array (Nat×Value)):TC P (Instr.build t p):=⟨by
 unfold Instr.build
 try dsimp only
 (repeat' first | exact TC.out | (with_reducible refine tm_bind1 ?_ (fun _ => ?_)) | (with_reducible refine tm_map1 ?_ (fun _=>trivial)) | (with_reducible refine t_forInArray _ (fun _ _ => ?_) _ _) | (with_reducible refine t_forInList _ (fun _ _ => ?_) _ _) | (with_reducible refine t_forInRange _ (fun _ _ => ?_) _ _) | (with_reducible refine t_mapMArray _ (fun _ => ?_) _) | (with_reducible refine t_mapMList _ (fun _ => ?_) _) | (with_reducible refine t_foldlM _ (fun _ _ => ?_) _ _) | (with_reducible refine tm_ite ?_ ?_) | split | dsimp only)⟩
instance (t:TypeId) (n:Nat) (p:Array (Nat×Value)):TC P (Instr.buildSlice t n p):=⟨by
 unfold Instr.buildSlice
 try dsimp only
 (repeat' first | exact TC.out | (with_reducible refine tm_bind1 ?_ (fun _ => ?_)) | (with_reducible refine tm_map1 ?_ (fun _=>trivial)) | (with_reducible refine t_forInArray _ (fun _ _ => ?_) _ _) | (with_reducible refine t_forInList _ (fun _ _ => ?_) _ _) | (with_reducible refine t_forInRange _ (fun _ _ => ?_) _ _) | (with_reducible refine t_mapMArray _ (fun _ => ?_) _) | (with_reducible refine t_mapMList _ (fun _ => ?_) _) | (with_reducible refine t_foldlM _ (fun _ _ => ?_) _ _) | (with_reducible refine tm_ite ?_ ?_) | split | dsimp only)⟩
instance (g:Nat):TC P (Instr.waits g):=⟨by
 unfold Instr.waits
 try dsimp only
 (repeat' first | exact TC.out | (with_reducible refine tm_bind1 ?_ (fun _ => ?_)) | (with_reducible refine tm_map1 ?_ (fun _=>trivial)) | (with_reducible refine t_forInArray _ (fun _ _ => ?_) _ _) | (with_reducible refine t_forInList _ (fun _ _ => ?_) _ _) | (with_reducible refine t_forInRange _ (fun _ _ => ?_) _ _) | (with_reducible refine t_mapMArray _ (fun _ => ?_) _) | (with_reducible refine t_mapMList _ (fun _ => ?_) _) | (with_reducible refine t_foldlM _ (fun _ _ => ?_) _ _) | (with_reducible refine tm_ite ?_ ?_) | split | dsimp only)⟩
instance (g:Nat):TC P (Instr.ready g):=⟨by
 unfold Instr.ready
 try dsimp only
 (repeat' first | exact TC.out | (with_reducible refine tm_bind1 ?_ (fun _ => ?_)) | (with_reducible refine tm_map1 ?_ (fun _=>trivial)) | (with_reducible refine t_forInArray _ (fun _ _ => ?_) _ _) | (with_reducible refine t_forInList _ (fun _ _ => ?_) _ _) | (with_reducible refine t_forInRange _ (fun _ _ => ?_) _ _) | (with_reducible refine t_mapMArray _ (fun _ => ?_) _) | (with_reducible refine t_mapMList _ (fun _ => ?_) _) | (with_reducible refine t_foldlM _ (fun _ _ => ?_) _ _) | (with_reducible refine tm_ite ?_ ?_) | split | dsimp only)⟩
instance (t:TypeId) (v:Value):TC P (Instr.makeInterface t v):=⟨by
 unfold Instr.makeInterface
 try dsimp only
 (repeat' first | exact TC.out | (with_reducible refine tm_bind1 ?_ (fun _ => ?_)) | (with_reducible refine tm_map1 ?_ (fun _=>trivial)) | (with_reducible refine t_forInArray _ (fun _ _ => ?_) _ _) | (with_reducible refine t_forInList _ (fun _ _ => ?_) _ _) | (with_reducible refine t_forInRange _ (fun _ _ => ?_) _ _) | (with_reducible refine t_mapMArray _ (fun _ => ?_) _) | (with_reducible refine t_mapMList _ (fun _ => ?_) _) | (with_reducible refine t_foldlM _ (fun _ _ => ?_) _ _) | (with_reducible refine tm_ite ?_ ?_) | split | dsimp only)⟩
instance (f:Fn) (a b:Array Value):TC P (Instr.makeFunc f a b):=⟨by
 unfold Instr.makeFunc
 try dsimp only
 (repeat' first | exact TC.out | (with_reducible refine tm_bind1 ?_ (fun _ => ?_)) | (with_reducible refine tm_map1 ?_ (fun _=>trivial)) | (with_reducible refine t_forInArray _ (fun _ _ => ?_) _ _) | (with_reducible refine t_forInList _ (fun _ _ => ?_) _ _) | (with_reducible refine t_forInRange _ (fun _ _ => ?_) _ _) | (with_reducible refine t_mapMArray _ (fun _ => ?_) _) | (with_reducible refine t_mapMList _ (fun _ => ?_) _) | (with_reducible refine t_foldlM _ (fun _ _ => ?_) _ _) | (with_reducible refine tm_ite ?_ ?_) | split | dsimp only)⟩
instance (t:TypeId) (r:Option Value):TC P (Instr.makeMap t r):=⟨by
 unfold Instr.makeMap
 try dsimp only
 (repeat' first | exact TC.out | (with_reducible refine tm_bind1 ?_ (fun _ => ?_)) | (with_reducible refine tm_map1 ?_ (fun _=>trivial)) | (with_reducible refine t_forInArray _ (fun _ _ => ?_) _ _) | (with_reducible refine t_forInList _ (fun _ _ => ?_) _ _) | (with_reducible refine t_forInRange _ (fun _ _ => ?_) _ _) | (with_reducible refine t_mapMArray _ (fun _ => ?_) _) | (with_reducible refine t_mapMList _ (fun _ => ?_) _) | (with_reducible refine t_foldlM _ (fun _ _ => ?_) _ _) | (with_reducible refine tm_ite ?_ ?_) | split | dsimp only)⟩
instance (t:TypeId) (v:Value):TC P (Instr.makeChan t v):=⟨by
 unfold Instr.makeChan
 try dsimp only
 (repeat' first | exact TC.out | (with_reducible refine tm_bind1 ?_ (fun _ => ?_)) | (with_reducible refine tm_map1 ?_ (fun _=>trivial)) | (with_reducible refine t_forInArray _ (fun _ _ => ?_) _ _) | (with_reducible refine t_forInList _ (fun _ _ => ?_) _ _) | (with_reducible refine t_forInRange _ (fun _ _ => ?_) _ _) | (with_reducible refine t_mapMArray _ (fun _ => ?_) _) | (with_reducible refine t_mapMList _ (fun _ => ?_) _) | (with_reducible refine t_foldlM _ (fun _ _ => ?_) _ _) | (with_reducible refine tm_ite ?_ ?_) | split | dsimp only)⟩
instance (t:TypeId) (v u:Value):TC P (Instr.makeSlice t v u):=⟨by
 unfold Instr.makeSlice
 try dsimp only
 (repeat' first | exact TC.out | (with_reducible refine tm_bind1 ?_ (fun _ => ?_)) | (with_reducible refine tm_map1 ?_ (fun _=>trivial)) | (with_reducible refine t_forInArray _ (fun _ _ => ?_) _ _) | (with_reducible refine t_forInList _ (fun _ _ => ?_) _ _) | (with_reducible refine t_forInRange _ (fun _ _ => ?_) _ _) | (with_reducible refine t_mapMArray _ (fun _ => ?_) _) | (with_reducible refine t_mapMList _ (fun _ => ?_) _) | (with_reducible refine t_foldlM _ (fun _ _ => ?_) _ _) | (with_reducible refine tm_ite ?_ ?_) | split | dsimp only)⟩
instance (t:TypeId) (v:Value) (n:Nat):TC P (Instr.field t v n):=⟨by
 unfold Instr.field
 try dsimp only
 (repeat' first | exact TC.out | (with_reducible refine tm_bind1 ?_ (fun _ => ?_)) | (with_reducible refine tm_map1 ?_ (fun _=>trivial)) | (with_reducible refine t_forInArray _ (fun _ _ => ?_) _ _) | (with_reducible refine t_forInList _ (fun _ _ => ?_) _ _) | (with_reducible refine t_forInRange _ (fun _ _ => ?_) _ _) | (with_reducible refine t_mapMArray _ (fun _ => ?_) _) | (with_reducible refine t_mapMList _ (fun _ => ?_) _) | (with_reducible refine t_foldlM _ (fun _ _ => ?_) _ _) | (with_reducible refine tm_ite ?_ ?_) | split | dsimp only)⟩
instance (t:TypeId) (v u:Value):TC P (Instr.index t v u):=⟨by
 unfold Instr.index
 try dsimp only
 (repeat' first | exact TC.out | (with_reducible refine tm_bind1 ?_ (fun _ => ?_)) | (with_reducible refine tm_map1 ?_ (fun _=>trivial)) | (with_reducible refine t_forInArray _ (fun _ _ => ?_) _ _) | (with_reducible refine t_forInList _ (fun _ _ => ?_) _ _) | (with_reducible refine t_forInRange _ (fun _ _ => ?_) _ _) | (with_reducible refine t_mapMArray _ (fun _ => ?_) _) | (with_reducible refine t_mapMList _ (fun _ => ?_) _) | (with_reducible refine t_foldlM _ (fun _ _ => ?_) _ _) | (with_reducible refine tm_ite ?_ ?_) | split | dsimp only)⟩
instance (v:Value) (n:Nat):TC P (Instr.extract v n):=⟨by
 unfold Instr.extract
 try dsimp only
 (repeat' first | exact TC.out | (with_reducible refine tm_bind1 ?_ (fun _ => ?_)) | (with_reducible refine tm_map1 ?_ (fun _=>trivial)) | (with_reducible refine t_forInArray _ (fun _ _ => ?_) _ _) | (with_reducible refine t_forInList _ (fun _ _ => ?_) _ _) | (with_reducible refine t_forInRange _ (fun _ _ => ?_) _ _) | (with_reducible refine t_mapMArray _ (fun _ => ?_) _) | (with_reducible refine t_mapMList _ (fun _ => ?_) _) | (with_reducible refine t_foldlM _ (fun _ _ => ?_) _ _) | (with_reducible refine tm_ite ?_ ?_) | split | dsimp only)⟩
instance (a b:Addr):TC P (Op.twoPlaces a b):=⟨by
 unfold Op.twoPlaces
 try dsimp only
 (repeat' first | exact TC.out | (with_reducible refine tm_bind1 ?_ (fun _ => ?_)) | (with_reducible refine tm_map1 ?_ (fun _=>trivial)) | (with_reducible refine t_forInArray _ (fun _ _ => ?_) _ _) | (with_reducible refine t_forInList _ (fun _ _ => ?_) _ _) | (with_reducible refine t_forInRange _ (fun _ _ => ?_) _ _) | (with_reducible refine t_mapMArray _ (fun _ => ?_) _) | (with_reducible refine t_mapMList _ (fun _ => ?_) _) | (with_reducible refine t_foldlM _ (fun _ _ => ?_) _ _) | (with_reducible refine tm_ite ?_ ?_) | split | dsimp only)⟩
instance (k:IntKind) (a b:Addr):TC P (Op.addrSub k a b):=⟨by
 unfold Op.addrSub
 try dsimp only
 (repeat' first | exact TC.out | (with_reducible refine tm_bind1 ?_ (fun _ => ?_)) | (with_reducible refine tm_map1 ?_ (fun _=>trivial)) | (with_reducible refine t_forInArray _ (fun _ _ => ?_) _ _) | (with_reducible refine t_forInList _ (fun _ _ => ?_) _ _) | (with_reducible refine t_forInRange _ (fun _ _ => ?_) _ _) | (with_reducible refine t_mapMArray _ (fun _ => ?_) _) | (with_reducible refine t_mapMList _ (fun _ => ?_) _) | (with_reducible refine t_foldlM _ (fun _ _ => ?_) _ _) | (with_reducible refine tm_ite ?_ ?_) | split | dsimp only)⟩
instance (o:BinOp) (a b:Addr):TC P (Op.addrCmp o a b):=⟨by
 unfold Op.addrCmp
 try dsimp only
 (repeat' first | exact TC.out | (with_reducible refine tm_bind1 ?_ (fun _ => ?_)) | (with_reducible refine tm_map1 ?_ (fun _=>trivial)) | (with_reducible refine t_forInArray _ (fun _ _ => ?_) _ _) | (with_reducible refine t_forInList _ (fun _ _ => ?_) _ _) | (with_reducible refine t_forInRange _ (fun _ _ => ?_) _ _) | (with_reducible refine t_mapMArray _ (fun _ => ?_) _) | (with_reducible refine t_mapMList _ (fun _ => ?_) _) | (with_reducible refine t_foldlM _ (fun _ _ => ?_) _ _) | (with_reducible refine tm_ite ?_ ?_) | split | dsimp only)⟩
instance (k:IntKind) (a:Addr) (n:Int):TC P (Op.addrMod k a n):=⟨by
 unfold Op.addrMod
 try dsimp only
 (repeat' first | exact TC.out | (with_reducible refine tm_bind1 ?_ (fun _ => ?_)) | (with_reducible refine tm_map1 ?_ (fun _=>trivial)) | (with_reducible refine t_forInArray _ (fun _ _ => ?_) _ _) | (with_reducible refine t_forInList _ (fun _ _ => ?_) _ _) | (with_reducible refine t_forInRange _ (fun _ _ => ?_) _ _) | (with_reducible refine t_mapMArray _ (fun _ => ?_) _) | (with_reducible refine t_mapMList _ (fun _ => ?_) _) | (with_reducible refine t_foldlM _ (fun _ _ => ?_) _ _) | (with_reducible refine tm_ite ?_ ?_) | split | dsimp only)⟩
instance (o:BinOp) (a b:ByteArray):TC P (Op.stringOp o a b):=⟨by
 unfold Op.stringOp
 try dsimp only
 (repeat' first | exact TC.out | (with_reducible refine tm_bind1 ?_ (fun _ => ?_)) | (with_reducible refine tm_map1 ?_ (fun _=>trivial)) | (with_reducible refine t_forInArray _ (fun _ _ => ?_) _ _) | (with_reducible refine t_forInList _ (fun _ _ => ?_) _ _) | (with_reducible refine t_forInRange _ (fun _ _ => ?_) _ _) | (with_reducible refine t_mapMArray _ (fun _ => ?_) _) | (with_reducible refine t_mapMList _ (fun _ => ?_) _) | (with_reducible refine t_foldlM _ (fun _ _ => ?_) _ _) | (with_reducible refine tm_ite ?_ ?_) | split | dsimp only)⟩
instance (o:BinOp) (k:IntKind) (x:Int) (l:IntKind) (y:Int):TC P (Op.shift o k x l y):=⟨by
 unfold Op.shift
 try dsimp only
 (repeat' first | exact TC.out | (with_reducible refine tm_bind1 ?_ (fun _ => ?_)) | (with_reducible refine tm_map1 ?_ (fun _=>trivial)) | (with_reducible refine t_forInArray _ (fun _ _ => ?_) _ _) | (with_reducible refine t_forInList _ (fun _ _ => ?_) _ _) | (with_reducible refine t_forInRange _ (fun _ _ => ?_) _ _) | (with_reducible refine t_mapMArray _ (fun _ => ?_) _) | (with_reducible refine t_mapMList _ (fun _ => ?_) _) | (with_reducible refine t_foldlM _ (fun _ _ => ?_) _ _) | (with_reducible refine tm_ite ?_ ?_) | split | dsimp only)⟩
instance (o:BinOp) (k:IntKind) (x y:Int):TC P (Op.intDiv o k x y):=⟨by
 unfold Op.intDiv
 try dsimp only
 (repeat' first | exact TC.out | (with_reducible refine tm_bind1 ?_ (fun _ => ?_)) | (with_reducible refine tm_map1 ?_ (fun _=>trivial)) | (with_reducible refine t_forInArray _ (fun _ _ => ?_) _ _) | (with_reducible refine t_forInList _ (fun _ _ => ?_) _ _) | (with_reducible refine t_forInRange _ (fun _ _ => ?_) _ _) | (with_reducible refine t_mapMArray _ (fun _ => ?_) _) | (with_reducible refine t_mapMList _ (fun _ => ?_) _) | (with_reducible refine t_foldlM _ (fun _ _ => ?_) _ _) | (with_reducible refine tm_ite ?_ ?_) | split | dsimp only)⟩
instance (o:BinOp) (k:IntKind) (x y:Int):TC P (Op.intArith o k x y):=⟨by
 unfold Op.intArith
 try dsimp only
 (repeat' first | exact TC.out | (with_reducible refine tm_bind1 ?_ (fun _ => ?_)) | (with_reducible refine tm_map1 ?_ (fun _=>trivial)) | (with_reducible refine t_forInArray _ (fun _ _ => ?_) _ _) | (with_reducible refine t_forInList _ (fun _ _ => ?_) _ _) | (with_reducible refine t_forInRange _ (fun _ _ => ?_) _ _) | (with_reducible refine t_mapMArray _ (fun _ => ?_) _) | (with_reducible refine t_mapMList _ (fun _ => ?_) _) | (with_reducible refine t_foldlM _ (fun _ _ => ?_) _ _) | (with_reducible refine tm_ite ?_ ?_) | split | dsimp only)⟩
instance (o:BinOp) (k:IntKind) (x y:Int):TC P (Op.intBits o k x y):=⟨by
 unfold Op.intBits
 try dsimp only
 (repeat' first | exact TC.out | (with_reducible refine tm_bind1 ?_ (fun _ => ?_)) | (with_reducible refine tm_map1 ?_ (fun _=>trivial)) | (with_reducible refine t_forInArray _ (fun _ _ => ?_) _ _) | (with_reducible refine t_forInList _ (fun _ _ => ?_) _ _) | (with_reducible refine t_forInRange _ (fun _ _ => ?_) _ _) | (with_reducible refine t_mapMArray _ (fun _ => ?_) _) | (with_reducible refine t_mapMList _ (fun _ => ?_) _) | (with_reducible refine t_foldlM _ (fun _ _ => ?_) _ _) | (with_reducible refine tm_ite ?_ ?_) | split | dsimp only)⟩
instance (o:BinOp) (x y:Int):TC P (Op.intCmp o x y):=⟨by
 unfold Op.intCmp
 try dsimp only
 (repeat' first | exact TC.out | (with_reducible refine tm_bind1 ?_ (fun _ => ?_)) | (with_reducible refine tm_map1 ?_ (fun _=>trivial)) | (with_reducible refine t_forInArray _ (fun _ _ => ?_) _ _) | (with_reducible refine t_forInList _ (fun _ _ => ?_) _ _) | (with_reducible refine t_forInRange _ (fun _ _ => ?_) _ _) | (with_reducible refine t_mapMArray _ (fun _ => ?_) _) | (with_reducible refine t_mapMList _ (fun _ => ?_) _) | (with_reducible refine t_foldlM _ (fun _ _ => ?_) _ _) | (with_reducible refine tm_ite ?_ ?_) | split | dsimp only)⟩
instance (o:BinOp) (k:FloatKind) (x y:Nat):TC P (Op.floatArith o k x y):=⟨by
 unfold Op.floatArith
 try dsimp only
 (repeat' first | exact TC.out | (with_reducible refine tm_bind1 ?_ (fun _ => ?_)) | (with_reducible refine tm_map1 ?_ (fun _=>trivial)) | (with_reducible refine t_forInArray _ (fun _ _ => ?_) _ _) | (with_reducible refine t_forInList _ (fun _ _ => ?_) _ _) | (with_reducible refine t_forInRange _ (fun _ _ => ?_) _ _) | (with_reducible refine t_mapMArray _ (fun _ => ?_) _) | (with_reducible refine t_mapMList _ (fun _ => ?_) _) | (with_reducible refine t_foldlM _ (fun _ _ => ?_) _ _) | (with_reducible refine tm_ite ?_ ?_) | split | dsimp only)⟩
instance (o:BinOp) (k:FloatKind) (x y:Nat):TC P (Op.floatCmp o k x y):=⟨by
 unfold Op.floatCmp
 try dsimp only
 (repeat' first | exact TC.out | (with_reducible refine tm_bind1 ?_ (fun _ => ?_)) | (with_reducible refine tm_map1 ?_ (fun _=>trivial)) | (with_reducible refine t_forInArray _ (fun _ _ => ?_) _ _) | (with_reducible refine t_forInList _ (fun _ _ => ?_) _ _) | (with_reducible refine t_forInRange _ (fun _ _ => ?_) _ _) | (with_reducible refine t_mapMArray _ (fun _ => ?_) _) | (with_reducible refine t_mapMList _ (fun _ => ?_) _) | (with_reducible refine t_foldlM _ (fun _ _ => ?_) _ _) | (with_reducible refine tm_ite ?_ ?_) | split | dsimp only)⟩
instance (o:UnOp) (v:Value):TC P (Op.unary o v):=⟨by
 unfold Op.unary
 try dsimp only
 (repeat' first | exact TC.out | (with_reducible refine tm_bind1 ?_ (fun _ => ?_)) | (with_reducible refine tm_map1 ?_ (fun _=>trivial)) | (with_reducible refine t_forInArray _ (fun _ _ => ?_) _ _) | (with_reducible refine t_forInList _ (fun _ _ => ?_) _ _) | (with_reducible refine t_forInRange _ (fun _ _ => ?_) _ _) | (with_reducible refine t_mapMArray _ (fun _ => ?_) _) | (with_reducible refine t_mapMList _ (fun _ => ?_) _) | (with_reducible refine t_foldlM _ (fun _ _ => ?_) _ _) | (with_reducible refine tm_ite ?_ ?_) | split | dsimp only)⟩
instance (k:FloatKind) (n:Nat) (l:FloatKind):TC P (Conv.floatToFloat k n l):=⟨by
 unfold Conv.floatToFloat
 try dsimp only
 (repeat' first | exact TC.out | (with_reducible refine tm_bind1 ?_ (fun _ => ?_)) | (with_reducible refine tm_map1 ?_ (fun _=>trivial)) | (with_reducible refine t_forInArray _ (fun _ _ => ?_) _ _) | (with_reducible refine t_forInList _ (fun _ _ => ?_) _ _) | (with_reducible refine t_forInRange _ (fun _ _ => ?_) _ _) | (with_reducible refine t_mapMArray _ (fun _ => ?_) _) | (with_reducible refine t_mapMList _ (fun _ => ?_) _) | (with_reducible refine t_foldlM _ (fun _ _ => ?_) _ _) | (with_reducible refine tm_ite ?_ ?_) | split | dsimp only)⟩
instance (o:BinOp) (k:FloatKind) (x y:Nat):TC P (Op.Complex.arith o k x y):=⟨by
 unfold Op.Complex.arith
 try dsimp only
 (repeat' first | exact TC.out | (with_reducible refine tm_bind1 ?_ (fun _ => ?_)) | (with_reducible refine tm_map1 ?_ (fun _=>trivial)) | (with_reducible refine t_forInArray _ (fun _ _ => ?_) _ _) | (with_reducible refine t_forInList _ (fun _ _ => ?_) _ _) | (with_reducible refine t_forInRange _ (fun _ _ => ?_) _ _) | (with_reducible refine t_mapMArray _ (fun _ => ?_) _) | (with_reducible refine t_mapMList _ (fun _ => ?_) _) | (with_reducible refine t_foldlM _ (fun _ _ => ?_) _ _) | (with_reducible refine tm_ite ?_ ?_) | split | dsimp only)⟩
instance (o:BinOp) (k:FloatKind) (x y:Nat):TC P (Op.Complex.cmp o k x y):=⟨by
 unfold Op.Complex.cmp
 try dsimp only
 (repeat' first | exact TC.out | (with_reducible refine tm_bind1 ?_ (fun _ => ?_)) | (with_reducible refine tm_map1 ?_ (fun _=>trivial)) | (with_reducible refine t_forInArray _ (fun _ _ => ?_) _ _) | (with_reducible refine t_forInList _ (fun _ _ => ?_) _ _) | (with_reducible refine t_forInRange _ (fun _ _ => ?_) _ _) | (with_reducible refine t_mapMArray _ (fun _ => ?_) _) | (with_reducible refine t_mapMList _ (fun _ => ?_) _) | (with_reducible refine t_foldlM _ (fun _ _ => ?_) _ _) | (with_reducible refine tm_ite ?_ ?_) | split | dsimp only)⟩
instance (k:FloatKind) (n:Nat) (l:FloatKind):TC P (Op.Complex.conv k n l):=⟨by
 unfold Op.Complex.conv
 try dsimp only
 (repeat' first | exact TC.out | (with_reducible refine tm_bind1 ?_ (fun _ => ?_)) | (with_reducible refine tm_map1 ?_ (fun _=>trivial)) | (with_reducible refine t_forInArray _ (fun _ _ => ?_) _ _) | (with_reducible refine t_forInList _ (fun _ _ => ?_) _ _) | (with_reducible refine t_forInRange _ (fun _ _ => ?_) _ _) | (with_reducible refine t_mapMArray _ (fun _ => ?_) _) | (with_reducible refine t_mapMList _ (fun _ => ?_) _) | (with_reducible refine t_foldlM _ (fun _ _ => ?_) _ _) | (with_reducible refine tm_ite ?_ ?_) | split | dsimp only)⟩
instance (x y:Nat):TC P (Op.Complex.add x y):=⟨by
 unfold Op.Complex.add
 try dsimp only
 (repeat' first | exact TC.out | (with_reducible refine tm_bind1 ?_ (fun _ => ?_)) | (with_reducible refine tm_map1 ?_ (fun _=>trivial)) | (with_reducible refine t_forInArray _ (fun _ _ => ?_) _ _) | (with_reducible refine t_forInList _ (fun _ _ => ?_) _ _) | (with_reducible refine t_forInRange _ (fun _ _ => ?_) _ _) | (with_reducible refine t_mapMArray _ (fun _ => ?_) _) | (with_reducible refine t_mapMList _ (fun _ => ?_) _) | (with_reducible refine t_foldlM _ (fun _ _ => ?_) _ _) | (with_reducible refine tm_ite ?_ ?_) | split | dsimp only)⟩
instance (x y:Nat):TC P (Op.Complex.sub x y):=⟨by
 unfold Op.Complex.sub
 try dsimp only
 (repeat' first | exact TC.out | (with_reducible refine tm_bind1 ?_ (fun _ => ?_)) | (with_reducible refine tm_map1 ?_ (fun _=>trivial)) | (with_reducible refine t_forInArray _ (fun _ _ => ?_) _ _) | (with_reducible refine t_forInList _ (fun _ _ => ?_) _ _) | (with_reducible refine t_forInRange _ (fun _ _ => ?_) _ _) | (with_reducible refine t_mapMArray _ (fun _ => ?_) _) | (with_reducible refine t_mapMList _ (fun _ => ?_) _) | (with_reducible refine t_foldlM _ (fun _ _ => ?_) _ _) | (with_reducible refine tm_ite ?_ ?_) | split | dsimp only)⟩
instance (x y:Nat):TC P (Op.Complex.mul x y):=⟨by
 unfold Op.Complex.mul
 try dsimp only
 (repeat' first | exact TC.out | (with_reducible refine tm_bind1 ?_ (fun _ => ?_)) | (with_reducible refine tm_map1 ?_ (fun _=>trivial)) | (with_reducible refine t_forInArray _ (fun _ _ => ?_) _ _) | (with_reducible refine t_forInList _ (fun _ _ => ?_) _ _) | (with_reducible refine t_forInRange _ (fun _ _ => ?_) _ _) | (with_reducible refine t_mapMArray _ (fun _ => ?_) _) | (with_reducible refine t_mapMList _ (fun _ => ?_) _) | (with_reducible refine t_foldlM _ (fun _ _ => ?_) _ _) | (with_reducible refine tm_ite ?_ ?_) | split | dsimp only)⟩
instance (x y:Nat):TC P (Op.Complex.quo x y):=⟨by
 unfold Op.Complex.quo
 try dsimp only
 (repeat' first | exact TC.out | (with_reducible refine tm_bind1 ?_ (fun _ => ?_)) | (with_reducible refine tm_map1 ?_ (fun _=>trivial)) | (with_reducible refine t_forInArray _ (fun _ _ => ?_) _ _) | (with_reducible refine t_forInList _ (fun _ _ => ?_) _ _) | (with_reducible refine t_forInRange _ (fun _ _ => ?_) _ _) | (with_reducible refine t_mapMArray _ (fun _ => ?_) _) | (with_reducible refine t_mapMList _ (fun _ => ?_) _) | (with_reducible refine t_foldlM _ (fun _ _ => ?_) _ _) | (with_reducible refine tm_ite ?_ ?_) | split | dsimp only)⟩
instance (a b c d:Nat):TC P (Op.Complex.product a b c d):=⟨by
 unfold Op.Complex.product
 try dsimp only
 (repeat' first | exact TC.out | (with_reducible refine tm_bind1 ?_ (fun _ => ?_)) | (with_reducible refine tm_map1 ?_ (fun _=>trivial)) | (with_reducible refine t_forInArray _ (fun _ _ => ?_) _ _) | (with_reducible refine t_forInList _ (fun _ _ => ?_) _ _) | (with_reducible refine t_forInRange _ (fun _ _ => ?_) _ _) | (with_reducible refine t_mapMArray _ (fun _ => ?_) _) | (with_reducible refine t_mapMList _ (fun _ => ?_) _) | (with_reducible refine t_foldlM _ (fun _ _ => ?_) _ _) | (with_reducible refine tm_ite ?_ ?_) | split | dsimp only)⟩
instance (s a b c d:Nat):TC P (Op.Complex.corrected s a b c d):=⟨by
 unfold Op.Complex.corrected
 try dsimp only
 (repeat' first | exact TC.out | (with_reducible refine tm_bind1 ?_ (fun _ => ?_)) | (with_reducible refine tm_map1 ?_ (fun _=>trivial)) | (with_reducible refine t_forInArray _ (fun _ _ => ?_) _ _) | (with_reducible refine t_forInList _ (fun _ _ => ?_) _ _) | (with_reducible refine t_forInRange _ (fun _ _ => ?_) _ _) | (with_reducible refine t_mapMArray _ (fun _ => ?_) _) | (with_reducible refine t_mapMList _ (fun _ => ?_) _) | (with_reducible refine t_foldlM _ (fun _ _ => ?_) _ _) | (with_reducible refine tm_ite ?_ ?_) | split | dsimp only)⟩
instance (a b c d:Nat):TC P (Op.Complex.quotient a b c d):=⟨by
 unfold Op.Complex.quotient
 try dsimp only
 (repeat' first | exact TC.out | (with_reducible refine tm_bind1 ?_ (fun _ => ?_)) | (with_reducible refine tm_map1 ?_ (fun _=>trivial)) | (with_reducible refine t_forInArray _ (fun _ _ => ?_) _ _) | (with_reducible refine t_forInList _ (fun _ _ => ?_) _ _) | (with_reducible refine t_forInRange _ (fun _ _ => ?_) _ _) | (with_reducible refine t_mapMArray _ (fun _ => ?_) _) | (with_reducible refine t_mapMList _ (fun _ => ?_) _) | (with_reducible refine t_foldlM _ (fun _ _ => ?_) _ _) | (with_reducible refine tm_ite ?_ ?_) | split | dsimp only)⟩
instance (o:BinOp) (k:FloatKind) (a b c d:Nat):TC P (Op.complexOp o k a b c d):=⟨by
 unfold Op.complexOp
 try dsimp only
 (repeat' first | exact TC.out | (with_reducible refine tm_bind1 ?_ (fun _ => ?_)) | (with_reducible refine tm_map1 ?_ (fun _=>trivial)) | (with_reducible refine t_forInArray _ (fun _ _ => ?_) _ _) | (with_reducible refine t_forInList _ (fun _ _ => ?_) _ _) | (with_reducible refine t_forInRange _ (fun _ _ => ?_) _ _) | (with_reducible refine t_mapMArray _ (fun _ => ?_) _) | (with_reducible refine t_mapMList _ (fun _ => ?_) _) | (with_reducible refine t_foldlM _ (fun _ _ => ?_) _ _) | (with_reducible refine tm_ite ?_ ?_) | split | dsimp only)⟩
theorem t_equalIn:∀ (d:Nat) (t:TypeId) (x y:Value),T1 P (Op.equalIn d t x y)
 | 0,_,_,_=>tm_unsupported _
 | d+1,t,x,y=>by
  have ih:=t_equalIn d
  unfold Op.equalIn
  try dsimp only
  (repeat' first | exact TC.out | exact ih _ _ _ | (with_reducible refine tm_bind1 ?_ (fun _ => ?_)) | (with_reducible refine tm_map1 ?_ (fun _=>trivial)) | (with_reducible refine t_forInArray _ (fun _ _ => ?_) _ _) | (with_reducible refine t_forInList _ (fun _ _ => ?_) _ _) | (with_reducible refine t_forInRange _ (fun _ _ => ?_) _ _) | (with_reducible refine t_mapMArray _ (fun _ => ?_) _) | (with_reducible refine t_mapMList _ (fun _ => ?_) _) | (with_reducible refine t_foldlM _ (fun _ _ => ?_) _ _) | (with_reducible refine tm_ite ?_ ?_) | split | dsimp only)
instance (d:Nat) (t:TypeId) (x y:Value):TC P (Op.equalIn d t x y):=⟨t_equalIn d t x y⟩
instance (t:TypeId) (x y:Value):TC P (Op.equal t x y):=⟨by
 unfold Op.equal
 try dsimp only
 (repeat' first | exact TC.out | (with_reducible refine tm_bind1 ?_ (fun _ => ?_)) | (with_reducible refine tm_map1 ?_ (fun _=>trivial)) | (with_reducible refine t_forInArray _ (fun _ _ => ?_) _ _) | (with_reducible refine t_forInList _ (fun _ _ => ?_) _ _) | (with_reducible refine t_forInRange _ (fun _ _ => ?_) _ _) | (with_reducible refine t_mapMArray _ (fun _ => ?_) _) | (with_reducible refine t_mapMList _ (fun _ => ?_) _) | (with_reducible refine t_foldlM _ (fun _ _ => ?_) _ _) | (with_reducible refine tm_ite ?_ ?_) | split | dsimp only)⟩
theorem t_eqGuardIn:∀ (d:Nat) (t:TypeId) (x y:Value),T1 P (Op.eqGuardIn d t x y)
 | 0,_,_,_=>tm_unsupported _
 | d+1,t,x,y=>by
  have ih:=t_eqGuardIn d
  unfold Op.eqGuardIn
  try dsimp only
  (repeat' first | exact TC.out | exact ih _ _ _ | (with_reducible refine tm_bind1 ?_ (fun _ => ?_)) | (with_reducible refine tm_map1 ?_ (fun _=>trivial)) | (with_reducible refine t_forInArray _ (fun _ _ => ?_) _ _) | (with_reducible refine t_forInList _ (fun _ _ => ?_) _ _) | (with_reducible refine t_forInRange _ (fun _ _ => ?_) _ _) | (with_reducible refine t_mapMArray _ (fun _ => ?_) _) | (with_reducible refine t_mapMList _ (fun _ => ?_) _) | (with_reducible refine t_foldlM _ (fun _ _ => ?_) _ _) | (with_reducible refine tm_ite ?_ ?_) | split | dsimp only)
instance (d:Nat) (t:TypeId) (x y:Value):TC P (Op.eqGuardIn d t x y):=⟨t_eqGuardIn d t x y⟩
theorem t_checkKey (b:Bool):∀ (d:Nat) (t:TypeId) (x:Value),T1 P (Instr.checkKey b d t x)
 | 0,_,_=>tm_unsupported _
 | d+1,t,x=>by
  have ih:=t_checkKey b d
  unfold Instr.checkKey
  try dsimp only
  (repeat' first | exact TC.out | exact ih _ _ | (with_reducible refine tm_bind1 ?_ (fun _ => ?_)) | (with_reducible refine tm_map1 ?_ (fun _=>trivial)) | (with_reducible refine t_forInArray _ (fun _ _ => ?_) _ _) | (with_reducible refine t_forInList _ (fun _ _ => ?_) _ _) | (with_reducible refine t_forInRange _ (fun _ _ => ?_) _ _) | (with_reducible refine t_mapMArray _ (fun _ => ?_) _) | (with_reducible refine t_mapMList _ (fun _ => ?_) _) | (with_reducible refine t_foldlM _ (fun _ _ => ?_) _ _) | (with_reducible refine tm_ite ?_ ?_) | split | dsimp only)
instance (b:Bool) (d:Nat) (t:TypeId) (x:Value):TC P (Instr.checkKey b d t x):=⟨t_checkKey b d t x⟩
theorem t_findAsking (t:TypeId) (k:Value):∀ (l:List MapEntry) (i:Nat),T1 P (Instr.findAsking t k l i)
 | [],_=>tm_pure trivial
 | e::es,i=>by
  have ih:=t_findAsking t k es
  unfold Instr.findAsking
  try dsimp only
  (repeat' first | exact TC.out | exact ih _ | (with_reducible refine tm_bind1 ?_ (fun _ => ?_)) | (with_reducible refine tm_map1 ?_ (fun _=>trivial)) | (with_reducible refine t_forInArray _ (fun _ _ => ?_) _ _) | (with_reducible refine t_forInList _ (fun _ _ => ?_) _ _) | (with_reducible refine t_forInRange _ (fun _ _ => ?_) _ _) | (with_reducible refine t_mapMArray _ (fun _ => ?_) _) | (with_reducible refine t_mapMList _ (fun _ => ?_) _) | (with_reducible refine t_foldlM _ (fun _ _ => ?_) _ _) | (with_reducible refine tm_ite ?_ ?_) | split | dsimp only)
instance (t:TypeId) (k:Value) (l:List MapEntry) (i:Nat):TC P (Instr.findAsking t k l i):=⟨t_findAsking t k l i⟩
instance (t:TypeId) (k:Value) (l:List MapEntry):TC P (Instr.findKey t k l):=⟨by
 unfold Instr.findKey
 try dsimp only
 (repeat' first | exact TC.out | (with_reducible refine tm_bind1 ?_ (fun _ => ?_)) | (with_reducible refine tm_map1 ?_ (fun _=>trivial)) | (with_reducible refine t_forInArray _ (fun _ _ => ?_) _ _) | (with_reducible refine t_forInList _ (fun _ _ => ?_) _ _) | (with_reducible refine t_forInRange _ (fun _ _ => ?_) _ _) | (with_reducible refine t_mapMArray _ (fun _ => ?_) _) | (with_reducible refine t_mapMList _ (fun _ => ?_) _) | (with_reducible refine t_foldlM _ (fun _ _ => ?_) _ _) | (with_reducible refine tm_ite ?_ ?_) | split | dsimp only)⟩
instance (t:TypeId) (x y:Value) (b:Bool):TC P (Instr.lookup t x y b):=⟨by
 unfold Instr.lookup
 try dsimp only
 (repeat' first | exact TC.out | (with_reducible refine tm_bind1 ?_ (fun _ => ?_)) | (with_reducible refine tm_map1 ?_ (fun _=>trivial)) | (with_reducible refine t_forInArray _ (fun _ _ => ?_) _ _) | (with_reducible refine t_forInList _ (fun _ _ => ?_) _ _) | (with_reducible refine t_forInRange _ (fun _ _ => ?_) _ _) | (with_reducible refine t_mapMArray _ (fun _ => ?_) _) | (with_reducible refine t_mapMList _ (fun _ => ?_) _) | (with_reducible refine t_foldlM _ (fun _ _ => ?_) _ _) | (with_reducible refine tm_ite ?_ ?_) | split | dsimp only)⟩
instance (x y:Value):TC P (Instr.keyThatStays x y):=⟨by
 unfold Instr.keyThatStays
 try dsimp only
 (repeat' first | exact TC.out | (with_reducible refine tm_bind1 ?_ (fun _ => ?_)) | (with_reducible refine tm_map1 ?_ (fun _=>trivial)) | (with_reducible refine t_forInArray _ (fun _ _ => ?_) _ _) | (with_reducible refine t_forInList _ (fun _ _ => ?_) _ _) | (with_reducible refine t_forInRange _ (fun _ _ => ?_) _ _) | (with_reducible refine t_mapMArray _ (fun _ => ?_) _) | (with_reducible refine t_mapMList _ (fun _ => ?_) _) | (with_reducible refine t_foldlM _ (fun _ _ => ?_) _ _) | (with_reducible refine tm_ite ?_ ?_) | split | dsimp only)⟩
instance (t:TypeId) (x y z:Value):TC P (Instr.mapUpdate t x y z):=⟨by
 unfold Instr.mapUpdate
 try dsimp only
 (repeat' first | exact TC.out | (with_reducible refine tm_bind1 ?_ (fun _ => ?_)) | (with_reducible refine tm_map1 ?_ (fun _=>trivial)) | (with_reducible refine t_forInArray _ (fun _ _ => ?_) _ _) | (with_reducible refine t_forInList _ (fun _ _ => ?_) _ _) | (with_reducible refine t_forInRange _ (fun _ _ => ?_) _ _) | (with_reducible refine t_mapMArray _ (fun _ => ?_) _) | (with_reducible refine t_mapMList _ (fun _ => ?_) _) | (with_reducible refine t_foldlM _ (fun _ _ => ?_) _ _) | (with_reducible refine tm_ite ?_ ?_) | split | dsimp only)⟩
instance (t:TypeId) (x y:Value):TC P (Instr.mapEntry t x y):=⟨by
 unfold Instr.mapEntry
 try dsimp only
 (repeat' first | exact TC.out | (with_reducible refine tm_bind1 ?_ (fun _ => ?_)) | (with_reducible refine tm_map1 ?_ (fun _=>trivial)) | (with_reducible refine t_forInArray _ (fun _ _ => ?_) _ _) | (with_reducible refine t_forInList _ (fun _ _ => ?_) _ _) | (with_reducible refine t_forInRange _ (fun _ _ => ?_) _ _) | (with_reducible refine t_mapMArray _ (fun _ => ?_) _) | (with_reducible refine t_mapMList _ (fun _ => ?_) _) | (with_reducible refine t_foldlM _ (fun _ _ => ?_) _ _) | (with_reducible refine tm_ite ?_ ?_) | split | dsimp only)⟩
instance (t:TypeId) (x y z:Value):TC P (Instr.entryStore t x y z):=⟨by
 unfold Instr.entryStore
 try dsimp only
 (repeat' first | exact TC.out | (with_reducible refine tm_bind1 ?_ (fun _ => ?_)) | (with_reducible refine tm_map1 ?_ (fun _=>trivial)) | (with_reducible refine t_forInArray _ (fun _ _ => ?_) _ _) | (with_reducible refine t_forInList _ (fun _ _ => ?_) _ _) | (with_reducible refine t_forInRange _ (fun _ _ => ?_) _ _) | (with_reducible refine t_mapMArray _ (fun _ => ?_) _) | (with_reducible refine t_mapMList _ (fun _ => ?_) _) | (with_reducible refine t_foldlM _ (fun _ _ => ?_) _ _) | (with_reducible refine tm_ite ?_ ?_) | split | dsimp only)⟩
instance (t:TypeId) (x:Value):TC P (Instr.range t x):=⟨by
 unfold Instr.range
 try dsimp only
 (repeat' first | exact TC.out | (with_reducible refine tm_bind1 ?_ (fun _ => ?_)) | (with_reducible refine tm_map1 ?_ (fun _=>trivial)) | (with_reducible refine t_forInArray _ (fun _ _ => ?_) _ _) | (with_reducible refine t_forInList _ (fun _ _ => ?_) _ _) | (with_reducible refine t_forInRange _ (fun _ _ => ?_) _ _) | (with_reducible refine t_mapMArray _ (fun _ => ?_) _) | (with_reducible refine t_mapMList _ (fun _ => ?_) _) | (with_reducible refine t_foldlM _ (fun _ _ => ?_) _ _) | (with_reducible refine tm_ite ?_ ?_) | split | dsimp only)⟩
instance (x:Value) (b:Bool) (t:TypeId):TC P (Instr.next x b t):=⟨by
 unfold Instr.next
 try dsimp only
 (repeat' first | exact TC.out | (with_reducible refine tm_bind1 ?_ (fun _ => ?_)) | (with_reducible refine tm_map1 ?_ (fun _=>trivial)) | (with_reducible refine t_forInArray _ (fun _ _ => ?_) _ _) | (with_reducible refine t_forInList _ (fun _ _ => ?_) _ _) | (with_reducible refine t_forInRange _ (fun _ _ => ?_) _ _) | (with_reducible refine t_mapMArray _ (fun _ => ?_) _) | (with_reducible refine t_mapMList _ (fun _ => ?_) _) | (with_reducible refine t_foldlM _ (fun _ _ => ?_) _ _) | (with_reducible refine tm_ite ?_ ?_) | split | dsimp only)⟩
instance (x:Value):TC P (Instr.entry x):=⟨by
 unfold Instr.entry
 try dsimp only
 (repeat' first | exact TC.out | (with_reducible refine tm_bind1 ?_ (fun _ => ?_)) | (with_reducible refine tm_map1 ?_ (fun _=>trivial)) | (with_reducible refine t_forInArray _ (fun _ _ => ?_) _ _) | (with_reducible refine t_forInList _ (fun _ _ => ?_) _ _) | (with_reducible refine t_forInRange _ (fun _ _ => ?_) _ _) | (with_reducible refine t_mapMArray _ (fun _ => ?_) _) | (with_reducible refine t_mapMList _ (fun _ => ?_) _) | (with_reducible refine t_foldlM _ (fun _ _ => ?_) _ _) | (with_reducible refine tm_ite ?_ ?_) | split | dsimp only)⟩
instance (x:Value) (t u:TypeId) (b:Bool):TC P (Instr.typeAssert x t u b):=⟨by
 unfold Instr.typeAssert
 try dsimp only
 (repeat' first | exact TC.out | (with_reducible refine tm_bind1 ?_ (fun _ => ?_)) | (with_reducible refine tm_map1 ?_ (fun _=>trivial)) | (with_reducible refine t_forInArray _ (fun _ _ => ?_) _ _) | (with_reducible refine t_forInList _ (fun _ _ => ?_) _ _) | (with_reducible refine t_forInRange _ (fun _ _ => ?_) _ _) | (with_reducible refine t_mapMArray _ (fun _ => ?_) _) | (with_reducible refine t_mapMList _ (fun _ => ?_) _) | (with_reducible refine t_foldlM _ (fun _ _ => ?_) _ _) | (with_reducible refine tm_ite ?_ ?_) | split | dsimp only)⟩
instance  : TC P (Instr.panicnil ):=⟨by
 unfold Instr.panicnil
 try dsimp only
 (repeat' first | exact TC.out | (with_reducible refine tm_bind1 ?_ (fun _ => ?_)) | (with_reducible refine tm_map1 ?_ (fun _=>trivial)) | (with_reducible refine t_forInArray _ (fun _ _ => ?_) _ _) | (with_reducible refine t_forInList _ (fun _ _ => ?_) _ _) | (with_reducible refine t_forInRange _ (fun _ _ => ?_) _ _) | (with_reducible refine t_mapMArray _ (fun _ => ?_) _) | (with_reducible refine t_mapMList _ (fun _ => ?_) _) | (with_reducible refine t_foldlM _ (fun _ _ => ?_) _ _) | (with_reducible refine tm_ite ?_ ?_) | split | dsimp only)⟩
instance (x:Value):TC P (Instr.panic x):=⟨by
 unfold Instr.panic
 try dsimp only
 (repeat' first | exact TC.out | (with_reducible refine tm_bind1 ?_ (fun _ => ?_)) | (with_reducible refine tm_map1 ?_ (fun _=>trivial)) | (with_reducible refine t_forInArray _ (fun _ _ => ?_) _ _) | (with_reducible refine t_forInList _ (fun _ _ => ?_) _ _) | (with_reducible refine t_forInRange _ (fun _ _ => ?_) _ _) | (with_reducible refine t_mapMArray _ (fun _ => ?_) _) | (with_reducible refine t_mapMList _ (fun _ => ?_) _) | (with_reducible refine t_foldlM _ (fun _ _ => ?_) _ _) | (with_reducible refine tm_ite ?_ ?_) | split | dsimp only)⟩
instance (l:Nat):TC P (Instr.getLoop l):=⟨by
 unfold Instr.getLoop
 try dsimp only
 (repeat' first | exact TC.out | (with_reducible refine tm_bind1 ?_ (fun _ => ?_)) | (with_reducible refine tm_map1 ?_ (fun _=>trivial)) | (with_reducible refine t_forInArray _ (fun _ _ => ?_) _ _) | (with_reducible refine t_forInList _ (fun _ _ => ?_) _ _) | (with_reducible refine t_forInRange _ (fun _ _ => ?_) _ _) | (with_reducible refine t_mapMArray _ (fun _ => ?_) _) | (with_reducible refine t_mapMList _ (fun _ => ?_) _) | (with_reducible refine t_foldlM _ (fun _ _ => ?_) _ _) | (with_reducible refine tm_ite ?_ ?_) | split | dsimp only)⟩
instance (f:FuncId) (t:Array Value) (p:Array Tmp) (a b:Code) (r:Option Nat):TC P (Instr.enterLoop f t p a b r):=⟨by
 unfold Instr.enterLoop
 try dsimp only
 (repeat' first | exact TC.out | (with_reducible refine tm_bind1 ?_ (fun _ => ?_)) | (with_reducible refine tm_map1 ?_ (fun _=>trivial)) | (with_reducible refine t_forInArray _ (fun _ _ => ?_) _ _) | (with_reducible refine t_forInList _ (fun _ _ => ?_) _ _) | (with_reducible refine t_forInRange _ (fun _ _ => ?_) _ _) | (with_reducible refine t_mapMArray _ (fun _ => ?_) _) | (with_reducible refine t_mapMList _ (fun _ => ?_) _) | (with_reducible refine t_foldlM _ (fun _ _ => ?_) _ _) | (with_reducible refine tm_ite ?_ ?_) | split | dsimp only)⟩
instance (l:Nat):TC P (Instr.beginRound l):=⟨by
 unfold Instr.beginRound
 try dsimp only
 (repeat' first | exact TC.out | (with_reducible refine tm_bind1 ?_ (fun _ => ?_)) | (with_reducible refine tm_map1 ?_ (fun _=>trivial)) | (with_reducible refine t_forInArray _ (fun _ _ => ?_) _ _) | (with_reducible refine t_forInList _ (fun _ _ => ?_) _ _) | (with_reducible refine t_forInRange _ (fun _ _ => ?_) _ _) | (with_reducible refine t_mapMArray _ (fun _ => ?_) _) | (with_reducible refine t_mapMList _ (fun _ => ?_) _) | (with_reducible refine t_foldlM _ (fun _ _ => ?_) _ _) | (with_reducible refine tm_ite ?_ ?_) | split | dsimp only)⟩
instance (l:Nat) (j:Option Code):TC P (Instr.endRound l j):=⟨by
 unfold Instr.endRound
 try dsimp only
 (repeat' first | exact TC.out | (with_reducible refine tm_bind1 ?_ (fun _ => ?_)) | (with_reducible refine tm_map1 ?_ (fun _=>trivial)) | (with_reducible refine t_forInArray _ (fun _ _ => ?_) _ _) | (with_reducible refine t_forInList _ (fun _ _ => ?_) _ _) | (with_reducible refine t_forInRange _ (fun _ _ => ?_) _ _) | (with_reducible refine t_mapMArray _ (fun _ => ?_) _) | (with_reducible refine t_mapMList _ (fun _ => ?_) _) | (with_reducible refine t_foldlM _ (fun _ _ => ?_) _ _) | (with_reducible refine tm_ite ?_ ?_) | split | dsimp only)⟩
instance (l:Nat):TC P (Instr.endLoop l):=⟨by
 unfold Instr.endLoop
 try dsimp only
 (repeat' first | exact TC.out | (with_reducible refine tm_bind1 ?_ (fun _ => ?_)) | (with_reducible refine tm_map1 ?_ (fun _=>trivial)) | (with_reducible refine t_forInArray _ (fun _ _ => ?_) _ _) | (with_reducible refine t_forInList _ (fun _ _ => ?_) _ _) | (with_reducible refine t_forInRange _ (fun _ _ => ?_) _ _) | (with_reducible refine t_mapMArray _ (fun _ => ?_) _) | (with_reducible refine t_mapMList _ (fun _ => ?_) _) | (with_reducible refine t_foldlM _ (fun _ _ => ?_) _ _) | (with_reducible refine tm_ite ?_ ?_) | split | dsimp only)⟩
instance (l:Nat) (d:Deferred):TC P (Instr.deferInRound l d):=⟨by
 unfold Instr.deferInRound
 try dsimp only
 (repeat' first | exact TC.out | (with_reducible refine tm_bind1 ?_ (fun _ => ?_)) | (with_reducible refine tm_map1 ?_ (fun _=>trivial)) | (with_reducible refine t_forInArray _ (fun _ _ => ?_) _ _) | (with_reducible refine t_forInList _ (fun _ _ => ?_) _ _) | (with_reducible refine t_forInRange _ (fun _ _ => ?_) _ _) | (with_reducible refine t_mapMArray _ (fun _ => ?_) _) | (with_reducible refine t_mapMList _ (fun _ => ?_) _) | (with_reducible refine t_foldlM _ (fun _ _ => ?_) _ _) | (with_reducible refine tm_ite ?_ ?_) | split | dsimp only)⟩
instance (b:Nat):TC P (Instr.takeDeferred b):=⟨by
 unfold Instr.takeDeferred
 try dsimp only
 (repeat' first | exact TC.out | (with_reducible refine tm_bind1 ?_ (fun _ => ?_)) | (with_reducible refine tm_map1 ?_ (fun _=>trivial)) | (with_reducible refine t_forInArray _ (fun _ _ => ?_) _ _) | (with_reducible refine t_forInList _ (fun _ _ => ?_) _ _) | (with_reducible refine t_forInRange _ (fun _ _ => ?_) _ _) | (with_reducible refine t_mapMArray _ (fun _ => ?_) _) | (with_reducible refine t_mapMList _ (fun _ => ?_) _) | (with_reducible refine t_foldlM _ (fun _ _ => ?_) _ _) | (with_reducible refine tm_ite ?_ ?_) | split | dsimp only)⟩
instance (a:Addr) (n:Nat):TC P (Builtin.holdsCells a n):=⟨by
 unfold Builtin.holdsCells
 try dsimp only
 (repeat' first | exact TC.out | (with_reducible refine tm_bind1 ?_ (fun _ => ?_)) | (with_reducible refine tm_map1 ?_ (fun _=>trivial)) | (with_reducible refine t_forInArray _ (fun _ _ => ?_) _ _) | (with_reducible refine t_forInList _ (fun _ _ => ?_) _ _) | (with_reducible refine t_forInRange _ (fun _ _ => ?_) _ _) | (with_reducible refine t_mapMArray _ (fun _ => ?_) _) | (with_reducible refine t_mapMList _ (fun _ => ?_) _) | (with_reducible refine t_foldlM _ (fun _ _ => ?_) _ _) | (with_reducible refine tm_ite ?_ ?_) | split | dsimp only)⟩
instance (s l n:Nat) (b:Option Addr) (x:Value):TC P (Builtin.mayShare s l n b x):=⟨by
 unfold Builtin.mayShare
 try dsimp only
 (repeat' first | exact TC.out | (with_reducible refine tm_bind1 ?_ (fun _ => ?_)) | (with_reducible refine tm_map1 ?_ (fun _=>trivial)) | (with_reducible refine t_forInArray _ (fun _ _ => ?_) _ _) | (with_reducible refine t_forInList _ (fun _ _ => ?_) _ _) | (with_reducible refine t_forInRange _ (fun _ _ => ?_) _ _) | (with_reducible refine t_mapMArray _ (fun _ => ?_) _) | (with_reducible refine t_mapMList _ (fun _ => ?_) _) | (with_reducible refine t_foldlM _ (fun _ _ => ?_) _ _) | (with_reducible refine tm_ite ?_ ?_) | split | dsimp only)⟩
instance (x:Value):TC P (Builtin.lenOf x):=⟨by
 unfold Builtin.lenOf
 try dsimp only
 (repeat' first | exact TC.out | (with_reducible refine tm_bind1 ?_ (fun _ => ?_)) | (with_reducible refine tm_map1 ?_ (fun _=>trivial)) | (with_reducible refine t_forInArray _ (fun _ _ => ?_) _ _) | (with_reducible refine t_forInList _ (fun _ _ => ?_) _ _) | (with_reducible refine t_forInRange _ (fun _ _ => ?_) _ _) | (with_reducible refine t_mapMArray _ (fun _ => ?_) _) | (with_reducible refine t_mapMList _ (fun _ => ?_) _) | (with_reducible refine t_foldlM _ (fun _ _ => ?_) _ _) | (with_reducible refine tm_ite ?_ ?_) | split | dsimp only)⟩
instance (s n:Nat) (x:Value):TC P (Builtin.firstCells s n x):=⟨by
 unfold Builtin.firstCells
 try dsimp only
 (repeat' first | exact TC.out | (with_reducible refine tm_bind1 ?_ (fun _ => ?_)) | (with_reducible refine tm_map1 ?_ (fun _=>trivial)) | (with_reducible refine t_forInArray _ (fun _ _ => ?_) _ _) | (with_reducible refine t_forInList _ (fun _ _ => ?_) _ _) | (with_reducible refine t_forInRange _ (fun _ _ => ?_) _ _) | (with_reducible refine t_mapMArray _ (fun _ => ?_) _) | (with_reducible refine t_mapMList _ (fun _ => ?_) _) | (with_reducible refine t_foldlM _ (fun _ _ => ?_) _ _) | (with_reducible refine tm_ite ?_ ?_) | split | dsimp only)⟩
instance (a:Array TypeId) (t:TypeId) (x:Array Value):TC P (Builtin.append_ a t x):=⟨by
 unfold Builtin.append_
 try dsimp only
 (repeat' first | exact TC.out | (with_reducible refine tm_bind1 ?_ (fun _ => ?_)) | (with_reducible refine tm_map1 ?_ (fun _=>trivial)) | (with_reducible refine t_forInArray _ (fun _ _ => ?_) _ _) | (with_reducible refine t_forInList _ (fun _ _ => ?_) _ _) | (with_reducible refine t_forInRange _ (fun _ _ => ?_) _ _) | (with_reducible refine t_mapMArray _ (fun _ => ?_) _) | (with_reducible refine t_mapMList _ (fun _ => ?_) _) | (with_reducible refine t_foldlM _ (fun _ _ => ?_) _ _) | (with_reducible refine tm_ite ?_ ?_) | split | dsimp only)⟩
instance (a:Array TypeId) (t:TypeId) (x:Array Value):TC P (Builtin.cap_ a t x):=⟨by
 unfold Builtin.cap_
 try dsimp only
 (repeat' first | exact TC.out | (with_reducible refine tm_bind1 ?_ (fun _ => ?_)) | (with_reducible refine tm_map1 ?_ (fun _=>trivial)) | (with_reducible refine t_forInArray _ (fun _ _ => ?_) _ _) | (with_reducible refine t_forInList _ (fun _ _ => ?_) _ _) | (with_reducible refine t_forInRange _ (fun _ _ => ?_) _ _) | (with_reducible refine t_mapMArray _ (fun _ => ?_) _) | (with_reducible refine t_mapMList _ (fun _ => ?_) _) | (with_reducible refine t_foldlM _ (fun _ _ => ?_) _ _) | (with_reducible refine tm_ite ?_ ?_) | split | dsimp only)⟩
instance (a:Array TypeId) (t:TypeId) (x:Array Value):TC P (Builtin.clear_ a t x):=⟨by
 unfold Builtin.clear_
 try dsimp only
 (repeat' first | exact TC.out | (with_reducible refine tm_bind1 ?_ (fun _ => ?_)) | (with_reducible refine tm_map1 ?_ (fun _=>trivial)) | (with_reducible refine t_forInArray _ (fun _ _ => ?_) _ _) | (with_reducible refine t_forInList _ (fun _ _ => ?_) _ _) | (with_reducible refine t_forInRange _ (fun _ _ => ?_) _ _) | (with_reducible refine t_mapMArray _ (fun _ => ?_) _) | (with_reducible refine t_mapMList _ (fun _ => ?_) _) | (with_reducible refine t_foldlM _ (fun _ _ => ?_) _ _) | (with_reducible refine tm_ite ?_ ?_) | split | dsimp only)⟩
instance (a:Array TypeId) (t:TypeId) (x:Array Value):TC P (Builtin.close_ a t x):=⟨by
 unfold Builtin.close_
 obtain⟨l⟩:=x
 rcases l with _ | ⟨z,_ | ⟨y,l⟩⟩
 ·exact tm_stuck _
 ·cases z<;>first | exact tm_stuck _ | skip
  rename_i r
  cases r with
  | none=>exact TC.out (s:=runtimePanic _)
  | some r=>show T1 P (_ >>= _); (repeat' first | exact TC.out | (with_reducible refine tm_bind1 ?_ (fun _ => ?_)) | (with_reducible refine tm_map1 ?_ (fun _=>trivial)) | (with_reducible refine t_forInArray _ (fun _ _ => ?_) _ _) | (with_reducible refine t_forInList _ (fun _ _ => ?_) _ _) | (with_reducible refine t_forInRange _ (fun _ _ => ?_) _ _) | (with_reducible refine t_mapMArray _ (fun _ => ?_) _) | (with_reducible refine t_mapMList _ (fun _ => ?_) _) | (with_reducible refine t_foldlM _ (fun _ _ => ?_) _ _) | (with_reducible refine tm_ite ?_ ?_) | split | dsimp only)
 ·cases z<;>exact tm_stuck _⟩
instance (a:Array TypeId) (t:TypeId) (x:Array Value):TC P (Builtin.complex_ a t x):=⟨by
 unfold Builtin.complex_
 obtain⟨l⟩:=x
 rcases l with _ | ⟨z,_ | ⟨y,_ | ⟨x,l⟩⟩⟩
 ·exact tm_stuck _
 ·cases z<;>exact tm_stuck _
 ·cases z<;>first | exact tm_stuck _ | (cases y<;>first | exact tm_stuck _ | exact tm_ite (tm_pure trivial) (tm_stuck _))
 ·cases z<;>first | exact tm_stuck _ | (cases y<;>exact tm_stuck _)⟩
instance (a:Array TypeId) (t:TypeId) (x:Array Value):TC P (Builtin.copy_ a t x):=⟨by
 unfold Builtin.copy_
 try dsimp only
 (repeat' first | exact TC.out | (with_reducible refine tm_bind1 ?_ (fun _ => ?_)) | (with_reducible refine tm_map1 ?_ (fun _=>trivial)) | (with_reducible refine t_forInArray _ (fun _ _ => ?_) _ _) | (with_reducible refine t_forInList _ (fun _ _ => ?_) _ _) | (with_reducible refine t_forInRange _ (fun _ _ => ?_) _ _) | (with_reducible refine t_mapMArray _ (fun _ => ?_) _) | (with_reducible refine t_mapMList _ (fun _ => ?_) _) | (with_reducible refine t_foldlM _ (fun _ _ => ?_) _ _) | (with_reducible refine tm_ite ?_ ?_) | split | dsimp only)⟩
instance (a:Array TypeId) (t:TypeId) (x:Array Value):TC P (Builtin.delete_ a t x):=⟨by
 unfold Builtin.delete_
 try dsimp only
 (repeat' first | exact TC.out | (with_reducible refine tm_bind1 ?_ (fun _ => ?_)) | (with_reducible refine tm_map1 ?_ (fun _=>trivial)) | (with_reducible refine t_forInArray _ (fun _ _ => ?_) _ _) | (with_reducible refine t_forInList _ (fun _ _ => ?_) _ _) | (with_reducible refine t_forInRange _ (fun _ _ => ?_) _ _) | (with_reducible refine t_mapMArray _ (fun _ => ?_) _) | (with_reducible refine t_mapMList _ (fun _ => ?_) _) | (with_reducible refine t_foldlM _ (fun _ _ => ?_) _ _) | (with_reducible refine tm_ite ?_ ?_) | split | dsimp only)⟩
instance (a:Array TypeId) (t:TypeId) (x:Array Value):TC P (Builtin.imag_ a t x):=⟨by
 unfold Builtin.imag_
 obtain⟨l⟩:=x
 rcases l with _ | ⟨z,_ | ⟨y,l⟩⟩
 ·exact tm_stuck _
 ·cases z<;>first | exact tm_pure trivial | exact tm_stuck _
 ·cases z<;>exact tm_stuck _⟩
instance (a:Array TypeId) (t:TypeId) (x:Array Value):TC P (Builtin.len_ a t x):=⟨by
 unfold Builtin.len_
 try dsimp only
 (repeat' first | exact TC.out | (with_reducible refine tm_bind1 ?_ (fun _ => ?_)) | (with_reducible refine tm_map1 ?_ (fun _=>trivial)) | (with_reducible refine t_forInArray _ (fun _ _ => ?_) _ _) | (with_reducible refine t_forInList _ (fun _ _ => ?_) _ _) | (with_reducible refine t_forInRange _ (fun _ _ => ?_) _ _) | (with_reducible refine t_mapMArray _ (fun _ => ?_) _) | (with_reducible refine t_mapMList _ (fun _ => ?_) _) | (with_reducible refine t_foldlM _ (fun _ _ => ?_) _ _) | (with_reducible refine tm_ite ?_ ?_) | split | dsimp only)⟩
instance (x y:Value):TC P (Builtin.max2 x y):=⟨by
 unfold Builtin.max2
 try dsimp only
 (repeat' first | exact TC.out | (with_reducible refine tm_bind1 ?_ (fun _ => ?_)) | (with_reducible refine tm_map1 ?_ (fun _=>trivial)) | (with_reducible refine t_forInArray _ (fun _ _ => ?_) _ _) | (with_reducible refine t_forInList _ (fun _ _ => ?_) _ _) | (with_reducible refine t_forInRange _ (fun _ _ => ?_) _ _) | (with_reducible refine t_mapMArray _ (fun _ => ?_) _) | (with_reducible refine t_mapMList _ (fun _ => ?_) _) | (with_reducible refine t_foldlM _ (fun _ _ => ?_) _ _) | (with_reducible refine tm_ite ?_ ?_) | split | dsimp only)⟩
instance (a:Array TypeId) (t:TypeId) (x:Array Value):TC P (Builtin.max_ a t x):=⟨by
 unfold Builtin.max_
 try dsimp only
 (repeat' first | exact TC.out | (with_reducible refine tm_bind1 ?_ (fun _ => ?_)) | (with_reducible refine tm_map1 ?_ (fun _=>trivial)) | (with_reducible refine t_forInArray _ (fun _ _ => ?_) _ _) | (with_reducible refine t_forInList _ (fun _ _ => ?_) _ _) | (with_reducible refine t_forInRange _ (fun _ _ => ?_) _ _) | (with_reducible refine t_mapMArray _ (fun _ => ?_) _) | (with_reducible refine t_mapMList _ (fun _ => ?_) _) | (with_reducible refine t_foldlM _ (fun _ _ => ?_) _ _) | (with_reducible refine tm_ite ?_ ?_) | split | dsimp only)⟩
instance (x y:Value):TC P (Builtin.min2 x y):=⟨by
 unfold Builtin.min2
 try dsimp only
 (repeat' first | exact TC.out | (with_reducible refine tm_bind1 ?_ (fun _ => ?_)) | (with_reducible refine tm_map1 ?_ (fun _=>trivial)) | (with_reducible refine t_forInArray _ (fun _ _ => ?_) _ _) | (with_reducible refine t_forInList _ (fun _ _ => ?_) _ _) | (with_reducible refine t_forInRange _ (fun _ _ => ?_) _ _) | (with_reducible refine t_mapMArray _ (fun _ => ?_) _) | (with_reducible refine t_mapMList _ (fun _ => ?_) _) | (with_reducible refine t_foldlM _ (fun _ _ => ?_) _ _) | (with_reducible refine tm_ite ?_ ?_) | split | dsimp only)⟩
instance (a:Array TypeId) (t:TypeId) (x:Array Value):TC P (Builtin.min_ a t x):=⟨by
 unfold Builtin.min_
 try dsimp only
 (repeat' first | exact TC.out | (with_reducible refine tm_bind1 ?_ (fun _ => ?_)) | (with_reducible refine tm_map1 ?_ (fun _=>trivial)) | (with_reducible refine t_forInArray _ (fun _ _ => ?_) _ _) | (with_reducible refine t_forInList _ (fun _ _ => ?_) _ _) | (with_reducible refine t_forInRange _ (fun _ _ => ?_) _ _) | (with_reducible refine t_mapMArray _ (fun _ => ?_) _) | (with_reducible refine t_mapMList _ (fun _ => ?_) _) | (with_reducible refine t_foldlM _ (fun _ _ => ?_) _ _) | (with_reducible refine tm_ite ?_ ?_) | split | dsimp only)⟩
instance (a:Array TypeId) (t:TypeId) (x:Array Value):TC P (Builtin.real_ a t x):=⟨by
 unfold Builtin.real_
 obtain⟨l⟩:=x
 rcases l with _ | ⟨z,_ | ⟨y,l⟩⟩
 ·exact tm_stuck _
 ·cases z<;>first | exact tm_pure trivial | exact tm_stuck _
 ·cases z<;>exact tm_stuck _⟩
instance (a:Array TypeId) (t:TypeId) (x:Array Value):TC P (Builtin.ssaWrapNilChk_ a t x):=⟨by
 unfold Builtin.ssaWrapNilChk_
 obtain⟨l⟩:=x
 rcases l with _ | ⟨z,_ | ⟨y,_ | ⟨x,_ | ⟨v,l⟩⟩⟩⟩
 ·exact tm_stuck _
 ·exact tm_stuck _
 ·cases y<;>exact tm_stuck _
 ·cases y<;>first | exact tm_stuck _ | skip
  cases x<;>first | exact tm_stuck _ | skip
  cases z<;>first | exact tm_stuck _ | skip
  rename_i p
  cases p with
  | some p=>exact tm_pure trivial
  | none=>show T1 P (_ >>= _); (repeat' first | exact TC.out | (with_reducible refine tm_bind1 ?_ (fun _ => ?_)) | (with_reducible refine tm_map1 ?_ (fun _=>trivial)) | (with_reducible refine t_forInArray _ (fun _ _ => ?_) _ _) | (with_reducible refine t_forInList _ (fun _ _ => ?_) _ _) | (with_reducible refine t_forInRange _ (fun _ _ => ?_) _ _) | (with_reducible refine t_mapMArray _ (fun _ => ?_) _) | (with_reducible refine t_mapMList _ (fun _ => ?_) _) | (with_reducible refine t_foldlM _ (fun _ _ => ?_) _ _) | (with_reducible refine tm_ite ?_ ?_) | split | dsimp only)
 ·cases y<;>first | exact tm_stuck _ | (cases x<;>exact tm_stuck _)⟩
instance (a:Array TypeId) (t:TypeId) (x:Array Value):TC P (Builtin.unsafeAdd_ a t x):=⟨by
 unfold Builtin.unsafeAdd_
 obtain⟨l⟩:=x
 rcases l with _ | ⟨z,_ | ⟨y,_ | ⟨x,l⟩⟩⟩
 ·exact tm_stuck _
 ·cases z<;>exact tm_stuck _
 ·cases z<;>first | exact tm_stuck _ | skip
  show T1 P (_ >>= _); (repeat' first | exact TC.out | (with_reducible refine tm_bind1 ?_ (fun _ => ?_)) | (with_reducible refine tm_map1 ?_ (fun _=>trivial)) | (with_reducible refine t_forInArray _ (fun _ _ => ?_) _ _) | (with_reducible refine t_forInList _ (fun _ _ => ?_) _ _) | (with_reducible refine t_forInRange _ (fun _ _ => ?_) _ _) | (with_reducible refine t_mapMArray _ (fun _ => ?_) _) | (with_reducible refine t_mapMList _ (fun _ => ?_) _) | (with_reducible refine t_foldlM _ (fun _ _ => ?_) _ _) | (with_reducible refine tm_ite ?_ ?_) | split | dsimp only)
 ·cases z<;>exact tm_stuck _⟩
instance (a:Array TypeId) (t:TypeId) (x:Array Value):TC P (Builtin.unsafeSlice_ a t x):=⟨by
 unfold Builtin.unsafeSlice_
 obtain⟨l⟩:=x
 rcases l with _ | ⟨z,_ | ⟨y,_ | ⟨x,l⟩⟩⟩
 ·exact tm_stuck _
 ·cases z<;>exact tm_stuck _
 ·cases z<;>first | exact tm_stuck _ | skip
  show T1 P (_ >>= _); (repeat' first | exact TC.out | (with_reducible refine tm_bind1 ?_ (fun _ => ?_)) | (with_reducible refine tm_map1 ?_ (fun _=>trivial)) | (with_reducible refine t_forInArray _ (fun _ _ => ?_) _ _) | (with_reducible refine t_forInList _ (fun _ _ => ?_) _ _) | (with_reducible refine t_forInRange _ (fun _ _ => ?_) _ _) | (with_reducible refine t_mapMArray _ (fun _ => ?_) _) | (with_reducible refine t_mapMList _ (fun _ => ?_) _) | (with_reducible refine t_foldlM _ (fun _ _ => ?_) _ _) | (with_reducible refine tm_ite ?_ ?_) | split | dsimp only)
 ·cases z<;>exact tm_stuck _⟩
instance (a:Array TypeId) (t:TypeId) (x:Array Value):TC P (Builtin.unsafeSliceData_ a t x):=⟨by
 unfold Builtin.unsafeSliceData_
 obtain⟨l⟩:=x
 rcases l with _ | ⟨z,_ | ⟨y,l⟩⟩
 ·exact tm_stuck _
 ·cases z<;>first | exact tm_stuck _ | skip
  rename_i r n c
  cases r with
  | none=>exact tm_pure trivial
  | some r=>show T1 P (if c≠0 then _ else _); (repeat' first | exact TC.out | (with_reducible refine tm_bind1 ?_ (fun _ => ?_)) | (with_reducible refine tm_map1 ?_ (fun _=>trivial)) | (with_reducible refine t_forInArray _ (fun _ _ => ?_) _ _) | (with_reducible refine t_forInList _ (fun _ _ => ?_) _ _) | (with_reducible refine t_forInRange _ (fun _ _ => ?_) _ _) | (with_reducible refine t_mapMArray _ (fun _ => ?_) _) | (with_reducible refine t_mapMList _ (fun _ => ?_) _) | (with_reducible refine t_foldlM _ (fun _ _ => ?_) _ _) | (with_reducible refine tm_ite ?_ ?_) | split | dsimp only)
 ·cases z<;>exact tm_stuck _⟩
instance (a:Array TypeId) (t:TypeId) (x:Array Value):TC P (Builtin.unsafeString_ a t x):=⟨by
 unfold Builtin.unsafeString_
 obtain⟨l⟩:=x
 rcases l with _ | ⟨z,_ | ⟨y,_ | ⟨x,l⟩⟩⟩
 ·exact tm_stuck _
 ·cases z<;>exact tm_stuck _
 ·cases z<;>first | exact tm_stuck _ | skip
  show T1 P (_ >>= _); (repeat' first | exact TC.out | (with_reducible refine tm_bind1 ?_ (fun _ => ?_)) | (with_reducible refine tm_map1 ?_ (fun _=>trivial)) | (with_reducible refine t_forInArray _ (fun _ _ => ?_) _ _) | (with_reducible refine t_forInList _ (fun _ _ => ?_) _ _) | (with_reducible refine t_forInRange _ (fun _ _ => ?_) _ _) | (with_reducible refine t_mapMArray _ (fun _ => ?_) _) | (with_reducible refine t_mapMList _ (fun _ => ?_) _) | (with_reducible refine t_foldlM _ (fun _ _ => ?_) _ _) | (with_reducible refine tm_ite ?_ ?_) | split | dsimp only)
 ·cases z<;>exact tm_stuck _⟩
instance (a:Array TypeId) (t:TypeId) (x:Array Value):TC P (Builtin.unsafeStringData_ a t x):=⟨by
 unfold Builtin.unsafeStringData_
 obtain⟨l⟩:=x
 rcases l with _ | ⟨z,_ | ⟨y,l⟩⟩
 ·exact tm_stuck _
 ·cases z<;>first | exact tm_stuck _ | skip
  rename_i s
  show T1 P (if s.size=0 then _ else _); (repeat' first | exact TC.out | (with_reducible refine tm_bind1 ?_ (fun _ => ?_)) | (with_reducible refine tm_map1 ?_ (fun _=>trivial)) | (with_reducible refine t_forInArray _ (fun _ _ => ?_) _ _) | (with_reducible refine t_forInList _ (fun _ _ => ?_) _ _) | (with_reducible refine t_forInRange _ (fun _ _ => ?_) _ _) | (with_reducible refine t_mapMArray _ (fun _ => ?_) _) | (with_reducible refine t_mapMList _ (fun _ => ?_) _) | (with_reducible refine t_foldlM _ (fun _ _ => ?_) _ _) | (with_reducible refine tm_ite ?_ ?_) | split | dsimp only)
 ·cases z<;>exact tm_stuck _⟩
instance (k:IntKind) (n:Int):TC P (Conv.intToInt k n):=⟨by
 unfold Conv.intToInt
 try dsimp only
 (repeat' first | exact TC.out | (with_reducible refine tm_bind1 ?_ (fun _ => ?_)) | (with_reducible refine tm_map1 ?_ (fun _=>trivial)) | (with_reducible refine t_forInArray _ (fun _ _ => ?_) _ _) | (with_reducible refine t_forInList _ (fun _ _ => ?_) _ _) | (with_reducible refine t_forInRange _ (fun _ _ => ?_) _ _) | (with_reducible refine t_mapMArray _ (fun _ => ?_) _) | (with_reducible refine t_mapMList _ (fun _ => ?_) _) | (with_reducible refine t_foldlM _ (fun _ _ => ?_) _ _) | (with_reducible refine tm_ite ?_ ?_) | split | dsimp only)⟩
instance (k:FloatKind) (n:Int):TC P (Conv.intToFloat k n):=⟨by
 unfold Conv.intToFloat
 try dsimp only
 (repeat' first | exact TC.out | (with_reducible refine tm_bind1 ?_ (fun _ => ?_)) | (with_reducible refine tm_map1 ?_ (fun _=>trivial)) | (with_reducible refine t_forInArray _ (fun _ _ => ?_) _ _) | (with_reducible refine t_forInList _ (fun _ _ => ?_) _ _) | (with_reducible refine t_forInRange _ (fun _ _ => ?_) _ _) | (with_reducible refine t_mapMArray _ (fun _ => ?_) _) | (with_reducible refine t_mapMList _ (fun _ => ?_) _) | (with_reducible refine t_foldlM _ (fun _ _ => ?_) _ _) | (with_reducible refine tm_ite ?_ ?_) | split | dsimp only)⟩
instance (k:FloatKind) (n:Nat) (l:IntKind):TC P (Conv.floatToInt k n l):=⟨by
 unfold Conv.floatToInt
 try dsimp only
 (repeat' first | exact TC.out | (with_reducible refine tm_bind1 ?_ (fun _ => ?_)) | (with_reducible refine tm_map1 ?_ (fun _=>trivial)) | (with_reducible refine t_forInArray _ (fun _ _ => ?_) _ _) | (with_reducible refine t_forInList _ (fun _ _ => ?_) _ _) | (with_reducible refine t_forInRange _ (fun _ _ => ?_) _ _) | (with_reducible refine t_mapMArray _ (fun _ => ?_) _) | (with_reducible refine t_mapMList _ (fun _ => ?_) _) | (with_reducible refine t_foldlM _ (fun _ _ => ?_) _ _) | (with_reducible refine tm_ite ?_ ?_) | split | dsimp only)⟩
instance (k:FloatKind) (m n:Nat) (l:FloatKind):TC P (Conv.complexToComplex k m n l):=⟨by
 unfold Conv.complexToComplex
 try dsimp only
 (repeat' first | exact TC.out | (with_reducible refine tm_bind1 ?_ (fun _ => ?_)) | (with_reducible refine tm_map1 ?_ (fun _=>trivial)) | (with_reducible refine t_forInArray _ (fun _ _ => ?_) _ _) | (with_reducible refine t_forInList _ (fun _ _ => ?_) _ _) | (with_reducible refine t_forInRange _ (fun _ _ => ?_) _ _) | (with_reducible refine t_mapMArray _ (fun _ => ?_) _) | (with_reducible refine t_mapMList _ (fun _ => ?_) _) | (with_reducible refine t_foldlM _ (fun _ _ => ?_) _ _) | (with_reducible refine tm_ite ?_ ?_) | split | dsimp only)⟩
instance (n:Int):TC P (Conv.intToString n):=⟨by
 unfold Conv.intToString
 try dsimp only
 (repeat' first | exact TC.out | (with_reducible refine tm_bind1 ?_ (fun _ => ?_)) | (with_reducible refine tm_map1 ?_ (fun _=>trivial)) | (with_reducible refine t_forInArray _ (fun _ _ => ?_) _ _) | (with_reducible refine t_forInList _ (fun _ _ => ?_) _ _) | (with_reducible refine t_forInRange _ (fun _ _ => ?_) _ _) | (with_reducible refine t_mapMArray _ (fun _ => ?_) _) | (with_reducible refine t_mapMList _ (fun _ => ?_) _) | (with_reducible refine t_foldlM _ (fun _ _ => ?_) _ _) | (with_reducible refine tm_ite ?_ ?_) | split | dsimp only)⟩
instance (t:TypeId) (s:ByteArray):TC P (Conv.stringToBytes t s):=⟨by
 unfold Conv.stringToBytes
 try dsimp only
 (repeat' first | exact TC.out | (with_reducible refine tm_bind1 ?_ (fun _ => ?_)) | (with_reducible refine tm_map1 ?_ (fun _=>trivial)) | (with_reducible refine t_forInArray _ (fun _ _ => ?_) _ _) | (with_reducible refine t_forInList _ (fun _ _ => ?_) _ _) | (with_reducible refine t_forInRange _ (fun _ _ => ?_) _ _) | (with_reducible refine t_mapMArray _ (fun _ => ?_) _) | (with_reducible refine t_mapMList _ (fun _ => ?_) _) | (with_reducible refine t_foldlM _ (fun _ _ => ?_) _ _) | (with_reducible refine tm_ite ?_ ?_) | split | dsimp only)⟩
instance (t:TypeId) (s:ByteArray):TC P (Conv.stringToRunes t s):=⟨by
 unfold Conv.stringToRunes
 try dsimp only
 (repeat' first | exact TC.out | (with_reducible refine tm_bind1 ?_ (fun _ => ?_)) | (with_reducible refine tm_map1 ?_ (fun _=>trivial)) | (with_reducible refine t_forInArray _ (fun _ _ => ?_) _ _) | (with_reducible refine t_forInList _ (fun _ _ => ?_) _ _) | (with_reducible refine t_forInRange _ (fun _ _ => ?_) _ _) | (with_reducible refine t_mapMArray _ (fun _ => ?_) _) | (with_reducible refine t_mapMList _ (fun _ => ?_) _) | (with_reducible refine t_foldlM _ (fun _ _ => ?_) _ _) | (with_reducible refine tm_ite ?_ ?_) | split | dsimp only)⟩
instance (x:Value):TC P (Conv.bytesToString x):=⟨by
 unfold Conv.bytesToString
 try dsimp only
 (repeat' first | exact TC.out | (with_reducible refine tm_bind1 ?_ (fun _ => ?_)) | (with_reducible refine tm_map1 ?_ (fun _=>trivial)) | (with_reducible refine t_forInArray _ (fun _ _ => ?_) _ _) | (with_reducible refine t_forInList _ (fun _ _ => ?_) _ _) | (with_reducible refine t_forInRange _ (fun _ _ => ?_) _ _) | (with_reducible refine t_mapMArray _ (fun _ => ?_) _) | (with_reducible refine t_mapMList _ (fun _ => ?_) _) | (with_reducible refine t_foldlM _ (fun _ _ => ?_) _ _) | (with_reducible refine tm_ite ?_ ?_) | split | dsimp only)⟩
instance (x:Value):TC P (Conv.runesToString x):=⟨by
 unfold Conv.runesToString
 try dsimp only
 (repeat' first | exact TC.out | (with_reducible refine tm_bind1 ?_ (fun _ => ?_)) | (with_reducible refine tm_map1 ?_ (fun _=>trivial)) | (with_reducible refine t_forInArray _ (fun _ _ => ?_) _ _) | (with_reducible refine t_forInList _ (fun _ _ => ?_) _ _) | (with_reducible refine t_forInRange _ (fun _ _ => ?_) _ _) | (with_reducible refine t_mapMArray _ (fun _ => ?_) _) | (with_reducible refine t_mapMList _ (fun _ => ?_) _) | (with_reducible refine t_foldlM _ (fun _ _ => ?_) _ _) | (with_reducible refine tm_ite ?_ ?_) | split | dsimp only)⟩
instance (a:Addr):TC P (Conv.seenAt a):=⟨by
 unfold Conv.seenAt
 try dsimp only
 (repeat' first | exact TC.out | (with_reducible refine tm_bind1 ?_ (fun _ => ?_)) | (with_reducible refine tm_map1 ?_ (fun _=>trivial)) | (with_reducible refine t_forInArray _ (fun _ _ => ?_) _ _) | (with_reducible refine t_forInList _ (fun _ _ => ?_) _ _) | (with_reducible refine t_forInRange _ (fun _ _ => ?_) _ _) | (with_reducible refine t_mapMArray _ (fun _ => ?_) _) | (with_reducible refine t_mapMList _ (fun _ => ?_) _) | (with_reducible refine t_foldlM _ (fun _ _ => ?_) _ _) | (with_reducible refine tm_ite ?_ ?_) | split | dsimp only)⟩
instance (s d:TypeId) (x:Value):TC P (Conv.unsafePointer s d x):=⟨by
 unfold Conv.unsafePointer
 try dsimp only
 (repeat' first | exact TC.out | (with_reducible refine tm_bind1 ?_ (fun _ => ?_)) | (with_reducible refine tm_map1 ?_ (fun _=>trivial)) | (with_reducible refine t_forInArray _ (fun _ _ => ?_) _ _) | (with_reducible refine t_forInList _ (fun _ _ => ?_) _ _) | (with_reducible refine t_forInRange _ (fun _ _ => ?_) _ _) | (with_reducible refine t_mapMArray _ (fun _ => ?_) _) | (with_reducible refine t_mapMList _ (fun _ => ?_) _) | (with_reducible refine t_foldlM _ (fun _ _ => ?_) _ _) | (with_reducible refine tm_ite ?_ ?_) | split | dsimp only)⟩
instance (t:TypeId) (x y:Value):TC P (movedNumber t x y):=⟨by
 unfold movedNumber
 try dsimp only
 (repeat' first | exact TC.out | (with_reducible refine tm_bind1 ?_ (fun _ => ?_)) | (with_reducible refine tm_map1 ?_ (fun _=>trivial)) | (with_reducible refine t_forInArray _ (fun _ _ => ?_) _ _) | (with_reducible refine t_forInList _ (fun _ _ => ?_) _ _) | (with_reducible refine t_forInRange _ (fun _ _ => ?_) _ _) | (with_reducible refine t_mapMArray _ (fun _ => ?_) _) | (with_reducible refine t_mapMList _ (fun _ => ?_) _) | (with_reducible refine t_foldlM _ (fun _ _ => ?_) _ _) | (with_reducible refine tm_ite ?_ ?_) | split | dsimp only)⟩
instance (t:TypeId) (x y:Value):TC P (movedPointer t x y):=⟨by
 unfold movedPointer
 try dsimp only
 (repeat' first | exact TC.out | (with_reducible refine tm_bind1 ?_ (fun _ => ?_)) | (with_reducible refine tm_map1 ?_ (fun _=>trivial)) | (with_reducible refine t_forInArray _ (fun _ _ => ?_) _ _) | (with_reducible refine t_forInList _ (fun _ _ => ?_) _ _) | (with_reducible refine t_forInRange _ (fun _ _ => ?_) _ _) | (with_reducible refine t_mapMArray _ (fun _ => ?_) _) | (with_reducible refine t_mapMList _ (fun _ => ?_) _) | (with_reducible refine t_foldlM _ (fun _ _ => ?_) _ _) | (with_reducible refine tm_ite ?_ ?_) | split | dsimp only)⟩
instance (o:BinOp) (t:TypeId) (x y:Operand) (a b:Value):TC P (eqGuard o t x y a b):=⟨by
 unfold eqGuard
 try dsimp only
 (repeat' first | exact TC.out | (with_reducible refine tm_bind1 ?_ (fun _ => ?_)) | (with_reducible refine tm_map1 ?_ (fun _=>trivial)) | (with_reducible refine t_forInArray _ (fun _ _ => ?_) _ _) | (with_reducible refine t_forInList _ (fun _ _ => ?_) _ _) | (with_reducible refine t_forInRange _ (fun _ _ => ?_) _ _) | (with_reducible refine t_mapMArray _ (fun _ => ?_) _) | (with_reducible refine t_mapMList _ (fun _ => ?_) _) | (with_reducible refine t_foldlM _ (fun _ _ => ?_) _ _) | (with_reducible refine tm_ite ?_ ?_) | split | dsimp only)⟩
instance (o:BinOp) (t:TypeId) (x y:Value):TC P (binOp o t x y):=⟨by
 unfold binOp
 try dsimp only
 (repeat' first | exact TC.out | (with_reducible refine tm_bind1 ?_ (fun _ => ?_)) | (with_reducible refine tm_map1 ?_ (fun _=>trivial)) | (with_reducible refine t_forInArray _ (fun _ _ => ?_) _ _) | (with_reducible refine t_forInList _ (fun _ _ => ?_) _ _) | (with_reducible refine t_forInRange _ (fun _ _ => ?_) _ _) | (with_reducible refine t_mapMArray _ (fun _ => ?_) _) | (with_reducible refine t_mapMList _ (fun _ => ?_) _) | (with_reducible refine t_foldlM _ (fun _ _ => ?_) _ _) | (with_reducible refine tm_ite ?_ ?_) | split | dsimp only)⟩
instance (s d:TypeId) (x:Value):TC P (convert s d x):=⟨by
 unfold convert
 try dsimp only
 (repeat' first | exact TC.out | (with_reducible refine tm_bind1 ?_ (fun _ => ?_)) | (with_reducible refine tm_map1 ?_ (fun _=>trivial)) | (with_reducible refine t_forInArray _ (fun _ _ => ?_) _ _) | (with_reducible refine t_forInList _ (fun _ _ => ?_) _ _) | (with_reducible refine t_forInRange _ (fun _ _ => ?_) _ _) | (with_reducible refine t_mapMArray _ (fun _ => ?_) _) | (with_reducible refine t_mapMList _ (fun _ => ?_) _) | (with_reducible refine t_foldlM _ (fun _ _ => ?_) _ _) | (with_reducible refine tm_ite ?_ ?_) | split | dsimp only)⟩
end
end Go.Co
