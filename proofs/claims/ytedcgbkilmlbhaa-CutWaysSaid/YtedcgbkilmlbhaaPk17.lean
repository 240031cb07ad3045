import Derived.Test.YtedcgbkilmlbhaaPk16
import Derived.Test.YtedcgbkilmlbhaaPk15
section
namespace Go.Co
open Go
def NextOk:Next→Prop
  | .callThen .. | .stack .. | .numGoroutine | .collect | .watch _ | .newcoro .. | .sleep _ | .timer _ | .alone .. => False
  | .row r _ => r = "runtime.print$piece"
  | _=>True
structure Plain (P:Program):Prop where
  count : ∀ (f : FuncId) (fn : Func), P.funcs[f]? = some fn → (fn.name == "runtime.NumGoroutine") = false
  quiet:∀ f:FuncId,(P.funcs[f]?).any (·.norace)=false
  next:∀ (f:FuncId) (fn:Func),P.funcs[f]? = some fn→fn.body.isNone=true→Extern.findNext fn=none
  find:∀ (f:FuncId) (fn:Func) (e:Array Value→Sem Value),P.funcs[f]? = some fn→fn.body.isNone=true→Extern.find fn=some e→∀ args,T1 P (e args)
def Td (P:Program) {α:Type} (d d':Nat) (s:Sem α):Prop :=
  ∀ (w:World) (es:Array Event),deafBehind 0 es=d→match s.runT P w es with
    | (.ok _ _,es')=>deafBehind 0 es'=d'
    | (.halt h _,_)=>¬ Loud h
section
variable {P:Program}
theorem td_bind {α β:Type} {d d' d'':Nat} {s:Sem α} {f:α→Sem β} (h:Td P d d' s) (hf:∀ a,Td P d' d'' (f a)):Td P d d'' (s >>= f):=by
  intro w es he
  rw[runT_bind']
  have:=h w es he
  revert this
  cases s.runT P w es with
  | mk r es' =>
    cases r with
    | ok a w'=>exact fun hb=>hf a w' es' hb
    | halt x w'=>exact id
theorem td_pure {α:Type} {d:Nat} (a:α):Td P d d (pure a):=fun _ _ he=>he
theorem td_halt {α:Type} {d d':Nat} {h:Halt} (hh:¬ Loud h):Td P d d' (Sem.halt h:Sem α):=fun _ _ _=>hh
theorem td_disable {d:Nat}:Td P d (d+1) (mark .disable):=fun _ es he=>by
  show deafBehind 0 (es.push _)=_
  rw[deafBehind_push,he]
theorem td_enable {d:Nat}:Td P (d+1) d (mark .enable):=fun _ es he=>by
  show deafBehind 0 (es.push _)=_
  rw[deafBehind_push,he]; rfl
theorem deafBehind_plain {d:Nat} {es es':Array Event} (he:deafBehind 0 es=d) (h:∀ e∈es',∃ a,e.loc = .cell a):deafBehind 0 (es++es')=d:=by
  obtain⟨l⟩:=es'
  rw[deafBehind_append,he]
  induction l with
  | nil=>rfl
  | cons e l ih =>
    have e1:(⟨e::l⟩:Array Event)=#[e]++⟨l⟩:=by simp
    rw[e1,deafBehind_append]
    have:deafBehind d #[e]=d:=by
      obtain⟨a,ha⟩:=h e (by simp)
      have:=deafBehind_push d #[] e
      rw[ha] at this
      exact this
    rw[this]
    exact ih fun x hx=>h x (by simp at hx ⊢; exact .inr hx)
theorem td_load {d:Nat} (a:Addr) (m:Mode):Td P d d (load a m):=by
  intro w es he
  unfold load
  simp only[Sem.runT]
  cases w.cell? a with
  | some v =>
    show deafBehind 0 (es.push _)=_
    rw[deafBehind_push,he]
  | none =>
    cases hf:w.farLoad P a (m == .atomic) with
    | ok r=>exact deafBehind_plain he (by simp)
    | error x =>
      show ¬ Loud x
      unfold World.farLoad at hf
      split at hf
      · split at hf
        · cases hf
        · cases hf; exact id
      · simp only[Except.error.injEq] at hf
        subst hf
        unfold World.noCell
        split<;>exact id
theorem td_store {d:Nat} (a:Addr) (v:Value) (m:Mode):Td P d d (store a v m):=by
  intro w es he
  unfold store
  cases v<;>simp only[Sem.runT]<;>first
    | exact id
    | (cases w.cell? a with
       | some _ =>
         by_cases hz:w.frozen? a=true
         · simp only[hz,if_true]; exact id
         · simp only[hz,if_false,Bool.false_eq_true]
           show deafBehind 0 (es.push _)=_
           rw[deafBehind_push,he]
       | none =>
         generalize hf:w.farStore P a _ _=r
         cases r with
         | ok r=>exact deafBehind_plain he (by simp)
         | error x =>
           show ¬ Loud x
           unfold World.farStore at hf
           split at hf
           · split at hf
             · cases hf
             · cases hf; exact id
           · simp only[Except.error.injEq] at hf
             subst hf
             unfold World.noCell
             split<;>exact id)
theorem td_program {d:Nat}:Td P d d program:=fun _ _ he=>he
theorem tb_of_td {α:Type} {s:Sem α} (h:Td P 0 0 s):Tb P (fun _=>True) s:=by
  intro w es he
  have:=h w es he
  revert this
  cases s.runT P w es with
  | mk r es' =>
    cases r with
    | ok a w'=>exact fun hb=>⟨trivial,hb⟩
    | halt x w'=>exact fun hb hl=>absurd hl hb
theorem t_of_td {α:Type} {s:Sem α} (h:Td P 0 0 s) (hp:Pf P s):T1 P s:=⟨tb_of_td h,hp⟩
theorem td_held {d:Nat}:Td P d d Extern.PrintPieces.held:=by
  unfold Extern.PrintPieces.held
  refine td_bind td_program fun p=>td_bind (td_load _ _) fun v => ?_
  split
  · exact td_pure _
  · exact td_halt id
theorem td_haltBind {α β:Type} {d d':Nat} {h:Halt} (hh:¬ Loud h) (f:α→Sem β):Td P d d' ((Sem.halt h:Sem α) >>= f):=fun _ _ _=>hh
theorem td_stuckBind {α β:Type} {d d':Nat} (m:String) (f:α→Sem β):Td P d d' ((stuck m:Sem α) >>= f):=fun _ _ _=>id
theorem td_unsBind {α β:Type} {d d':Nat} (m:Unsupported) (f:α→Sem β):Td P d d' ((unsupported m:Sem α) >>= f):=fun _ _ _=>id
theorem td_stuck {α:Type} {d d':Nat} (m:String):Td P d d' (stuck m:Sem α):=td_halt id
theorem td_write (fd:Nat) (b:ByteArray):Td P 0 0 (writeFd fd b):=by
  intro w es he
  unfold writeFd
  simp only[Sem.runT]
  have h0:deafBehind 0 (es.push ⟨.output,true,false⟩)=0:=by rw[deafBehind_push,he]
  split
  · rename_i h; revert h; split<;>intro h<;>simp only[Sem.runT] at h
    · cases h
    · cases h
    · obtain⟨-,rfl⟩:=h
      exact h0
  · rename_i h; revert h; split<;>intro h<;>simp only[Sem.runT] at h
    · cases h; exact id
    · cases h; exact id
    · cases h
theorem nextOk_value (v:Value):NextOk (.value v):=trivial
theorem nextOk_row (a : Array Value) : NextOk (.row "runtime.print$piece" a) := rfl
def Yl (P:Program) {α:Type} (Q:α→Prop) (s:Sem α):Prop:=∀ w es a w' es',s.runT P w es=(.ok a w',es')→Q a
theorem yl_pure {α:Type} {Q:α→Prop} {a:α} (h:Q a):Yl P Q (pure a:Sem α):=fun _ _ _ _ _ e=>by cases e; exact h
theorem yl_halt {α:Type} {Q:α→Prop} (h:Halt):Yl P Q (Sem.halt h:Sem α):=fun _ _ _ _ _ e=>by cases e
theorem yl_bind {α β:Type} {Q:β→Prop} {s:Sem α} {f:α→Sem β} (h:∀ a,Yl P Q (f a)):Yl P Q (s >>= f):=by
  intro w es b w' es' e
  rw[runT_bind'] at e
  revert e
  cases s.runT P w es with
  | mk r es' =>
    cases r with
    | ok a w'=>exact fun e=>h a _ _ _ _ _ e
    | halt x w'=>exact fun e=>by cases e
theorem piece_ok (a b:Array TypeId) (args:Array Value):Yl P NextOk (Extern.PrintPieces.piece a b args):=by
  unfold Extern.PrintPieces.piece
  (repeat' first | (with_reducible exact yl_pure (nextOk_value _)) | (with_reducible exact yl_pure (nextOk_row _)) | (with_reducible exact yl_halt _) | (with_reducible refine yl_bind (fun _ => ?_)) | split | dsimp only | exact yl_pure rfl | exact yl_halt _)
theorem td_piece (a b:Array TypeId) (args:Array Value):Td P 0 0 (Extern.PrintPieces.piece a b args):=by
  unfold Extern.PrintPieces.piece
  (repeat' first | (with_reducible exact td_stuck _) | (with_reducible exact td_pure _) | (with_reducible refine td_stuckBind _ _) | (with_reducible refine td_unsBind _ _) | (with_reducible refine td_haltBind id _) | (with_reducible refine td_bind td_disable (fun _ => ?_)) | (with_reducible refine td_bind td_enable (fun _ => ?_)) | (with_reducible exact td_enable) | (with_reducible refine td_bind td_held (fun _ => ?_)) | (with_reducible refine td_bind td_program (fun _ => ?_)) | (with_reducible refine td_bind (td_store _ _ _) (fun _ => ?_)) | (with_reducible refine td_bind (td_write _ _) (fun _ => ?_)) | split | dsimp only)
instance (t:TypeId) (x:Place):TC P (Place.get t x):=⟨by cases x<;>unfold Place.get<;>first | exact TC.out | exact tm_pure trivial⟩
theorem t_follow:∀ (l:List FieldStep) (t:TypeId) (x:Place),T1 P (follow l t x)
  | [],_,_=>tm_pure trivial
  | s::rest,t,x=>by
    have ih:=t_follow rest
    unfold follow
    (repeat' first | exact ih _ _ | exact TC.out | (with_reducible refine tm_bind1 ?_ (fun _ => ?_)) | (with_reducible refine tm_ite ?_ ?_) | split | dsimp only)
instance (l:List FieldStep) (t:TypeId) (x:Place):TC P (follow l t x):=⟨t_follow l t x⟩
instance (t:TypeId) (x:Place) (b:Bool) (o:Option String):TC P (receiverAt t x b o):=⟨by
  unfold receiverAt
  (repeat' first | exact TC.out | (with_reducible refine tm_bind1 ?_ (fun _ => ?_)) | (with_reducible refine tm_map1 ?_ (fun _=>trivial)) | (with_reducible exact tm_pure trivial) | (with_reducible refine t_forInArray _ (fun _ _ => ?_) _ _) | (with_reducible refine t_forInList _ (fun _ _ => ?_) _ _) | (with_reducible refine t_forInRange _ (fun _ _ => ?_) _ _) | (with_reducible refine t_mapMArray _ (fun _ => ?_) _) | (with_reducible refine t_mapMList _ (fun _ => ?_) _) | (with_reducible refine tm_ite ?_ ?_) | split | dsimp only)⟩
instance (t:TypeId) (v:Value) (p:Array FieldStep) (b:Bool):TC P (receiverVia t v p b):=⟨by
  unfold receiverVia
  (repeat' first | exact TC.out | (with_reducible refine tm_bind1 ?_ (fun _ => ?_)) | (with_reducible refine tm_map1 ?_ (fun _=>trivial)) | (with_reducible exact tm_pure trivial) | (with_reducible refine t_forInArray _ (fun _ _ => ?_) _ _) | (with_reducible refine t_forInList _ (fun _ _ => ?_) _ _) | (with_reducible refine t_forInRange _ (fun _ _ => ?_) _ _) | (with_reducible refine t_mapMArray _ (fun _ => ?_) _) | (with_reducible refine t_mapMList _ (fun _ => ?_) _) | (with_reducible refine tm_ite ?_ ?_) | split | dsimp only)⟩
theorem t_method:∀ (d:Nat) (t:TypeId) (v:Value) (n:String),T1 P (method d t v n)
  | 0,_,_,_=>tm_unsupported _
  | d+1,t,v,n=>by
    have ih:=t_method d
    unfold method
    (repeat' first | exact ih _ _ _ | exact TC.out | (with_reducible refine tm_bind1 ?_ (fun _ => ?_)) | (with_reducible refine tm_ite ?_ ?_) | split | dsimp only)
instance (d:Nat) (t:TypeId) (v:Value) (n:String):TC P (method d t v n):=⟨t_method d t v n⟩
theorem t_followBlind:∀ (l:List FieldStep) (t:TypeId) (x:Option Value),T1 P (followBlind l t x)
  | [],_,_=>tm_pure trivial
  | s::rest,t,x=>by
    have ih:=t_followBlind rest
    unfold followBlind
    (repeat' first | exact ih _ _ | exact TC.out | (with_reducible refine tm_bind1 ?_ (fun _ => ?_)) | (with_reducible refine tm_ite ?_ ?_) | split | dsimp only)
instance (l:List FieldStep) (t:TypeId) (x:Option Value):TC P (followBlind l t x):=⟨t_followBlind l t x⟩
theorem t_nilAhead:∀ (d:Nat) (t:TypeId) (v:Value) (n:String),T1 P (nilAhead d t v n)
  | 0,_,_,_=>tm_pure trivial
  | d+1,t,v,n=>by
    have ih:=t_nilAhead d
    unfold nilAhead
    (repeat' first | exact ih _ _ _ | exact TC.out | (with_reducible refine tm_bind1 ?_ (fun _ => ?_)) | (with_reducible refine tm_ite ?_ ?_) | split | dsimp only)
instance (d:Nat) (t:TypeId) (v:Value) (n:String):TC P (nilAhead d t v n):=⟨t_nilAhead d t v n⟩
instance (t:TypeId) (v:Value):TC P (Builtin.printOne t v):=⟨by
  unfold Builtin.printOne
  (repeat' first | exact TC.out | (with_reducible refine tm_bind1 ?_ (fun _ => ?_)) | (with_reducible refine tm_map1 ?_ (fun _=>trivial)) | (with_reducible exact tm_pure trivial) | (with_reducible refine t_forInArray _ (fun _ _ => ?_) _ _) | (with_reducible refine t_forInList _ (fun _ _ => ?_) _ _) | (with_reducible refine t_forInRange _ (fun _ _ => ?_) _ _) | (with_reducible refine t_mapMArray _ (fun _ => ?_) _) | (with_reducible refine t_mapMList _ (fun _ => ?_) _) | (with_reducible refine tm_ite ?_ ?_) | split | dsimp only)⟩
theorem t_forInList' {γ σ:Type}:∀ (l:List γ) (f:(c:γ)→c∈l→σ→Sem (ForInStep σ)) (_:∀ c hc s,T1 P (f c hc s)) (s:σ),T1 P (forIn' l s f)
  | [],_,_,_=>tm_pure trivial
  | c::l,f,h,s=>by
    rw[List.forIn'_cons]
    refine tm_bind1 (h _ _ _) fun r => ?_
    split
    · exact tm_pure trivial
    · exact t_forInList' l _ (fun _ _ _=>h _ _ _) _
theorem t_forInRange' {σ:Type} (n:Nat) (f:(i:Nat)→i∈([:n]:Std.Legacy.Range)→σ→Sem (ForInStep σ)) (h:∀ i hi s,T1 P (f i hi s)) (s:σ):T1 P (forIn' [:n] s f):=by
  rw[Std.Legacy.Range.forIn'_eq_forIn'_range']
  exact t_forInList' _ _ (fun _ _ _=>h _ _ _) _
instance (ln:Bool) (c:Array Bool) (ts:Array TypeId) (args:Array Value):TC P (Builtin.pieces ln c ts args):=⟨by
  unfold Builtin.pieces
  (repeat' first | exact TC.out | (with_reducible refine tm_bind1 ?_ (fun _ => ?_)) | (with_reducible refine tm_map1 ?_ (fun _=>trivial)) | (with_reducible exact tm_pure trivial) | (with_reducible refine t_forInRange' _ _ (fun _ _ _ => ?_) _) | (with_reducible refine t_forInArray _ (fun _ _ => ?_) _ _) | (with_reducible refine t_forInList _ (fun _ _ => ?_) _ _) | (with_reducible refine tm_ite ?_ ?_) | split | dsimp only)⟩
abbrev TN (P:Program) (s:Sem Next):Prop:=Tm P NextOk s
theorem tn_of {s:Sem Next} (h:T1 P s) (h':Yl P NextOk s):TN P s:=by
  refine⟨fun w es he => ?_,h.pf⟩
  have:=h.tb w es he
  have h2:=h' w es
  revert this h2
  cases s.runT P w es with
  | mk r es' =>
    cases r with
    | ok a w'=>exact fun hb h2=>⟨h2 _ _ _ rfl,hb.2⟩
    | halt x w'=>exact fun hb _=>hb
theorem pf_load (a:Addr) (m:Mode):Pf P (load a m):=(t_load a m).pf
theorem pf_store (a:Addr) (v:Value) (m:Mode):Pf P (store a v m):=(t_store a v m).pf
theorem pf_stuck {α:Type} (m:String):Pf P (stuck m:Sem α):=pf_halt _
theorem pf_uns {α:Type} (m:Unsupported):Pf P (unsupported m:Sem α):=pf_halt _
theorem pf_held:Pf P Extern.PrintPieces.held:=by
  unfold Extern.PrintPieces.held
  (repeat' first | (with_reducible exact pf_pure _) | (with_reducible exact pf_halt _) | (with_reducible exact pf_stuck _) | (with_reducible exact pf_load _ _) | (with_reducible exact t_program1.pf) | (with_reducible refine pf_bind ?_ (fun _ => ?_)) | split | dsimp only)
theorem pf_piece (a b:Array TypeId) (args:Array Value):Pf P (Extern.PrintPieces.piece a b args):=by
  unfold Extern.PrintPieces.piece
  (repeat' first | (with_reducible exact pf_pure _) | (with_reducible exact pf_halt _) | (with_reducible exact pf_stuck _) | (with_reducible exact pf_uns _) | (with_reducible exact pf_load _ _) | (with_reducible exact pf_store _ _ _) | (with_reducible exact pf_mark _) | (with_reducible exact pf_held) | (with_reducible exact(t_writeFd _ _).pf) | (with_reducible exact t_program1.pf) | (with_reducible refine pf_bind ?_ (fun _ => ?_)) | split | dsimp only)
theorem tn_piece (a b:Array TypeId) (args:Array Value):TN P (Extern.PrintPieces.piece a b args):=tn_of (t_of_td (td_piece a b args) (pf_piece a b args)) (piece_ok a b args)
theorem tn_printMarked (ln:Bool) (c:Array Bool) (ts:Array TypeId) (args:Array Value):TN P (Builtin.printMarked ln c ts args):=by
  unfold Builtin.printMarked
  refine tm_bind1 TC.out fun ps => ?_
  split
  · exact tm_pure trivial
  · exact tn_piece _ _ _
theorem tn_v {s:Sem Value} (h:T1 P s):TN P (do pure (.value (← s))):=tm_bind1 h fun _=>tm_pure trivial
theorem tn_u {s:Sem Unit} (h:T1 P s):TN P (do s; pure .skip):=tm_bind1 h fun _=>tm_pure trivial
theorem tn_builtin (b:Builtin) (ts:Array TypeId) (t:TypeId) (c:Array Bool) (args:Array Value):TN P (builtin b ts t c args):=by
  unfold builtin
  dsimp only
  split<;>first
    | (with_reducible exact tn_v TC.out)
    | exact tn_printMarked _ _ _ _
    | exact tm_pure trivial
    | exact tm_stuck _
    | exact tm_unsupported _
    | exact tm_bind1 TC.out fun _=>tm_pure trivial
theorem tn_callFunc (hP:Plain P) (f:FuncId) (args:Array Value):TN P (callFunc f args):=by
  unfold callFunc
  refine tm_program ?_
  split
  · exact tm_stuck _
  · rename_i fn hfn
    rw[hP.count f fn hfn]
    simp only[Bool.false_eq_true,if_false]
    · split
      · rename_i hb
        refine tm_bind1 (t_mark (by simp)) fun _ => ?_
        rw[hP.next f fn hfn hb]
        dsimp only
        split
        · rename_i e he
          exact tn_v (hP.find f fn e hfn hb he args)
        · split
          · exact tm_pure trivial
          · exact tm_unsupported _
      · exact tm_pure trivial
theorem tm_runtimePanic {α:Type} {R:α→Prop} (e:RuntimeError):Tm P R (runtimePanic e:Sem α):=by
  unfold runtimePanic
  refine tm_bind1 t_program1 fun p => ?_
  dsimp only
  split<;>first | exact tm_goPanic _ | exact tm_bind1 TC.out fun _=>tm_bind1 TC.out fun _=>tm_goPanic _
theorem tn_callMethod (hP:Plain P) (r:Value) (n:String) (args:Array Value):TN P (callMethod r n args):=by
  unfold callMethod
  split
  · refine tm_bind1 t_program1 fun p=>tm_bind1 TC.out fun x => ?_
    exact tn_callFunc hP _ _
  · exact tm_runtimePanic _
  · exact tm_stuck _
theorem tn_invoke (hP:Plain P) (t:Target) (args:Array Value):TN P (invoke t args):=by
  unfold invoke
  split
  · exact tm_runtimePanic _
  · exact tn_builtin _ _ _ _ _
  · exact tn_callFunc hP _ _
  · split
    · exact tn_callMethod hP _ _ _
    · exact tm_stuck _
  · split
    · refine tm_bind1 TC.out fun _ => ?_
      exact tn_callMethod hP _ _ _
    · exact tm_stuck _
  · split
    · refine tm_bind1 TC.out fun _ => ?_
      exact tn_callFunc hP _ _
    · exact tm_stuck _
  · unfold Instr.yield
    refine tm_bind1 TC.out fun r => ?_
    dsimp only
    split
    · exact tm_bind1 (tm_stuck _) fun _=>tm_pure trivial
    · exact tm_pure trivial
  · exact tm_stuck _
  · exact tm_pure trivial
instance (f:Value) (args:Array Value):TC P (Deferred.ofValue f args):=⟨by
  unfold Deferred.ofValue
  split<;>first | exact tm_pure trivial | exact tm_stuck _⟩
instance (ρ:Operand→Value) (c:Call) (t:TypeId):TC P (resolve ρ c t):=⟨by
  unfold resolve
  dsimp only
  split<;>first | exact tm_pure trivial | exact TC.out⟩
theorem tn_execOp (hP:Plain P) (ρ:Operand→Value) (o:Oper):TN P (execOp ρ o):=by
  unfold execOp
  dsimp only
  split<;>first
    | (with_reducible exact tn_v TC.out)
    | (with_reducible exact tn_u TC.out)
    | exact tm_pure trivial
    | exact tm_bind1 TC.out fun _=>tm_pure trivial
    | exact tm_bind1 TC.out fun _=>tn_invoke hP _ _
    | skip
  · split<;>first
      | exact tm_runtimePanic _
      | exact tm_pure trivial
      | skip
    split<;>first
      | exact tm_runtimePanic _
      | exact tm_pure trivial
      | skip
    refine tm_bind1 t_program1 fun _=>tm_bind1 TC.out fun _ => ?_
    split
    · exact tm_bind1 (tm_unsupported _) fun _=>tm_pure trivial
    · exact tm_pure trivial
  · exact tn_v (tm_bind1 TC.out fun _=>TC.out)
  · refine tm_bind1 TC.out fun _ => ?_
    split
    · exact tm_bind1 TC.out fun _=>tm_pure trivial
    · exact tm_stuck _
  · exact tm_bind1 (t_mapMArray _ (fun _=>tm_bind1 TC.out fun _=>tm_pure trivial) _) fun _=>tm_pure trivial
instance (fn:Func) (ts:Array Value):TC P (results fn ts):=⟨by
  unfold results
  refine tm_bind1 (t_mapMArray _ (fun r => ?_) _) fun vs => ?_
  · split
    · exact tm_pure trivial
    · exact tm_bind1 TC.out fun _=>TC.out
  · split<;>exact tm_pure trivial⟩
end
end Go.Co
end
section
namespace Go.Co
open Go
def okItem:Item→Prop
 | .call .. => False
 | .extern r _ => r = "runtime.print$piece"
 | _=>True
def okF (fr:Frame):Prop:=∀ i∈fr.todo,okItem i
def BK (fr:Frame) (callers:List Frame):Prop:=match callers.getLast? with | none=>fr.kind = .report | some f=>f.kind = .report
def Hg (b:Prop) (dy:Option Dying) (fr:Frame) (callers:List Frame):Prop :=
 okF fr∧(∀ f∈callers,okF f)∧((b→dy≠none)∧∀ d,dy=some d→(d.calling=false∨BK fr callers))
def OkS (b:Prop):GStep→Prop
 | .go g _ es=>Bal es∧Hg b g.dying g.frame g.callers∧(∀ t,g.status ≠ .sleeping t)∧g.status ≠ .parked
 | .comm g _ _ _ _ es=>Bal es∧Hg b g.dying g.frame g.callers∧g.status = .running
 | .spawn g _ _ es=>Bal es∧Hg b g.dying g.frame g.callers
 | .coroswitch g _ _ _ es=>Bal es∧Hg b g.dying g.frame g.callers
 | .ended .. => True
 | _=>False
theorem okS_after {b:Prop} {es:Array Event} {s:GStep} (he:Bal es) (h:OkS b s):OkS b (GStep.after es s):=by
 cases s<;>first | exact⟨bal_append he h.1,h.2⟩ | exact h
theorem okS_go {b:Prop} {dy:Option Dying} {fr:Frame} {callers:List Frame} {st:GoStatus} {off:Option (Array CommCase×CommShape)} {w:World} (h:Hg b dy fr callers) (hs:(∀ t,st ≠ .sleeping t)∧st ≠ .parked:=by simp):OkS b (.go ⟨fr,callers,st,dy,off⟩ w):=⟨bal_nil,h,hs⟩
variable {b:Prop} {dy:Option Dying} {fr fr':Frame} {callers callers':List Frame}
theorem hg_fr (h:Hg b dy fr callers) (hk:fr'.kind=fr.kind) (ho:okF fr'):Hg b dy fr' callers:=by
 refine⟨ho,h.2.1,h.2.2.1,fun d hd=>(h.2.2.2 d hd).imp id ?_⟩
 unfold BK
 cases callers.getLast? with
 | none=>exact fun e=>hk.trans e
 | some f=>exact id
theorem hg_push (h:Hg b dy fr callers) (ho:okF fr'):Hg b dy fr' (fr::callers):=by
 refine⟨ho,fun f hf => ?_,h.2.2.1,fun d hd=>(h.2.2.2 d hd).imp id ?_⟩
 ·rcases List.mem_cons.1 hf with rfl | hf
  ·exact h.1
  ·exact h.2.1 f hf
 ·unfold BK
  rw[List.getLast?_cons]
  cases callers.getLast? with
  | none=>exact id
  | some f=>exact id
theorem hg_pop {c:Frame} {rest:List Frame} (h:Hg b dy fr (c::rest)) (hk:fr'.kind=c.kind) (ho:okF c→okF fr'):Hg b dy fr' rest:=by
 refine⟨ho (h.2.1 c (by simp)),fun f hf=>h.2.1 f (by simp[hf]),h.2.2.1,fun d hd=>(h.2.2.2 d hd).imp id ?_⟩
 unfold BK
 rw[List.getLast?_cons]
 cases rest.getLast? with
 | none=>exact fun e=>hk.trans e
 | some f=>exact id
theorem okF_todo {fr fr':Frame} (h:okF fr) (e:∀ i∈fr'.todo,i∈fr.todo∨okItem i):okF fr':=fun i hi=>(e i hi).elim (h i) id
theorem okF_same {fr fr':Frame} (h:okF fr) (e:fr'.todo=fr.todo):okF fr':=fun i hi=>h i (e▸hi)
theorem okF_finish (h:okF fr) (v:Value):okF (fr.finish v):=by
 unfold Frame.finish
 split
 ·rename_i hk
  intro i hi
  rcases List.mem_cons.1 hi with rfl | hi
  ·trivial
  ·exact h i (by rw[hk]; simp[hi])
 ·rename_i hk
  intro i hi
  rcases List.mem_cons.1 hi with rfl | hi
  ·trivial
  ·exact h i (by rw[hk]; simp[hi])
 ·rename_i hk
  intro i hi
  exact h i (by rw[hk]; simp[hi])
 ·rename_i hk
  exact absurd (h _ (by rw[hk]; exact List.mem_cons_self ..)) id
 ·rename_i hk
  intro i hi
  exact h i (by rw[hk]; simp[hi])
 ·exact h
theorem kind_finish (fr:Frame) (v:Value):(fr.finish v).kind=fr.kind:=by
 unfold Frame.finish
 split<;>rfl
theorem okF_raise (h:okF fr) (l:List PanicEntry):okF (fr.raise l):=by
 unfold Frame.raise
 split<;>exact h
theorem kind_raise (fr:Frame) (l:List PanicEntry):(fr.raise l).kind=fr.kind:=by
 unfold Frame.raise
 split<;>rfl
theorem okF_enter (P:Program) (f:FuncId) (args:Array Value) (k:CallKind):okF (Frame.enter P f args k):=by
 intro i hi
 simp only[Frame.enter,List.mem_singleton] at hi
 subst hi; trivial
theorem okF_round (l:Nat) (f:FuncId) (tmps:Array Value) (a c:Code) (k:CallKind):okF (Frame.round l f tmps a c k):=by
 intro i hi
 simp only[Frame.round,List.mem_cons,List.not_mem_nil,or_false] at hi
 rcases hi with rfl | rfl | rfl<;>trivial
theorem okF_row (P : Program) (args : Array Value) (k : CallKind) : okF (Frame.ofRow P "runtime.print$piece" args k) := by
 intro i hi
 simp only[Frame.ofRow,List.mem_singleton] at hi
 subst hi; exact rfl
theorem hg_finish (h:Hg b dy fr callers) (v:Value):Hg b dy (fr.finish v) callers:=hg_fr h (kind_finish _ _) (okF_finish h.1 v)
theorem hg_raise (h:Hg b dy fr callers) (l:List PanicEntry):Hg b dy (fr.raise l) callers:=hg_fr h (kind_raise _ _) (okF_raise h.1 l)
theorem hg_same (h:Hg b dy fr callers) (hk:fr'.kind=fr.kind) (ht:fr'.todo=fr.todo):Hg b dy fr' callers:=hg_fr h hk (okF_same h.1 ht)
theorem hg_recover:∀ {fr:Frame} {callers callers':List Frame} {v:Value},tryRecover fr callers=some (v,callers')→Hg b dy fr callers→Hg b dy fr callers':=by
 intro fr callers
 induction callers generalizing fr with
 | nil=>intro callers' v e; simp[tryRecover] at e
 | cons c rest ih =>
  intro callers' v e h
  unfold tryRecover at e
  split at e
  ·rename_i hc
   simp only[List.cons.injEq] at hc
   obtain⟨rfl,rfl⟩:=hc
   split at e
   ·simp only[Option.some.injEq,Prod.mk.injEq] at e
    obtain⟨-,rfl⟩:=e
    refine⟨h.1,fun f hf => ?_,h.2.2.1,fun d hd=>(h.2.2.2 d hd).imp id ?_⟩
    ·rcases List.mem_cons.1 hf with rfl | hf
     ·exact okF_same (h.2.1 _ (List.mem_cons_self ..)) rfl
     ·exact h.2.1 f (by simp[hf])
    ·unfold BK
     rw[List.getLast?_cons,List.getLast?_cons]
     cases rest.getLast?<;>exact id
   ·cases e
  ·rename_i hc
   simp only[List.cons.injEq] at hc
   obtain⟨rfl,rfl⟩:=hc
   simp only[Option.map_eq_some_iff,Prod.exists,Prod.mk.injEq] at e
   obtain⟨a,r,e,rfl,rfl⟩:=e
   exact hg_push (ih e (hg_pop (fr':=c) h rfl id)) h.1
  ·cases e
theorem hg_recoverLoop:∀ {l:Nat} {fr:Frame} {callers callers':List Frame} {v:Value},tryRecoverLoop l callers=some (v,callers')→Hg b dy fr callers→Hg b dy fr callers':=by
 intro l fr callers
 induction callers generalizing fr l with
 | nil=>intro callers' v e; simp[tryRecoverLoop] at e
 | cons c rest ih =>
  intro callers' v e h
  unfold tryRecoverLoop at e
  simp only[Option.map_eq_some_iff,Prod.exists,Prod.mk.injEq] at e
  obtain⟨a,r,e,rfl,rfl⟩:=e
  have h':=hg_pop (fr':=c) h rfl id
  have:Hg b dy c r:=by
   split at e
   ·exact ih e h'
   ·split at e
    ·exact hg_recover e h'
    ·exact ih e h'
   ·exact ih e h'
  exact hg_push this h.1
theorem deaf_step (d:Nat) (e:Event) (es:List Event):deafBehind d ⟨e::es⟩=deafBehind (deafBehind d #[e]) ⟨es⟩:=by
 have e1:(⟨e::es⟩:Array Event)=#[e]++⟨es⟩:=by simp
 rw[e1,deafBehind_append]
theorem seen_quietless {P:Program} (hq:∀ f:FuncId,(P.funcs[f]?).any (·.norace)=false) (fn:FuncId) (es:Array Event) (d:Nat):deafBehind d (seen P fn es)=deafBehind d es:=by
 obtain⟨l⟩:=es
 have key:∀ (l:List Event) (kept:Array Event),deafBehind d (l.foldl (fun(x:Bool×Array Event) e =>
   match e.loc with
   | .mark (.extern _)=>(false,x.2)
   | _=>(x.1,if x.1 && !e.sync then x.2 else x.2.push e)) (false,kept)).2=deafBehind (deafBehind d kept) ⟨l⟩:=by
  intro l
  induction l with
  | nil=>intro kept; rfl
  | cons e l ih =>
   intro kept
   rw[List.foldl_cons,deaf_step]
   split
   ·rename_i f hf
    rw[ih]
    congr 1
    have:=deafBehind_push (deafBehind d kept) #[] e
    rw[hf] at this
    exact this.symm
   ·simp only[Bool.false_and,Bool.false_eq_true,if_false]
    rw[ih]
    congr 1
    rw[← deafBehind_append]
    rfl
 have:=key l #[]
 unfold seen
 simp only[hq]
 rw[← Array.foldl_toList]
 exact this
theorem bal_seen {P:Program} (hP:Plain P) (fn:FuncId) {es:Array Event} (h:Bal es):Bal (seen P fn es):=by
 unfold Bal
 rw[seen_quietless hP.quiet]
 exact h
theorem okS_ite {b:Prop} {c:Prop} [Decidable c] {x y:GStep} (hx:OkS b x) (hy:OkS b y):OkS b (if c then x else y):=by split<;>assumption
theorem dieOf_ok {b:Prop} (fr:Frame) (h:okF fr) (a:List ByteArray) (m:String) (x:Bool) (w:World):OkS b (dieOf fr a m x w) :=
 ⟨bal_nil,⟨h,fun _ hf=>absurd hf (List.not_mem_nil),⟨fun _ hx=>(nomatch hx),fun d hd => .inl (by cases hd; rfl)⟩⟩,by simp⟩
theorem endThrow_ok {b:Prop} (fr:Frame) (h:okF fr) (m:String) (w:World):OkS b (endThrow fr m w):=dieOf_ok fr h _ _ _ w
theorem endFatal_ok {b:Prop} (P:Program) (fr:Frame) (h:okF fr) (callers:List Frame) (dy:Option Dying) (m:String) (w:World):OkS b (endFatal P fr callers dy m w):=by
 unfold endFatal
 dsimp only
 split
 ·exact dieOf_ok fr h _ _ _ _
 ·exact trivial
 ·exact trivial
theorem endPrinting_ok {b:Prop} (P:Program) (fr:Frame) (h:okF fr) (v:Value) (w:World):OkS b (endPrinting P fr v w):=by
 unfold endPrinting
 dsimp only
 split
 ·exact endThrow_ok fr h _ _
 ·exact trivial
theorem endWith_ok {b:Prop} (w:World) (fd:Nat) (t:ByteArray) (o:Outcome):OkS b (endWith w fd t o):=by
 unfold endWith
 dsimp only
 split
 ·split<;>exact trivial
 ·exact trivial
 ·exact trivial
theorem hg_early {P:Program}:∀ (l:List Nat),Hg b dy fr callers→∀ f,Hg b dy (Frame.enter P f #[] .early) (l.map (Frame.enter P · #[] .early)++fr::callers)
 | [],h,f=>hg_push h (by exact okF_enter _ _ _ _)
 | x::l,h,f=>hg_push (hg_early l h x) (by exact okF_enter _ _ _ _)
theorem early_ok (P:Program) (h:Hg b dy fr callers) (g:Nat) (w:World):OkS b (early P fr callers dy g w):=by
 have notYet:∀ w:World,OkS b
   (match w.heap[g]? with
    | some (.pending c elem) => .go { frame:=fr,callers,status := .running,dying:=dy } { w with heap:=w.heap.setIfInBounds g (.cells c elem) }
    | _ => .ended (.stuck "early: the variable does not wait" (fr.pos P)) w) := by
  intro w
  split
  ·exact okS_go h
  ·exact trivial
 unfold early
 dsimp only
 split
 ·exact notYet w
 ·split
  ·exact trivial
  ·split
   ·exact notYet w
   ·split
    ·exact notYet w
    ·split
     ·exact trivial
     ·exact okS_go (hg_early _ h _)
     ·exact trivial
     ·exact notYet w
     ·split
      ·exact okS_go (hg_early _ h _)
      ·split
       ·exact notYet w
       ·split
        ·exact notYet _
        ·exact okS_go (hg_early _ h _)
        ·exact trivial
theorem apply_ok {P:Program} (hP:Plain P) (h:Hg b dy fr callers) {s:Sem Next} (hs:TN P s) (w:World):OkS b (stepG.apply P true fr callers dy s w):=by
 unfold stepG.apply
 have:=hs.tb w #[] bal_nil
 revert this
 generalize s.runT P w #[]=x
 obtain⟨r,es⟩:=x
 simp only[if_true]
 intro this
 cases r with
 | ok a w' =>
  obtain⟨hn,he⟩:=this
  refine okS_after (bal_seen hP _ (by split<;>first | exact bal_nil | exact he)) ?_
  cases a with
  | callThen d r s x=>exact absurd hn id
  | stack r s=>exact absurd hn id
  | row r args =>
   have hr : r = "runtime.print$piece" := hn
   subst hr
   dsimp only
   split
   ·rename_i k hk
    refine okS_go (hg_fr h rfl ?_)
    intro i hi
    rcases List.mem_cons.1 hi with rfl | hi
    ·exact rfl
    ·exact h.1 i (by rw[hk]; simp[hi])
   ·exact okS_go (hg_push h (by exact okF_row _ _ _))
  | value v=>exact okS_go (hg_finish h v)
  | skip=>exact okS_go (hg_finish h _)
  | enter f args=>exact okS_go (hg_push h (by exact okF_enter _ _ _ _))
  | round l f tmps as body=>exact okS_go (hg_push h (by exact okF_round _ _ _ _ _ _))
  | defer d=>exact okS_go (hg_finish (fr:={ fr with defers:=d::fr.defers }) (hg_same h rfl rfl) _)
  | recover =>
   dsimp only
   split
   ·rename_i v callers' e
    split at e
    ·split at e
     ·exact okS_go (hg_finish (hg_recover e h) _)
     ·exact okS_go (hg_finish (hg_recoverLoop e h) _)
    ·exact okS_go (hg_finish (hg_recover e h) _)
   ·exact okS_go (hg_finish h _)
  | comm c bl sh=>exact⟨bal_nil,h,rfl⟩
  | coroswitch c x=>exact⟨bal_nil,h⟩
  | spawn d =>
   dsimp only
   exact okS_ite (endThrow_ok fr h.1 _ _) ⟨bal_nil,hg_finish h _⟩
  | _=>exact absurd hn id
 | halt x w' =>
  cases x with
  | panic v=>exact okS_after (bal_seen hP _ (by split<;>first | exact bal_nil | exact this trivial)) (okS_go (hg_raise h _))
  | goexit=>exact okS_after (bal_seen hP _ (by split<;>first | exact bal_nil | exact this trivial)) (okS_go (hg_raise h _))
  | blocked=>exact okS_after (bal_seen hP _ (by split<;>exact bal_nil)) (okS_go h)
  | waiting=>exact okS_after (bal_seen hP _ (by split<;>exact bal_nil)) (okS_go h)
  | fatal m=>exact okS_after (bal_seen hP _ (by split<;>first | exact bal_nil | exact this trivial)) (endFatal_ok P fr h.1 _ _ _ _)
  | throw m=>exact okS_after (bal_seen hP _ (by split<;>first | exact bal_nil | exact this trivial)) (endThrow_ok fr h.1 _ _)
  | unsupported u =>
   cases u with
   | initOrder g=>exact okS_after (bal_seen hP _ (by split<;>exact bal_nil)) (early_ok P h _ _)
   | _=>exact trivial
  | exit c=>exact trivial
  | stuck s=>exact trivial
theorem oper_ok {P:Program} (hP:Plain P) (h:Hg b dy fr callers) (w:World):OkS b (stepG.oper P true fr callers dy w):=by
 unfold stepG.oper
 split
 ·exact trivial
 ·split
  ·refine apply_ok hP h ?_ w
   exact tm_bind1 TC.out fun _=>tm_bind1 TC.out fun _=>tm_pure trivial
  ·exact apply_ok hP h (tn_execOp hP _ _) w
theorem doReturn_ok (P:Program) (main:Bool) (h:Hg b dy fr callers) (hx:dy≠none→BK fr callers) (v:Value) (w:World):OkS b (doReturn P main fr callers dy v w):=by
 unfold doReturn
 split
 ·rename_i c rest
  split
  ·exact okS_go (hg_pop h (kind_finish _ _) fun hc=>okF_finish hc _)
  ·exact okS_go (hg_pop h (kind_finish _ _) fun hc=>okF_finish hc _)
  ·exact okS_go (hg_pop h rfl id)
  ·dsimp only
   refine okS_go (hg_pop h ?_ fun hc => ?_)
   ·split
    ·split<;>rfl
    ·rfl
   ·split
    ·split<;>exact hc
    ·exact hc
 ·split
  ·exact okS_go ⟨h.1,h.2.1,⟨fun _ hx=>(nomatch hx),fun d hd => .inl (by cases hd; rfl)⟩⟩
  ·exact trivial
  ·rename_i hk _
   have nb:b→False:=fun hb=>hk (hx (h.2.2.1 hb))
   split
   ·exact okS_go ⟨h.1,h.2.1,fun hb=>(nb hb).elim,fun d hd=>(nomatch hd)⟩
   ·split
    ·exact okS_go ⟨okF_enter _ _ _ _,h.2.1,fun hb=>(nb hb).elim,fun d hd=>(nomatch hd)⟩
    ·exact trivial
theorem callDeferred_ok {P:Program} (hP:Plain P) (h:Hg b dy fr callers) (d:Deferred) (w:World):OkS b (callDeferred P fr callers dy d w):=by
 unfold callDeferred
 refine okS_ite trivial ?_
 have:=(tn_invoke hP d.target d.args).tb w #[] bal_nil
 revert this
 generalize (invoke d.target d.args).runT P w #[]=x
 obtain⟨r,es⟩:=x
 intro this
 dsimp only
 cases r with
 | ok a w' =>
  obtain⟨hn,he⟩:=this
  refine okS_after (bal_seen hP _ he) ?_
  cases a with
  | callThen d r s x=>exact absurd hn id
  | stack r s=>exact absurd hn id
  | row r args =>
   have hr : r = "runtime.print$piece" := hn
   subst hr
   exact okS_go (hg_push h (okF_row _ _ _))
  | enter f args=>exact okS_go (hg_push h (okF_enter _ _ _ _))
  | round l f tmps as body=>exact okS_go (hg_push h (okF_round _ _ _ _ _ _))
  | recover =>
   dsimp only
   split
   ·rename_i e
    exact okS_go (hg_recover e h)
   ·exact okS_go h
  | coroswitch c x=>cases x<;>first | exact trivial | exact⟨bal_nil,h⟩
  | value v=>exact okS_go h
  | skip=>exact okS_go h
  | defer d=>exact okS_go h
  | spawn d=>exact okS_go h
  | comm c bl sh=>exact okS_go h
  | _=>exact absurd hn id
 | halt x w' =>
  cases x with
  | panic v=>exact okS_after (bal_seen hP _ (this trivial)) (okS_go (hg_raise h _))
  | goexit=>exact okS_after (bal_seen hP _ (this trivial)) (okS_go (hg_raise h _))
  | blocked=>exact okS_after (bal_seen hP _ bal_nil) (okS_go (hg_same h rfl rfl))
  | waiting=>exact okS_after (bal_seen hP _ bal_nil) (okS_go (hg_same h rfl rfl))
  | fatal m=>exact okS_after (bal_seen hP _ (this trivial)) (endFatal_ok P fr h.1 _ _ _ _)
  | throw m=>exact okS_after (bal_seen hP _ (this trivial)) (endThrow_ok fr h.1 _ _)
  | unsupported u=>exact trivial
  | exit c=>exact trivial
  | stuck s=>exact trivial
theorem unwind_ok {P:Program} (hP:Plain P) (main:Bool) (h:Hg b dy fr callers) (hx:dy≠none→BK fr callers) (w:World):OkS b (unwind P main fr callers dy w):=by
 unfold unwind
 split
 ·rename_i block args ds hk
  have:=(TC.out:T1 P (Instr.takeDeferred block)).tb w #[] bal_nil
  revert this
  generalize (Instr.takeDeferred block).runT P w #[]=x
  obtain⟨r,es⟩:=x
  intro this
  cases r with
  | ok a w'=>exact okS_after (bal_seen hP _ this.2) (okS_go (hg_same h rfl rfl))
  | halt x w'=>exact trivial
 ·rename_i d ds _ _
  exact callDeferred_ok (fr:={ fr with defers:=ds }) hP (hg_same h rfl rfl) _ w
 ·split
  ·exact trivial
  ·refine okS_ite trivial ?_
   split
   ·exact okS_go (hg_pop h (kind_raise _ _) fun hc=>okF_raise hc _)
   ·split
    ·refine okS_ite (okS_go ⟨h.1,h.2.1,h.2.2.1,fun d hd=>(nomatch hd)⟩) ?_
     split
     ·exact okS_go ⟨h.1,h.2.1,⟨fun _ hx=>(nomatch hx),fun d hd => .inl (by cases hd; rfl)⟩⟩
     ·exact trivial
     ·exact trivial
    ·split
     ·exact endPrinting_ok P fr h.1 _ _
     ·exact trivial
  ·split
   ·exact doReturn_ok P main h hx _ w
   ·rename_i fn _
    have:=(TC.out:T1 P (results fn fr.tmps)).tb w #[] bal_nil
    revert this
    generalize (results fn fr.tmps).runT P w #[]=x
    obtain⟨r,es⟩:=x
    intro this
    cases r with
    | ok a w'=>exact okS_after (bal_seen hP _ this.2) (doReturn_ok P main h hx _ _)
    | halt x w'=>cases x<;>exact trivial
theorem okF_exitTo {id:Nat}:∀ {k k':List Item},exitTo id k=some k'→∀ i∈k',i∈k
 | [],_,e=>by simp[exitTo] at e
 | x::k,k',e=>by
  unfold exitTo at e
  split at e
  ·rename_i hk
   cases hk
   split at e
   ·cases e; exact fun i hi=>by simp[hi]
   ·exact fun i hi=>by simp[okF_exitTo e i hi]
  ·rename_i hk
   cases hk
   exact fun i hi=>by simp[okF_exitTo e i hi]
  ·rename_i hk; cases hk
theorem okF_gotoIn {l:Nat}:∀ {k k':List Item},gotoIn l k=some k'→∀ i∈k',i∈k∨okItem i
 | [],_,e=>by simp[gotoIn] at e
 | x::k,k',e=>by
  unfold gotoIn at e
  split at e
  ·rename_i hk
   cases hk
   split at e
   ·cases e
    intro i hi
    rcases List.mem_cons.1 hi with rfl | hi
    ·exact .inr trivial
    ·exact .inl (by simpa using hi)
   ·intro i hi
    rcases okF_gotoIn e i hi with h | h
    ·exact .inl (by simp[h])
    ·exact .inr h
  ·rename_i hk
   cases hk
   intro i hi
   rcases okF_gotoIn e i hi with h | h
   ·exact .inl (by simp[h])
   ·exact .inr h
  ·rename_i hk; cases hk
theorem next_piece {P : Program} {e : Array Value → Sem Next} (h : Extern.next "runtime.print$piece" = some e) (args : Array Value) : TN P (e args) := by
 have : Extern.next "runtime.print$piece" = some (Extern.PrintPieces.piece #[] #[]) := by rfl
 rw[this] at h
 cases h
 exact tn_piece _ _ _
theorem exec_ok {P:Program} (hP:Plain P) (main:Bool) (h:Hg b dy fr callers) (hx:dy≠none→BK fr callers) (w:World):OkS b (stepG.exec P main true fr callers dy w):=by
 have leave:∀ jump:Option Code,OkS b
   (match fr.roundOf with
    | none => if jump matches none | some .ret then .go { frame := { fr with mode := .returning }, callers, status := .running, dying := dy } w else .ended (.stuck "exit, goto: no such block or label" (fr.pos P)) w
    | some l =>
     GStep.after (seen P fr.fn ((Instr.endRound l jump).runT P w #[]).2) <| match ((Instr.endRound l jump).runT P w #[]).1 with
     | .ok v w=>doReturn P main fr callers dy v w
     | .halt _ w => .ended (.stuck "range over a function: no such loop" (fr.pos P)) w) := by
  intro jump
  cases fr.roundOf with
  | none=>exact okS_ite (okS_go (hg_same h rfl rfl)) trivial
  | some l =>
   dsimp only
   have:=(TC.out:T1 P (Instr.endRound l jump)).tb w #[] bal_nil
   revert this
   generalize (Instr.endRound l jump).runT P w #[]=x
   obtain⟨r,es⟩:=x
   intro this
   cases r with
   | ok a w'=>exact okS_after (bal_seen hP _ this.2) (doReturn_ok P main h hx _ _)
   | halt x w'=>exact trivial
 have to:∀ (todo:List Item),(∀ i∈todo,i∈fr.todo∨okItem i)→OkS b (.go { frame:={ fr with todo },callers,status := .running,dying:=dy } w) :=
  fun todo ht=>okS_go (hg_fr h rfl (okF_todo h.1 ht))
 have ho:=h.1
 unfold stepG.exec
 dsimp only
 split
 ·exact leave none
 ·exact leave (some .ret)
 ·rename_i k hk; exact to k (fun i hi => .inl (by rw[hk]; simp[hi]))
 ·rename_i k hk; exact to k (fun i hi => .inl (by rw[hk]; simp[hi]))
 ·rename_i k hk; exact to k (fun i hi => .inl (by rw[hk]; simp[hi]))
 ·rename_i k hk; exact to k (fun i hi => .inl (by rw[hk]; simp[hi]))
 ·rename_i x y k hk
  refine to _ fun i hi => ?_
  rcases List.mem_cons.1 hi with rfl | hi
  ·exact .inr trivial
  rcases List.mem_cons.1 hi with rfl | hi
  ·exact .inr trivial
  ·exact .inl (by rw[hk]; simp[hi])
 ·rename_i c x y k hk
  split
  ·refine to _ fun i hi => ?_
   rcases List.mem_cons.1 hi with rfl | hi
   ·exact .inr trivial
   ·exact .inl (by rw[hk]; simp[hi])
  ·exact trivial
 ·rename_i k hk
  refine to _ fun i hi => ?_
  rcases List.mem_cons.1 hi with rfl | hi
  ·exact .inr trivial
  rcases List.mem_cons.1 hi with rfl | hi
  ·exact .inr trivial
  ·exact .inl (by rw[hk]; simp[hi])
 ·rename_i k hk
  refine to _ fun i hi => ?_
  rcases List.mem_cons.1 hi with rfl | hi
  ·exact .inr trivial
  rcases List.mem_cons.1 hi with rfl | hi
  ·exact .inr trivial
  ·exact .inl (by rw[hk]; simp[hi])
 ·rename_i k hk
  refine to _ fun i hi => ?_
  rcases List.mem_cons.1 hi with rfl | hi
  ·exact .inr trivial
  rcases List.mem_cons.1 hi with rfl | hi
  ·exact .inr trivial
  ·exact .inl (by rw[hk]; simp[hi])
 ·rename_i k hk
  refine to _ fun i hi => ?_
  rcases List.mem_cons.1 hi with rfl | hi
  ·exact .inr trivial
  rcases List.mem_cons.1 hi with rfl | hi
  ·exact .inr trivial
  ·exact .inl (by rw[hk]; simp[hi])
 ·rename_i id k hk
  cases e:exitTo id k with
  | none=>exact leave (some (.exit id))
  | some k'=>exact to k' fun i hi => .inl (by rw[hk]; simp[okF_exitTo e i hi])
 ·rename_i l k hk
  cases e:gotoIn l k with
  | none=>exact leave (some (.goto l))
  | some k'=>exact to k' fun i hi=>(okF_gotoIn e i hi).imp (fun hi=>by rw[hk]; simp[hi]) _root_.id
 ·rename_i f params assign body k hk
  have:=(TC.out:T1 P (Instr.enterLoop fr.fn fr.tmps params assign body fr.roundOf)).tb w #[] bal_nil
  revert this
  generalize (Instr.enterLoop fr.fn fr.tmps params assign body fr.roundOf).runT P w #[]=x
  obtain⟨r,es⟩:=x
  intro this
  cases r with
  | ok a w' =>
   refine okS_after (bal_seen hP _ this.2) ?_
   refine apply_ok (fr:={ fr with todo := .inRangeFunc a.1::k,defers:=a.2++fr.defers }) hP (hg_fr h rfl ?_) (tm_bind1 TC.out fun _=>tn_invoke hP _ _) _
   intro i hi
   rcases List.mem_cons.1 hi with rfl | hi
   ·exact trivial
   ·exact ho i (by rw[hk]; simp[hi])
  | halt x w'=>exact trivial
 ·exact trivial
 ·refine apply_ok hP h (tm_bind1 ?_ fun _=>tm_pure (show NextOk .skip from trivial)) w
  cases fr.roundOf with
  | none=>exact tm_stuck _
  | some l=>exact(TC.out:T1 P (Instr.beginRound l))
 ·rename_i l k hk
  have:=(TC.out:T1 P (Instr.endLoop l)).tb w #[] bal_nil
  revert this
  generalize (Instr.endLoop l).runT P w #[]=x
  obtain⟨r,es⟩:=x
  intro this
  cases r with
  | ok a w' =>
   refine okS_after (bal_seen hP _ this.2) (okS_go (hg_fr h rfl ?_))
   intro i hi
   rcases List.mem_append.1 hi with hi | hi
   ·cases a with
    | none=>simp at hi
    | some c=>simp at hi; subst hi; exact trivial
   ·exact ho i (by rw[hk]; simp[hi])
  | halt x w' =>
   cases x with
   | panic v=>exact okS_after (bal_seen hP _ (this trivial)) (okS_go (hg_raise h _))
   | _=>exact trivial
 ·exact trivial
 ·rename_i hk; exact absurd (ho _ (by rw[hk]; exact List.mem_cons_self ..)) id
 ·rename_i row args k hk
  have hr : row = "runtime.print$piece" := ho (.extern row args) (by rw [hk]; exact List.mem_cons_self ..)
  subst hr
  cases e : Extern.next "runtime.print$piece" with
  | none=>exact trivial
  | some x=>exact apply_ok hP h (next_piece e args) w
 ·rename_i id ops draw k hk
  have hin:∀ t,∀ i∈(Item.inRegion ops t::k),i∈fr.todo∨okItem i:=fun t i hi=>by
   rcases List.mem_cons.1 hi with rfl | hi
   ·exact .inr trivial
   ·exact .inl (by rw[hk]; simp[hi])
  refine okS_ite (to _ (hin _)) ?_
  split
  ·exact okS_go (hg_fr h rfl (okF_todo ho (hin _)))
  ·exact trivial
 ·rename_i k hk; exact to k (fun i hi => .inl (by rw[hk]; simp[hi]))
 ·exact okS_ite (oper_ok hP h w) (okS_go (hg_finish h _))
theorem td_uns {P:Program} {α:Type} {d d':Nat} (m:Unsupported):Td P d d' (unsupported m:Sem α):=td_halt id
theorem td_sys {P:Program} {d:Nat} (c:Sys):Td P d d (sys c):=fun _ es he=>by
 show deafBehind 0 (es.push _)=_
 rw[deafBehind_push,he]
theorem writeOn_ok {b:Prop} {P:Program} (fr:Frame) (d:Dying) (f:Fatal) (ho:okF fr) (hd:d.calling=false) (w:World):OkS b (writeOn P fr d f w):=by
 unfold writeOn
 dsimp only
 split
 ·exact trivial
 ·rename_i piece rest _
  have hT:Tb P (fun _=>True) (do
    if !(f.whole&&f.begun) then
     mark .disable
     if ← Extern.PrintPieces.held then .halt .blocked
     if f.whole then store (printLock (← program)) (.bool true) .atomic
     mark .enable
    if piece.size > 65536 then unsupported (.noEntry "a report of more than 65536 bytes")
    match ← sys (.write 2 piece) with
    | .int n => if n != piece.size then unsupported (.noEntry "a report that its descriptor cannot take whole")
    | .err _=>pure ()
    | _ => unsupported (.noEntry "a report that its descriptor cannot take whole") : Sem Unit) := by
   refine tb_of_td ?_
   (repeat' first | (with_reducible exact td_stuck _) | (with_reducible exact td_pure _) | (with_reducible refine td_stuckBind _ _) | (with_reducible refine td_unsBind _ _) | (with_reducible refine td_haltBind id _) | (with_reducible refine td_bind td_disable (fun _ => ?_)) | (with_reducible refine td_bind td_enable (fun _ => ?_)) | (with_reducible exact td_enable) | (with_reducible exact td_halt id) | (with_reducible exact td_uns _) | (with_reducible refine td_bind td_held (fun _ => ?_)) | (with_reducible refine td_bind td_program (fun _ => ?_)) | (with_reducible refine td_bind (td_store _ _ _) (fun _ => ?_)) | (with_reducible refine td_bind (td_sys _) (fun _ => ?_)) | split | dsimp only)
  have:=hT w #[] bal_nil
  revert this
  generalize Sem.runT P _ w #[]=x
  obtain⟨r,es⟩:=x
  intro this
  cases r with
  | ok a w'=>exact⟨this.2,⟨ho,fun _ hf=>absurd hf (List.not_mem_nil),⟨fun _ hx=>(nomatch hx),fun d' hd' => .inl (by cases hd'; exact hd)⟩⟩,by simp⟩
  | halt x w' =>
   cases x with
   | blocked=>exact⟨bal_nil,⟨ho,fun _ hf=>absurd hf (List.not_mem_nil),⟨fun _ hx=>(nomatch hx),fun d' hd' => .inl (by cases hd'; exact hd)⟩⟩,by simp⟩
   | _=>exact trivial
theorem die_ok {b:Prop} {P:Program} (hP:Plain P) (fr:Frame) (d:Dying) (ho:okF fr) (hd:d.calling=false) (w:World):OkS b (die P fr d w):=by
 have hg:∀ (d:Dying),d.calling=false→Hg b (some d) fr []:=fun d hd=>⟨ho,fun _ hf=>absurd hf (List.not_mem_nil),⟨fun _ hx=>(nomatch hx),fun d' hd' => .inl (by cases hd'; exact hd)⟩⟩
 unfold die
 split
 ·exact writeOn_ok fr d _ ho hd w
 ·split
  ·exact okS_ite (okS_go (hg d hd)) (endWith_ok _ _ _ _)
  ·dsimp only
   split
   ·exact okS_go (hg _ hd)
   ·split
    ·exact okS_go (hg _ hd)
    ·exact trivial
   ·rename_i t recv name _
    have:=(tn_invoke hP (.fn (.method name) #[]) #[.iface t recv]).tb w #[] bal_nil
    revert this
    generalize (invoke (.fn (.method name) #[]) #[.iface t recv]).runT P w #[]=x
    obtain⟨r,es⟩:=x
    intro this
    dsimp only
    split
    ·refine okS_after (bal_seen hP _ this.2) (okS_go ⟨okF_enter _ _ _ _,fun _ hf=>absurd hf (List.not_mem_nil),⟨fun _ hx=>(nomatch hx),fun d' hd' => .inr rfl⟩⟩)
    ·exact okS_after (bal_seen hP _ this.2) (okS_go (hg _ hd))
    ·exact trivial
    ·exact okS_after (bal_seen hP _ (this trivial)) (endPrinting_ok P fr ho _ _)
    ·exact trivial
   ·exact trivial
theorem stepG_ok {b:Prop} {P:Program} (hP:Plain P) (main:Bool) (g:Goroutine) (h:Hg b g.dying g.frame g.callers) (w:World):OkS b (stepG P main g w):=by
 obtain⟨fr,callers,st,dy,off⟩:=g
 unfold stepG
 dsimp only at h ⊢
 split
 ·rename_i d hc _
  exact die_ok hP fr _ h.1 rfl w
 ·rename_i hd hm
  refine exec_ok hP main h (fun hb => ?_) w
  obtain⟨d,hd0⟩:=Option.ne_none_iff_exists'.1 hb
  rcases h.2.2.2 d hd0 with h' | h'
  ·obtain⟨_,_,_,_,_,_,_⟩:=d
   simp only at h'
   subst h'
   exact(hd _ _ _ _ _ _ hd0).elim
  ·exact h'
 ·rename_i hd hm
  refine unwind_ok hP main h (fun hb => ?_) w
  obtain⟨d,hd0⟩:=Option.ne_none_iff_exists'.1 hb
  rcases h.2.2.2 d hd0 with h' | h'
  ·obtain⟨_,_,_,_,_,_,_⟩:=d
   simp only at h'
   subst h'
   exact(hd _ _ _ _ _ _ hd0).elim
  ·exact h'
end Go.Co
end
