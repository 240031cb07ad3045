import Derived.Test.YtedcgbkilmlbhaaGreatPk18
section
namespace Go.Co
open Go
def lz:Next→Prop
  | .callThen .. | .stack .. | .numGoroutine | .collect | .watch _ | .newcoro .. | .sleep _ | .timer _ | .alone .. => False
  | .row r _ => r = "runtime.print$piece"
  | _=>True
structure Plain (P:Program):Prop where
  count : ∀ (f : FuncId) (fn : Func), P.funcs[f]? = some fn → (fn.name == "runtime.NumGoroutine") = false
  quiet:∀ f:FuncId,(P.funcs[f]?).any (·.norace)=false
  next:∀ (f:FuncId) (fn:Func),P.funcs[f]? = some fn→fn.body.isNone=true→Extern.findNext fn=none
  find:∀ (f:FuncId) (fn:Func) (e:Array Value→Sem Value),P.funcs[f]? = some fn→fn.body.isNone=true→Extern.find fn=some e→∀ args,T1 P (e args)
def Td (P:Program) {α:Type} (d d':Nat) (s:Sem α):Prop :=
  ∀ (w:World) (es:Array Event),deafBehind 0 es=d→match s.runT P w es with
    | (.ok _ _,es')=>deafBehind 0 es'=d'
    | (.halt h _,_)=>¬ J9 h
section
variable {P:Program}
theorem fW {α β:Type} {d d' d'':Nat} {s:Sem α} {f:α→Sem β} (h:Td P d d' s) (hf:∀ a,Td P d' d'' (f a)):Td P d d'' (s >>= f):=by
  intro w es he
  rw[runT_bind']
  have:=h w es he
  revert this
  cases s.runT P w es with
  | mk r es' =>
    cases r with
    | ok a w'=>exact fun hb=>hf a w' es' hb
    | halt x w'=>exact id
theorem CJ {α:Type} {d:Nat} (a:α):Td P d d (pure a):=fun _ _ he=>he
theorem xI {α:Type} {d d':Nat} {h:Halt} (hh:¬ J9 h):Td P d d' (Sem.halt h:Sem α):=fun _ _ _=>hh
theorem zA {d:Nat}:Td P d (d+1) (mark .disable):=fun _ es he=>by
  show deafBehind 0 (es.push _)=_
  rw[ct,he]
theorem qo {d:Nat}:Td P (d+1) d (mark .enable):=fun _ es he=>by
  show deafBehind 0 (es.push _)=_
  rw[ct,he]; rfl
theorem ny {d:Nat} {es es':Array Event} (he:deafBehind 0 es=d) (h:∀ e∈es',∃ a,e.loc = .cell a):deafBehind 0 (es++es')=d:=by
  obtain⟨l⟩:=es'
  rw[eE,he]
  induction l with
  | nil=>rfl
  | cons e l ih =>
    have e1:(⟨e::l⟩:Array Event)=#[e]++⟨l⟩:=by simp
    rw[e1,eE]
    have:deafBehind d #[e]=d:=by
      obtain⟨a,ha⟩:=h e (by simp)
      have:=ct d #[] e
      rw[ha] at this
      exact this
    rw[this]
    exact ih fun x hx=>h x (by simp at hx ⊢; exact .inr hx)
theorem RG {d:Nat} (a:Addr) (m:Mode):Td P d d (load a m):=by
  intro w es he
  unfold load
  simp only[Sem.runT]
  cases w.cell? a with
  | some v =>
    show deafBehind 0 (es.push _)=_
    rw[ct,he]
  | none =>
    cases hf:w.farLoad P a (m == .atomic) with
    | ok r=>exact ny he (by simp)
    | error x =>
      show ¬ J9 x
      unfold World.farLoad at hf
      split at hf
      · split at hf
        · cases hf
        · cases hf; exact id
      · simp only[Except.error.injEq] at hf
        subst hf
        unfold World.noCell
        split<;>exact id
theorem Ex {d:Nat} (a:Addr) (v:Value) (m:Mode):Td P d d (store a v m):=by
  intro w es he
  unfold store
  cases v<;>simp only[Sem.runT]<;>first
    | exact id
    | (cases w.cell? a with
       | some _ =>
         by_cases hz:w.frozen? a=true
         · simp only[hz,if_true]; exact id
         · simp only[hz,if_false,Bool.false_eq_true]
           show deafBehind 0 (es.push _)=_
           rw[ct,he]
       | none =>
         generalize hf:w.farStore P a _ _=r
         cases r with
         | ok r=>exact ny he (by simp)
         | error x =>
           show ¬ J9 x
           unfold World.farStore at hf
           split at hf
           · split at hf
             · cases hf
             · cases hf; exact id
           · simp only[Except.error.injEq] at hf
             subst hf
             unfold World.noCell
             split<;>exact id)
theorem sr {d:Nat}:Td P d d program:=fun _ _ he=>he
theorem Ey {α:Type} {s:Sem α} (h:Td P 0 0 s):Tb P (fun _=>True) s:=by
  intro w es he
  have:=h w es he
  revert this
  cases s.runT P w es with
  | mk r es' =>
    cases r with
    | ok a w'=>exact fun hb=>⟨trivial,hb⟩
    | halt x w'=>exact fun hb hl=>absurd hl hb
theorem t_of_td {α:Type} {s:Sem α} (h:Td P 0 0 s) (hp:Pf P s):T1 P s:=⟨Ey h,hp⟩
theorem IU {d:Nat}:Td P d d Extern.PrintPieces.held:=by
  unfold Extern.PrintPieces.held
  refine fW sr fun p=>fW (RG _ _) fun v => ?_
  split
  · exact CJ _
  · exact xI id
theorem wJ {α β:Type} {d d':Nat} {h:Halt} (hh:¬ J9 h) (f:α→Sem β):Td P d d' ((Sem.halt h:Sem α) >>= f):=fun _ _ _=>hh
theorem uA {α β:Type} {d d':Nat} (m:String) (f:α→Sem β):Td P d d' ((stuck m:Sem α) >>= f):=fun _ _ _=>id
theorem zy {α β:Type} {d d':Nat} (m:Unsupported) (f:α→Sem β):Td P d d' ((unsupported m:Sem α) >>= f):=fun _ _ _=>id
theorem Ew {α:Type} {d d':Nat} (m:String):Td P d d' (stuck m:Sem α):=xI id
theorem Og (fd:Nat) (b:ByteArray):Td P 0 0 (writeFd fd b):=by
  intro w es he
  unfold writeFd
  simp only[Sem.runT]
  have h0:deafBehind 0 (es.push ⟨.output,true,false⟩)=0:=by rw[ct,he]
  split
  · rename_i h; revert h; split<;>intro h<;>simp only[Sem.runT] at h
    · cases h
    · cases h
    · obtain⟨-,rfl⟩:=h
      exact h0
  · rename_i h; revert h; split<;>intro h<;>simp only[Sem.runT] at h
    · cases h; exact id
    · cases h; exact id
    · cases h
theorem Dm (v:Value):lz (.value v):=trivial
theorem Hx (a : Array Value) : lz (.row "runtime.print$piece" a) := rfl
def Yl (P:Program) {α:Type} (Q:α→Prop) (s:Sem α):Prop:=∀ w es a w' es',s.runT P w es=(.ok a w',es')→Q a
theorem CF {α:Type} {Q:α→Prop} {a:α} (h:Q a):Yl P Q (pure a:Sem α):=fun _ _ _ _ _ e=>by cases e; exact h
theorem IL {α:Type} {Q:α→Prop} (h:Halt):Yl P Q (Sem.halt h:Sem α):=fun _ _ _ _ _ e=>by cases e
theorem Ri {α β:Type} {Q:β→Prop} {s:Sem α} {f:α→Sem β} (h:∀ a,Yl P Q (f a)):Yl P Q (s >>= f):=by
  intro w es b w' es' e
  rw[runT_bind'] at e
  revert e
  cases s.runT P w es with
  | mk r es' =>
    cases r with
    | ok a w'=>exact fun e=>h a _ _ _ _ _ e
    | halt x w'=>exact fun e=>by cases e
theorem OV (a b:Array TypeId) (args:Array Value):Yl P lz (Extern.PrintPieces.piece a b args):=by
  unfold Extern.PrintPieces.piece
  (repeat' first | (with_reducible exact CF (Dm _)) | (with_reducible exact CF (Hx _)) | (with_reducible exact IL _) | (with_reducible refine Ri (fun _ => ?_)) | split | dsimp only | exact CF rfl | exact IL _)
theorem Oh (a b:Array TypeId) (args:Array Value):Td P 0 0 (Extern.PrintPieces.piece a b args):=by
  unfold Extern.PrintPieces.piece
  (repeat' first | (with_reducible exact Ew _) | (with_reducible exact CJ _) | (with_reducible refine uA _ _) | (with_reducible refine zy _ _) | (with_reducible refine wJ id _) | (with_reducible refine fW zA (fun _ => ?_)) | (with_reducible refine fW qo (fun _ => ?_)) | (with_reducible exact qo) | (with_reducible refine fW IU (fun _ => ?_)) | (with_reducible refine fW sr (fun _ => ?_)) | (with_reducible refine fW (Ex _ _ _) (fun _ => ?_)) | (with_reducible refine fW (Og _ _) (fun _ => ?_)) | split | dsimp only)
instance (t:TypeId) (x:Place):TC P (Place.get t x):=⟨by cases x<;>unfold Place.get<;>first | exact TC.out | exact aK trivial⟩
theorem t_follow:∀ (l:List FieldStep) (t:TypeId) (x:Place),T1 P (follow l t x)
  | [],_,_=>aK trivial
  | s::rest,t,x=>by
    have ih:=t_follow rest
    unfold follow
    (repeat' first | exact ih _ _ | exact TC.out | (with_reducible refine aA ?_ (fun _ => ?_)) | (with_reducible refine gr ?_ ?_) | split | dsimp only)
instance (l:List FieldStep) (t:TypeId) (x:Place):TC P (follow l t x):=⟨t_follow l t x⟩
instance (t:TypeId) (x:Place) (b:Bool) (o:Option String):TC P (receiverAt t x b o):=⟨by
  unfold receiverAt
  (repeat' first | exact TC.out | (with_reducible refine aA ?_ (fun _ => ?_)) | (with_reducible refine qc ?_ (fun _=>trivial)) | (with_reducible exact aK trivial) | (with_reducible refine t_forInArray _ (fun _ _ => ?_) _ _) | (with_reducible refine t_forInList _ (fun _ _ => ?_) _ _) | (with_reducible refine t_forInRange _ (fun _ _ => ?_) _ _) | (with_reducible refine t_mapMArray _ (fun _ => ?_) _) | (with_reducible refine t_mapMList _ (fun _ => ?_) _) | (with_reducible refine gr ?_ ?_) | split | dsimp only)⟩
instance (t:TypeId) (v:Value) (p:Array FieldStep) (b:Bool):TC P (receiverVia t v p b):=⟨by
  unfold receiverVia
  (repeat' first | exact TC.out | (with_reducible refine aA ?_ (fun _ => ?_)) | (with_reducible refine qc ?_ (fun _=>trivial)) | (with_reducible exact aK trivial) | (with_reducible refine t_forInArray _ (fun _ _ => ?_) _ _) | (with_reducible refine t_forInList _ (fun _ _ => ?_) _ _) | (with_reducible refine t_forInRange _ (fun _ _ => ?_) _ _) | (with_reducible refine t_mapMArray _ (fun _ => ?_) _) | (with_reducible refine t_mapMList _ (fun _ => ?_) _) | (with_reducible refine gr ?_ ?_) | split | dsimp only)⟩
theorem t_method:∀ (d:Nat) (t:TypeId) (v:Value) (n:String),T1 P (method d t v n)
  | 0,_,_,_=>ek _
  | d+1,t,v,n=>by
    have ih:=t_method d
    unfold method
    (repeat' first | exact ih _ _ _ | exact TC.out | (with_reducible refine aA ?_ (fun _ => ?_)) | (with_reducible refine gr ?_ ?_) | split | dsimp only)
instance (d:Nat) (t:TypeId) (v:Value) (n:String):TC P (method d t v n):=⟨t_method d t v n⟩
theorem t_followBlind:∀ (l:List FieldStep) (t:TypeId) (x:Option Value),T1 P (followBlind l t x)
  | [],_,_=>aK trivial
  | s::rest,t,x=>by
    have ih:=t_followBlind rest
    unfold followBlind
    (repeat' first | exact ih _ _ | exact TC.out | (with_reducible refine aA ?_ (fun _ => ?_)) | (with_reducible refine gr ?_ ?_) | split | dsimp only)
instance (l:List FieldStep) (t:TypeId) (x:Option Value):TC P (followBlind l t x):=⟨t_followBlind l t x⟩
theorem t_nilAhead:∀ (d:Nat) (t:TypeId) (v:Value) (n:String),T1 P (nilAhead d t v n)
  | 0,_,_,_=>aK trivial
  | d+1,t,v,n=>by
    have ih:=t_nilAhead d
    unfold nilAhead
    (repeat' first | exact ih _ _ _ | exact TC.out | (with_reducible refine aA ?_ (fun _ => ?_)) | (with_reducible refine gr ?_ ?_) | split | dsimp only)
instance (d:Nat) (t:TypeId) (v:Value) (n:String):TC P (nilAhead d t v n):=⟨t_nilAhead d t v n⟩
instance (t:TypeId) (v:Value):TC P (Builtin.printOne t v):=⟨by
  unfold Builtin.printOne
  (repeat' first | exact TC.out | (with_reducible refine aA ?_ (fun _ => ?_)) | (with_reducible refine qc ?_ (fun _=>trivial)) | (with_reducible exact aK trivial) | (with_reducible refine t_forInArray _ (fun _ _ => ?_) _ _) | (with_reducible refine t_forInList _ (fun _ _ => ?_) _ _) | (with_reducible refine t_forInRange _ (fun _ _ => ?_) _ _) | (with_reducible refine t_mapMArray _ (fun _ => ?_) _) | (with_reducible refine t_mapMList _ (fun _ => ?_) _) | (with_reducible refine gr ?_ ?_) | split | dsimp only)⟩
theorem uB {γ σ:Type}:∀ (l:List γ) (f:(c:γ)→c∈l→σ→Sem (ForInStep σ)) (_:∀ c hc s,T1 P (f c hc s)) (s:σ),T1 P (forIn' l s f)
  | [],_,_,_=>aK trivial
  | c::l,f,h,s=>by
    rw[List.forIn'_cons]
    refine aA (h _ _ _) fun r => ?_
    split
    · exact aK trivial
    · exact uB l _ (fun _ _ _=>h _ _ _) _
theorem AG {σ:Type} (n:Nat) (f:(i:Nat)→i∈([:n]:Std.Legacy.Range)→σ→Sem (ForInStep σ)) (h:∀ i hi s,T1 P (f i hi s)) (s:σ):T1 P (forIn' [:n] s f):=by
  rw[Std.Legacy.Range.forIn'_eq_forIn'_range']
  exact uB _ _ (fun _ _ _=>h _ _ _) _
instance (ln:Bool) (c:Array Bool) (ts:Array TypeId) (args:Array Value):TC P (Builtin.pieces ln c ts args):=⟨by
  unfold Builtin.pieces
  (repeat' first | exact TC.out | (with_reducible refine aA ?_ (fun _ => ?_)) | (with_reducible refine qc ?_ (fun _=>trivial)) | (with_reducible exact aK trivial) | (with_reducible refine AG _ _ (fun _ _ _ => ?_) _) | (with_reducible refine t_forInArray _ (fun _ _ => ?_) _ _) | (with_reducible refine t_forInList _ (fun _ _ => ?_) _ _) | (with_reducible refine gr ?_ ?_) | split | dsimp only)⟩
abbrev TN (P:Program) (s:Sem Next):Prop:=Tm P lz s
theorem aam {s:Sem Next} (h:T1 P s) (h':Yl P lz s):TN P s:=by
  refine⟨fun w es he => ?_,h.pf⟩
  have:=h.tb w es he
  have h2:=h' w es
  revert this h2
  cases s.runT P w es with
  | mk r es' =>
    cases r with
    | ok a w'=>exact fun hb h2=>⟨h2 _ _ _ rfl,hb.2⟩
    | halt x w'=>exact fun hb _=>hb
theorem Jc (a:Addr) (m:Mode):Pf P (load a m):=(t_load a m).pf
theorem OX (a:Addr) (v:Value) (m:Mode):Pf P (store a v m):=(t_store a v m).pf
theorem ET {α:Type} (m:String):Pf P (stuck m:Sem α):=qi _
theorem Xk {α:Type} (m:Unsupported):Pf P (unsupported m:Sem α):=qi _
theorem Sf:Pf P Extern.PrintPieces.held:=by
  unfold Extern.PrintPieces.held
  (repeat' first | (with_reducible exact xP _) | (with_reducible exact qi _) | (with_reducible exact ET _) | (with_reducible exact Jc _ _) | (with_reducible exact t_program1.pf) | (with_reducible refine CY ?_ (fun _ => ?_)) | split | dsimp only)
theorem OY (a b:Array TypeId) (args:Array Value):Pf P (Extern.PrintPieces.piece a b args):=by
  unfold Extern.PrintPieces.piece
  (repeat' first | (with_reducible exact xP _) | (with_reducible exact qi _) | (with_reducible exact ET _) | (with_reducible exact Xk _) | (with_reducible exact Jc _ _) | (with_reducible exact OX _ _ _) | (with_reducible exact Jb _) | (with_reducible exact Sf) | (with_reducible exact(t_writeFd _ _).pf) | (with_reducible exact t_program1.pf) | (with_reducible refine CY ?_ (fun _ => ?_)) | split | dsimp only)
theorem Eu (a b:Array TypeId) (args:Array Value):TN P (Extern.PrintPieces.piece a b args):=aam (t_of_td (Oh a b args) (OY a b args)) (OV a b args)
theorem Aa (ln:Bool) (c:Array Bool) (ts:Array TypeId) (args:Array Value):TN P (Builtin.printMarked ln c ts args):=by
  unfold Builtin.printMarked
  refine aA TC.out fun ps => ?_
  split
  · exact aK trivial
  · exact Eu _ _ _
theorem QG {s:Sem Value} (h:T1 P s):TN P (do pure (.value (← s))):=aA h fun _=>aK trivial
theorem abE {s:Sem Unit} (h:T1 P s):TN P (do s; pure .skip):=aA h fun _=>aK trivial
theorem GZ (b:Builtin) (ts:Array TypeId) (t:TypeId) (c:Array Bool) (args:Array Value):TN P (builtin b ts t c args):=by
  unfold builtin
  dsimp only
  split<;>first
    | (with_reducible exact QG TC.out)
    | exact Aa _ _ _ _
    | exact aK trivial
    | exact av _
    | exact ek _
    | exact aA TC.out fun _=>aK trivial
theorem pJ (hP:Plain P) (f:FuncId) (args:Array Value):TN P (callFunc f args):=by
  unfold callFunc
  refine G0 ?_
  split
  · exact av _
  · rename_i fn Ia
    rw[hP.count f fn Ia]
    simp only[Bool.false_eq_true,if_false]
    · split
      · rename_i hb
        refine aA (t_mark (by simp)) fun _ => ?_
        rw[hP.next f fn Ia hb]
        dsimp only
        split
        · rename_i e he
          exact QG (hP.find f fn e Ia hb he args)
        · split
          · exact aK trivial
          · exact ek _
      · exact aK trivial
theorem iu {α:Type} {R:α→Prop} (e:RuntimeError):Tm P R (runtimePanic e:Sem α):=by
  unfold runtimePanic
  refine aA t_program1 fun p => ?_
  dsimp only
  split<;>first | exact zx _ | exact aA TC.out fun _=>aA TC.out fun _=>zx _
theorem rA (hP:Plain P) (r:Value) (n:String) (args:Array Value):TN P (callMethod r n args):=by
  unfold callMethod
  split
  · refine aA t_program1 fun p=>aA TC.out fun x => ?_
    exact pJ hP _ _
  · exact iu _
  · exact av _
theorem jr (hP:Plain P) (t:Target) (args:Array Value):TN P (invoke t args):=by
  unfold invoke
  split
  · exact iu _
  · exact GZ _ _ _ _ _
  · exact pJ hP _ _
  · split
    · exact rA hP _ _ _
    · exact av _
  · split
    · refine aA TC.out fun _ => ?_
      exact rA hP _ _ _
    · exact av _
  · split
    · refine aA TC.out fun _ => ?_
      exact pJ hP _ _
    · exact av _
  · unfold Instr.yield
    refine aA TC.out fun r => ?_
    dsimp only
    split
    · exact aA (av _) fun _=>aK trivial
    · exact aK trivial
  · exact av _
  · exact aK trivial
instance (f:Value) (args:Array Value):TC P (Deferred.ofValue f args):=⟨by
  unfold Deferred.ofValue
  split<;>first | exact aK trivial | exact av _⟩
instance (ρ:Operand→Value) (c:Call) (t:TypeId):TC P (resolve ρ c t):=⟨by
  unfold resolve
  dsimp only
  split<;>first | exact aK trivial | exact TC.out⟩
theorem Bh (hP:Plain P) (ρ:Operand→Value) (o:Oper):TN P (execOp ρ o):=by
  unfold execOp
  dsimp only
  split<;>first
    | (with_reducible exact QG TC.out)
    | (with_reducible exact abE TC.out)
    | exact aK trivial
    | exact aA TC.out fun _=>aK trivial
    | exact aA TC.out fun _=>jr hP _ _
    | skip
  · split<;>first
      | exact iu _
      | exact aK trivial
      | skip
    split<;>first
      | exact iu _
      | exact aK trivial
      | skip
    refine aA t_program1 fun _=>aA TC.out fun _ => ?_
    split
    · exact aA (ek _) fun _=>aK trivial
    · exact aK trivial
  · exact QG (aA TC.out fun _=>TC.out)
  · refine aA TC.out fun _ => ?_
    split
    · exact aA TC.out fun _=>aK trivial
    · exact av _
  · exact aA (t_mapMArray _ (fun _=>aA TC.out fun _=>aK trivial) _) fun _=>aK trivial
instance (fn:Func) (ts:Array Value):TC P (results fn ts):=⟨by
  unfold results
  refine aA (t_mapMArray _ (fun r => ?_) _) fun vs => ?_
  · split
    · exact aK trivial
    · exact aA TC.out fun _=>TC.out
  · split<;>exact aK trivial⟩
end
end Go.Co
end
section
namespace Go.Co
open Go
def yB:Item→Prop
 | .call .. => False
 | .extern r _ => r = "runtime.print$piece"
 | _=>True
def okF (fr:Frame):Prop:=∀ i∈fr.todo,yB i
def BK (fr:Frame) (callers:List Frame):Prop:=match callers.getLast? with | none=>fr.kind = .report | some f=>f.kind = .report
def Hg (b:Prop) (dy:Option Dying) (fr:Frame) (callers:List Frame):Prop :=
 okF fr∧(∀ f∈callers,okF f)∧((b→dy≠none)∧∀ d,dy=some d→(d.calling=false∨BK fr callers))
def xH (b:Prop):GStep→Prop
 | .go g _ es=>AX es∧Hg b g.dying g.frame g.callers∧(∀ t,g.status ≠ .sleeping t)∧g.status ≠ .parked
 | .comm g _ _ _ _ es=>AX es∧Hg b g.dying g.frame g.callers∧g.status = .running
 | .spawn g _ _ es=>AX es∧Hg b g.dying g.frame g.callers
 | .coroswitch g _ _ _ es=>AX es∧Hg b g.dying g.frame g.callers
 | .ended .. => True
 | _=>False
theorem bG {b:Prop} {es:Array Event} {s:GStep} (he:AX es) (h:xH b s):xH b (GStep.after es s):=by
 cases s<;>first | exact⟨nU he h.1,h.2⟩ | exact h
theorem aU {b:Prop} {dy:Option Dying} {fr:Frame} {callers:List Frame} {st:GoStatus} {off:Option (Array CommCase×CommShape)} {w:World} (h:Hg b dy fr callers) (hs:(∀ t,st ≠ .sleeping t)∧st ≠ .parked:=by simp):xH b (.go ⟨fr,callers,st,dy,off⟩ w):=⟨b9,h,hs⟩
variable {b:Prop} {dy:Option Dying} {fr fr':Frame} {callers gB:List Frame}
theorem wB (h:Hg b dy fr callers) (hk:fr'.kind=fr.kind) (ho:okF fr'):Hg b dy fr' callers:=by
 refine⟨ho,h.2.1,h.2.2.1,fun d hd=>(h.2.2.2 d hd).imp id ?_⟩
 unfold BK
 cases callers.getLast? with
 | none=>exact fun e=>hk.trans e
 | some f=>exact id
theorem jH (h:Hg b dy fr callers) (ho:okF fr'):Hg b dy fr' (fr::callers):=by
 refine⟨ho,fun f hf => ?_,h.2.2.1,fun d hd=>(h.2.2.2 d hd).imp id ?_⟩
 ·rcases List.mem_cons.1 hf with rfl | hf
  ·exact h.1
  ·exact h.2.1 f hf
 ·unfold BK
  rw[List.getLast?_cons]
  cases callers.getLast? with
  | none=>exact id
  | some f=>exact id
theorem rY {c:Frame} {rest:List Frame} (h:Hg b dy fr (c::rest)) (hk:fr'.kind=c.kind) (ho:okF c→okF fr'):Hg b dy fr' rest:=by
 refine⟨ho (h.2.1 c (by simp)),fun f hf=>h.2.1 f (by simp[hf]),h.2.2.1,fun d hd=>(h.2.2.2 d hd).imp id ?_⟩
 unfold BK
 rw[List.getLast?_cons]
 cases rest.getLast? with
 | none=>exact fun e=>hk.trans e
 | some f=>exact id
theorem EX {fr fr':Frame} (h:okF fr) (e:∀ i∈fr'.todo,i∈fr.todo∨yB i):okF fr':=fun i hi=>(e i hi).elim (h i) id
theorem EY {fr fr':Frame} (h:okF fr) (e:fr'.todo=fr.todo):okF fr':=fun i hi=>h i (e▸hi)
theorem sI (h:okF fr) (v:Value):okF (fr.finish v):=by
 unfold Frame.finish
 split
 ·rename_i hk
  intro i hi
  rcases List.mem_cons.1 hi with rfl | hi
  ·trivial
  ·exact h i (by rw[hk]; simp[hi])
 ·rename_i hk
  intro i hi
  rcases List.mem_cons.1 hi with rfl | hi
  ·trivial
  ·exact h i (by rw[hk]; simp[hi])
 ·rename_i hk
  intro i hi
  exact h i (by rw[hk]; simp[hi])
 ·rename_i hk
  exact absurd (h _ (by rw[hk]; exact List.mem_cons_self ..)) id
 ·rename_i hk
  intro i hi
  exact h i (by rw[hk]; simp[hi])
 ·exact h
theorem pO (fr:Frame) (v:Value):(fr.finish v).kind=fr.kind:=by
 unfold Frame.finish
 split<;>rfl
theorem Bs (h:okF fr) (l:List PanicEntry):okF (fr.raise l):=by
 unfold Frame.raise
 split<;>exact h
theorem zY (fr:Frame) (l:List PanicEntry):(fr.raise l).kind=fr.kind:=by
 unfold Frame.raise
 split<;>rfl
theorem jv (P:Program) (f:FuncId) (args:Array Value) (k:CallKind):okF (Frame.enter P f args k):=by
 intro i hi
 simp only[Frame.enter,List.mem_singleton] at hi
 subst hi; trivial
theorem Br (l:Nat) (f:FuncId) (tmps:Array Value) (a c:Code) (k:CallKind):okF (Frame.round l f tmps a c k):=by
 intro i hi
 simp only[Frame.round,List.mem_cons,List.not_mem_nil,or_false] at hi
 rcases hi with rfl | rfl | rfl<;>trivial
theorem Jf (P : Program) (args : Array Value) (k : CallKind) : okF (Frame.ofRow P "runtime.print$piece" args k) := by
 intro i hi
 simp only[Frame.ofRow,List.mem_singleton] at hi
 subst hi; exact rfl
theorem cK (h:Hg b dy fr callers) (v:Value):Hg b dy (fr.finish v) callers:=wB h (pO _ _) (sI h.1 v)
theorem mX (h:Hg b dy fr callers) (l:List PanicEntry):Hg b dy (fr.raise l) callers:=wB h (zY _ _) (Bs h.1 l)
theorem qj (h:Hg b dy fr callers) (hk:fr'.kind=fr.kind) (ht:fr'.todo=fr.todo):Hg b dy fr' callers:=wB h hk (EY h.1 ht)
theorem nS:∀ {fr:Frame} {callers gB:List Frame} {v:Value},tryRecover fr callers=some (v,gB)→Hg b dy fr callers→Hg b dy fr gB:=by
 intro fr callers
 induction callers generalizing fr with
 | nil=>intro gB v e; simp[tryRecover] at e
 | cons c rest ih =>
  intro gB v e h
  unfold tryRecover at e
  split at e
  ·rename_i hc
   simp only[List.cons.injEq] at hc
   obtain⟨rfl,rfl⟩:=hc
   split at e
   ·simp only[Option.some.injEq,Prod.mk.injEq] at e
    obtain⟨-,rfl⟩:=e
    refine⟨h.1,fun f hf => ?_,h.2.2.1,fun d hd=>(h.2.2.2 d hd).imp id ?_⟩
    ·rcases List.mem_cons.1 hf with rfl | hf
     ·exact EY (h.2.1 _ (List.mem_cons_self ..)) rfl
     ·exact h.2.1 f (by simp[hf])
    ·unfold BK
     rw[List.getLast?_cons,List.getLast?_cons]
     cases rest.getLast?<;>exact id
   ·cases e
  ·rename_i hc
   simp only[List.cons.injEq] at hc
   obtain⟨rfl,rfl⟩:=hc
   simp only[Option.map_eq_some_iff,Prod.exists,Prod.mk.injEq] at e
   obtain⟨a,r,e,rfl,rfl⟩:=e
   exact jH (ih e (rY (fr':=c) h rfl id)) h.1
  ·cases e
theorem Ae:∀ {l:Nat} {fr:Frame} {callers gB:List Frame} {v:Value},tryRecoverLoop l callers=some (v,gB)→Hg b dy fr callers→Hg b dy fr gB:=by
 intro l fr callers
 induction callers generalizing fr l with
 | nil=>intro gB v e; simp[tryRecoverLoop] at e
 | cons c rest ih =>
  intro gB v e h
  unfold tryRecoverLoop at e
  simp only[Option.map_eq_some_iff,Prod.exists,Prod.mk.injEq] at e
  obtain⟨a,r,e,rfl,rfl⟩:=e
  have h':=rY (fr':=c) h rfl id
  have:Hg b dy c r:=by
   split at e
   ·exact ih e h'
   ·split at e
    ·exact nS e h'
    ·exact ih e h'
   ·exact ih e h'
  exact jH this h.1
theorem Ls (d:Nat) (e:Event) (es:List Event):deafBehind d ⟨e::es⟩=deafBehind (deafBehind d #[e]) ⟨es⟩:=by
 have e1:(⟨e::es⟩:Array Event)=#[e]++⟨es⟩:=by simp
 rw[e1,eE]
theorem Ab {P:Program} (hq:∀ f:FuncId,(P.funcs[f]?).any (·.norace)=false) (fn:FuncId) (es:Array Event) (d:Nat):deafBehind d (seen P fn es)=deafBehind d es:=by
 obtain⟨l⟩:=es
 have key:∀ (l:List Event) (kept:Array Event),deafBehind d (l.foldl (fun(x:Bool×Array Event) e =>
   match e.loc with
   | .mark (.extern _)=>(false,x.2)
   | _=>(x.1,if x.1 && !e.sync then x.2 else x.2.push e)) (false,kept)).2=deafBehind (deafBehind d kept) ⟨l⟩:=by
  intro l
  induction l with
  | nil=>intro kept; rfl
  | cons e l ih =>
   intro kept
   rw[List.foldl_cons,Ls]
   split
   ·rename_i f hf
    rw[ih]
    congr 1
    have:=ct (deafBehind d kept) #[] e
    rw[hf] at this
    exact this.symm
   ·simp only[Bool.false_and,Bool.false_eq_true,if_false]
    rw[ih]
    congr 1
    rw[← eE]
    rfl
 have:=key l #[]
 unfold seen
 simp only[hq]
 rw[← Array.foldl_toList]
 exact this
theorem bR {P:Program} (hP:Plain P) (fn:FuncId) {es:Array Event} (h:AX es):AX (seen P fn es):=by
 unfold AX
 rw[Ab hP.quiet]
 exact h
theorem lY {b:Prop} {c:Prop} [Decidable c] {x y:GStep} (hx:xH b x) (hy:xH b y):xH b (if c then x else y):=by split<;>assumption
theorem Ff {b:Prop} (fr:Frame) (h:okF fr) (a:List ByteArray) (m:String) (x:Bool) (w:World):xH b (dieOf fr a m x w) :=
 ⟨b9,⟨h,fun _ hf=>absurd hf (List.not_mem_nil),⟨fun _ hx=>(nomatch hx),fun d hd => .inl (by cases hd; rfl)⟩⟩,by simp⟩
theorem mh {b:Prop} (fr:Frame) (h:okF fr) (m:String) (w:World):xH b (endThrow fr m w):=Ff fr h _ _ _ w
theorem xd {b:Prop} (P:Program) (fr:Frame) (h:okF fr) (callers:List Frame) (dy:Option Dying) (m:String) (w:World):xH b (endFatal P fr callers dy m w):=by
 unfold endFatal
 dsimp only
 split
 ·exact Ff fr h _ _ _ _
 ·exact trivial
 ·exact trivial
theorem pW {b:Prop} (P:Program) (fr:Frame) (h:okF fr) (v:Value) (w:World):xH b (endPrinting P fr v w):=by
 unfold endPrinting
 dsimp only
 split
 ·exact mh fr h _ _
 ·exact trivial
theorem HM {b:Prop} (w:World) (fd:Nat) (t:ByteArray) (o:Outcome):xH b (endWith w fd t o):=by
 unfold endWith
 dsimp only
 split
 ·split<;>exact trivial
 ·exact trivial
 ·exact trivial
theorem um {P:Program}:∀ (l:List Nat),Hg b dy fr callers→∀ f,Hg b dy (Frame.enter P f #[] .early) (l.map (Frame.enter P · #[] .early)++fr::callers)
 | [],h,f=>jH h (by exact jv _ _ _ _)
 | x::l,h,f=>jH (um l h x) (by exact jv _ _ _ _)
theorem Pv (P:Program) (h:Hg b dy fr callers) (g:Nat) (w:World):xH b (early P fr callers dy g w):=by
 have notYet:∀ w:World,xH b
   (match w.heap[g]? with
    | some (.pending c elem) => .go { frame:=fr,callers,status := .running,dying:=dy } { w with heap:=w.heap.setIfInBounds g (.cells c elem) }
    | _ => .ended (.stuck "early: the variable does not wait" (fr.pos P)) w) := by
  intro w
  split
  ·exact aU h
  ·exact trivial
 unfold early
 dsimp only
 split
 ·exact notYet w
 ·split
  ·exact trivial
  ·split
   ·exact notYet w
   ·split
    ·exact notYet w
    ·split
     ·exact trivial
     ·exact aU (um _ h _)
     ·exact trivial
     ·exact notYet w
     ·split
      ·exact aU (um _ h _)
      ·split
       ·exact notYet w
       ·split
        ·exact notYet _
        ·exact aU (um _ h _)
        ·exact trivial
theorem pH {P:Program} (hP:Plain P) (h:Hg b dy fr callers) {s:Sem Next} (hs:TN P s) (w:World):xH b (stepG.apply P true fr callers dy s w):=by
 unfold stepG.apply
 have:=hs.tb w #[] b9
 revert this
 generalize s.runT P w #[]=x
 obtain⟨r,es⟩:=x
 simp only[if_true]
 intro this
 cases r with
 | ok a w' =>
  obtain⟨hn,he⟩:=this
  refine bG (bR hP _ (by split<;>first | exact b9 | exact he)) ?_
  cases a with
  | callThen d r s x=>exact absurd hn id
  | stack r s=>exact absurd hn id
  | row r args =>
   have hr : r = "runtime.print$piece" := hn
   subst hr
   dsimp only
   split
   ·rename_i k hk
    refine aU (wB h rfl ?_)
    intro i hi
    rcases List.mem_cons.1 hi with rfl | hi
    ·exact rfl
    ·exact h.1 i (by rw[hk]; simp[hi])
   ·exact aU (jH h (by exact Jf _ _ _))
  | value v=>exact aU (cK h v)
  | skip=>exact aU (cK h _)
  | enter f args=>exact aU (jH h (by exact jv _ _ _ _))
  | round l f tmps as body=>exact aU (jH h (by exact Br _ _ _ _ _ _))
  | defer d=>exact aU (cK (fr:={ fr with defers:=d::fr.defers }) (qj h rfl rfl) _)
  | recover =>
   dsimp only
   split
   ·rename_i v gB e
    split at e
    ·split at e
     ·exact aU (cK (nS e h) _)
     ·exact aU (cK (Ae e h) _)
    ·exact aU (cK (nS e h) _)
   ·exact aU (cK h _)
  | comm c bl sh=>exact⟨b9,h,rfl⟩
  | coroswitch c x=>exact⟨b9,h⟩
  | spawn d =>
   dsimp only
   exact lY (mh fr h.1 _ _) ⟨b9,cK h _⟩
  | _=>exact absurd hn id
 | halt x w' =>
  cases x with
  | panic v=>exact bG (bR hP _ (by split<;>first | exact b9 | exact this trivial)) (aU (mX h _))
  | goexit=>exact bG (bR hP _ (by split<;>first | exact b9 | exact this trivial)) (aU (mX h _))
  | blocked=>exact bG (bR hP _ (by split<;>exact b9)) (aU h)
  | waiting=>exact bG (bR hP _ (by split<;>exact b9)) (aU h)
  | fatal m=>exact bG (bR hP _ (by split<;>first | exact b9 | exact this trivial)) (xd P fr h.1 _ _ _ _)
  | throw m=>exact bG (bR hP _ (by split<;>first | exact b9 | exact this trivial)) (mh fr h.1 _ _)
  | unsupported u =>
   cases u with
   | initOrder g=>exact bG (bR hP _ (by split<;>exact b9)) (Pv P h _ _)
   | _=>exact trivial
  | exit c=>exact trivial
  | stuck s=>exact trivial
theorem Sj {P:Program} (hP:Plain P) (h:Hg b dy fr callers) (w:World):xH b (stepG.oper P true fr callers dy w):=by
 unfold stepG.oper
 split
 ·exact trivial
 ·split
  ·refine pH hP h ?_ w
   exact aA TC.out fun _=>aA TC.out fun _=>aK trivial
  ·exact pH hP h (Bh hP _ _) w
theorem pR (P:Program) (main:Bool) (h:Hg b dy fr callers) (hx:dy≠none→BK fr callers) (v:Value) (w:World):xH b (doReturn P main fr callers dy v w):=by
 unfold doReturn
 split
 ·rename_i c rest
  split
  ·exact aU (rY h (pO _ _) fun hc=>sI hc _)
  ·exact aU (rY h (pO _ _) fun hc=>sI hc _)
  ·exact aU (rY h rfl id)
  ·dsimp only
   refine aU (rY h ?_ fun hc => ?_)
   ·split
    ·split<;>rfl
    ·rfl
   ·split
    ·split<;>exact hc
    ·exact hc
 ·split
  ·exact aU ⟨h.1,h.2.1,⟨fun _ hx=>(nomatch hx),fun d hd => .inl (by cases hd; rfl)⟩⟩
  ·exact trivial
  ·rename_i hk _
   have nb:b→False:=fun hb=>hk (hx (h.2.2.1 hb))
   split
   ·exact aU ⟨h.1,h.2.1,fun hb=>(nb hb).elim,fun d hd=>(nomatch hd)⟩
   ·split
    ·exact aU ⟨jv _ _ _ _,h.2.1,fun hb=>(nb hb).elim,fun d hd=>(nomatch hd)⟩
    ·exact trivial
theorem xz {P:Program} (hP:Plain P) (h:Hg b dy fr callers) (d:Deferred) (w:World):xH b (callDeferred P fr callers dy d w):=by
 unfold callDeferred
 refine lY trivial ?_
 have:=(jr hP d.target d.args).tb w #[] b9
 revert this
 generalize (invoke d.target d.args).runT P w #[]=x
 obtain⟨r,es⟩:=x
 intro this
 dsimp only
 cases r with
 | ok a w' =>
  obtain⟨hn,he⟩:=this
  refine bG (bR hP _ he) ?_
  cases a with
  | callThen d r s x=>exact absurd hn id
  | stack r s=>exact absurd hn id
  | row r args =>
   have hr : r = "runtime.print$piece" := hn
   subst hr
   exact aU (jH h (Jf _ _ _))
  | enter f args=>exact aU (jH h (jv _ _ _ _))
  | round l f tmps as body=>exact aU (jH h (Br _ _ _ _ _ _))
  | recover =>
   dsimp only
   split
   ·rename_i e
    exact aU (nS e h)
   ·exact aU h
  | coroswitch c x=>cases x<;>first | exact trivial | exact⟨b9,h⟩
  | value v=>exact aU h
  | skip=>exact aU h
  | defer d=>exact aU h
  | spawn d=>exact aU h
  | comm c bl sh=>exact aU h
  | _=>exact absurd hn id
 | halt x w' =>
  cases x with
  | panic v=>exact bG (bR hP _ (this trivial)) (aU (mX h _))
  | goexit=>exact bG (bR hP _ (this trivial)) (aU (mX h _))
  | blocked=>exact bG (bR hP _ b9) (aU (qj h rfl rfl))
  | waiting=>exact bG (bR hP _ b9) (aU (qj h rfl rfl))
  | fatal m=>exact bG (bR hP _ (this trivial)) (xd P fr h.1 _ _ _ _)
  | throw m=>exact bG (bR hP _ (this trivial)) (mh fr h.1 _ _)
  | unsupported u=>exact trivial
  | exit c=>exact trivial
  | stuck s=>exact trivial
theorem Kk {P:Program} (hP:Plain P) (main:Bool) (h:Hg b dy fr callers) (hx:dy≠none→BK fr callers) (w:World):xH b (unwind P main fr callers dy w):=by
 unfold unwind
 split
 ·rename_i block args ds hk
  have:=(TC.out:T1 P (Instr.takeDeferred block)).tb w #[] b9
  revert this
  generalize (Instr.takeDeferred block).runT P w #[]=x
  obtain⟨r,es⟩:=x
  intro this
  cases r with
  | ok a w'=>exact bG (bR hP _ this.2) (aU (qj h rfl rfl))
  | halt x w'=>exact trivial
 ·rename_i d ds _ _
  exact xz (fr:={ fr with defers:=ds }) hP (qj h rfl rfl) _ w
 ·split
  ·exact trivial
  ·refine lY trivial ?_
   split
   ·exact aU (rY h (zY _ _) fun hc=>Bs hc _)
   ·split
    ·refine lY (aU ⟨h.1,h.2.1,h.2.2.1,fun d hd=>(nomatch hd)⟩) ?_
     split
     ·exact aU ⟨h.1,h.2.1,⟨fun _ hx=>(nomatch hx),fun d hd => .inl (by cases hd; rfl)⟩⟩
     ·exact trivial
     ·exact trivial
    ·split
     ·exact pW P fr h.1 _ _
     ·exact trivial
  ·split
   ·exact pR P main h hx _ w
   ·rename_i fn _
    have:=(TC.out:T1 P (results fn fr.tmps)).tb w #[] b9
    revert this
    generalize (results fn fr.tmps).runT P w #[]=x
    obtain⟨r,es⟩:=x
    intro this
    cases r with
    | ok a w'=>exact bG (bR hP _ this.2) (pR P main h hx _ _)
    | halt x w'=>cases x<;>exact trivial
theorem sJ {id:Nat}:∀ {k k':List Item},exitTo id k=some k'→∀ i∈k',i∈k
 | [],_,e=>by simp[exitTo] at e
 | x::k,k',e=>by
  unfold exitTo at e
  split at e
  ·rename_i hk
   cases hk
   split at e
   ·cases e; exact fun i hi=>by simp[hi]
   ·exact fun i hi=>by simp[sJ e i hi]
  ·rename_i hk
   cases hk
   exact fun i hi=>by simp[sJ e i hi]
  ·rename_i hk; cases hk
theorem sH {l:Nat}:∀ {k k':List Item},gotoIn l k=some k'→∀ i∈k',i∈k∨yB i
 | [],_,e=>by simp[gotoIn] at e
 | x::k,k',e=>by
  unfold gotoIn at e
  split at e
  ·rename_i hk
   cases hk
   split at e
   ·cases e
    intro i hi
    rcases List.mem_cons.1 hi with rfl | hi
    ·exact .inr trivial
    ·exact .inl (by simpa using hi)
   ·intro i hi
    rcases sH e i hi with h | h
    ·exact .inl (by simp[h])
    ·exact .inr h
  ·rename_i hk
   cases hk
   intro i hi
   rcases sH e i hi with h | h
   ·exact .inl (by simp[h])
   ·exact .inr h
  ·rename_i hk; cases hk
theorem zU {P : Program} {e : Array Value → Sem Next} (h : Extern.next "runtime.print$piece" = some e) (args : Array Value) : TN P (e args) := by
 have : Extern.next "runtime.print$piece" = some (Extern.PrintPieces.piece #[] #[]) := by rfl
 rw[this] at h
 cases h
 exact Eu _ _ _
theorem SM {P:Program} (hP:Plain P) (main:Bool) (h:Hg b dy fr callers) (hx:dy≠none→BK fr callers) (w:World):xH b (stepG.exec P main true fr callers dy w):=by
 have leave:∀ jump:Option Code,xH b
   (match fr.roundOf with
    | none => if jump matches none | some .ret then .go { frame := { fr with mode := .returning }, callers, status := .running, dying := dy } w else .ended (.stuck "exit, goto: no such block or label" (fr.pos P)) w
    | some l =>
     GStep.after (seen P fr.fn ((Instr.endRound l jump).runT P w #[]).2) <| match ((Instr.endRound l jump).runT P w #[]).1 with
     | .ok v w=>doReturn P main fr callers dy v w
     | .halt _ w => .ended (.stuck "range over a function: no such loop" (fr.pos P)) w) := by
  intro jump
  cases fr.roundOf with
  | none=>exact lY (aU (qj h rfl rfl)) trivial
  | some l =>
   dsimp only
   have:=(TC.out:T1 P (Instr.endRound l jump)).tb w #[] b9
   revert this
   generalize (Instr.endRound l jump).runT P w #[]=x
   obtain⟨r,es⟩:=x
   intro this
   cases r with
   | ok a w'=>exact bG (bR hP _ this.2) (pR P main h hx _ _)
   | halt x w'=>exact trivial
 have to:∀ (todo:List Item),(∀ i∈todo,i∈fr.todo∨yB i)→xH b (.go { frame:={ fr with todo },callers,status := .running,dying:=dy } w) :=
  fun todo ht=>aU (wB h rfl (EX h.1 ht))
 have ho:=h.1
 unfold stepG.exec
 dsimp only
 split
 ·exact leave none
 ·exact leave (some .ret)
 ·rename_i k hk; exact to k (fun i hi => .inl (by rw[hk]; simp[hi]))
 ·rename_i k hk; exact to k (fun i hi => .inl (by rw[hk]; simp[hi]))
 ·rename_i k hk; exact to k (fun i hi => .inl (by rw[hk]; simp[hi]))
 ·rename_i k hk; exact to k (fun i hi => .inl (by rw[hk]; simp[hi]))
 ·rename_i x y k hk
  refine to _ fun i hi => ?_
  rcases List.mem_cons.1 hi with rfl | hi
  ·exact .inr trivial
  rcases List.mem_cons.1 hi with rfl | hi
  ·exact .inr trivial
  ·exact .inl (by rw[hk]; simp[hi])
 ·rename_i c x y k hk
  split
  ·refine to _ fun i hi => ?_
   rcases List.mem_cons.1 hi with rfl | hi
   ·exact .inr trivial
   ·exact .inl (by rw[hk]; simp[hi])
  ·exact trivial
 ·rename_i k hk
  refine to _ fun i hi => ?_
  rcases List.mem_cons.1 hi with rfl | hi
  ·exact .inr trivial
  rcases List.mem_cons.1 hi with rfl | hi
  ·exact .inr trivial
  ·exact .inl (by rw[hk]; simp[hi])
 ·rename_i k hk
  refine to _ fun i hi => ?_
  rcases List.mem_cons.1 hi with rfl | hi
  ·exact .inr trivial
  rcases List.mem_cons.1 hi with rfl | hi
  ·exact .inr trivial
  ·exact .inl (by rw[hk]; simp[hi])
 ·rename_i k hk
  refine to _ fun i hi => ?_
  rcases List.mem_cons.1 hi with rfl | hi
  ·exact .inr trivial
  rcases List.mem_cons.1 hi with rfl | hi
  ·exact .inr trivial
  ·exact .inl (by rw[hk]; simp[hi])
 ·rename_i k hk
  refine to _ fun i hi => ?_
  rcases List.mem_cons.1 hi with rfl | hi
  ·exact .inr trivial
  rcases List.mem_cons.1 hi with rfl | hi
  ·exact .inr trivial
  ·exact .inl (by rw[hk]; simp[hi])
 ·rename_i id k hk
  cases e:exitTo id k with
  | none=>exact leave (some (.exit id))
  | some k'=>exact to k' fun i hi => .inl (by rw[hk]; simp[sJ e i hi])
 ·rename_i l k hk
  cases e:gotoIn l k with
  | none=>exact leave (some (.goto l))
  | some k'=>exact to k' fun i hi=>(sH e i hi).imp (fun hi=>by rw[hk]; simp[hi]) _root_.id
 ·rename_i f params assign body k hk
  have:=(TC.out:T1 P (Instr.enterLoop fr.fn fr.tmps params assign body fr.roundOf)).tb w #[] b9
  revert this
  generalize (Instr.enterLoop fr.fn fr.tmps params assign body fr.roundOf).runT P w #[]=x
  obtain⟨r,es⟩:=x
  intro this
  cases r with
  | ok a w' =>
   refine bG (bR hP _ this.2) ?_
   refine pH (fr:={ fr with todo := .inRangeFunc a.1::k,defers:=a.2++fr.defers }) hP (wB h rfl ?_) (aA TC.out fun _=>jr hP _ _) _
   intro i hi
   rcases List.mem_cons.1 hi with rfl | hi
   ·exact trivial
   ·exact ho i (by rw[hk]; simp[hi])
  | halt x w'=>exact trivial
 ·exact trivial
 ·refine pH hP h (aA ?_ fun _=>aK (show lz .skip from trivial)) w
  cases fr.roundOf with
  | none=>exact av _
  | some l=>exact(TC.out:T1 P (Instr.beginRound l))
 ·rename_i l k hk
  have:=(TC.out:T1 P (Instr.endLoop l)).tb w #[] b9
  revert this
  generalize (Instr.endLoop l).runT P w #[]=x
  obtain⟨r,es⟩:=x
  intro this
  cases r with
  | ok a w' =>
   refine bG (bR hP _ this.2) (aU (wB h rfl ?_))
   intro i hi
   rcases List.mem_append.1 hi with hi | hi
   ·cases a with
    | none=>simp at hi
    | some c=>simp at hi; subst hi; exact trivial
   ·exact ho i (by rw[hk]; simp[hi])
  | halt x w' =>
   cases x with
   | panic v=>exact bG (bR hP _ (this trivial)) (aU (mX h _))
   | _=>exact trivial
 ·exact trivial
 ·rename_i hk; exact absurd (ho _ (by rw[hk]; exact List.mem_cons_self ..)) id
 ·rename_i row args k hk
  have hr : row = "runtime.print$piece" := ho (.extern row args) (by rw [hk]; exact List.mem_cons_self ..)
  subst hr
  cases e : Extern.next "runtime.print$piece" with
  | none=>exact trivial
  | some x=>exact pH hP h (zU e args) w
 ·rename_i id ops draw k hk
  have lQ:∀ t,∀ i∈(Item.inRegion ops t::k),i∈fr.todo∨yB i:=fun t i hi=>by
   rcases List.mem_cons.1 hi with rfl | hi
   ·exact .inr trivial
   ·exact .inl (by rw[hk]; simp[hi])
  refine lY (to _ (lQ _)) ?_
  split
  ·exact aU (wB h rfl (EX ho (lQ _)))
  ·exact trivial
 ·rename_i k hk; exact to k (fun i hi => .inl (by rw[hk]; simp[hi]))
 ·exact lY (Sj hP h w) (aU (cK h _))
theorem WU {P:Program} {α:Type} {d d':Nat} (m:Unsupported):Td P d d' (unsupported m:Sem α):=xI id
theorem WV {P:Program} {d:Nat} (c:Sys):Td P d d (sys c):=fun _ es he=>by
 show deafBehind 0 (es.push _)=_
 rw[ct,he]
theorem GX {b:Prop} {P:Program} (fr:Frame) (d:Dying) (f:Fatal) (ho:okF fr) (hd:d.calling=false) (w:World):xH b (writeOn P fr d f w):=by
 unfold writeOn
 dsimp only
 split
 ·exact trivial
 ·rename_i piece rest _
  have hT:Tb P (fun _=>True) (do
    if !(f.whole&&f.begun) then
     mark .disable
     if ← Extern.PrintPieces.held then .halt .blocked
     if f.whole then store (printLock (← program)) (.bool true) .atomic
     mark .enable
    if piece.size > 65536 then unsupported (.noEntry "a report of more than 65536 bytes")
    match ← sys (.write 2 piece) with
    | .int n => if n != piece.size then unsupported (.noEntry "a report that its descriptor cannot take whole")
    | .err _=>pure ()
    | _ => unsupported (.noEntry "a report that its descriptor cannot take whole") : Sem Unit) := by
   refine Ey ?_
   (repeat' first | (with_reducible exact Ew _) | (with_reducible exact CJ _) | (with_reducible refine uA _ _) | (with_reducible refine zy _ _) | (with_reducible refine wJ id _) | (with_reducible refine fW zA (fun _ => ?_)) | (with_reducible refine fW qo (fun _ => ?_)) | (with_reducible exact qo) | (with_reducible exact xI id) | (with_reducible exact WU _) | (with_reducible refine fW IU (fun _ => ?_)) | (with_reducible refine fW sr (fun _ => ?_)) | (with_reducible refine fW (Ex _ _ _) (fun _ => ?_)) | (with_reducible refine fW (WV _) (fun _ => ?_)) | split | dsimp only)
  have:=hT w #[] b9
  revert this
  generalize Sem.runT P _ w #[]=x
  obtain⟨r,es⟩:=x
  intro this
  cases r with
  | ok a w'=>exact⟨this.2,⟨ho,fun _ hf=>absurd hf (List.not_mem_nil),⟨fun _ hx=>(nomatch hx),fun d' Ai => .inl (by cases Ai; exact hd)⟩⟩,by simp⟩
  | halt x w' =>
   cases x with
   | blocked=>exact⟨b9,⟨ho,fun _ hf=>absurd hf (List.not_mem_nil),⟨fun _ hx=>(nomatch hx),fun d' Ai => .inl (by cases Ai; exact hd)⟩⟩,by simp⟩
   | _=>exact trivial
theorem XL {b:Prop} {P:Program} (hP:Plain P) (fr:Frame) (d:Dying) (ho:okF fr) (hd:d.calling=false) (w:World):xH b (die P fr d w):=by
 have hg:∀ (d:Dying),d.calling=false→Hg b (some d) fr []:=fun d hd=>⟨ho,fun _ hf=>absurd hf (List.not_mem_nil),⟨fun _ hx=>(nomatch hx),fun d' Ai => .inl (by cases Ai; exact hd)⟩⟩
 unfold die
 split
 ·exact GX fr d _ ho hd w
 ·split
  ·exact lY (aU (hg d hd)) (HM _ _ _ _)
  ·dsimp only
   split
   ·exact aU (hg _ hd)
   ·split
    ·exact aU (hg _ hd)
    ·exact trivial
   ·rename_i t recv name _
    have:=(jr hP (.fn (.method name) #[]) #[.iface t recv]).tb w #[] b9
    revert this
    generalize (invoke (.fn (.method name) #[]) #[.iface t recv]).runT P w #[]=x
    obtain⟨r,es⟩:=x
    intro this
    dsimp only
    split
    ·refine bG (bR hP _ this.2) (aU ⟨jv _ _ _ _,fun _ hf=>absurd hf (List.not_mem_nil),⟨fun _ hx=>(nomatch hx),fun d' Ai => .inr rfl⟩⟩)
    ·exact bG (bR hP _ this.2) (aU (hg _ hd))
    ·exact trivial
    ·exact bG (bR hP _ (this trivial)) (pW P fr ho _ _)
    ·exact trivial
   ·exact trivial
theorem mS {b:Prop} {P:Program} (hP:Plain P) (main:Bool) (g:Goroutine) (h:Hg b g.dying g.frame g.callers) (w:World):xH b (stepG P main g w):=by
 obtain⟨fr,callers,st,dy,off⟩:=g
 unfold stepG
 dsimp only at h ⊢
 split
 ·rename_i d hc _
  exact XL hP fr _ h.1 rfl w
 ·rename_i hd hm
  refine SM hP main h (fun hb => ?_) w
  obtain⟨d,Gc⟩:=Option.ne_none_iff_exists'.1 hb
  rcases h.2.2.2 d Gc with h' | h'
  ·obtain⟨_,_,_,_,_,_,_⟩:=d
   simp only at h'
   subst h'
   exact(hd _ _ _ _ _ _ Gc).elim
  ·exact h'
 ·rename_i hd hm
  refine Kk hP main h (fun hb => ?_) w
  obtain⟨d,Gc⟩:=Option.ne_none_iff_exists'.1 hb
  rcases h.2.2.2 d Gc with h' | h'
  ·obtain⟨_,_,_,_,_,_,_⟩:=d
   simp only at h'
   subst h'
   exact(hd _ _ _ _ _ _ Gc).elim
  ·exact h'
end Go.Co
end
