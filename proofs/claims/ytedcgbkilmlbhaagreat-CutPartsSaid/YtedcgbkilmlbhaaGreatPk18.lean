import Derived.Test.YtedcgbkilmlbhaaGreatPk17
section
namespace Go.Co
open Go
def mR:Next→Prop
  | .callThen .. | .stack .. | .numGoroutine | .collect | .watch _ | .newcoro .. | .sleep _ | .timer _ | .alone .. => False
  | .row r _ => r = "runtime.print$piece"
  | _=>True
structure Plain (P:Program):Prop where
  count : ∀ (f : FuncId) (fn : Func), P.funcs[f]? = some fn → (fn.name == "runtime.NumGoroutine") = false
  quiet:∀ f:FuncId,(P.funcs[f]?).any (·.norace)=false
  next:∀ (f:FuncId) (fn:Func),P.funcs[f]? = some fn→fn.body.isNone=true→Extern.findNext fn=none
  find:∀ (f:FuncId) (fn:Func) (e:Array Value→Sem Value),P.funcs[f]? = some fn→fn.body.isNone=true→Extern.find fn=some e→∀ args,T1 P (e args)
def Td (P:Program) {α:Type} (d d':Nat) (s:Sem α):Prop :=
  ∀ (w:World) (es:Array Event),deafBehind 0 es=d→match s.runT P w es with
    | (.ok _ _,es')=>deafBehind 0 es'=d'
    | (.halt h _,_)=>¬ Li h
section
variable {P:Program}
theorem gN {α β:Type} {d d' d'':Nat} {s:Sem α} {f:α→Sem β} (h:Td P d d' s) (hf:∀ a,Td P d' d'' (f a)):Td P d d'' (s >>= f):=by
  intro w es he
  rw[runT_bind']
  have:=h w es he
  revert this
  cases s.runT P w es with
  | mk r es' =>
    cases r with
    | ok a w'=>exact fun hb=>hf a w' es' hb
    | halt x w'=>exact id
theorem DW {α:Type} {d:Nat} (a:α):Td P d d (pure a):=fun _ _ he=>he
theorem za {α:Type} {d d':Nat} {h:Halt} (hh:¬ Li h):Td P d d' (Sem.halt h:Sem α):=fun _ _ _=>hh
theorem AX {d:Nat}:Td P d (d+1) (mark .disable):=fun _ es he=>by
  show deafBehind 0 (es.push _)=_
  rw[cZ,he]
theorem rX {d:Nat}:Td P (d+1) d (mark .enable):=fun _ es he=>by
  show deafBehind 0 (es.push _)=_
  rw[cZ,he]; rfl
theorem oN {d:Nat} {es es':Array Event} (he:deafBehind 0 es=d) (h:∀ e∈es',∃ a,e.loc = .cell a):deafBehind 0 (es++es')=d:=by
  obtain⟨l⟩:=es'
  rw[fC,he]
  induction l with
  | nil=>rfl
  | cons e l ih =>
    have e1:(⟨e::l⟩:Array Event)=#[e]++⟨l⟩:=by simp
    rw[e1,fC]
    have:deafBehind d #[e]=d:=by
      obtain⟨a,ha⟩:=h e (by simp)
      have:=cZ d #[] e
      rw[ha] at this
      exact this
    rw[this]
    exact ih fun x hx=>h x (by simp at hx ⊢; exact .inr hx)
theorem SQ {d:Nat} (a:Addr) (m:Mode):Td P d d (load a m):=by
  intro w es he
  unfold load
  simp only[Sem.runT]
  cases w.cell? a with
  | some v =>
    show deafBehind 0 (es.push _)=_
    rw[cZ,he]
  | none =>
    cases hf:w.farLoad P a (m == .atomic) with
    | ok r=>exact oN he (by simp)
    | error x =>
      show ¬ Li x
      unfold World.farLoad at hf
      split at hf
      · split at hf
        · cases hf
        · cases hf; exact id
      · simp only[Except.error.injEq] at hf
        subst hf
        unfold World.noCell
        split<;>exact id
theorem FG {d:Nat} (a:Addr) (v:Value) (m:Mode):Td P d d (store a v m):=by
  intro w es he
  unfold store
  cases v<;>simp only[Sem.runT]<;>first
    | exact id
    | (cases w.cell? a with
       | some _ =>
         by_cases hz:w.frozen? a=true
         · simp only[hz,if_true]; exact id
         · simp only[hz,if_false,aD]
           show deafBehind 0 (es.push _)=_
           rw[cZ,he]
       | none =>
         generalize hf:w.farStore P a _ _=r
         cases r with
         | ok r=>exact oN he (by simp)
         | error x =>
           show ¬ Li x
           unfold World.farStore at hf
           split at hf
           · split at hf
             · cases hf
             · cases hf; exact id
           · simp only[Except.error.injEq] at hf
             subst hf
             unfold World.noCell
             split<;>exact id)
theorem tR {d:Nat}:Td P d d program:=fun _ _ he=>he
theorem FH {α:Type} {s:Sem α} (h:Td P 0 0 s):Tb P (fun _=>True) s:=by
  intro w es he
  have:=h w es he
  revert this
  cases s.runT P w es with
  | mk r es' =>
    cases r with
    | ok a w'=>exact fun hb=>⟨trivial,hb⟩
    | halt x w'=>exact fun hb hl=>absurd hl hb
theorem t_of_td {α:Type} {s:Sem α} (h:Td P 0 0 s) (hp:Pf P s):T1 P s:=⟨FH h,hp⟩
theorem JO {d:Nat}:Td P d d Extern.PrintPieces.held:=by
  unfold Extern.PrintPieces.held
  refine gN tR fun p=>gN (SQ _ _) fun v => ?_
  split
  · exact DW _
  · exact za id
theorem x8 {α β:Type} {d d':Nat} {h:Halt} (hh:¬ Li h) (f:α→Sem β):Td P d d' ((Sem.halt h:Sem α) >>= f):=fun _ _ _=>hh
theorem vL {α β:Type} {d d':Nat} (m:String) (f:α→Sem β):Td P d d' ((stuck m:Sem α) >>= f):=fun _ _ _=>id
theorem AW {α β:Type} {d d':Nat} (m:Unsupported) (f:α→Sem β):Td P d d' ((unsupported m:Sem α) >>= f):=fun _ _ _=>id
theorem FF {α:Type} {d d':Nat} (m:String):Td P d d' (stuck m:Sem α):=za id
theorem Po (fd:Nat) (b:ByteArray):Td P 0 0 (writeFd fd b):=by
  intro w es he
  unfold writeFd
  simp only[Sem.runT]
  have h0:deafBehind 0 (es.push ⟨.output,true,false⟩)=0:=by rw[cZ,he]
  split
  · rename_i h; revert h; split<;>intro h<;>simp only[Sem.runT] at h
    · cases h
    · cases h
    · obtain⟨-,rfl⟩:=h
      exact h0
  · rename_i h; revert h; split<;>intro h<;>simp only[Sem.runT] at h
    · cases h; exact id
    · cases h; exact id
    · cases h
theorem EA (v:Value):mR (.value v):=trivial
theorem IK (a : Array Value) : mR (.row "runtime.print$piece" a) := rfl
def Yl (P:Program) {α:Type} (Q:α→Prop) (s:Sem α):Prop:=∀ w es a w' es',s.runT P w es=(.ok a w',es')→Q a
theorem DR {α:Type} {Q:α→Prop} {a:α} (h:Q a):Yl P Q (pure a:Sem α):=fun _ _ _ _ _ e=>by cases e; exact h
theorem JL {α:Type} {Q:α→Prop} (h:Halt):Yl P Q (Sem.halt h:Sem α):=fun _ _ _ _ _ e=>by cases e
theorem Sw {α β:Type} {Q:β→Prop} {s:Sem α} {f:α→Sem β} (h:∀ a,Yl P Q (f a)):Yl P Q (s >>= f):=by
  intro w es b w' es' e
  rw[runT_bind'] at e
  revert e
  cases s.runT P w es with
  | mk r es' =>
    cases r with
    | ok a w'=>exact fun e=>h a _ _ _ _ _ e
    | halt x w'=>exact fun e=>by cases e
theorem P4 (a b:Array TypeId) (args:Array Value):Yl P mR (Extern.PrintPieces.piece a b args):=by
  unfold Extern.PrintPieces.piece
  (repeat' first | (with_reducible exact DR (EA _)) | (with_reducible exact DR (IK _)) | (with_reducible exact JL _) | (with_reducible refine Sw (fun _ => ?_)) | split | dsimp only | exact DR rfl | exact JL _)
theorem Pp (a b:Array TypeId) (args:Array Value):Td P 0 0 (Extern.PrintPieces.piece a b args):=by
  unfold Extern.PrintPieces.piece
  (repeat' first | (with_reducible exact FF _) | (with_reducible exact DW _) | (with_reducible refine vL _ _) | (with_reducible refine AW _ _) | (with_reducible refine x8 id _) | (with_reducible refine gN AX (fun _ => ?_)) | (with_reducible refine gN rX (fun _ => ?_)) | (with_reducible exact rX) | (with_reducible refine gN JO (fun _ => ?_)) | (with_reducible refine gN tR (fun _ => ?_)) | (with_reducible refine gN (FG _ _ _) (fun _ => ?_)) | (with_reducible refine gN (Po _ _) (fun _ => ?_)) | split | dsimp only)
instance (t:TypeId) (x:Place):TC P (Place.get t x):=⟨by cases x<;>unfold Place.get<;>first | exact TC.out | exact aP trivial⟩
theorem t_follow:∀ (l:List FieldStep) (t:TypeId) (x:Place),T1 P (follow l t x)
  | [],_,_=>aP trivial
  | s::rest,t,x=>by
    have ih:=t_follow rest
    unfold follow
    (repeat' first | exact ih _ _ | exact TC.out | (with_reducible refine aH ?_ (fun _ => ?_)) | (with_reducible refine ic ?_ ?_) | split | dsimp only)
instance (l:List FieldStep) (t:TypeId) (x:Place):TC P (follow l t x):=⟨t_follow l t x⟩
instance (t:TypeId) (x:Place) (b:Bool) (o:Option String):TC P (receiverAt t x b o):=⟨by
  unfold receiverAt
  (repeat' first | exact TC.out | (with_reducible refine aH ?_ (fun _ => ?_)) | (with_reducible refine rJ ?_ (fun _=>trivial)) | (with_reducible exact aP trivial) | (with_reducible refine t_forInArray _ (fun _ _ => ?_) _ _) | (with_reducible refine t_forInList _ (fun _ _ => ?_) _ _) | (with_reducible refine t_forInRange _ (fun _ _ => ?_) _ _) | (with_reducible refine t_mapMArray _ (fun _ => ?_) _) | (with_reducible refine t_mapMList _ (fun _ => ?_) _) | (with_reducible refine ic ?_ ?_) | split | dsimp only)⟩
instance (t:TypeId) (v:Value) (p:Array FieldStep) (b:Bool):TC P (receiverVia t v p b):=⟨by
  unfold receiverVia
  (repeat' first | exact TC.out | (with_reducible refine aH ?_ (fun _ => ?_)) | (with_reducible refine rJ ?_ (fun _=>trivial)) | (with_reducible exact aP trivial) | (with_reducible refine t_forInArray _ (fun _ _ => ?_) _ _) | (with_reducible refine t_forInList _ (fun _ _ => ?_) _ _) | (with_reducible refine t_forInRange _ (fun _ _ => ?_) _ _) | (with_reducible refine t_mapMArray _ (fun _ => ?_) _) | (with_reducible refine t_mapMList _ (fun _ => ?_) _) | (with_reducible refine ic ?_ ?_) | split | dsimp only)⟩
theorem t_method:∀ (d:Nat) (t:TypeId) (v:Value) (n:String),T1 P (method d t v n)
  | 0,_,_,_=>eN _
  | d+1,t,v,n=>by
    have ih:=t_method d
    unfold method
    (repeat' first | exact ih _ _ _ | exact TC.out | (with_reducible refine aH ?_ (fun _ => ?_)) | (with_reducible refine ic ?_ ?_) | split | dsimp only)
instance (d:Nat) (t:TypeId) (v:Value) (n:String):TC P (method d t v n):=⟨t_method d t v n⟩
theorem t_followBlind:∀ (l:List FieldStep) (t:TypeId) (x:Option Value),T1 P (followBlind l t x)
  | [],_,_=>aP trivial
  | s::rest,t,x=>by
    have ih:=t_followBlind rest
    unfold followBlind
    (repeat' first | exact ih _ _ | exact TC.out | (with_reducible refine aH ?_ (fun _ => ?_)) | (with_reducible refine ic ?_ ?_) | split | dsimp only)
instance (l:List FieldStep) (t:TypeId) (x:Option Value):TC P (followBlind l t x):=⟨t_followBlind l t x⟩
theorem t_nilAhead:∀ (d:Nat) (t:TypeId) (v:Value) (n:String),T1 P (nilAhead d t v n)
  | 0,_,_,_=>aP trivial
  | d+1,t,v,n=>by
    have ih:=t_nilAhead d
    unfold nilAhead
    (repeat' first | exact ih _ _ _ | exact TC.out | (with_reducible refine aH ?_ (fun _ => ?_)) | (with_reducible refine ic ?_ ?_) | split | dsimp only)
instance (d:Nat) (t:TypeId) (v:Value) (n:String):TC P (nilAhead d t v n):=⟨t_nilAhead d t v n⟩
instance (t:TypeId) (v:Value):TC P (Builtin.printOne t v):=⟨by
  unfold Builtin.printOne
  (repeat' first | exact TC.out | (with_reducible refine aH ?_ (fun _ => ?_)) | (with_reducible refine rJ ?_ (fun _=>trivial)) | (with_reducible exact aP trivial) | (with_reducible refine t_forInArray _ (fun _ _ => ?_) _ _) | (with_reducible refine t_forInList _ (fun _ _ => ?_) _ _) | (with_reducible refine t_forInRange _ (fun _ _ => ?_) _ _) | (with_reducible refine t_mapMArray _ (fun _ => ?_) _) | (with_reducible refine t_mapMList _ (fun _ => ?_) _) | (with_reducible refine ic ?_ ?_) | split | dsimp only)⟩
theorem vM {γ σ:Type}:∀ (l:List γ) (f:(c:γ)→c∈l→σ→Sem (ForInStep σ)) (_:∀ c hc s,T1 P (f c hc s)) (s:σ),T1 P (forIn' l s f)
  | [],_,_,_=>aP trivial
  | c::l,f,h,s=>by
    rw[List.forIn'_cons]
    refine aH (h _ _ _) fun r => ?_
    split
    · exact aP trivial
    · exact vM l _ (fun _ _ _=>h _ _ _) _
theorem BT {σ:Type} (n:Nat) (f:(i:Nat)→i∈([:n]:Std.Legacy.Range)→σ→Sem (ForInStep σ)) (h:∀ i hi s,T1 P (f i hi s)) (s:σ):T1 P (forIn' [:n] s f):=by
  rw[Std.Legacy.Range.forIn'_eq_forIn'_range']
  exact vM _ _ (fun _ _ _=>h _ _ _) _
instance (ln:Bool) (c:Array Bool) (ts:Array TypeId) (args:Array Value):TC P (Builtin.pieces ln c ts args):=⟨by
  unfold Builtin.pieces
  (repeat' first | exact TC.out | (with_reducible refine aH ?_ (fun _ => ?_)) | (with_reducible refine rJ ?_ (fun _=>trivial)) | (with_reducible exact aP trivial) | (with_reducible refine BT _ _ (fun _ _ _ => ?_) _) | (with_reducible refine t_forInArray _ (fun _ _ => ?_) _ _) | (with_reducible refine t_forInList _ (fun _ _ => ?_) _ _) | (with_reducible refine ic ?_ ?_) | split | dsimp only)⟩
abbrev TN (P:Program) (s:Sem Next):Prop:=Tm P mR s
theorem aaX {s:Sem Next} (h:T1 P s) (h':Yl P mR s):TN P s:=by
  refine⟨fun w es he => ?_,h.pf⟩
  have:=h.tb w es he
  have h2:=h' w es
  revert this h2
  cases s.runT P w es with
  | mk r es' =>
    cases r with
    | ok a w'=>exact fun hb h2=>⟨h2 _ _ _ rfl,hb.2⟩
    | halt x w'=>exact fun hb _=>hb
theorem J7 (a:Addr) (m:Mode):Pf P (load a m):=(t_load a m).pf
theorem P6 (a:Addr) (v:Value) (m:Mode):Pf P (store a v m):=(t_store a v m).pf
theorem FY {α:Type} (m:String):Pf P (stuck m:Sem α):=rN _
theorem X4 {α:Type} (m:Unsupported):Pf P (unsupported m:Sem α):=rN _
theorem Tz:Pf P Extern.PrintPieces.held:=by
  unfold Extern.PrintPieces.held
  (repeat' first | (with_reducible exact zg _) | (with_reducible exact rN _) | (with_reducible exact FY _) | (with_reducible exact J7 _ _) | (with_reducible exact t_program1.pf) | (with_reducible refine Eb ?_ (fun _ => ?_)) | split | dsimp only)
theorem P7 (a b:Array TypeId) (args:Array Value):Pf P (Extern.PrintPieces.piece a b args):=by
  unfold Extern.PrintPieces.piece
  (repeat' first | (with_reducible exact zg _) | (with_reducible exact rN _) | (with_reducible exact FY _) | (with_reducible exact X4 _) | (with_reducible exact J7 _ _) | (with_reducible exact P6 _ _ _) | (with_reducible exact J6 _) | (with_reducible exact Tz) | (with_reducible exact(t_writeFd _ _).pf) | (with_reducible exact t_program1.pf) | (with_reducible refine Eb ?_ (fun _ => ?_)) | split | dsimp only)
theorem FD (a b:Array TypeId) (args:Array Value):TN P (Extern.PrintPieces.piece a b args):=aaX (t_of_td (Pp a b args) (P7 a b args)) (P4 a b args)
theorem Bm (ln:Bool) (c:Array Bool) (ts:Array TypeId) (args:Array Value):TN P (Builtin.printMarked ln c ts args):=by
  unfold Builtin.printMarked
  refine aH TC.out fun ps => ?_
  split
  · exact aP trivial
  · exact FD _ _ _
theorem RJ {s:Sem Value} (h:T1 P s):TN P (do pure (.value (← s))):=aH h fun _=>aP trivial
theorem acj {s:Sem Unit} (h:T1 P s):TN P (do s; pure .skip):=aH h fun _=>aP trivial
theorem Iq (b:Builtin) (ts:Array TypeId) (t:TypeId) (c:Array Bool) (args:Array Value):TN P (builtin b ts t c args):=by
  unfold builtin
  dsimp only
  split<;>first
    | (with_reducible exact RJ TC.out)
    | exact Bm _ _ _ _
    | exact aP trivial
    | exact aA _
    | exact eN _
    | exact aH TC.out fun _=>aP trivial
theorem q9 (hP:Plain P) (f:FuncId) (args:Array Value):TN P (callFunc f args):=by
  unfold callFunc
  refine Ir ?_
  split
  · exact aA _
  · rename_i fn Nr
    rw[hP.count f fn Nr]
    simp only[aD,if_false]
    · split
      · rename_i hb
        refine aH (t_mark (by simp)) fun _ => ?_
        rw[hP.next f fn Nr hb]
        dsimp only
        split
        · rename_i e he
          exact RJ (hP.find f fn e Nr hb he args)
        · split
          · exact aP trivial
          · exact eN _
      · exact aP trivial
theorem jj {α:Type} {R:α→Prop} (e:RuntimeError):Tm P R (runtimePanic e:Sem α):=by
  unfold runtimePanic
  refine aH t_program1 fun p => ?_
  dsimp only
  split<;>first | exact AV _ | exact aH TC.out fun _=>aH TC.out fun _=>AV _
theorem s7 (hP:Plain P) (r:Value) (n:String) (args:Array Value):TN P (callMethod r n args):=by
  unfold callMethod
  split
  · refine aH t_program1 fun p=>aH TC.out fun x => ?_
    exact q9 hP _ _
  · exact jj _
  · exact aA _
theorem j9 (hP:Plain P) (t:Target) (args:Array Value):TN P (invoke t args):=by
  unfold invoke
  split
  · exact jj _
  · exact Iq _ _ _ _ _
  · exact q9 hP _ _
  · split
    · exact s7 hP _ _ _
    · exact aA _
  · split
    · refine aH TC.out fun _ => ?_
      exact s7 hP _ _ _
    · exact aA _
  · split
    · refine aH TC.out fun _ => ?_
      exact q9 hP _ _
    · exact aA _
  · unfold Instr.yield
    refine aH TC.out fun r => ?_
    dsimp only
    split
    · exact aH (aA _) fun _=>aP trivial
    · exact aP trivial
  · exact aA _
  · exact aP trivial
instance (f:Value) (args:Array Value):TC P (Deferred.ofValue f args):=⟨by
  unfold Deferred.ofValue
  split<;>first | exact aP trivial | exact aA _⟩
instance (ρ:Operand→Value) (c:Call) (t:TypeId):TC P (resolve ρ c t):=⟨by
  unfold resolve
  dsimp only
  split<;>first | exact aP trivial | exact TC.out⟩
theorem Cq (hP:Plain P) (ρ:Operand→Value) (o:Oper):TN P (execOp ρ o):=by
  unfold execOp
  dsimp only
  split<;>first
    | (with_reducible exact RJ TC.out)
    | (with_reducible exact acj TC.out)
    | exact aP trivial
    | exact aH TC.out fun _=>aP trivial
    | exact aH TC.out fun _=>j9 hP _ _
    | skip
  · split<;>first
      | exact jj _
      | exact aP trivial
      | skip
    split<;>first
      | exact jj _
      | exact aP trivial
      | skip
    refine aH t_program1 fun _=>aH TC.out fun _ => ?_
    split
    · exact aH (eN _) fun _=>aP trivial
    · exact aP trivial
  · exact RJ (aH TC.out fun _=>TC.out)
  · refine aH TC.out fun _ => ?_
    split
    · exact aH TC.out fun _=>aP trivial
    · exact aA _
  · exact aH (t_mapMArray _ (fun _=>aH TC.out fun _=>aP trivial) _) fun _=>aP trivial
instance (fn:Func) (ts:Array Value):TC P (results fn ts):=⟨by
  unfold results
  refine aH (t_mapMArray _ (fun r => ?_) _) fun vs => ?_
  · split
    · exact aP trivial
    · exact aH TC.out fun _=>TC.out
  · split<;>exact aP trivial⟩
end
end Go.Co
end
section
namespace Go.Co
open Go
def zT:Item→Prop
 | .call .. => False
 | .extern r _ => r = "runtime.print$piece"
 | _=>True
def okF (fr:Frame):Prop:=∀ i∈fr.todo,zT i
def BK (fr:Frame) (callers:List Frame):Prop:=match callers.getLast? with | none=>fr.kind = .report | some f=>f.kind = .report
def Hg (b:Prop) (dy:Option Dying) (fr:Frame) (callers:List Frame):Prop :=
 okF fr∧(∀ f∈callers,okF f)∧((b→dy≠none)∧∀ d,dy=some d→(d.calling=false∨BK fr callers))
def y9 (b:Prop):GStep→Prop
 | .go g _ es=>B6 es∧Hg b g.dying g.frame g.callers∧(∀ t,g.status ≠ .sleeping t)∧g.status ≠ .parked
 | .comm g _ _ _ _ es=>B6 es∧Hg b g.dying g.frame g.callers∧g.status = .running
 | .spawn g _ _ es=>B6 es∧Hg b g.dying g.frame g.callers
 | .coroswitch g _ _ _ es=>B6 es∧Hg b g.dying g.frame g.callers
 | .ended .. => True
 | _=>False
theorem bW {b:Prop} {es:Array Event} {s:GStep} (he:B6 es) (h:y9 b s):y9 b (GStep.after es s):=by
 cases s<;>first | exact⟨pU he h.1,h.2⟩ | exact h
theorem bp {b:Prop} {dy:Option Dying} {fr:Frame} {callers:List Frame} {st:GoStatus} {off:Option (Array CommCase×CommShape)} {w:World} (h:Hg b dy fr callers) (hs:(∀ t,st ≠ .sleeping t)∧st ≠ .parked:=by simp):y9 b (.go ⟨fr,callers,st,dy,off⟩ w):=⟨cG,h,hs⟩
variable {b:Prop} {dy:Option Dying} {fr fr':Frame} {callers iq:List Frame}
theorem xV (h:Hg b dy fr callers) (hk:fr'.kind=fr.kind) (ho:okF fr'):Hg b dy fr' callers:=by
 refine⟨ho,h.2.1,h.2.2.1,fun d hd=>(h.2.2.2 d hd).imp id ?_⟩
 unfold BK
 cases callers.getLast? with
 | none=>exact fun e=>hk.trans e
 | some f=>exact id
theorem kI (h:Hg b dy fr callers) (ho:okF fr'):Hg b dy fr' (fr::callers):=by
 refine⟨ho,fun f hf => ?_,h.2.2.1,fun d hd=>(h.2.2.2 d hd).imp id ?_⟩
 ·rcases bt.1 hf with rfl | hf
  ·exact h.1
  ·exact h.2.1 f hf
 ·unfold BK
  rw[List.getLast?_cons]
  cases callers.getLast? with
  | none=>exact id
  | some f=>exact id
theorem tM {c:Frame} {rest:List Frame} (h:Hg b dy fr (c::rest)) (hk:fr'.kind=c.kind) (ho:okF c→okF fr'):Hg b dy fr' rest:=by
 refine⟨ho (h.2.1 c (by simp)),fun f hf=>h.2.1 f (by simp[hf]),h.2.2.1,fun d hd=>(h.2.2.2 d hd).imp id ?_⟩
 unfold BK
 rw[List.getLast?_cons]
 cases rest.getLast? with
 | none=>exact fun e=>hk.trans e
 | some f=>exact id
theorem F2 {fr fr':Frame} (h:okF fr) (e:∀ i∈fr'.todo,i∈fr.todo∨zT i):okF fr':=fun i hi=>(e i hi).elim (h i) id
theorem F3 {fr fr':Frame} (h:okF fr) (e:fr'.todo=fr.todo):okF fr':=fun i hi=>h i (e▸hi)
theorem ue (h:okF fr) (v:Value):okF (fr.finish v):=by
 unfold Frame.finish
 split
 ·rename_i hk
  intro i hi
  rcases bt.1 hi with rfl | hi
  ·trivial
  ·exact h i (by rw[hk]; simp[hi])
 ·rename_i hk
  intro i hi
  rcases bt.1 hi with rfl | hi
  ·trivial
  ·exact h i (by rw[hk]; simp[hi])
 ·rename_i hk
  intro i hi
  exact h i (by rw[hk]; simp[hi])
 ·rename_i hk
  exact absurd (h _ (by rw[hk]; exact kO ..)) id
 ·rename_i hk
  intro i hi
  exact h i (by rw[hk]; simp[hi])
 ·exact h
theorem ry (fr:Frame) (v:Value):(fr.finish v).kind=fr.kind:=by
 unfold Frame.finish
 split<;>rfl
theorem CE (h:okF fr) (l:List PanicEntry):okF (fr.raise l):=by
 unfold Frame.raise
 split<;>exact h
theorem Bg (fr:Frame) (l:List PanicEntry):(fr.raise l).kind=fr.kind:=by
 unfold Frame.raise
 split<;>rfl
theorem ki (P:Program) (f:FuncId) (args:Array Value) (k:CallKind):okF (Frame.enter P f args k):=by
 intro i hi
 simp only[Frame.enter,bH] at hi
 subst hi; trivial
theorem CD (l:Nat) (f:FuncId) (tmps:Array Value) (a c:Code) (k:CallKind):okF (Frame.round l f tmps a c k):=by
 intro i hi
 simp only[Frame.round,bt,dL,or_false] at hi
 rcases hi with rfl | rfl | rfl<;>trivial
theorem Kc (P : Program) (args : Array Value) (k : CallKind) : okF (Frame.ofRow P "runtime.print$piece" args k) := by
 intro i hi
 simp only[Frame.ofRow,bH] at hi
 subst hi; exact rfl
theorem dB (h:Hg b dy fr callers) (v:Value):Hg b dy (fr.finish v) callers:=xV h (ry _ _) (ue h.1 v)
theorem oE (h:Hg b dy fr callers) (l:List PanicEntry):Hg b dy (fr.raise l) callers:=xV h (Bg _ _) (CE h.1 l)
theorem rP (h:Hg b dy fr callers) (hk:fr'.kind=fr.kind) (ht:fr'.todo=fr.todo):Hg b dy fr' callers:=xV h hk (F3 h.1 ht)
theorem pS:∀ {fr:Frame} {callers iq:List Frame} {v:Value},tryRecover fr callers=some (v,iq)→Hg b dy fr callers→Hg b dy fr iq:=by
 intro fr callers
 induction callers generalizing fr with
 | nil=>intro iq v e; simp[tryRecover] at e
 | cons c rest ih =>
  intro iq v e h
  unfold tryRecover at e
  split at e
  ·rename_i hc
   simp only[List.cons.injEq] at hc
   obtain⟨rfl,rfl⟩:=hc
   split at e
   ·simp only[az,av] at e
    obtain⟨-,rfl⟩:=e
    refine⟨h.1,fun f hf => ?_,h.2.2.1,fun d hd=>(h.2.2.2 d hd).imp id ?_⟩
    ·rcases bt.1 hf with rfl | hf
     ·exact F3 (h.2.1 _ (kO ..)) rfl
     ·exact h.2.1 f (by simp[hf])
    ·unfold BK
     rw[List.getLast?_cons,List.getLast?_cons]
     cases rest.getLast?<;>exact id
   ·cases e
  ·rename_i hc
   simp only[List.cons.injEq] at hc
   obtain⟨rfl,rfl⟩:=hc
   simp only[ah,Prod.exists,av] at e
   obtain⟨a,r,e,rfl,rfl⟩:=e
   exact kI (ih e (tM (fr':=c) h rfl id)) h.1
  ·cases e
theorem Bq:∀ {l:Nat} {fr:Frame} {callers iq:List Frame} {v:Value},tryRecoverLoop l callers=some (v,iq)→Hg b dy fr callers→Hg b dy fr iq:=by
 intro l fr callers
 induction callers generalizing fr l with
 | nil=>intro iq v e; simp[tryRecoverLoop] at e
 | cons c rest ih =>
  intro iq v e h
  unfold tryRecoverLoop at e
  simp only[ah,Prod.exists,av] at e
  obtain⟨a,r,e,rfl,rfl⟩:=e
  have h':=tM (fr':=c) h rfl id
  have:Hg b dy c r:=by
   split at e
   ·exact ih e h'
   ·split at e
    ·exact pS e h'
    ·exact ih e h'
   ·exact ih e h'
  exact kI this h.1
theorem My (d:Nat) (e:Event) (es:List Event):deafBehind d ⟨e::es⟩=deafBehind (deafBehind d #[e]) ⟨es⟩:=by
 have e1:(⟨e::es⟩:Array Event)=#[e]++⟨es⟩:=by simp
 rw[e1,fC]
theorem Bn {P:Program} (hq:∀ f:FuncId,(P.funcs[f]?).any (·.norace)=false) (fn:FuncId) (es:Array Event) (d:Nat):deafBehind d (seen P fn es)=deafBehind d es:=by
 obtain⟨l⟩:=es
 have key:∀ (l:List Event) (kept:Array Event),deafBehind d (l.foldl (fun(x:Bool×Array Event) e =>
   match e.loc with
   | .mark (.extern _)=>(false,x.2)
   | _=>(x.1,if x.1 && !e.sync then x.2 else x.2.push e)) (false,kept)).2=deafBehind (deafBehind d kept) ⟨l⟩:=by
  intro l
  induction l with
  | nil=>intro kept; rfl
  | cons e l ih =>
   intro kept
   rw[List.foldl_cons,My]
   split
   ·rename_i f hf
    rw[ih]
    congr 1
    have:=cZ (deafBehind d kept) #[] e
    rw[hf] at this
    exact this.symm
   ·simp only[Bool.false_and,aD,if_false]
    rw[ih]
    congr 1
    rw[← fC]
    rfl
 have:=key l #[]
 unfold seen
 simp only[hq]
 rw[← Array.foldl_toList]
 exact this
theorem cA {P:Program} (hP:Plain P) (fn:FuncId) {es:Array Event} (h:B6 es):B6 (seen P fn es):=by
 unfold B6
 rw[Bn hP.quiet]
 exact h
theorem nC {b:Prop} {c:Prop} [Decidable c] {x y:GStep} (hx:y9 b x) (hy:y9 b y):y9 b (if c then x else y):=by split<;>assumption
theorem Gl {b:Prop} (fr:Frame) (h:okF fr) (a:List ByteArray) (m:String) (x:Bool) (w:World):y9 b (dieOf fr a m x w) :=
 ⟨cG,⟨h,fun _ hf=>absurd hf (dL),⟨fun _ hx=>(nomatch hx),fun d hd => .inl (by cases hd; rfl)⟩⟩,by simp⟩
theorem nJ {b:Prop} (fr:Frame) (h:okF fr) (m:String) (w:World):y9 b (endThrow fr m w):=Gl fr h _ _ _ w
theorem yB {b:Prop} (P:Program) (fr:Frame) (h:okF fr) (callers:List Frame) (dy:Option Dying) (m:String) (w:World):y9 b (endFatal P fr callers dy m w):=by
 unfold endFatal
 dsimp only
 split
 ·exact Gl fr h _ _ _ _
 ·exact trivial
 ·exact trivial
theorem rE {b:Prop} (P:Program) (fr:Frame) (h:okF fr) (v:Value) (w:World):y9 b (endPrinting P fr v w):=by
 unfold endPrinting
 dsimp only
 split
 ·exact nJ fr h _ _
 ·exact trivial
theorem I3 {b:Prop} (w:World) (fd:Nat) (t:ByteArray) (o:Outcome):y9 b (endWith w fd t o):=by
 unfold endWith
 dsimp only
 split
 ·split<;>exact trivial
 ·exact trivial
 ·exact trivial
theorem vE {P:Program}:∀ (l:List Nat),Hg b dy fr callers→∀ f,Hg b dy (Frame.enter P f #[] .early) (l.map (Frame.enter P · #[] .early)++fr::callers)
 | [],h,f=>kI h (by exact ki _ _ _ _)
 | x::l,h,f=>kI (vE l h x) (by exact ki _ _ _ _)
theorem QB (P:Program) (h:Hg b dy fr callers) (g:Nat) (w:World):y9 b (early P fr callers dy g w):=by
 have notYet:∀ w:World,y9 b
   (match w.heap[g]? with
    | some (.pending c elem) => .go { frame:=fr,callers,status := .running,dying:=dy } { w with heap:=w.heap.setIfInBounds g (.cells c elem) }
    | _ => .ended (.stuck "early: the variable does not wait" (fr.pos P)) w) := by
  intro w
  split
  ·exact bp h
  ·exact trivial
 unfold early
 dsimp only
 split
 ·exact notYet w
 ·split
  ·exact trivial
  ·split
   ·exact notYet w
   ·split
    ·exact notYet w
    ·split
     ·exact trivial
     ·exact bp (vE _ h _)
     ·exact trivial
     ·exact notYet w
     ·split
      ·exact bp (vE _ h _)
      ·split
       ·exact notYet w
       ·split
        ·exact notYet _
        ·exact bp (vE _ h _)
        ·exact trivial
theorem q8 {P:Program} (hP:Plain P) (h:Hg b dy fr callers) {s:Sem Next} (hs:TN P s) (w:World):y9 b (stepG.apply P true fr callers dy s w):=by
 unfold stepG.apply
 have:=hs.tb w #[] cG
 revert this
 generalize s.runT P w #[]=x
 obtain⟨r,es⟩:=x
 simp only[if_true]
 intro this
 cases r with
 | ok a w' =>
  obtain⟨hn,he⟩:=this
  refine bW (cA hP _ (by split<;>first | exact cG | exact he)) ?_
  cases a with
  | callThen d r s x=>exact absurd hn id
  | stack r s=>exact absurd hn id
  | row r args =>
   have hr : r = "runtime.print$piece" := hn
   subst hr
   dsimp only
   split
   ·rename_i k hk
    refine bp (xV h rfl ?_)
    intro i hi
    rcases bt.1 hi with rfl | hi
    ·exact rfl
    ·exact h.1 i (by rw[hk]; simp[hi])
   ·exact bp (kI h (by exact Kc _ _ _))
  | value v=>exact bp (dB h v)
  | skip=>exact bp (dB h _)
  | enter f args=>exact bp (kI h (by exact ki _ _ _ _))
  | round l f tmps as body=>exact bp (kI h (by exact CD _ _ _ _ _ _))
  | defer d=>exact bp (dB (fr:={ fr with defers:=d::fr.defers }) (rP h rfl rfl) _)
  | recover =>
   dsimp only
   split
   ·rename_i v iq e
    split at e
    ·split at e
     ·exact bp (dB (pS e h) _)
     ·exact bp (dB (Bq e h) _)
    ·exact bp (dB (pS e h) _)
   ·exact bp (dB h _)
  | comm c bl sh=>exact⟨cG,h,rfl⟩
  | coroswitch c x=>exact⟨cG,h⟩
  | spawn d =>
   dsimp only
   exact nC (nJ fr h.1 _ _) ⟨cG,dB h _⟩
  | _=>exact absurd hn id
 | halt x w' =>
  cases x with
  | panic v=>exact bW (cA hP _ (by split<;>first | exact cG | exact this trivial)) (bp (oE h _))
  | goexit=>exact bW (cA hP _ (by split<;>first | exact cG | exact this trivial)) (bp (oE h _))
  | blocked=>exact bW (cA hP _ (by split<;>exact cG)) (bp h)
  | waiting=>exact bW (cA hP _ (by split<;>exact cG)) (bp h)
  | fatal m=>exact bW (cA hP _ (by split<;>first | exact cG | exact this trivial)) (yB P fr h.1 _ _ _ _)
  | throw m=>exact bW (cA hP _ (by split<;>first | exact cG | exact this trivial)) (nJ fr h.1 _ _)
  | unsupported u =>
   cases u with
   | initOrder g=>exact bW (cA hP _ (by split<;>exact cG)) (QB P h _ _)
   | _=>exact trivial
  | exit c=>exact trivial
  | stuck s=>exact trivial
theorem TE {P:Program} (hP:Plain P) (h:Hg b dy fr callers) (w:World):y9 b (stepG.oper P true fr callers dy w):=by
 unfold stepG.oper
 split
 ·exact trivial
 ·split
  ·refine q8 hP h ?_ w
   exact aH TC.out fun _=>aH TC.out fun _=>aP trivial
  ·exact q8 hP h (Cq hP _ _) w
theorem rA (P:Program) (main:Bool) (h:Hg b dy fr callers) (hx:dy≠none→BK fr callers) (v:Value) (w:World):y9 b (doReturn P main fr callers dy v w):=by
 unfold doReturn
 split
 ·rename_i c rest
  split
  ·exact bp (tM h (ry _ _) fun hc=>ue hc _)
  ·exact bp (tM h (ry _ _) fun hc=>ue hc _)
  ·exact bp (tM h rfl id)
  ·dsimp only
   refine bp (tM h ?_ fun hc => ?_)
   ·split
    ·split<;>rfl
    ·rfl
   ·split
    ·split<;>exact hc
    ·exact hc
 ·split
  ·exact bp ⟨h.1,h.2.1,⟨fun _ hx=>(nomatch hx),fun d hd => .inl (by cases hd; rfl)⟩⟩
  ·exact trivial
  ·rename_i hk _
   have nb:b→False:=fun hb=>hk (hx (h.2.2.1 hb))
   split
   ·exact bp ⟨h.1,h.2.1,fun hb=>(nb hb).elim,fun d hd=>(nomatch hd)⟩
   ·split
    ·exact bp ⟨ki _ _ _ _,h.2.1,fun hb=>(nb hb).elim,fun d hd=>(nomatch hd)⟩
    ·exact trivial
theorem yV {P:Program} (hP:Plain P) (h:Hg b dy fr callers) (d:Deferred) (w:World):y9 b (callDeferred P fr callers dy d w):=by
 unfold callDeferred
 refine nC trivial ?_
 have:=(j9 hP d.target d.args).tb w #[] cG
 revert this
 generalize (invoke d.target d.args).runT P w #[]=x
 obtain⟨r,es⟩:=x
 intro this
 dsimp only
 cases r with
 | ok a w' =>
  obtain⟨hn,he⟩:=this
  refine bW (cA hP _ he) ?_
  cases a with
  | callThen d r s x=>exact absurd hn id
  | stack r s=>exact absurd hn id
  | row r args =>
   have hr : r = "runtime.print$piece" := hn
   subst hr
   exact bp (kI h (Kc _ _ _))
  | enter f args=>exact bp (kI h (ki _ _ _ _))
  | round l f tmps as body=>exact bp (kI h (CD _ _ _ _ _ _))
  | recover =>
   dsimp only
   split
   ·rename_i e
    exact bp (pS e h)
   ·exact bp h
  | coroswitch c x=>cases x<;>first | exact trivial | exact⟨cG,h⟩
  | value v=>exact bp h
  | skip=>exact bp h
  | defer d=>exact bp h
  | spawn d=>exact bp h
  | comm c bl sh=>exact bp h
  | _=>exact absurd hn id
 | halt x w' =>
  cases x with
  | panic v=>exact bW (cA hP _ (this trivial)) (bp (oE h _))
  | goexit=>exact bW (cA hP _ (this trivial)) (bp (oE h _))
  | blocked=>exact bW (cA hP _ cG) (bp (rP h rfl rfl))
  | waiting=>exact bW (cA hP _ cG) (bp (rP h rfl rfl))
  | fatal m=>exact bW (cA hP _ (this trivial)) (yB P fr h.1 _ _ _ _)
  | throw m=>exact bW (cA hP _ (this trivial)) (nJ fr h.1 _ _)
  | unsupported u=>exact trivial
  | exit c=>exact trivial
  | stuck s=>exact trivial
theorem Lx {P:Program} (hP:Plain P) (main:Bool) (h:Hg b dy fr callers) (hx:dy≠none→BK fr callers) (w:World):y9 b (unwind P main fr callers dy w):=by
 unfold unwind
 split
 ·rename_i block args ds hk
  have:=(TC.out:T1 P (Instr.takeDeferred block)).tb w #[] cG
  revert this
  generalize (Instr.takeDeferred block).runT P w #[]=x
  obtain⟨r,es⟩:=x
  intro this
  cases r with
  | ok a w'=>exact bW (cA hP _ this.2) (bp (rP h rfl rfl))
  | halt x w'=>exact trivial
 ·rename_i d ds _ _
  exact yV (fr:={ fr with defers:=ds }) hP (rP h rfl rfl) _ w
 ·split
  ·exact trivial
  ·refine nC trivial ?_
   split
   ·exact bp (tM h (Bg _ _) fun hc=>CE hc _)
   ·split
    ·refine nC (bp ⟨h.1,h.2.1,h.2.2.1,fun d hd=>(nomatch hd)⟩) ?_
     split
     ·exact bp ⟨h.1,h.2.1,⟨fun _ hx=>(nomatch hx),fun d hd => .inl (by cases hd; rfl)⟩⟩
     ·exact trivial
     ·exact trivial
    ·split
     ·exact rE P fr h.1 _ _
     ·exact trivial
  ·split
   ·exact rA P main h hx _ w
   ·rename_i fn _
    have:=(TC.out:T1 P (results fn fr.tmps)).tb w #[] cG
    revert this
    generalize (results fn fr.tmps).runT P w #[]=x
    obtain⟨r,es⟩:=x
    intro this
    cases r with
    | ok a w'=>exact bW (cA hP _ this.2) (rA P main h hx _ _)
    | halt x w'=>cases x<;>exact trivial
theorem ug {id:Nat}:∀ {k k':List Item},exitTo id k=some k'→∀ i∈k',i∈k
 | [],_,e=>by simp[exitTo] at e
 | x::k,k',e=>by
  unfold exitTo at e
  split at e
  ·rename_i hk
   cases hk
   split at e
   ·cases e; exact fun i hi=>by simp[hi]
   ·exact fun i hi=>by simp[ug e i hi]
  ·rename_i hk
   cases hk
   exact fun i hi=>by simp[ug e i hi]
  ·rename_i hk; cases hk
theorem ud {l:Nat}:∀ {k k':List Item},gotoIn l k=some k'→∀ i∈k',i∈k∨zT i
 | [],_,e=>by simp[gotoIn] at e
 | x::k,k',e=>by
  unfold gotoIn at e
  split at e
  ·rename_i hk
   cases hk
   split at e
   ·cases e
    intro i hi
    rcases bt.1 hi with rfl | hi
    ·exact .inr trivial
    ·exact .inl (by simpa using hi)
   ·intro i hi
    rcases ud e i hi with h | h
    ·exact .inl (by simp[h])
    ·exact .inr h
  ·rename_i hk
   cases hk
   intro i hi
   rcases ud e i hi with h | h
   ·exact .inl (by simp[h])
   ·exact .inr h
  ·rename_i hk; cases hk
theorem Bc {P : Program} {e : Array Value → Sem Next} (h : Extern.next "runtime.print$piece" = some e) (args : Array Value) : TN P (e args) := by
 have : Extern.next "runtime.print$piece" = some (Extern.PrintPieces.piece #[] #[]) := by rfl
 rw[this] at h
 cases h
 exact FD _ _ _
theorem Uf {P:Program} (hP:Plain P) (main:Bool) (h:Hg b dy fr callers) (hx:dy≠none→BK fr callers) (w:World):y9 b (stepG.exec P main true fr callers dy w):=by
 have leave:∀ jump:Option Code,y9 b
   (match fr.roundOf with
    | none => if jump matches none | some .ret then .go { frame := { fr with mode := .returning }, callers, status := .running, dying := dy } w else .ended (.stuck "exit, goto: no such block or label" (fr.pos P)) w
    | some l =>
     GStep.after (seen P fr.fn ((Instr.endRound l jump).runT P w #[]).2) <| match ((Instr.endRound l jump).runT P w #[]).1 with
     | .ok v w=>doReturn P main fr callers dy v w
     | .halt _ w => .ended (.stuck "range over a function: no such loop" (fr.pos P)) w) := by
  intro jump
  cases fr.roundOf with
  | none=>exact nC (bp (rP h rfl rfl)) trivial
  | some l =>
   dsimp only
   have:=(TC.out:T1 P (Instr.endRound l jump)).tb w #[] cG
   revert this
   generalize (Instr.endRound l jump).runT P w #[]=x
   obtain⟨r,es⟩:=x
   intro this
   cases r with
   | ok a w'=>exact bW (cA hP _ this.2) (rA P main h hx _ _)
   | halt x w'=>exact trivial
 have to:∀ (todo:List Item),(∀ i∈todo,i∈fr.todo∨zT i)→y9 b (.go { frame:={ fr with todo },callers,status := .running,dying:=dy } w) :=
  fun todo ht=>bp (xV h rfl (F2 h.1 ht))
 have ho:=h.1
 unfold stepG.exec
 dsimp only
 split
 ·exact leave none
 ·exact leave (some .ret)
 ·rename_i k hk; exact to k (fun i hi => .inl (by rw[hk]; simp[hi]))
 ·rename_i k hk; exact to k (fun i hi => .inl (by rw[hk]; simp[hi]))
 ·rename_i k hk; exact to k (fun i hi => .inl (by rw[hk]; simp[hi]))
 ·rename_i k hk; exact to k (fun i hi => .inl (by rw[hk]; simp[hi]))
 ·rename_i x y k hk
  refine to _ fun i hi => ?_
  rcases bt.1 hi with rfl | hi
  ·exact .inr trivial
  rcases bt.1 hi with rfl | hi
  ·exact .inr trivial
  ·exact .inl (by rw[hk]; simp[hi])
 ·rename_i c x y k hk
  split
  ·refine to _ fun i hi => ?_
   rcases bt.1 hi with rfl | hi
   ·exact .inr trivial
   ·exact .inl (by rw[hk]; simp[hi])
  ·exact trivial
 ·rename_i k hk
  refine to _ fun i hi => ?_
  rcases bt.1 hi with rfl | hi
  ·exact .inr trivial
  rcases bt.1 hi with rfl | hi
  ·exact .inr trivial
  ·exact .inl (by rw[hk]; simp[hi])
 ·rename_i k hk
  refine to _ fun i hi => ?_
  rcases bt.1 hi with rfl | hi
  ·exact .inr trivial
  rcases bt.1 hi with rfl | hi
  ·exact .inr trivial
  ·exact .inl (by rw[hk]; simp[hi])
 ·rename_i k hk
  refine to _ fun i hi => ?_
  rcases bt.1 hi with rfl | hi
  ·exact .inr trivial
  rcases bt.1 hi with rfl | hi
  ·exact .inr trivial
  ·exact .inl (by rw[hk]; simp[hi])
 ·rename_i k hk
  refine to _ fun i hi => ?_
  rcases bt.1 hi with rfl | hi
  ·exact .inr trivial
  rcases bt.1 hi with rfl | hi
  ·exact .inr trivial
  ·exact .inl (by rw[hk]; simp[hi])
 ·rename_i id k hk
  cases e:exitTo id k with
  | none=>exact leave (some (.exit id))
  | some k'=>exact to k' fun i hi => .inl (by rw[hk]; simp[ug e i hi])
 ·rename_i l k hk
  cases e:gotoIn l k with
  | none=>exact leave (some (.goto l))
  | some k'=>exact to k' fun i hi=>(ud e i hi).imp (fun hi=>by rw[hk]; simp[hi]) _root_.id
 ·rename_i f params assign body k hk
  have:=(TC.out:T1 P (Instr.enterLoop fr.fn fr.tmps params assign body fr.roundOf)).tb w #[] cG
  revert this
  generalize (Instr.enterLoop fr.fn fr.tmps params assign body fr.roundOf).runT P w #[]=x
  obtain⟨r,es⟩:=x
  intro this
  cases r with
  | ok a w' =>
   refine bW (cA hP _ this.2) ?_
   refine q8 (fr:={ fr with todo := .inRangeFunc a.1::k,defers:=a.2++fr.defers }) hP (xV h rfl ?_) (aH TC.out fun _=>j9 hP _ _) _
   intro i hi
   rcases bt.1 hi with rfl | hi
   ·exact trivial
   ·exact ho i (by rw[hk]; simp[hi])
  | halt x w'=>exact trivial
 ·exact trivial
 ·refine q8 hP h (aH ?_ fun _=>aP (show mR .skip from trivial)) w
  cases fr.roundOf with
  | none=>exact aA _
  | some l=>exact(TC.out:T1 P (Instr.beginRound l))
 ·rename_i l k hk
  have:=(TC.out:T1 P (Instr.endLoop l)).tb w #[] cG
  revert this
  generalize (Instr.endLoop l).runT P w #[]=x
  obtain⟨r,es⟩:=x
  intro this
  cases r with
  | ok a w' =>
   refine bW (cA hP _ this.2) (bp (xV h rfl ?_))
   intro i hi
   rcases jO.1 hi with hi | hi
   ·cases a with
    | none=>simp at hi
    | some c=>simp at hi; subst hi; exact trivial
   ·exact ho i (by rw[hk]; simp[hi])
  | halt x w' =>
   cases x with
   | panic v=>exact bW (cA hP _ (this trivial)) (bp (oE h _))
   | _=>exact trivial
 ·exact trivial
 ·rename_i hk; exact absurd (ho _ (by rw[hk]; exact kO ..)) id
 ·rename_i row args k hk
  have hr : row = "runtime.print$piece" := ho (.extern row args) (by rw [hk]; exact kO ..)
  subst hr
  cases e : Extern.next "runtime.print$piece" with
  | none=>exact trivial
  | some x=>exact q8 hP h (Bc e args) w
 ·rename_i id ops draw k hk
  have nk:∀ t,∀ i∈(Item.inRegion ops t::k),i∈fr.todo∨zT i:=fun t i hi=>by
   rcases bt.1 hi with rfl | hi
   ·exact .inr trivial
   ·exact .inl (by rw[hk]; simp[hi])
  refine nC (to _ (nk _)) ?_
  split
  ·exact bp (xV h rfl (F2 ho (nk _)))
  ·exact trivial
 ·rename_i k hk; exact to k (fun i hi => .inl (by rw[hk]; simp[hi]))
 ·exact nC (TE hP h w) (bp (dB h _))
theorem XK {P:Program} {α:Type} {d d':Nat} (m:Unsupported):Td P d d' (unsupported m:Sem α):=za id
theorem XL {P:Program} {d:Nat} (c:Sys):Td P d d (sys c):=fun _ es he=>by
 show deafBehind 0 (es.push _)=_
 rw[cZ,he]
theorem Io {b:Prop} {P:Program} (fr:Frame) (d:Dying) (f:Fatal) (ho:okF fr) (hd:d.calling=false) (w:World):y9 b (writeOn P fr d f w):=by
 unfold writeOn
 dsimp only
 split
 ·exact trivial
 ·rename_i piece rest _
  have hT:Tb P (fun _=>True) (do
    if !(f.whole&&f.begun) then
     mark .disable
     if ← Extern.PrintPieces.held then .halt .blocked
     if f.whole then store (printLock (← program)) (.bool true) .atomic
     mark .enable
    if piece.size > 65536 then unsupported (.noEntry "a report of more than 65536 bytes")
    match ← sys (.write 2 piece) with
    | .int n => if n != piece.size then unsupported (.noEntry "a report that its descriptor cannot take whole")
    | .err _=>pure ()
    | _ => unsupported (.noEntry "a report that its descriptor cannot take whole") : Sem Unit) := by
   refine FH ?_
   (repeat' first | (with_reducible exact FF _) | (with_reducible exact DW _) | (with_reducible refine vL _ _) | (with_reducible refine AW _ _) | (with_reducible refine x8 id _) | (with_reducible refine gN AX (fun _ => ?_)) | (with_reducible refine gN rX (fun _ => ?_)) | (with_reducible exact rX) | (with_reducible exact za id) | (with_reducible exact XK _) | (with_reducible refine gN JO (fun _ => ?_)) | (with_reducible refine gN tR (fun _ => ?_)) | (with_reducible refine gN (FG _ _ _) (fun _ => ?_)) | (with_reducible refine gN (XL _) (fun _ => ?_)) | split | dsimp only)
  have:=hT w #[] cG
  revert this
  generalize Sem.runT P _ w #[]=x
  obtain⟨r,es⟩:=x
  intro this
  cases r with
  | ok a w'=>exact⟨this.2,⟨ho,fun _ hf=>absurd hf (dL),⟨fun _ hx=>(nomatch hx),fun d' uC => .inl (by cases uC; exact hd)⟩⟩,by simp⟩
  | halt x w' =>
   cases x with
   | blocked=>exact⟨cG,⟨ho,fun _ hf=>absurd hf (dL),⟨fun _ hx=>(nomatch hx),fun d' uC => .inl (by cases uC; exact hd)⟩⟩,by simp⟩
   | _=>exact trivial
theorem Yt {b:Prop} {P:Program} (hP:Plain P) (fr:Frame) (d:Dying) (ho:okF fr) (hd:d.calling=false) (w:World):y9 b (die P fr d w):=by
 have hg:∀ (d:Dying),d.calling=false→Hg b (some d) fr []:=fun d hd=>⟨ho,fun _ hf=>absurd hf (dL),⟨fun _ hx=>(nomatch hx),fun d' uC => .inl (by cases uC; exact hd)⟩⟩
 unfold die
 split
 ·exact Io fr d _ ho hd w
 ·split
  ·exact nC (bp (hg d hd)) (I3 _ _ _ _)
  ·dsimp only
   split
   ·exact bp (hg _ hd)
   ·split
    ·exact bp (hg _ hd)
    ·exact trivial
   ·rename_i t recv name _
    have:=(j9 hP (.fn (.method name) #[]) #[.iface t recv]).tb w #[] cG
    revert this
    generalize (invoke (.fn (.method name) #[]) #[.iface t recv]).runT P w #[]=x
    obtain⟨r,es⟩:=x
    intro this
    dsimp only
    split
    ·refine bW (cA hP _ this.2) (bp ⟨ki _ _ _ _,fun _ hf=>absurd hf (dL),⟨fun _ hx=>(nomatch hx),fun d' uC => .inr rfl⟩⟩)
    ·exact bW (cA hP _ this.2) (bp (hg _ hd))
    ·exact trivial
    ·exact bW (cA hP _ (this trivial)) (rE P fr ho _ _)
    ·exact trivial
   ·exact trivial
theorem oz {b:Prop} {P:Program} (hP:Plain P) (main:Bool) (g:Goroutine) (h:Hg b g.dying g.frame g.callers) (w:World):y9 b (stepG P main g w):=by
 obtain⟨fr,callers,st,dy,off⟩:=g
 unfold stepG
 dsimp only at h ⊢
 split
 ·rename_i d hc _
  exact Yt hP fr _ h.1 rfl w
 ·rename_i hd hm
  refine Uf hP main h (fun hb => ?_) w
  obtain⟨d,Hw⟩:=Option.ne_none_iff_exists'.1 hb
  rcases h.2.2.2 d Hw with h' | h'
  ·obtain⟨_,_,_,_,_,_,_⟩:=d
   simp only at h'
   subst h'
   exact(hd _ _ _ _ _ _ Hw).elim
  ·exact h'
 ·rename_i hd hm
  refine Lx hP main h (fun hb => ?_) w
  obtain⟨d,Hw⟩:=Option.ne_none_iff_exists'.1 hb
  rcases h.2.2.2 d Hw with h' | h'
  ·obtain⟨_,_,_,_,_,_,_⟩:=d
   simp only at h'
   subst h'
   exact(hd _ _ _ _ _ _ Hw).elim
  ·exact h'
end Go.Co
end
