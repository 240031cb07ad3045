import Derived.Test.YtedcgbkilmlbhaaGreatPk18
section
namespace Go.Co
open Go
def ot:Next→Prop
  | .callThen .. | .stack .. | .numGoroutine | .collect | .watch _ | .newcoro .. | .sleep _ | .timer _ | .alone .. => False
  | .row r _ => r = "runtime.print$piece"
  | _=>True
structure Plain (P:Program):Prop where
  count : ∀ (f : FuncId) (fn : Func), P.funcs[f]? = some fn → (fn.name == "runtime.NumGoroutine") = false
  quiet:∀ f:FuncId,(P.funcs[f]?).any (·.norace)=false
  next:∀ (f:FuncId) (fn:Func),P.funcs[f]? = some fn→fn.body.isNone=true→Extern.findNext fn=none
  find:∀ (f:FuncId) (fn:Func) (e:Array Value→Sem Value),P.funcs[f]? = some fn→fn.body.isNone=true→Extern.find fn=some e→∀ args,T1 P (e args)
def Td (P:Program) {α:Type} (d d':Nat) (s:Sem α):Prop :=
  ∀ (w:World) (es:Array Event),deafBehind 0 es=d→match s.runT P w es with
    | (.ok _ _,es')=>deafBehind 0 es'=d'
    | (.halt h _,_)=>¬ NB h
section
variable {P:Program}
theorem iW {α β:Type} {d d' d'':Nat} {s:Sem α} {f:α→Sem β} (h:Td P d d' s) (hf:∀ a,Td P d' d'' (f a)):Td P d d'' (s >>= f):=by
  intro w es he
  rw[runT_bind']
  have:=h w es he
  revert this
  cases s.runT P w es with
  | mk r es' =>
    cases r with
    | ok a w'=>exact fun hb=>hf a w' es' hb
    | halt x w'=>exact id
theorem FM {α:Type} {d:Nat} (a:α):Td P d d (pure a):=fun _ _ he=>he
theorem AD {α:Type} {d d':Nat} {h:Halt} (hh:¬ NB h):Td P d d' (Sem.halt h:Sem α):=fun _ _ _=>hh
theorem Cv {d:Nat}:Td P d (d+1) (mark .disable):=fun _ es he=>by
  show deafBehind 0 (es.push _)=_
  rw[dB,he]
theorem tT {d:Nat}:Td P (d+1) d (mark .enable):=fun _ es he=>by
  show deafBehind 0 (es.push _)=_
  rw[dB,he]; rfl
theorem qw {d:Nat} {es es':Array Event} (he:deafBehind 0 es=d) (h:∀ e∈es',∃ a,e.loc = .cell a):deafBehind 0 (es++es')=d:=by
  obtain⟨l⟩:=es'
  rw[gL,he]
  induction l with
  | nil=>rfl
  | cons e l ih =>
    have e1:(⟨e::l⟩:Array Event)=#[e]++⟨l⟩:=by simp
    rw[e1,gL]
    have:deafBehind d #[e]=d:=by
      obtain⟨a,ha⟩:=h e (by simp)
      have:=dB d #[] e
      rw[ha] at this
      exact this
    rw[this]
    exact ih fun x hx=>h x (by simp at hx ⊢; exact .inr hx)
theorem V5 {d:Nat} (a:Addr) (m:Mode):Td P d d (load a m):=by
  intro w es he
  unfold load
  simp only[Sem.runT]
  cases w.cell? a with
  | some v =>
    show deafBehind 0 (es.push _)=_
    rw[dB,he]
  | none =>
    cases hf:w.farLoad P a (m == .atomic) with
    | ok r=>exact qw he (by simp)
    | error x =>
      show ¬ NB x
      unfold World.farLoad at hf
      split at hf
      · split at hf
        · cases hf
        · cases hf; exact id
      · simp only[Except.error.injEq] at hf
        subst hf
        unfold World.noCell
        split<;>exact id
theorem HM {d:Nat} (a:Addr) (v:Value) (m:Mode):Td P d d (store a v m):=by
  intro w es he
  unfold store
  cases v<;>simp only[Sem.runT]<;>first
    | exact id
    | (cases w.cell? a with
       | some _ =>
         by_cases hz:w.frozen? a=true
         · simp only[hz,if_true]; exact id
         · simp only[hz,if_false,aF]
           show deafBehind 0 (es.push _)=_
           rw[dB,he]
       | none =>
         generalize hf:w.farStore P a _ _=r
         cases r with
         | ok r=>exact qw he (by simp)
         | error x =>
           show ¬ NB x
           unfold World.farStore at hf
           split at hf
           · split at hf
             · cases hf
             · cases hf; exact id
           · simp only[Except.error.injEq] at hf
             subst hf
             unfold World.noCell
             split<;>exact id)
theorem vH {d:Nat}:Td P d d program:=fun _ _ he=>he
theorem HN {α:Type} {s:Sem α} (h:Td P 0 0 s):Tb P (fun _=>True) s:=by
  intro w es he
  have:=h w es he
  revert this
  cases s.runT P w es with
  | mk r es' =>
    cases r with
    | ok a w'=>exact fun hb=>⟨trivial,hb⟩
    | halt x w'=>exact fun hb hl=>absurd hl hb
theorem t_of_td {α:Type} {s:Sem α} (h:Td P 0 0 s) (hp:Pf P s):T1 P s:=⟨HN h,hp⟩
theorem L5 {d:Nat}:Td P d d Extern.PrintPieces.held:=by
  unfold Extern.PrintPieces.held
  refine iW vH fun p=>iW (V5 _ _) fun v => ?_
  split
  · exact FM _
  · exact AD id
theorem zH {α β:Type} {d d':Nat} {h:Halt} (hh:¬ NB h) (f:α→Sem β):Td P d d' ((Sem.halt h:Sem α) >>= f):=fun _ _ _=>hh
theorem xI {α β:Type} {d d':Nat} (m:String) (f:α→Sem β):Td P d d' ((stuck m:Sem α) >>= f):=fun _ _ _=>id
theorem Cu {α β:Type} {d d':Nat} (m:Unsupported) (f:α→Sem β):Td P d d' ((unsupported m:Sem α) >>= f):=fun _ _ _=>id
theorem HL {α:Type} {d d':Nat} (m:String):Td P d d' (stuck m:Sem α):=AD id
theorem R8 (fd:Nat) (b:ByteArray):Td P 0 0 (writeFd fd b):=by
  intro w es he
  unfold writeFd
  simp only[Sem.runT]
  have h0:deafBehind 0 (es.push ⟨.output,true,false⟩)=0:=by rw[dB,he]
  split
  · rename_i h; revert h; split<;>intro h<;>simp only[Sem.runT] at h
    · cases h
    · cases h
    · obtain⟨-,rfl⟩:=h
      exact h0
  · rename_i h; revert h; split<;>intro h<;>simp only[Sem.runT] at h
    · cases h; exact id
    · cases h; exact id
    · cases h
theorem Gu (v:Value):ot (.value v):=trivial
theorem KQ (a : Array Value) : ot (.row "runtime.print$piece" a) := rfl
def Yl (P:Program) {α:Type} (Q:α→Prop) (s:Sem α):Prop:=∀ w es a w' es',s.runT P w es=(.ok a w',es')→Q a
theorem FI {α:Type} {Q:α→Prop} {a:α} (h:Q a):Yl P Q (pure a:Sem α):=fun _ _ _ _ _ e=>by cases e; exact h
theorem LY {α:Type} {Q:α→Prop} (h:Halt):Yl P Q (Sem.halt h:Sem α):=fun _ _ _ _ _ e=>by cases e
theorem VL {α β:Type} {Q:β→Prop} {s:Sem α} {f:α→Sem β} (h:∀ a,Yl P Q (f a)):Yl P Q (s >>= f):=by
  intro w es b w' es' e
  rw[runT_bind'] at e
  revert e
  cases s.runT P w es with
  | mk r es' =>
    cases r with
    | ok a w'=>exact fun e=>h a _ _ _ _ _ e
    | halt x w'=>exact fun e=>by cases e
theorem SX (a b:Array TypeId) (args:Array Value):Yl P ot (Extern.PrintPieces.piece a b args):=by
  unfold Extern.PrintPieces.piece
  (repeat' first | (with_reducible exact FI (Gu _)) | (with_reducible exact FI (KQ _)) | (with_reducible exact LY _) | (with_reducible refine VL (fun _ => ?_)) | split | dsimp only | exact FI rfl | exact LY _)
theorem R9 (a b:Array TypeId) (args:Array Value):Td P 0 0 (Extern.PrintPieces.piece a b args):=by
  unfold Extern.PrintPieces.piece
  (repeat' first | (with_reducible exact HL _) | (with_reducible exact FM _) | (with_reducible refine xI _ _) | (with_reducible refine Cu _ _) | (with_reducible refine zH id _) | (with_reducible refine iW Cv (fun _ => ?_)) | (with_reducible refine iW tT (fun _ => ?_)) | (with_reducible exact tT) | (with_reducible refine iW L5 (fun _ => ?_)) | (with_reducible refine iW vH (fun _ => ?_)) | (with_reducible refine iW (HM _ _ _) (fun _ => ?_)) | (with_reducible refine iW (R8 _ _) (fun _ => ?_)) | split | dsimp only)
instance (t:TypeId) (x:Place):TC P (Place.get t x):=⟨by cases x<;>unfold Place.get<;>first | exact TC.out | exact aW trivial⟩
theorem t_follow:∀ (l:List FieldStep) (t:TypeId) (x:Place),T1 P (follow l t x)
  | [],_,_=>aW trivial
  | s::rest,t,x=>by
    have ih:=t_follow rest
    unfold follow
    (repeat' first | exact ih _ _ | exact TC.out | (with_reducible refine aK ?_ (fun _ => ?_)) | (with_reducible refine jl ?_ ?_) | split | dsimp only)
instance (l:List FieldStep) (t:TypeId) (x:Place):TC P (follow l t x):=⟨t_follow l t x⟩
instance (t:TypeId) (x:Place) (b:Bool) (o:Option String):TC P (receiverAt t x b o):=⟨by
  unfold receiverAt
  (repeat' first | exact TC.out | (with_reducible refine aK ?_ (fun _ => ?_)) | (with_reducible refine tE ?_ (fun _=>trivial)) | (with_reducible exact aW trivial) | (with_reducible refine t_forInArray _ (fun _ _ => ?_) _ _) | (with_reducible refine t_forInList _ (fun _ _ => ?_) _ _) | (with_reducible refine t_forInRange _ (fun _ _ => ?_) _ _) | (with_reducible refine t_mapMArray _ (fun _ => ?_) _) | (with_reducible refine t_mapMList _ (fun _ => ?_) _) | (with_reducible refine jl ?_ ?_) | split | dsimp only)⟩
instance (t:TypeId) (v:Value) (p:Array FieldStep) (b:Bool):TC P (receiverVia t v p b):=⟨by
  unfold receiverVia
  (repeat' first | exact TC.out | (with_reducible refine aK ?_ (fun _ => ?_)) | (with_reducible refine tE ?_ (fun _=>trivial)) | (with_reducible exact aW trivial) | (with_reducible refine t_forInArray _ (fun _ _ => ?_) _ _) | (with_reducible refine t_forInList _ (fun _ _ => ?_) _ _) | (with_reducible refine t_forInRange _ (fun _ _ => ?_) _ _) | (with_reducible refine t_mapMArray _ (fun _ => ?_) _) | (with_reducible refine t_mapMList _ (fun _ => ?_) _) | (with_reducible refine jl ?_ ?_) | split | dsimp only)⟩
theorem t_method:∀ (d:Nat) (t:TypeId) (v:Value) (n:String),T1 P (method d t v n)
  | 0,_,_,_=>gb _
  | d+1,t,v,n=>by
    have ih:=t_method d
    unfold method
    (repeat' first | exact ih _ _ _ | exact TC.out | (with_reducible refine aK ?_ (fun _ => ?_)) | (with_reducible refine jl ?_ ?_) | split | dsimp only)
instance (d:Nat) (t:TypeId) (v:Value) (n:String):TC P (method d t v n):=⟨t_method d t v n⟩
theorem t_followBlind:∀ (l:List FieldStep) (t:TypeId) (x:Option Value),T1 P (followBlind l t x)
  | [],_,_=>aW trivial
  | s::rest,t,x=>by
    have ih:=t_followBlind rest
    unfold followBlind
    (repeat' first | exact ih _ _ | exact TC.out | (with_reducible refine aK ?_ (fun _ => ?_)) | (with_reducible refine jl ?_ ?_) | split | dsimp only)
instance (l:List FieldStep) (t:TypeId) (x:Option Value):TC P (followBlind l t x):=⟨t_followBlind l t x⟩
theorem t_nilAhead:∀ (d:Nat) (t:TypeId) (v:Value) (n:String),T1 P (nilAhead d t v n)
  | 0,_,_,_=>aW trivial
  | d+1,t,v,n=>by
    have ih:=t_nilAhead d
    unfold nilAhead
    (repeat' first | exact ih _ _ _ | exact TC.out | (with_reducible refine aK ?_ (fun _ => ?_)) | (with_reducible refine jl ?_ ?_) | split | dsimp only)
instance (d:Nat) (t:TypeId) (v:Value) (n:String):TC P (nilAhead d t v n):=⟨t_nilAhead d t v n⟩
instance (t:TypeId) (v:Value):TC P (Builtin.printOne t v):=⟨by
  unfold Builtin.printOne
  (repeat' first | exact TC.out | (with_reducible refine aK ?_ (fun _ => ?_)) | (with_reducible refine tE ?_ (fun _=>trivial)) | (with_reducible exact aW trivial) | (with_reducible refine t_forInArray _ (fun _ _ => ?_) _ _) | (with_reducible refine t_forInList _ (fun _ _ => ?_) _ _) | (with_reducible refine t_forInRange _ (fun _ _ => ?_) _ _) | (with_reducible refine t_mapMArray _ (fun _ => ?_) _) | (with_reducible refine t_mapMList _ (fun _ => ?_) _) | (with_reducible refine jl ?_ ?_) | split | dsimp only)⟩
theorem xJ {γ σ:Type}:∀ (l:List γ) (f:(c:γ)→c∈l→σ→Sem (ForInStep σ)) (_:∀ c hc s,T1 P (f c hc s)) (s:σ),T1 P (forIn' l s f)
  | [],_,_,_=>aW trivial
  | c::l,f,h,s=>by
    rw[List.forIn'_cons]
    refine aK (h _ _ _) fun r => ?_
    split
    · exact aW trivial
    · exact xJ l _ (fun _ _ _=>h _ _ _) _
theorem Dr {σ:Type} (n:Nat) (f:(i:Nat)→i∈([:n]:Std.Legacy.Range)→σ→Sem (ForInStep σ)) (h:∀ i hi s,T1 P (f i hi s)) (s:σ):T1 P (forIn' [:n] s f):=by
  rw[Std.Legacy.Range.forIn'_eq_forIn'_range']
  exact xJ _ _ (fun _ _ _=>h _ _ _) _
instance (ln:Bool) (c:Array Bool) (ts:Array TypeId) (args:Array Value):TC P (Builtin.pieces ln c ts args):=⟨by
  unfold Builtin.pieces
  (repeat' first | exact TC.out | (with_reducible refine aK ?_ (fun _ => ?_)) | (with_reducible refine tE ?_ (fun _=>trivial)) | (with_reducible exact aW trivial) | (with_reducible refine Dr _ _ (fun _ _ _ => ?_) _) | (with_reducible refine t_forInArray _ (fun _ _ => ?_) _ _) | (with_reducible refine t_forInList _ (fun _ _ => ?_) _ _) | (with_reducible refine jl ?_ ?_) | split | dsimp only)⟩
abbrev TN (P:Program) (s:Sem Next):Prop:=Tm P ot s
theorem acQ {s:Sem Next} (h:T1 P s) (h':Yl P ot s):TN P s:=by
  refine⟨fun w es he => ?_,h.pf⟩
  have:=h.tb w es he
  have h2:=h' w es
  revert this h2
  cases s.runT P w es with
  | mk r es' =>
    cases r with
    | ok a w'=>exact fun hb h2=>⟨h2 _ _ _ rfl,hb.2⟩
    | halt x w'=>exact fun hb _=>hb
theorem Ms (a:Addr) (m:Mode):Pf P (load a m):=(t_load a m).pf
theorem SZ (a:Addr) (v:Value) (m:Mode):Pf P (store a v m):=(t_store a v m).pf
theorem Ie {α:Type} (m:String):Pf P (stuck m:Sem α):=tJ _
theorem aa3 {α:Type} (m:Unsupported):Pf P (unsupported m:Sem α):=tJ _
theorem WE:Pf P Extern.PrintPieces.held:=by
  unfold Extern.PrintPieces.held
  (repeat' first | (with_reducible exact AM _) | (with_reducible exact tJ _) | (with_reducible exact Ie _) | (with_reducible exact Ms _ _) | (with_reducible exact t_program1.pf) | (with_reducible refine FZ ?_ (fun _ => ?_)) | split | dsimp only)
theorem S3 (a b:Array TypeId) (args:Array Value):Pf P (Extern.PrintPieces.piece a b args):=by
  unfold Extern.PrintPieces.piece
  (repeat' first | (with_reducible exact AM _) | (with_reducible exact tJ _) | (with_reducible exact Ie _) | (with_reducible exact aa3 _) | (with_reducible exact Ms _ _) | (with_reducible exact SZ _ _ _) | (with_reducible exact Mr _) | (with_reducible exact WE) | (with_reducible exact(t_writeFd _ _).pf) | (with_reducible exact t_program1.pf) | (with_reducible refine FZ ?_ (fun _ => ?_)) | split | dsimp only)
theorem HJ (a b:Array TypeId) (args:Array Value):TN P (Extern.PrintPieces.piece a b args):=acQ (t_of_td (R9 a b args) (S3 a b args)) (SX a b args)
theorem CS (ln:Bool) (c:Array Bool) (ts:Array TypeId) (args:Array Value):TN P (Builtin.printMarked ln c ts args):=by
  unfold Builtin.printMarked
  refine aK TC.out fun ps => ?_
  split
  · exact aW trivial
  · exact HJ _ _ _
theorem Vc {s:Sem Value} (h:T1 P s):TN P (do pure (.value (← s))):=aK h fun _=>aW trivial
theorem aee {s:Sem Unit} (h:T1 P s):TN P (do s; pure .skip):=aK h fun _=>aW trivial
theorem Ko (b:Builtin) (ts:Array TypeId) (t:TypeId) (c:Array Bool) (args:Array Value):TN P (builtin b ts t c args):=by
  unfold builtin
  dsimp only
  split<;>first
    | (with_reducible exact Vc TC.out)
    | exact CS _ _ _ _
    | exact aW trivial
    | exact aC _
    | exact gb _
    | exact aK TC.out fun _=>aW trivial
theorem s5 (hP:Plain P) (f:FuncId) (args:Array Value):TN P (callFunc f args):=by
  unfold callFunc
  refine Kp ?_
  split
  · exact aC _
  · rename_i fn Lj
    rw[hP.count f fn Lj]
    simp only[aF,if_false]
    · split
      · rename_i hb
        refine aK (t_mark (by simp)) fun _ => ?_
        rw[hP.next f fn Lj hb]
        dsimp only
        split
        · rename_i e he
          exact Vc (hP.find f fn e Lj hb he args)
        · split
          · exact aW trivial
          · exact gb _
      · exact aW trivial
theorem ku {α:Type} {R:α→Prop} (e:RuntimeError):Tm P R (runtimePanic e:Sem α):=by
  unfold runtimePanic
  refine aK t_program1 fun p => ?_
  dsimp only
  split<;>first | exact Ct _ | exact aK TC.out fun _=>aK TC.out fun _=>Ct _
theorem u5 (hP:Plain P) (r:Value) (n:String) (args:Array Value):TN P (callMethod r n args):=by
  unfold callMethod
  split
  · refine aK t_program1 fun p=>aK TC.out fun x => ?_
    exact s5 hP _ _
  · exact ku _
  · exact aC _
theorem lW (hP:Plain P) (t:Target) (args:Array Value):TN P (invoke t args):=by
  unfold invoke
  split
  · exact ku _
  · exact Ko _ _ _ _ _
  · exact s5 hP _ _
  · split
    · exact u5 hP _ _ _
    · exact aC _
  · split
    · refine aK TC.out fun _ => ?_
      exact u5 hP _ _ _
    · exact aC _
  · split
    · refine aK TC.out fun _ => ?_
      exact s5 hP _ _
    · exact aC _
  · unfold Instr.yield
    refine aK TC.out fun r => ?_
    dsimp only
    split
    · exact aK (aC _) fun _=>aW trivial
    · exact aW trivial
  · exact aC _
  · exact aW trivial
instance (f:Value) (args:Array Value):TC P (Deferred.ofValue f args):=⟨by
  unfold Deferred.ofValue
  split<;>first | exact aW trivial | exact aC _⟩
instance (ρ:Operand→Value) (c:Call) (t:TypeId):TC P (resolve ρ c t):=⟨by
  unfold resolve
  dsimp only
  split<;>first | exact aW trivial | exact TC.out⟩
theorem Eb (hP:Plain P) (ρ:Operand→Value) (o:Oper):TN P (execOp ρ o):=by
  unfold execOp
  dsimp only
  split<;>first
    | (with_reducible exact Vc TC.out)
    | (with_reducible exact aee TC.out)
    | exact aW trivial
    | exact aK TC.out fun _=>aW trivial
    | exact aK TC.out fun _=>lW hP _ _
    | skip
  · split<;>first
      | exact ku _
      | exact aW trivial
      | skip
    split<;>first
      | exact ku _
      | exact aW trivial
      | skip
    refine aK t_program1 fun _=>aK TC.out fun _ => ?_
    split
    · exact aK (gb _) fun _=>aW trivial
    · exact aW trivial
  · exact Vc (aK TC.out fun _=>TC.out)
  · refine aK TC.out fun _ => ?_
    split
    · exact aK TC.out fun _=>aW trivial
    · exact aC _
  · exact aK (t_mapMArray _ (fun _=>aK TC.out fun _=>aW trivial) _) fun _=>aW trivial
instance (fn:Func) (ts:Array Value):TC P (results fn ts):=⟨by
  unfold results
  refine aK (t_mapMArray _ (fun r => ?_) _) fun vs => ?_
  · split
    · exact aW trivial
    · exact aK TC.out fun _=>TC.out
  · split<;>exact aW trivial⟩
end
end Go.Co
end
section
namespace Go.Co
open Go
def BD:Item→Prop
 | .call .. => False
 | .extern r _ => r = "runtime.print$piece"
 | _=>True
def okF (fr:Frame):Prop:=∀ i∈fr.todo,BD i
def BK (fr:Frame) (callers:List Frame):Prop:=match callers.getLast? with | none=>fr.kind = .report | some f=>f.kind = .report
def Hg (b:Prop) (dy:Option Dying) (fr:Frame) (callers:List Frame):Prop :=
 okF fr∧(∀ f∈callers,okF f)∧((b→dy≠none)∧∀ d,dy=some d→(d.calling=false∨BK fr callers))
def AB (b:Prop):GStep→Prop
 | .go g _ es=>DK es∧Hg b g.dying g.frame g.callers∧(∀ t,g.status ≠ .sleeping t)∧g.status ≠ .parked
 | .comm g _ _ _ _ es=>DK es∧Hg b g.dying g.frame g.callers∧g.status = .running
 | .spawn g _ _ es=>DK es∧Hg b g.dying g.frame g.callers
 | .coroswitch g _ _ _ es=>DK es∧Hg b g.dying g.frame g.callers
 | .ended .. => True
 | _=>False
theorem cB {b:Prop} {es:Array Event} {s:GStep} (he:DK es) (h:AB b s):AB b (GStep.after es s):=by
 cases s<;>first | exact⟨qZ he h.1,h.2⟩ | exact h
theorem bF {b:Prop} {dy:Option Dying} {fr:Frame} {callers:List Frame} {st:GoStatus} {off:Option (Array CommCase×CommShape)} {w:World} (h:Hg b dy fr callers) (hs:(∀ t,st ≠ .sleeping t)∧st ≠ .parked:=by simp):AB b (.go ⟨fr,callers,st,dy,off⟩ w):=⟨de,h,hs⟩
variable {b:Prop} {dy:Option Dying} {fr fr':Frame} {callers jv:List Frame}
theorem zu (h:Hg b dy fr callers) (hk:fr'.kind=fr.kind) (ho:okF fr'):Hg b dy fr' callers:=by
 refine⟨ho,h.2.1,h.2.2.1,fun d hd=>(h.2.2.2 d hd).imp id ?_⟩
 unfold BK
 cases callers.getLast? with
 | none=>exact fun e=>hk.trans e
 | some f=>exact id
theorem mw (h:Hg b dy fr callers) (ho:okF fr'):Hg b dy fr' (fr::callers):=by
 refine⟨ho,fun f hf => ?_,h.2.2.1,fun d hd=>(h.2.2.2 d hd).imp id ?_⟩
 ·rcases bI.1 hf with rfl | hf
  ·exact h.1
  ·exact h.2.1 f hf
 ·unfold BK
  rw[List.getLast?_cons]
  cases callers.getLast? with
  | none=>exact id
  | some f=>exact id
theorem vC {c:Frame} {rest:List Frame} (h:Hg b dy fr (c::rest)) (hk:fr'.kind=c.kind) (ho:okF c→okF fr'):Hg b dy fr' rest:=by
 refine⟨ho (h.2.1 c (by simp)),fun f hf=>h.2.1 f (by simp[hf]),h.2.2.1,fun d hd=>(h.2.2.2 d hd).imp id ?_⟩
 unfold BK
 rw[List.getLast?_cons]
 cases rest.getLast? with
 | none=>exact fun e=>hk.trans e
 | some f=>exact id
theorem Ii {fr fr':Frame} (h:okF fr) (e:∀ i∈fr'.todo,i∈fr.todo∨BD i):okF fr':=fun i hi=>(e i hi).elim (h i) id
theorem Ij {fr fr':Frame} (h:okF fr) (e:fr'.todo=fr.todo):okF fr':=fun i hi=>h i (e▸hi)
theorem vR (h:okF fr) (v:Value):okF (fr.finish v):=by
 unfold Frame.finish
 split
 ·rename_i hk
  intro i hi
  rcases bI.1 hi with rfl | hi
  ·trivial
  ·exact h i (by rw[hk]; simp[hi])
 ·rename_i hk
  intro i hi
  rcases bI.1 hi with rfl | hi
  ·trivial
  ·exact h i (by rw[hk]; simp[hi])
 ·rename_i hk
  intro i hi
  exact h i (by rw[hk]; simp[hi])
 ·rename_i hk
  exact absurd (h _ (by rw[hk]; exact o5 ..)) id
 ·rename_i hk
  intro i hi
  exact h i (by rw[hk]; simp[hi])
 ·exact h
theorem tc (fr:Frame) (v:Value):(fr.finish v).kind=fr.kind:=by
 unfold Frame.finish
 split<;>rfl
theorem Em (h:okF fr) (l:List PanicEntry):okF (fr.raise l):=by
 unfold Frame.raise
 split<;>exact h
theorem CN (fr:Frame) (l:List PanicEntry):(fr.raise l).kind=fr.kind:=by
 unfold Frame.raise
 split<;>rfl
theorem lY (P:Program) (f:FuncId) (args:Array Value) (k:CallKind):okF (Frame.enter P f args k):=by
 intro i hi
 simp only[Frame.enter,bN] at hi
 subst hi; trivial
theorem El (l:Nat) (f:FuncId) (tmps:Array Value) (a c:Code) (k:CallKind):okF (Frame.round l f tmps a c k):=by
 intro i hi
 simp only[Frame.round,bI,ep,or_false] at hi
 rcases hi with rfl | rfl | rfl<;>trivial
theorem Mw (P : Program) (args : Array Value) (k : CallKind) : okF (Frame.ofRow P "runtime.print$piece" args k) := by
 intro i hi
 simp only[Frame.ofRow,bN] at hi
 subst hi; exact rfl
theorem er (h:Hg b dy fr callers) (v:Value):Hg b dy (fr.finish v) callers:=zu h (tc _ _) (vR h.1 v)
theorem qi (h:Hg b dy fr callers) (l:List PanicEntry):Hg b dy (fr.raise l) callers:=zu h (CN _ _) (Em h.1 l)
theorem tM (h:Hg b dy fr callers) (hk:fr'.kind=fr.kind) (ht:fr'.todo=fr.todo):Hg b dy fr' callers:=zu h hk (Ij h.1 ht)
theorem qY:∀ {fr:Frame} {callers jv:List Frame} {v:Value},tryRecover fr callers=some (v,jv)→Hg b dy fr callers→Hg b dy fr jv:=by
 intro fr callers
 induction callers generalizing fr with
 | nil=>intro jv v e; simp[tryRecover] at e
 | cons c rest ih =>
  intro jv v e h
  unfold tryRecover at e
  split at e
  ·rename_i hc
   simp only[List.cons.injEq] at hc
   obtain⟨rfl,rfl⟩:=hc
   split at e
   ·simp only[aB,ay] at e
    obtain⟨-,rfl⟩:=e
    refine⟨h.1,fun f hf => ?_,h.2.2.1,fun d hd=>(h.2.2.2 d hd).imp id ?_⟩
    ·rcases bI.1 hf with rfl | hf
     ·exact Ij (h.2.1 _ (o5 ..)) rfl
     ·exact h.2.1 f (by simp[hf])
    ·unfold BK
     rw[List.getLast?_cons,List.getLast?_cons]
     cases rest.getLast?<;>exact id
   ·cases e
  ·rename_i hc
   simp only[List.cons.injEq] at hc
   obtain⟨rfl,rfl⟩:=hc
   simp only[ai,Prod.exists,ay] at e
   obtain⟨a,r,e,rfl,rfl⟩:=e
   exact mw (ih e (vC (fr':=c) h rfl id)) h.1
  ·cases e
theorem CY:∀ {l:Nat} {fr:Frame} {callers jv:List Frame} {v:Value},tryRecoverLoop l callers=some (v,jv)→Hg b dy fr callers→Hg b dy fr jv:=by
 intro l fr callers
 induction callers generalizing fr l with
 | nil=>intro jv v e; simp[tryRecoverLoop] at e
 | cons c rest ih =>
  intro jv v e h
  unfold tryRecoverLoop at e
  simp only[ai,Prod.exists,ay] at e
  obtain⟨a,r,e,rfl,rfl⟩:=e
  have h':=vC (fr':=c) h rfl id
  have:Hg b dy c r:=by
   split at e
   ·exact ih e h'
   ·split at e
    ·exact qY e h'
    ·exact ih e h'
   ·exact ih e h'
  exact mw this h.1
theorem OV (d:Nat) (e:Event) (es:List Event):deafBehind d ⟨e::es⟩=deafBehind (deafBehind d #[e]) ⟨es⟩:=by
 have e1:(⟨e::es⟩:Array Event)=#[e]++⟨es⟩:=by simp
 rw[e1,gL]
theorem CU {P:Program} (hq:∀ f:FuncId,(P.funcs[f]?).any (·.norace)=false) (fn:FuncId) (es:Array Event) (d:Nat):deafBehind d (seen P fn es)=deafBehind d es:=by
 obtain⟨l⟩:=es
 have key:∀ (l:List Event) (kept:Array Event),deafBehind d (l.foldl (fun(x:Bool×Array Event) e =>
   match e.loc with
   | .mark (.extern _)=>(false,x.2)
   | _=>(x.1,if x.1 && !e.sync then x.2 else x.2.push e)) (false,kept)).2=deafBehind (deafBehind d kept) ⟨l⟩:=by
  intro l
  induction l with
  | nil=>intro kept; rfl
  | cons e l ih =>
   intro kept
   rw[List.foldl_cons,OV]
   split
   ·rename_i f hf
    rw[ih]
    congr 1
    have:=dB (deafBehind d kept) #[] e
    rw[hf] at this
    exact this.symm
   ·simp only[Bool.false_and,aF,if_false]
    rw[ih]
    congr 1
    rw[← gL]
    rfl
 have:=key l #[]
 unfold seen
 simp only[hq]
 rw[← Array.foldl_toList]
 exact this
theorem cS {P:Program} (hP:Plain P) (fn:FuncId) {es:Array Event} (h:DK es):DK (seen P fn es):=by
 unfold DK
 rw[CU hP.quiet]
 exact h
theorem oR {b:Prop} {c:Prop} [Decidable c] {x y:GStep} (hx:AB b x) (hy:AB b y):AB b (if c then x else y):=by split<;>assumption
theorem Iy {b:Prop} (fr:Frame) (h:okF fr) (a:List ByteArray) (m:String) (x:Bool) (w:World):AB b (dieOf fr a m x w) :=
 ⟨de,⟨h,fun _ hf=>absurd hf (ep),⟨fun _ hx=>(nomatch hx),fun d hd => .inl (by cases hd; rfl)⟩⟩,by simp⟩
theorem o8 {b:Prop} (fr:Frame) (h:okF fr) (m:String) (w:World):AB b (endThrow fr m w):=Iy fr h _ _ _ w
theorem Ad {b:Prop} (P:Program) (fr:Frame) (h:okF fr) (callers:List Frame) (dy:Option Dying) (m:String) (w:World):AB b (endFatal P fr callers dy m w):=by
 unfold endFatal
 dsimp only
 split
 ·exact Iy fr h _ _ _ _
 ·exact trivial
 ·exact trivial
theorem tw {b:Prop} (P:Program) (fr:Frame) (h:okF fr) (v:Value) (w:World):AB b (endPrinting P fr v w):=by
 unfold endPrinting
 dsimp only
 split
 ·exact o8 fr h _ _
 ·exact trivial
theorem K2 {b:Prop} (w:World) (fd:Nat) (t:ByteArray) (o:Outcome):AB b (endWith w fd t o):=by
 unfold endWith
 dsimp only
 split
 ·split<;>exact trivial
 ·exact trivial
 ·exact trivial
theorem xB {P:Program}:∀ (l:List Nat),Hg b dy fr callers→∀ f,Hg b dy (Frame.enter P f #[] .early) (l.map (Frame.enter P · #[] .early)++fr::callers)
 | [],h,f=>mw h (by exact lY _ _ _ _)
 | x::l,h,f=>mw (xB l h x) (by exact lY _ _ _ _)
theorem TL (P:Program) (h:Hg b dy fr callers) (g:Nat) (w:World):AB b (early P fr callers dy g w):=by
 have notYet:∀ w:World,AB b
   (match w.heap[g]? with
    | some (.pending c elem) => .go { frame:=fr,callers,status := .running,dying:=dy } { w with heap:=w.heap.setIfInBounds g (.cells c elem) }
    | _ => .ended (.stuck "early: the variable does not wait" (fr.pos P)) w) := by
  intro w
  split
  ·exact bF h
  ·exact trivial
 unfold early
 dsimp only
 split
 ·exact notYet w
 ·split
  ·exact trivial
  ·split
   ·exact notYet w
   ·split
    ·exact notYet w
    ·split
     ·exact trivial
     ·exact bF (xB _ h _)
     ·exact trivial
     ·exact notYet w
     ·split
      ·exact bF (xB _ h _)
      ·split
       ·exact notYet w
       ·split
        ·exact notYet _
        ·exact bF (xB _ h _)
        ·exact trivial
theorem sZ {P:Program} (hP:Plain P) (h:Hg b dy fr callers) {s:Sem Next} (hs:TN P s) (w:World):AB b (stepG.apply P true fr callers dy s w):=by
 unfold stepG.apply
 have:=hs.tb w #[] de
 revert this
 generalize s.runT P w #[]=x
 obtain⟨r,es⟩:=x
 simp only[if_true]
 intro this
 cases r with
 | ok a w' =>
  obtain⟨hn,he⟩:=this
  refine cB (cS hP _ (by split<;>first | exact de | exact he)) ?_
  cases a with
  | callThen d r s x=>exact absurd hn id
  | stack r s=>exact absurd hn id
  | row r args =>
   have hr : r = "runtime.print$piece" := hn
   subst hr
   dsimp only
   split
   ·rename_i k hk
    refine bF (zu h rfl ?_)
    intro i hi
    rcases bI.1 hi with rfl | hi
    ·exact rfl
    ·exact h.1 i (by rw[hk]; simp[hi])
   ·exact bF (mw h (by exact Mw _ _ _))
  | value v=>exact bF (er h v)
  | skip=>exact bF (er h _)
  | enter f args=>exact bF (mw h (by exact lY _ _ _ _))
  | round l f tmps as body=>exact bF (mw h (by exact El _ _ _ _ _ _))
  | defer d=>exact bF (er (fr:={ fr with defers:=d::fr.defers }) (tM h rfl rfl) _)
  | recover =>
   dsimp only
   split
   ·rename_i v jv e
    split at e
    ·split at e
     ·exact bF (er (qY e h) _)
     ·exact bF (er (CY e h) _)
    ·exact bF (er (qY e h) _)
   ·exact bF (er h _)
  | comm c bl sh=>exact⟨de,h,rfl⟩
  | coroswitch c x=>exact⟨de,h⟩
  | spawn d =>
   dsimp only
   exact oR (o8 fr h.1 _ _) ⟨de,er h _⟩
  | _=>exact absurd hn id
 | halt x w' =>
  cases x with
  | panic v=>exact cB (cS hP _ (by split<;>first | exact de | exact this trivial)) (bF (qi h _))
  | goexit=>exact cB (cS hP _ (by split<;>first | exact de | exact this trivial)) (bF (qi h _))
  | blocked=>exact cB (cS hP _ (by split<;>exact de)) (bF h)
  | waiting=>exact cB (cS hP _ (by split<;>exact de)) (bF h)
  | fatal m=>exact cB (cS hP _ (by split<;>first | exact de | exact this trivial)) (Ad P fr h.1 _ _ _ _)
  | throw m=>exact cB (cS hP _ (by split<;>first | exact de | exact this trivial)) (o8 fr h.1 _ _)
  | unsupported u =>
   cases u with
   | initOrder g=>exact cB (cS hP _ (by split<;>exact de)) (TL P h _ _)
   | _=>exact trivial
  | exit c=>exact trivial
  | stuck s=>exact trivial
theorem WJ {P:Program} (hP:Plain P) (h:Hg b dy fr callers) (w:World):AB b (stepG.oper P true fr callers dy w):=by
 unfold stepG.oper
 split
 ·exact trivial
 ·split
  ·refine sZ hP h ?_ w
   exact aK TC.out fun _=>aK TC.out fun _=>aW trivial
  ·exact sZ hP h (Eb hP _ _) w
theorem th (P:Program) (main:Bool) (h:Hg b dy fr callers) (hx:dy≠none→BK fr callers) (v:Value) (w:World):AB b (doReturn P main fr callers dy v w):=by
 unfold doReturn
 split
 ·rename_i c rest
  split
  ·exact bF (vC h (tc _ _) fun hc=>vR hc _)
  ·exact bF (vC h (tc _ _) fun hc=>vR hc _)
  ·exact bF (vC h rfl id)
  ·dsimp only
   refine bF (vC h ?_ fun hc => ?_)
   ·split
    ·split<;>rfl
    ·rfl
   ·split
    ·split<;>exact hc
    ·exact hc
 ·split
  ·exact bF ⟨h.1,h.2.1,⟨fun _ hx=>(nomatch hx),fun d hd => .inl (by cases hd; rfl)⟩⟩
  ·exact trivial
  ·rename_i hk _
   have nb:b→False:=fun hb=>hk (hx (h.2.2.1 hb))
   split
   ·exact bF ⟨h.1,h.2.1,fun hb=>(nb hb).elim,fun d hd=>(nomatch hd)⟩
   ·split
    ·exact bF ⟨lY _ _ _ _,h.2.1,fun hb=>(nb hb).elim,fun d hd=>(nomatch hd)⟩
    ·exact trivial
theorem As {P:Program} (hP:Plain P) (h:Hg b dy fr callers) (d:Deferred) (w:World):AB b (callDeferred P fr callers dy d w):=by
 unfold callDeferred
 refine oR trivial ?_
 have:=(lW hP d.target d.args).tb w #[] de
 revert this
 generalize (invoke d.target d.args).runT P w #[]=x
 obtain⟨r,es⟩:=x
 intro this
 dsimp only
 cases r with
 | ok a w' =>
  obtain⟨hn,he⟩:=this
  refine cB (cS hP _ he) ?_
  cases a with
  | callThen d r s x=>exact absurd hn id
  | stack r s=>exact absurd hn id
  | row r args =>
   have hr : r = "runtime.print$piece" := hn
   subst hr
   exact bF (mw h (Mw _ _ _))
  | enter f args=>exact bF (mw h (lY _ _ _ _))
  | round l f tmps as body=>exact bF (mw h (El _ _ _ _ _ _))
  | recover =>
   dsimp only
   split
   ·rename_i e
    exact bF (qY e h)
   ·exact bF h
  | coroswitch c x=>cases x<;>first | exact trivial | exact⟨de,h⟩
  | value v=>exact bF h
  | skip=>exact bF h
  | defer d=>exact bF h
  | spawn d=>exact bF h
  | comm c bl sh=>exact bF h
  | _=>exact absurd hn id
 | halt x w' =>
  cases x with
  | panic v=>exact cB (cS hP _ (this trivial)) (bF (qi h _))
  | goexit=>exact cB (cS hP _ (this trivial)) (bF (qi h _))
  | blocked=>exact cB (cS hP _ de) (bF (tM h rfl rfl))
  | waiting=>exact cB (cS hP _ de) (bF (tM h rfl rfl))
  | fatal m=>exact cB (cS hP _ (this trivial)) (Ad P fr h.1 _ _ _ _)
  | throw m=>exact cB (cS hP _ (this trivial)) (o8 fr h.1 _ _)
  | unsupported u=>exact trivial
  | exit c=>exact trivial
  | stuck s=>exact trivial
theorem NN {P:Program} (hP:Plain P) (main:Bool) (h:Hg b dy fr callers) (hx:dy≠none→BK fr callers) (w:World):AB b (unwind P main fr callers dy w):=by
 unfold unwind
 split
 ·rename_i block args ds hk
  have:=(TC.out:T1 P (Instr.takeDeferred block)).tb w #[] de
  revert this
  generalize (Instr.takeDeferred block).runT P w #[]=x
  obtain⟨r,es⟩:=x
  intro this
  cases r with
  | ok a w'=>exact cB (cS hP _ this.2) (bF (tM h rfl rfl))
  | halt x w'=>exact trivial
 ·rename_i d ds _ _
  exact As (fr:={ fr with defers:=ds }) hP (tM h rfl rfl) _ w
 ·split
  ·exact trivial
  ·refine oR trivial ?_
   split
   ·exact bF (vC h (CN _ _) fun hc=>Em hc _)
   ·split
    ·refine oR (bF ⟨h.1,h.2.1,h.2.2.1,fun d hd=>(nomatch hd)⟩) ?_
     split
     ·exact bF ⟨h.1,h.2.1,⟨fun _ hx=>(nomatch hx),fun d hd => .inl (by cases hd; rfl)⟩⟩
     ·exact trivial
     ·exact trivial
    ·split
     ·exact tw P fr h.1 _ _
     ·exact trivial
  ·split
   ·exact th P main h hx _ w
   ·rename_i fn _
    have:=(TC.out:T1 P (results fn fr.tmps)).tb w #[] de
    revert this
    generalize (results fn fr.tmps).runT P w #[]=x
    obtain⟨r,es⟩:=x
    intro this
    cases r with
    | ok a w'=>exact cB (cS hP _ this.2) (th P main h hx _ _)
    | halt x w'=>cases x<;>exact trivial
theorem vS {id:Nat}:∀ {k k':List Item},exitTo id k=some k'→∀ i∈k',i∈k
 | [],_,e=>by simp[exitTo] at e
 | x::k,k',e=>by
  unfold exitTo at e
  split at e
  ·rename_i hk
   cases hk
   split at e
   ·cases e; exact fun i hi=>by simp[hi]
   ·exact fun i hi=>by simp[vS e i hi]
  ·rename_i hk
   cases hk
   exact fun i hi=>by simp[vS e i hi]
  ·rename_i hk; cases hk
theorem vQ {l:Nat}:∀ {k k':List Item},gotoIn l k=some k'→∀ i∈k',i∈k∨BD i
 | [],_,e=>by simp[gotoIn] at e
 | x::k,k',e=>by
  unfold gotoIn at e
  split at e
  ·rename_i hk
   cases hk
   split at e
   ·cases e
    intro i hi
    rcases bI.1 hi with rfl | hi
    ·exact .inr trivial
    ·exact .inl (by simpa using hi)
   ·intro i hi
    rcases vQ e i hi with h | h
    ·exact .inl (by simp[h])
    ·exact .inr h
  ·rename_i hk
   cases hk
   intro i hi
   rcases vQ e i hi with h | h
   ·exact .inl (by simp[h])
   ·exact .inr h
  ·rename_i hk; cases hk
theorem CK {P : Program} {e : Array Value → Sem Next} (h : Extern.next "runtime.print$piece" = some e) (args : Array Value) : TN P (e args) := by
 have : Extern.next "runtime.print$piece" = some (Extern.PrintPieces.piece #[] #[]) := by rfl
 rw[this] at h
 cases h
 exact HJ _ _ _
theorem Xd {P:Program} (hP:Plain P) (main:Bool) (h:Hg b dy fr callers) (hx:dy≠none→BK fr callers) (w:World):AB b (stepG.exec P main true fr callers dy w):=by
 have leave:∀ jump:Option Code,AB b
   (match fr.roundOf with
    | none => if jump matches none | some .ret then .go { frame := { fr with mode := .returning }, callers, status := .running, dying := dy } w else .ended (.stuck "exit, goto: no such block or label" (fr.pos P)) w
    | some l =>
     GStep.after (seen P fr.fn ((Instr.endRound l jump).runT P w #[]).2) <| match ((Instr.endRound l jump).runT P w #[]).1 with
     | .ok v w=>doReturn P main fr callers dy v w
     | .halt _ w => .ended (.stuck "range over a function: no such loop" (fr.pos P)) w) := by
  intro jump
  cases fr.roundOf with
  | none=>exact oR (bF (tM h rfl rfl)) trivial
  | some l =>
   dsimp only
   have:=(TC.out:T1 P (Instr.endRound l jump)).tb w #[] de
   revert this
   generalize (Instr.endRound l jump).runT P w #[]=x
   obtain⟨r,es⟩:=x
   intro this
   cases r with
   | ok a w'=>exact cB (cS hP _ this.2) (th P main h hx _ _)
   | halt x w'=>exact trivial
 have to:∀ (todo:List Item),(∀ i∈todo,i∈fr.todo∨BD i)→AB b (.go { frame:={ fr with todo },callers,status := .running,dying:=dy } w) :=
  fun todo ht=>bF (zu h rfl (Ii h.1 ht))
 have ho:=h.1
 unfold stepG.exec
 dsimp only
 split
 ·exact leave none
 ·exact leave (some .ret)
 ·rename_i k hk; exact to k (fun i hi => .inl (by rw[hk]; simp[hi]))
 ·rename_i k hk; exact to k (fun i hi => .inl (by rw[hk]; simp[hi]))
 ·rename_i k hk; exact to k (fun i hi => .inl (by rw[hk]; simp[hi]))
 ·rename_i k hk; exact to k (fun i hi => .inl (by rw[hk]; simp[hi]))
 ·rename_i x y k hk
  refine to _ fun i hi => ?_
  rcases bI.1 hi with rfl | hi
  ·exact .inr trivial
  rcases bI.1 hi with rfl | hi
  ·exact .inr trivial
  ·exact .inl (by rw[hk]; simp[hi])
 ·rename_i c x y k hk
  split
  ·refine to _ fun i hi => ?_
   rcases bI.1 hi with rfl | hi
   ·exact .inr trivial
   ·exact .inl (by rw[hk]; simp[hi])
  ·exact trivial
 ·rename_i k hk
  refine to _ fun i hi => ?_
  rcases bI.1 hi with rfl | hi
  ·exact .inr trivial
  rcases bI.1 hi with rfl | hi
  ·exact .inr trivial
  ·exact .inl (by rw[hk]; simp[hi])
 ·rename_i k hk
  refine to _ fun i hi => ?_
  rcases bI.1 hi with rfl | hi
  ·exact .inr trivial
  rcases bI.1 hi with rfl | hi
  ·exact .inr trivial
  ·exact .inl (by rw[hk]; simp[hi])
 ·rename_i k hk
  refine to _ fun i hi => ?_
  rcases bI.1 hi with rfl | hi
  ·exact .inr trivial
  rcases bI.1 hi with rfl | hi
  ·exact .inr trivial
  ·exact .inl (by rw[hk]; simp[hi])
 ·rename_i k hk
  refine to _ fun i hi => ?_
  rcases bI.1 hi with rfl | hi
  ·exact .inr trivial
  rcases bI.1 hi with rfl | hi
  ·exact .inr trivial
  ·exact .inl (by rw[hk]; simp[hi])
 ·rename_i id k hk
  cases e:exitTo id k with
  | none=>exact leave (some (.exit id))
  | some k'=>exact to k' fun i hi => .inl (by rw[hk]; simp[vS e i hi])
 ·rename_i l k hk
  cases e:gotoIn l k with
  | none=>exact leave (some (.goto l))
  | some k'=>exact to k' fun i hi=>(vQ e i hi).imp (fun hi=>by rw[hk]; simp[hi]) _root_.id
 ·rename_i f params assign body k hk
  have:=(TC.out:T1 P (Instr.enterLoop fr.fn fr.tmps params assign body fr.roundOf)).tb w #[] de
  revert this
  generalize (Instr.enterLoop fr.fn fr.tmps params assign body fr.roundOf).runT P w #[]=x
  obtain⟨r,es⟩:=x
  intro this
  cases r with
  | ok a w' =>
   refine cB (cS hP _ this.2) ?_
   refine sZ (fr:={ fr with todo := .inRangeFunc a.1::k,defers:=a.2++fr.defers }) hP (zu h rfl ?_) (aK TC.out fun _=>lW hP _ _) _
   intro i hi
   rcases bI.1 hi with rfl | hi
   ·exact trivial
   ·exact ho i (by rw[hk]; simp[hi])
  | halt x w'=>exact trivial
 ·exact trivial
 ·refine sZ hP h (aK ?_ fun _=>aW (show ot .skip from trivial)) w
  cases fr.roundOf with
  | none=>exact aC _
  | some l=>exact(TC.out:T1 P (Instr.beginRound l))
 ·rename_i l k hk
  have:=(TC.out:T1 P (Instr.endLoop l)).tb w #[] de
  revert this
  generalize (Instr.endLoop l).runT P w #[]=x
  obtain⟨r,es⟩:=x
  intro this
  cases r with
  | ok a w' =>
   refine cB (cS hP _ this.2) (bF (zu h rfl ?_))
   intro i hi
   rcases ja.1 hi with hi | hi
   ·cases a with
    | none=>simp at hi
    | some c=>simp at hi; subst hi; exact trivial
   ·exact ho i (by rw[hk]; simp[hi])
  | halt x w' =>
   cases x with
   | panic v=>exact cB (cS hP _ (this trivial)) (bF (qi h _))
   | _=>exact trivial
 ·exact trivial
 ·rename_i hk; exact absurd (ho _ (by rw[hk]; exact o5 ..)) id
 ·rename_i row args k hk
  have hr : row = "runtime.print$piece" := ho (.extern row args) (by rw [hk]; exact o5 ..)
  subst hr
  cases e : Extern.next "runtime.print$piece" with
  | none=>exact trivial
  | some x=>exact sZ hP h (CK e args) w
 ·rename_i id ops draw k hk
  have oI:∀ t,∀ i∈(Item.inRegion ops t::k),i∈fr.todo∨BD i:=fun t i hi=>by
   rcases bI.1 hi with rfl | hi
   ·exact .inr trivial
   ·exact .inl (by rw[hk]; simp[hi])
  refine oR (to _ (oI _)) ?_
  split
  ·exact bF (zu h rfl (Ii ho (oI _)))
  ·exact trivial
 ·rename_i k hk; exact to k (fun i hi => .inl (by rw[hk]; simp[hi]))
 ·exact oR (WJ hP h w) (bF (er h _))
theorem aaH {P:Program} {α:Type} {d d':Nat} (m:Unsupported):Td P d d' (unsupported m:Sem α):=AD id
theorem aaI {P:Program} {d:Nat} (c:Sys):Td P d d (sys c):=fun _ es he=>by
 show deafBehind 0 (es.push _)=_
 rw[dB,he]
theorem Km {b:Prop} {P:Program} (fr:Frame) (d:Dying) (f:Fatal) (ho:okF fr) (hd:d.calling=false) (w:World):AB b (writeOn P fr d f w):=by
 unfold writeOn
 dsimp only
 split
 ·exact trivial
 ·rename_i piece rest _
  have hT:Tb P (fun _=>True) (do
    if !(f.whole&&f.begun) then
     mark .disable
     if ← Extern.PrintPieces.held then .halt .blocked
     if f.whole then store (printLock (← program)) (.bool true) .atomic
     mark .enable
    if piece.size > 65536 then unsupported (.noEntry "a report of more than 65536 bytes")
    match ← sys (.write 2 piece) with
    | .int n => if n != piece.size then unsupported (.noEntry "a report that its descriptor cannot take whole")
    | .err _=>pure ()
    | _ => unsupported (.noEntry "a report that its descriptor cannot take whole") : Sem Unit) := by
   refine HN ?_
   (repeat' first | (with_reducible exact HL _) | (with_reducible exact FM _) | (with_reducible refine xI _ _) | (with_reducible refine Cu _ _) | (with_reducible refine zH id _) | (with_reducible refine iW Cv (fun _ => ?_)) | (with_reducible refine iW tT (fun _ => ?_)) | (with_reducible exact tT) | (with_reducible exact AD id) | (with_reducible exact aaH _) | (with_reducible refine iW L5 (fun _ => ?_)) | (with_reducible refine iW vH (fun _ => ?_)) | (with_reducible refine iW (HM _ _ _) (fun _ => ?_)) | (with_reducible refine iW (aaI _) (fun _ => ?_)) | split | dsimp only)
  have:=hT w #[] de
  revert this
  generalize Sem.runT P _ w #[]=x
  obtain⟨r,es⟩:=x
  intro this
  cases r with
  | ok a w'=>exact⟨this.2,⟨ho,fun _ hf=>absurd hf (ep),⟨fun _ hx=>(nomatch hx),fun d' Aw => .inl (by cases Aw; exact hd)⟩⟩,by simp⟩
  | halt x w' =>
   cases x with
   | blocked=>exact⟨de,⟨ho,fun _ hf=>absurd hf (ep),⟨fun _ hx=>(nomatch hx),fun d' Aw => .inl (by cases Aw; exact hd)⟩⟩,by simp⟩
   | _=>exact trivial
theorem abu {b:Prop} {P:Program} (hP:Plain P) (fr:Frame) (d:Dying) (ho:okF fr) (hd:d.calling=false) (w:World):AB b (die P fr d w):=by
 have hg:∀ (d:Dying),d.calling=false→Hg b (some d) fr []:=fun d hd=>⟨ho,fun _ hf=>absurd hf (ep),⟨fun _ hx=>(nomatch hx),fun d' Aw => .inl (by cases Aw; exact hd)⟩⟩
 unfold die
 split
 ·exact Km fr d _ ho hd w
 ·split
  ·exact oR (bF (hg d hd)) (K2 _ _ _ _)
  ·dsimp only
   split
   ·exact bF (hg _ hd)
   ·split
    ·exact bF (hg _ hd)
    ·exact trivial
   ·rename_i t recv name _
    have:=(lW hP (.fn (.method name) #[]) #[.iface t recv]).tb w #[] de
    revert this
    generalize (invoke (.fn (.method name) #[]) #[.iface t recv]).runT P w #[]=x
    obtain⟨r,es⟩:=x
    intro this
    dsimp only
    split
    ·refine cB (cS hP _ this.2) (bF ⟨lY _ _ _ _,fun _ hf=>absurd hf (ep),⟨fun _ hx=>(nomatch hx),fun d' Aw => .inr rfl⟩⟩)
    ·exact cB (cS hP _ this.2) (bF (hg _ hd))
    ·exact trivial
    ·exact cB (cS hP _ (this trivial)) (tw P fr ho _ _)
    ·exact trivial
   ·exact trivial
theorem qd {b:Prop} {P:Program} (hP:Plain P) (main:Bool) (g:Goroutine) (h:Hg b g.dying g.frame g.callers) (w:World):AB b (stepG P main g w):=by
 obtain⟨fr,callers,st,dy,off⟩:=g
 unfold stepG
 dsimp only at h ⊢
 split
 ·rename_i d hc _
  exact abu hP fr _ h.1 rfl w
 ·rename_i hd hm
  refine Xd hP main h (fun hb => ?_) w
  obtain⟨d,Jy⟩:=Option.ne_none_iff_exists'.1 hb
  rcases h.2.2.2 d Jy with h' | h'
  ·obtain⟨_,_,_,_,_,_,_⟩:=d
   simp only at h'
   subst h'
   exact(hd _ _ _ _ _ _ Jy).elim
  ·exact h'
 ·rename_i hd hm
  refine NN hP main h (fun hb => ?_) w
  obtain⟨d,Jy⟩:=Option.ne_none_iff_exists'.1 hb
  rcases h.2.2.2 d Jy with h' | h'
  ·obtain⟨_,_,_,_,_,_,_⟩:=d
   simp only at h'
   subst h'
   exact(hd _ _ _ _ _ _ Jy).elim
  ·exact h'
end Go.Co
end
