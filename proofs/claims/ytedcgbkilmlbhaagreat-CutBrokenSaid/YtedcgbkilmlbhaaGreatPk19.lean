import Derived.Test.YtedcgbkilmlbhaaGreatPk18
section
namespace Go.Co
open Go
def kZ:Next→Prop
  | .callThen .. | .stack .. | .numGoroutine | .collect | .watch _ | .newcoro .. | .sleep _ | .timer _ | .alone .. => False
  | .row r _ => r = "runtime.print$piece"
  | _=>True
structure Plain (P:Program):Prop where
  count : ∀ (f : FuncId) (fn : Func), P.funcs[f]? = some fn → (fn.name == "runtime.NumGoroutine") = false
  quiet:∀ f:FuncId,(P.funcs[f]?).any (·.norace)=false
  next:∀ (f:FuncId) (fn:Func),P.funcs[f]? = some fn→fn.body.isNone=true→Extern.findNext fn=none
  find:∀ (f:FuncId) (fn:Func) (e:Array Value→Sem Value),P.funcs[f]? = some fn→fn.body.isNone=true→Extern.find fn=some e→∀ args,T1 P (e args)
def Td (P:Program) {α:Type} (d d':Nat) (s:Sem α):Prop :=
  ∀ (w:World) (es:Array Event),deafBehind 0 es=d→match s.runT P w es with
    | (.ok _ _,es')=>deafBehind 0 es'=d'
    | (.halt h _,_)=>¬ Jw h
section
variable {P:Program}
theorem fW {α β:Type} {d d' d'':Nat} {s:Sem α} {f:α→Sem β} (h:Td P d d' s) (hf:∀ a,Td P d' d'' (f a)):Td P d d'' (s >>= f):=by
  intro w es he
  rw[runT_bind']
  have:=h w es he
  revert this
  cases s.runT P w es with
  | mk r es' =>
    cases r with
    | ok a w'=>exact fun hb=>hf a w' es' hb
    | halt x w'=>exact id
theorem Cy {α:Type} {d:Nat} (a:α):Td P d d (pure a):=fun _ _ he=>he
theorem xk {α:Type} {d d':Nat} {h:Halt} (hh:¬ Jw h):Td P d d' (Sem.halt h:Sem α):=fun _ _ _=>hh
theorem zb {d:Nat}:Td P d (d+1) (mark .disable):=fun _ es he=>by
  show deafBehind 0 (es.push _)=_
  rw[ct,he]
theorem qf {d:Nat}:Td P (d+1) d (mark .enable):=fun _ es he=>by
  show deafBehind 0 (es.push _)=_
  rw[ct,he]; rfl
theorem ng {d:Nat} {es es':Array Event} (he:deafBehind 0 es=d) (h:∀ e∈es',∃ a,e.loc = .cell a):deafBehind 0 (es++es')=d:=by
  obtain⟨l⟩:=es'
  rw[ey,he]
  induction l with
  | nil=>rfl
  | cons e l ih =>
    have e1:(⟨e::l⟩:Array Event)=#[e]++⟨l⟩:=by simp
    rw[e1,ey]
    have:deafBehind d #[e]=d:=by
      obtain⟨a,ha⟩:=h e (by simp)
      have:=ct d #[] e
      rw[ha] at this
      exact this
    rw[this]
    exact ih fun x hx=>h x (by simp at hx ⊢; exact .inr hx)
theorem Q8 {d:Nat} (a:Addr) (m:Mode):Td P d d (load a m):=by
  intro w es he
  unfold load
  simp only[Sem.runT]
  cases w.cell? a with
  | some v =>
    show deafBehind 0 (es.push _)=_
    rw[ct,he]
  | none =>
    cases hf:w.farLoad P a (m == .atomic) with
    | ok r=>exact ng he (by simp)
    | error x =>
      show ¬ Jw x
      unfold World.farLoad at hf
      split at hf
      · split at hf
        · cases hf
        · cases hf; exact id
      · simp only[Except.error.injEq] at hf
        subst hf
        unfold World.noCell
        split<;>exact id
theorem Ei {d:Nat} (a:Addr) (v:Value) (m:Mode):Td P d d (store a v m):=by
  intro w es he
  unfold store
  cases v<;>simp only[Sem.runT]<;>first
    | exact id
    | (cases w.cell? a with
       | some _ =>
         by_cases hz:w.frozen? a=true
         · simp only[hz,if_true]; exact id
         · simp only[hz,if_false,Bool.false_eq_true]
           show deafBehind 0 (es.push _)=_
           rw[ct,he]
       | none =>
         generalize hf:w.farStore P a _ _=r
         cases r with
         | ok r=>exact ng he (by simp)
         | error x =>
           show ¬ Jw x
           unfold World.farStore at hf
           split at hf
           · split at hf
             · cases hf
             · cases hf; exact id
           · simp only[Except.error.injEq] at hf
             subst hf
             unfold World.noCell
             split<;>exact id)
theorem rT {d:Nat}:Td P d d program:=fun _ _ he=>he
theorem Ej {α:Type} {s:Sem α} (h:Td P 0 0 s):Tb P (fun _=>True) s:=by
  intro w es he
  have:=h w es he
  revert this
  cases s.runT P w es with
  | mk r es' =>
    cases r with
    | ok a w'=>exact fun hb=>⟨trivial,hb⟩
    | halt x w'=>exact fun hb hl=>absurd hl hb
theorem t_of_td {α:Type} {s:Sem α} (h:Td P 0 0 s) (hp:Pf P s):T1 P s:=⟨Ej h,hp⟩
theorem Iq {d:Nat}:Td P d d Extern.PrintPieces.held:=by
  unfold Extern.PrintPieces.held
  refine fW rT fun p=>fW (Q8 _ _) fun v => ?_
  split
  · exact Cy _
  · exact xk id
theorem wh {α β:Type} {d d':Nat} {h:Halt} (hh:¬ Jw h) (f:α→Sem β):Td P d d' ((Sem.halt h:Sem α) >>= f):=fun _ _ _=>hh
theorem ug {α β:Type} {d d':Nat} (m:String) (f:α→Sem β):Td P d d' ((stuck m:Sem α) >>= f):=fun _ _ _=>id
theorem za {α β:Type} {d d':Nat} (m:Unsupported) (f:α→Sem β):Td P d d' ((unsupported m:Sem α) >>= f):=fun _ _ _=>id
theorem Eh {α:Type} {d d':Nat} (m:String):Td P d d' (stuck m:Sem α):=xk id
theorem NJ (fd:Nat) (b:ByteArray):Td P 0 0 (writeFd fd b):=by
  intro w es he
  unfold writeFd
  simp only[Sem.runT]
  have h0:deafBehind 0 (es.push ⟨.output,true,false⟩)=0:=by rw[ct,he]
  split
  · rename_i h; revert h; split<;>intro h<;>simp only[Sem.runT] at h
    · cases h
    · cases h
    · obtain⟨-,rfl⟩:=h
      exact h0
  · rename_i h; revert h; split<;>intro h<;>simp only[Sem.runT] at h
    · cases h; exact id
    · cases h; exact id
    · cases h
theorem C8 (v:Value):kZ (.value v):=trivial
theorem G1 (a : Array Value) : kZ (.row "runtime.print$piece" a) := rfl
def Yl (P:Program) {α:Type} (Q:α→Prop) (s:Sem α):Prop:=∀ w es a w' es',s.runT P w es=(.ok a w',es')→Q a
theorem Cr {α:Type} {Q:α→Prop} {a:α} (h:Q a):Yl P Q (pure a:Sem α):=fun _ _ _ _ _ e=>by cases e; exact h
theorem Il {α:Type} {Q:α→Prop} (h:Halt):Yl P Q (Sem.halt h:Sem α):=fun _ _ _ _ _ e=>by cases e
theorem QN {α β:Type} {Q:β→Prop} {s:Sem α} {f:α→Sem β} (h:∀ a,Yl P Q (f a)):Yl P Q (s >>= f):=by
  intro w es b w' es' e
  rw[runT_bind'] at e
  revert e
  cases s.runT P w es with
  | mk r es' =>
    cases r with
    | ok a w'=>exact fun e=>h a _ _ _ _ _ e
    | halt x w'=>exact fun e=>by cases e
theorem On (a b:Array TypeId) (args:Array Value):Yl P kZ (Extern.PrintPieces.piece a b args):=by
  unfold Extern.PrintPieces.piece
  (repeat' first | (with_reducible exact Cr (C8 _)) | (with_reducible exact Cr (G1 _)) | (with_reducible exact Il _) | (with_reducible refine QN (fun _ => ?_)) | split | dsimp only | exact Cr rfl | exact Il _)
theorem NK (a b:Array TypeId) (args:Array Value):Td P 0 0 (Extern.PrintPieces.piece a b args):=by
  unfold Extern.PrintPieces.piece
  (repeat' first | (with_reducible exact Eh _) | (with_reducible exact Cy _) | (with_reducible refine ug _ _) | (with_reducible refine za _ _) | (with_reducible refine wh id _) | (with_reducible refine fW zb (fun _ => ?_)) | (with_reducible refine fW qf (fun _ => ?_)) | (with_reducible exact qf) | (with_reducible refine fW Iq (fun _ => ?_)) | (with_reducible refine fW rT (fun _ => ?_)) | (with_reducible refine fW (Ei _ _ _) (fun _ => ?_)) | (with_reducible refine fW (NJ _ _) (fun _ => ?_)) | split | dsimp only)
instance (t:TypeId) (x:Place):TC P (Place.get t x):=⟨by cases x<;>unfold Place.get<;>first | exact TC.out | exact aK trivial⟩
theorem t_follow:∀ (l:List FieldStep) (t:TypeId) (x:Place),T1 P (follow l t x)
  | [],_,_=>aK trivial
  | s::rest,t,x=>by
    have ih:=t_follow rest
    unfold follow
    (repeat' first | exact ih _ _ | exact TC.out | (with_reducible refine aB ?_ (fun _ => ?_)) | (with_reducible refine gl ?_ ?_) | split | dsimp only)
instance (l:List FieldStep) (t:TypeId) (x:Place):TC P (follow l t x):=⟨t_follow l t x⟩
instance (t:TypeId) (x:Place) (b:Bool) (o:Option String):TC P (receiverAt t x b o):=⟨by
  unfold receiverAt
  (repeat' first | exact TC.out | (with_reducible refine aB ?_ (fun _ => ?_)) | (with_reducible refine pU ?_ (fun _=>trivial)) | (with_reducible exact aK trivial) | (with_reducible refine t_forInArray _ (fun _ _ => ?_) _ _) | (with_reducible refine t_forInList _ (fun _ _ => ?_) _ _) | (with_reducible refine t_forInRange _ (fun _ _ => ?_) _ _) | (with_reducible refine t_mapMArray _ (fun _ => ?_) _) | (with_reducible refine t_mapMList _ (fun _ => ?_) _) | (with_reducible refine gl ?_ ?_) | split | dsimp only)⟩
instance (t:TypeId) (v:Value) (p:Array FieldStep) (b:Bool):TC P (receiverVia t v p b):=⟨by
  unfold receiverVia
  (repeat' first | exact TC.out | (with_reducible refine aB ?_ (fun _ => ?_)) | (with_reducible refine pU ?_ (fun _=>trivial)) | (with_reducible exact aK trivial) | (with_reducible refine t_forInArray _ (fun _ _ => ?_) _ _) | (with_reducible refine t_forInList _ (fun _ _ => ?_) _ _) | (with_reducible refine t_forInRange _ (fun _ _ => ?_) _ _) | (with_reducible refine t_mapMArray _ (fun _ => ?_) _) | (with_reducible refine t_mapMList _ (fun _ => ?_) _) | (with_reducible refine gl ?_ ?_) | split | dsimp only)⟩
theorem t_method:∀ (d:Nat) (t:TypeId) (v:Value) (n:String),T1 P (method d t v n)
  | 0,_,_,_=>dQ _
  | d+1,t,v,n=>by
    have ih:=t_method d
    unfold method
    (repeat' first | exact ih _ _ _ | exact TC.out | (with_reducible refine aB ?_ (fun _ => ?_)) | (with_reducible refine gl ?_ ?_) | split | dsimp only)
instance (d:Nat) (t:TypeId) (v:Value) (n:String):TC P (method d t v n):=⟨t_method d t v n⟩
theorem t_followBlind:∀ (l:List FieldStep) (t:TypeId) (x:Option Value),T1 P (followBlind l t x)
  | [],_,_=>aK trivial
  | s::rest,t,x=>by
    have ih:=t_followBlind rest
    unfold followBlind
    (repeat' first | exact ih _ _ | exact TC.out | (with_reducible refine aB ?_ (fun _ => ?_)) | (with_reducible refine gl ?_ ?_) | split | dsimp only)
instance (l:List FieldStep) (t:TypeId) (x:Option Value):TC P (followBlind l t x):=⟨t_followBlind l t x⟩
theorem t_nilAhead:∀ (d:Nat) (t:TypeId) (v:Value) (n:String),T1 P (nilAhead d t v n)
  | 0,_,_,_=>aK trivial
  | d+1,t,v,n=>by
    have ih:=t_nilAhead d
    unfold nilAhead
    (repeat' first | exact ih _ _ _ | exact TC.out | (with_reducible refine aB ?_ (fun _ => ?_)) | (with_reducible refine gl ?_ ?_) | split | dsimp only)
instance (d:Nat) (t:TypeId) (v:Value) (n:String):TC P (nilAhead d t v n):=⟨t_nilAhead d t v n⟩
instance (t:TypeId) (v:Value):TC P (Builtin.printOne t v):=⟨by
  unfold Builtin.printOne
  (repeat' first | exact TC.out | (with_reducible refine aB ?_ (fun _ => ?_)) | (with_reducible refine pU ?_ (fun _=>trivial)) | (with_reducible exact aK trivial) | (with_reducible refine t_forInArray _ (fun _ _ => ?_) _ _) | (with_reducible refine t_forInList _ (fun _ _ => ?_) _ _) | (with_reducible refine t_forInRange _ (fun _ _ => ?_) _ _) | (with_reducible refine t_mapMArray _ (fun _ => ?_) _) | (with_reducible refine t_mapMList _ (fun _ => ?_) _) | (with_reducible refine gl ?_ ?_) | split | dsimp only)⟩
theorem uh {γ σ:Type}:∀ (l:List γ) (f:(c:γ)→c∈l→σ→Sem (ForInStep σ)) (_:∀ c hc s,T1 P (f c hc s)) (s:σ),T1 P (forIn' l s f)
  | [],_,_,_=>aK trivial
  | c::l,f,h,s=>by
    rw[List.forIn'_cons]
    refine aB (h _ _ _) fun r => ?_
    split
    · exact aK trivial
    · exact uh l _ (fun _ _ _=>h _ _ _) _
theorem Ar {σ:Type} (n:Nat) (f:(i:Nat)→i∈([:n]:Std.Legacy.Range)→σ→Sem (ForInStep σ)) (h:∀ i hi s,T1 P (f i hi s)) (s:σ):T1 P (forIn' [:n] s f):=by
  rw[Std.Legacy.Range.forIn'_eq_forIn'_range']
  exact uh _ _ (fun _ _ _=>h _ _ _) _
instance (ln:Bool) (c:Array Bool) (ts:Array TypeId) (args:Array Value):TC P (Builtin.pieces ln c ts args):=⟨by
  unfold Builtin.pieces
  (repeat' first | exact TC.out | (with_reducible refine aB ?_ (fun _ => ?_)) | (with_reducible refine pU ?_ (fun _=>trivial)) | (with_reducible exact aK trivial) | (with_reducible refine Ar _ _ (fun _ _ _ => ?_) _) | (with_reducible refine t_forInArray _ (fun _ _ => ?_) _ _) | (with_reducible refine t_forInList _ (fun _ _ => ?_) _ _) | (with_reducible refine gl ?_ ?_) | split | dsimp only)⟩
abbrev TN (P:Program) (s:Sem Next):Prop:=Tm P kZ s
theorem Z5 {s:Sem Next} (h:T1 P s) (h':Yl P kZ s):TN P s:=by
  refine⟨fun w es he => ?_,h.pf⟩
  have:=h.tb w es he
  have h2:=h' w es
  revert this h2
  cases s.runT P w es with
  | mk r es' =>
    cases r with
    | ok a w'=>exact fun hb h2=>⟨h2 _ _ _ rfl,hb.2⟩
    | halt x w'=>exact fun hb _=>hb
theorem IF (a:Addr) (m:Mode):Pf P (load a m):=(t_load a m).pf
theorem Oq (a:Addr) (v:Value) (m:Mode):Pf P (store a v m):=(t_store a v m).pf
theorem ED {α:Type} (m:String):Pf P (stuck m:Sem α):=pZ _
theorem WY {α:Type} (m:Unsupported):Pf P (unsupported m:Sem α):=pZ _
theorem RF:Pf P Extern.PrintPieces.held:=by
  unfold Extern.PrintPieces.held
  (repeat' first | (with_reducible exact xw _) | (with_reducible exact pZ _) | (with_reducible exact ED _) | (with_reducible exact IF _ _) | (with_reducible exact t_program1.pf) | (with_reducible refine CJ ?_ (fun _ => ?_)) | split | dsimp only)
theorem Ot (a b:Array TypeId) (args:Array Value):Pf P (Extern.PrintPieces.piece a b args):=by
  unfold Extern.PrintPieces.piece
  (repeat' first | (with_reducible exact xw _) | (with_reducible exact pZ _) | (with_reducible exact ED _) | (with_reducible exact WY _) | (with_reducible exact IF _ _) | (with_reducible exact Oq _ _ _) | (with_reducible exact IE _) | (with_reducible exact RF) | (with_reducible exact(t_writeFd _ _).pf) | (with_reducible exact t_program1.pf) | (with_reducible refine CJ ?_ (fun _ => ?_)) | split | dsimp only)
theorem Ef (a b:Array TypeId) (args:Array Value):TN P (Extern.PrintPieces.piece a b args):=Z5 (t_of_td (NK a b args) (Ot a b args)) (On a b args)
theorem zK (ln:Bool) (c:Array Bool) (ts:Array TypeId) (args:Array Value):TN P (Builtin.printMarked ln c ts args):=by
  unfold Builtin.printMarked
  refine aB TC.out fun ps => ?_
  split
  · exact aK trivial
  · exact Ef _ _ _
theorem Qi {s:Sem Value} (h:T1 P s):TN P (do pure (.value (← s))):=aB h fun _=>aK trivial
theorem abh {s:Sem Unit} (h:T1 P s):TN P (do s; pure .skip):=aB h fun _=>aK trivial
theorem GG (b:Builtin) (ts:Array TypeId) (t:TypeId) (c:Array Bool) (args:Array Value):TN P (builtin b ts t c args):=by
  unfold builtin
  dsimp only
  split<;>first
    | (with_reducible exact Qi TC.out)
    | exact zK _ _ _ _
    | exact aK trivial
    | exact ax _
    | exact dQ _
    | exact aB TC.out fun _=>aK trivial
theorem pz (hP:Plain P) (f:FuncId) (args:Array Value):TN P (callFunc f args):=by
  unfold callFunc
  refine GH ?_
  split
  · exact ax _
  · rename_i fn HK
    rw[hP.count f fn HK]
    simp only[Bool.false_eq_true,if_false]
    · split
      · rename_i hb
        refine aB (t_mark (by simp)) fun _ => ?_
        rw[hP.next f fn HK hb]
        dsimp only
        split
        · rename_i e he
          exact Qi (hP.find f fn e HK hb he args)
        · split
          · exact aK trivial
          · exact dQ _
      · exact aK trivial
theorem iq {α:Type} {R:α→Prop} (e:RuntimeError):Tm P R (runtimePanic e:Sem α):=by
  unfold runtimePanic
  refine aB t_program1 fun p => ?_
  dsimp only
  split<;>first | exact y9 _ | exact aB TC.out fun _=>aB TC.out fun _=>y9 _
theorem qS (hP:Plain P) (r:Value) (n:String) (args:Array Value):TN P (callMethod r n args):=by
  unfold callMethod
  split
  · refine aB t_program1 fun p=>aB TC.out fun x => ?_
    exact pz hP _ _
  · exact iq _
  · exact ax _
theorem ji (hP:Plain P) (t:Target) (args:Array Value):TN P (invoke t args):=by
  unfold invoke
  split
  · exact iq _
  · exact GG _ _ _ _ _
  · exact pz hP _ _
  · split
    · exact qS hP _ _ _
    · exact ax _
  · split
    · refine aB TC.out fun _ => ?_
      exact qS hP _ _ _
    · exact ax _
  · split
    · refine aB TC.out fun _ => ?_
      exact pz hP _ _
    · exact ax _
  · unfold Instr.yield
    refine aB TC.out fun r => ?_
    dsimp only
    split
    · exact aB (ax _) fun _=>aK trivial
    · exact aK trivial
  · exact ax _
  · exact aK trivial
instance (f:Value) (args:Array Value):TC P (Deferred.ofValue f args):=⟨by
  unfold Deferred.ofValue
  split<;>first | exact aK trivial | exact ax _⟩
instance (ρ:Operand→Value) (c:Call) (t:TypeId):TC P (resolve ρ c t):=⟨by
  unfold resolve
  dsimp only
  split<;>first | exact aK trivial | exact TC.out⟩
theorem A5 (hP:Plain P) (ρ:Operand→Value) (o:Oper):TN P (execOp ρ o):=by
  unfold execOp
  dsimp only
  split<;>first
    | (with_reducible exact Qi TC.out)
    | (with_reducible exact abh TC.out)
    | exact aK trivial
    | exact aB TC.out fun _=>aK trivial
    | exact aB TC.out fun _=>ji hP _ _
    | skip
  · split<;>first
      | exact iq _
      | exact aK trivial
      | skip
    split<;>first
      | exact iq _
      | exact aK trivial
      | skip
    refine aB t_program1 fun _=>aB TC.out fun _ => ?_
    split
    · exact aB (dQ _) fun _=>aK trivial
    · exact aK trivial
  · exact Qi (aB TC.out fun _=>TC.out)
  · refine aB TC.out fun _ => ?_
    split
    · exact aB TC.out fun _=>aK trivial
    · exact ax _
  · exact aB (t_mapMArray _ (fun _=>aB TC.out fun _=>aK trivial) _) fun _=>aK trivial
instance (fn:Func) (ts:Array Value):TC P (results fn ts):=⟨by
  unfold results
  refine aB (t_mapMArray _ (fun r => ?_) _) fun vs => ?_
  · split
    · exact aK trivial
    · exact aB TC.out fun _=>TC.out
  · split<;>exact aK trivial⟩
end
end Go.Co
end
section
namespace Go.Co
open Go
def ye:Item→Prop
 | .call .. => False
 | .extern r _ => r = "runtime.print$piece"
 | _=>True
def okF (fr:Frame):Prop:=∀ i∈fr.todo,ye i
def BK (fr:Frame) (callers:List Frame):Prop:=match callers.getLast? with | none=>fr.kind = .report | some f=>f.kind = .report
def Hg (b:Prop) (dy:Option Dying) (fr:Frame) (callers:List Frame):Prop :=
 okF fr∧(∀ f∈callers,okF f)∧((b→dy≠none)∧∀ d,dy=some d→(d.calling=false∨BK fr callers))
def xh (b:Prop):GStep→Prop
 | .go g _ es=>AK es∧Hg b g.dying g.frame g.callers∧(∀ t,g.status ≠ .sleeping t)∧g.status ≠ .parked
 | .comm g _ _ _ _ es=>AK es∧Hg b g.dying g.frame g.callers∧g.status = .running
 | .spawn g _ _ es=>AK es∧Hg b g.dying g.frame g.callers
 | .coroswitch g _ _ _ es=>AK es∧Hg b g.dying g.frame g.callers
 | .ended .. => True
 | _=>False
theorem bG {b:Prop} {es:Array Event} {s:GStep} (he:AK es) (h:xh b s):xh b (GStep.after es s):=by
 cases s<;>first | exact⟨nO he h.1,h.2⟩ | exact h
theorem aV {b:Prop} {dy:Option Dying} {fr:Frame} {callers:List Frame} {st:GoStatus} {off:Option (Array CommCase×CommShape)} {w:World} (h:Hg b dy fr callers) (hs:(∀ t,st ≠ .sleeping t)∧st ≠ .parked:=by simp):xh b (.go ⟨fr,callers,st,dy,off⟩ w):=⟨b7,h,hs⟩
variable {b:Prop} {dy:Option Dying} {fr fr':Frame} {callers gu:List Frame}
theorem vT (h:Hg b dy fr callers) (hk:fr'.kind=fr.kind) (ho:okF fr'):Hg b dy fr' callers:=by
 refine⟨ho,h.2.1,h.2.2.1,fun d hd=>(h.2.2.2 d hd).imp id ?_⟩
 unfold BK
 cases callers.getLast? with
 | none=>exact fun e=>hk.trans e
 | some f=>exact id
theorem jA (h:Hg b dy fr callers) (ho:okF fr'):Hg b dy fr' (fr::callers):=by
 refine⟨ho,fun f hf => ?_,h.2.2.1,fun d hd=>(h.2.2.2 d hd).imp id ?_⟩
 ·rcases List.mem_cons.1 hf with rfl | hf
  ·exact h.1
  ·exact h.2.1 f hf
 ·unfold BK
  rw[List.getLast?_cons]
  cases callers.getLast? with
  | none=>exact id
  | some f=>exact id
theorem rN {c:Frame} {rest:List Frame} (h:Hg b dy fr (c::rest)) (hk:fr'.kind=c.kind) (ho:okF c→okF fr'):Hg b dy fr' rest:=by
 refine⟨ho (h.2.1 c (by simp)),fun f hf=>h.2.1 f (by simp[hf]),h.2.2.1,fun d hd=>(h.2.2.2 d hd).imp id ?_⟩
 unfold BK
 rw[List.getLast?_cons]
 cases rest.getLast? with
 | none=>exact fun e=>hk.trans e
 | some f=>exact id
theorem EH {fr fr':Frame} (h:okF fr) (e:∀ i∈fr'.todo,i∈fr.todo∨ye i):okF fr':=fun i hi=>(e i hi).elim (h i) id
theorem EI {fr fr':Frame} (h:okF fr) (e:fr'.todo=fr.todo):okF fr':=fun i hi=>h i (e▸hi)
theorem sx (h:okF fr) (v:Value):okF (fr.finish v):=by
 unfold Frame.finish
 split
 ·rename_i hk
  intro i hi
  rcases List.mem_cons.1 hi with rfl | hi
  ·trivial
  ·exact h i (by rw[hk]; simp[hi])
 ·rename_i hk
  intro i hi
  rcases List.mem_cons.1 hi with rfl | hi
  ·trivial
  ·exact h i (by rw[hk]; simp[hi])
 ·rename_i hk
  intro i hi
  exact h i (by rw[hk]; simp[hi])
 ·rename_i hk
  exact absurd (h _ (by rw[hk]; exact List.mem_cons_self ..)) id
 ·rename_i hk
  intro i hi
  exact h i (by rw[hk]; simp[hi])
 ·exact h
theorem pI (fr:Frame) (v:Value):(fr.finish v).kind=fr.kind:=by
 unfold Frame.finish
 split<;>rfl
theorem Bg (h:okF fr) (l:List PanicEntry):okF (fr.raise l):=by
 unfold Frame.raise
 split<;>exact h
theorem zG (fr:Frame) (l:List PanicEntry):(fr.raise l).kind=fr.kind:=by
 unfold Frame.raise
 split<;>rfl
theorem jk (P:Program) (f:FuncId) (args:Array Value) (k:CallKind):okF (Frame.enter P f args k):=by
 intro i hi
 simp only[Frame.enter,List.mem_singleton] at hi
 subst hi; trivial
theorem Bf (l:Nat) (f:FuncId) (tmps:Array Value) (a c:Code) (k:CallKind):okF (Frame.round l f tmps a c k):=by
 intro i hi
 simp only[Frame.round,List.mem_cons,List.not_mem_nil,or_false] at hi
 rcases hi with rfl | rfl | rfl<;>trivial
theorem IJ (P : Program) (args : Array Value) (k : CallKind) : okF (Frame.ofRow P "runtime.print$piece" args k) := by
 intro i hi
 simp only[Frame.ofRow,List.mem_singleton] at hi
 subst hi; exact rfl
theorem cK (h:Hg b dy fr callers) (v:Value):Hg b dy (fr.finish v) callers:=vT h (pI _ _) (sx h.1 v)
theorem mO (h:Hg b dy fr callers) (l:List PanicEntry):Hg b dy (fr.raise l) callers:=vT h (zG _ _) (Bg h.1 l)
theorem p9 (h:Hg b dy fr callers) (hk:fr'.kind=fr.kind) (ht:fr'.todo=fr.todo):Hg b dy fr' callers:=vT h hk (EI h.1 ht)
theorem nN:∀ {fr:Frame} {callers gu:List Frame} {v:Value},tryRecover fr callers=some (v,gu)→Hg b dy fr callers→Hg b dy fr gu:=by
 intro fr callers
 induction callers generalizing fr with
 | nil=>intro gu v e; simp[tryRecover] at e
 | cons c rest ih =>
  intro gu v e h
  unfold tryRecover at e
  split at e
  ·rename_i hc
   simp only[List.cons.injEq] at hc
   obtain⟨rfl,rfl⟩:=hc
   split at e
   ·simp only[Option.some.injEq,Prod.mk.injEq] at e
    obtain⟨-,rfl⟩:=e
    refine⟨h.1,fun f hf => ?_,h.2.2.1,fun d hd=>(h.2.2.2 d hd).imp id ?_⟩
    ·rcases List.mem_cons.1 hf with rfl | hf
     ·exact EI (h.2.1 _ (List.mem_cons_self ..)) rfl
     ·exact h.2.1 f (by simp[hf])
    ·unfold BK
     rw[List.getLast?_cons,List.getLast?_cons]
     cases rest.getLast?<;>exact id
   ·cases e
  ·rename_i hc
   simp only[List.cons.injEq] at hc
   obtain⟨rfl,rfl⟩:=hc
   simp only[Option.map_eq_some_iff,Prod.exists,Prod.mk.injEq] at e
   obtain⟨a,r,e,rfl,rfl⟩:=e
   exact jA (ih e (rN (fr':=c) h rfl id)) h.1
  ·cases e
theorem zP:∀ {l:Nat} {fr:Frame} {callers gu:List Frame} {v:Value},tryRecoverLoop l callers=some (v,gu)→Hg b dy fr callers→Hg b dy fr gu:=by
 intro l fr callers
 induction callers generalizing fr l with
 | nil=>intro gu v e; simp[tryRecoverLoop] at e
 | cons c rest ih =>
  intro gu v e h
  unfold tryRecoverLoop at e
  simp only[Option.map_eq_some_iff,Prod.exists,Prod.mk.injEq] at e
  obtain⟨a,r,e,rfl,rfl⟩:=e
  have h':=rN (fr':=c) h rfl id
  have:Hg b dy c r:=by
   split at e
   ·exact ih e h'
   ·split at e
    ·exact nN e h'
    ·exact ih e h'
   ·exact ih e h'
  exact jA this h.1
theorem KN (d:Nat) (e:Event) (es:List Event):deafBehind d ⟨e::es⟩=deafBehind (deafBehind d #[e]) ⟨es⟩:=by
 have e1:(⟨e::es⟩:Array Event)=#[e]++⟨es⟩:=by simp
 rw[e1,ey]
theorem zL {P:Program} (hq:∀ f:FuncId,(P.funcs[f]?).any (·.norace)=false) (fn:FuncId) (es:Array Event) (d:Nat):deafBehind d (seen P fn es)=deafBehind d es:=by
 obtain⟨l⟩:=es
 have key:∀ (l:List Event) (kept:Array Event),deafBehind d (l.foldl (fun(x:Bool×Array Event) e =>
   match e.loc with
   | .mark (.extern _)=>(false,x.2)
   | _=>(x.1,if x.1 && !e.sync then x.2 else x.2.push e)) (false,kept)).2=deafBehind (deafBehind d kept) ⟨l⟩:=by
  intro l
  induction l with
  | nil=>intro kept; rfl
  | cons e l ih =>
   intro kept
   rw[List.foldl_cons,KN]
   split
   ·rename_i f hf
    rw[ih]
    congr 1
    have:=ct (deafBehind d kept) #[] e
    rw[hf] at this
    exact this.symm
   ·simp only[Bool.false_and,Bool.false_eq_true,if_false]
    rw[ih]
    congr 1
    rw[← ey]
    rfl
 have:=key l #[]
 unfold seen
 simp only[hq]
 rw[← Array.foldl_toList]
 exact this
theorem bS {P:Program} (hP:Plain P) (fn:FuncId) {es:Array Event} (h:AK es):AK (seen P fn es):=by
 unfold AK
 rw[zL hP.quiet]
 exact h
theorem lQ {b:Prop} {c:Prop} [Decidable c] {x y:GStep} (hx:xh b x) (hy:xh b y):xh b (if c then x else y):=by split<;>assumption
theorem EW {b:Prop} (fr:Frame) (h:okF fr) (a:List ByteArray) (m:String) (x:Bool) (w:World):xh b (dieOf fr a m x w) :=
 ⟨b7,⟨h,fun _ hf=>absurd hf (List.not_mem_nil),⟨fun _ hx=>(nomatch hx),fun d hd => .inl (by cases hd; rfl)⟩⟩,by simp⟩
theorem lW {b:Prop} (fr:Frame) (h:okF fr) (m:String) (w:World):xh b (endThrow fr m w):=EW fr h _ _ _ w
theorem wK {b:Prop} (P:Program) (fr:Frame) (h:okF fr) (callers:List Frame) (dy:Option Dying) (m:String) (w:World):xh b (endFatal P fr callers dy m w):=by
 unfold endFatal
 dsimp only
 split
 ·exact EW fr h _ _ _ _
 ·exact trivial
 ·exact trivial
theorem pO {b:Prop} (P:Program) (fr:Frame) (h:okF fr) (v:Value) (w:World):xh b (endPrinting P fr v w):=by
 unfold endPrinting
 dsimp only
 split
 ·exact lW fr h _ _
 ·exact trivial
theorem Hj {b:Prop} (w:World) (fd:Nat) (t:ByteArray) (o:Outcome):xh b (endWith w fd t o):=by
 unfold endWith
 dsimp only
 split
 ·split<;>exact trivial
 ·exact trivial
 ·exact trivial
theorem tY {P:Program}:∀ (l:List Nat),Hg b dy fr callers→∀ f,Hg b dy (Frame.enter P f #[] .early) (l.map (Frame.enter P · #[] .early)++fr::callers)
 | [],h,f=>jA h (by exact jk _ _ _ _)
 | x::l,h,f=>jA (tY l h x) (by exact jk _ _ _ _)
theorem O0 (P:Program) (h:Hg b dy fr callers) (g:Nat) (w:World):xh b (early P fr callers dy g w):=by
 have notYet:∀ w:World,xh b
   (match w.heap[g]? with
    | some (.pending c elem) => .go { frame:=fr,callers,status := .running,dying:=dy } { w with heap:=w.heap.setIfInBounds g (.cells c elem) }
    | _ => .ended (.stuck "early: the variable does not wait" (fr.pos P)) w) := by
  intro w
  split
  ·exact aV h
  ·exact trivial
 unfold early
 dsimp only
 split
 ·exact notYet w
 ·split
  ·exact trivial
  ·split
   ·exact notYet w
   ·split
    ·exact notYet w
    ·split
     ·exact trivial
     ·exact aV (tY _ h _)
     ·exact trivial
     ·exact notYet w
     ·split
      ·exact aV (tY _ h _)
      ·split
       ·exact notYet w
       ·split
        ·exact notYet _
        ·exact aV (tY _ h _)
        ·exact trivial
theorem pn {P:Program} (hP:Plain P) (h:Hg b dy fr callers) {s:Sem Next} (hs:TN P s) (w:World):xh b (stepG.apply P true fr callers dy s w):=by
 unfold stepG.apply
 have:=hs.tb w #[] b7
 revert this
 generalize s.runT P w #[]=x
 obtain⟨r,es⟩:=x
 simp only[if_true]
 intro this
 cases r with
 | ok a w' =>
  obtain⟨hn,he⟩:=this
  refine bG (bS hP _ (by split<;>first | exact b7 | exact he)) ?_
  cases a with
  | callThen d r s x=>exact absurd hn id
  | stack r s=>exact absurd hn id
  | row r args =>
   have hr : r = "runtime.print$piece" := hn
   subst hr
   dsimp only
   split
   ·rename_i k hk
    refine aV (vT h rfl ?_)
    intro i hi
    rcases List.mem_cons.1 hi with rfl | hi
    ·exact rfl
    ·exact h.1 i (by rw[hk]; simp[hi])
   ·exact aV (jA h (by exact IJ _ _ _))
  | value v=>exact aV (cK h v)
  | skip=>exact aV (cK h _)
  | enter f args=>exact aV (jA h (by exact jk _ _ _ _))
  | round l f tmps as body=>exact aV (jA h (by exact Bf _ _ _ _ _ _))
  | defer d=>exact aV (cK (fr:={ fr with defers:=d::fr.defers }) (p9 h rfl rfl) _)
  | recover =>
   dsimp only
   split
   ·rename_i v gu e
    split at e
    ·split at e
     ·exact aV (cK (nN e h) _)
     ·exact aV (cK (zP e h) _)
    ·exact aV (cK (nN e h) _)
   ·exact aV (cK h _)
  | comm c bl sh=>exact⟨b7,h,rfl⟩
  | coroswitch c x=>exact⟨b7,h⟩
  | spawn d =>
   dsimp only
   exact lQ (lW fr h.1 _ _) ⟨b7,cK h _⟩
  | _=>exact absurd hn id
 | halt x w' =>
  cases x with
  | panic v=>exact bG (bS hP _ (by split<;>first | exact b7 | exact this trivial)) (aV (mO h _))
  | goexit=>exact bG (bS hP _ (by split<;>first | exact b7 | exact this trivial)) (aV (mO h _))
  | blocked=>exact bG (bS hP _ (by split<;>exact b7)) (aV h)
  | waiting=>exact bG (bS hP _ (by split<;>exact b7)) (aV h)
  | fatal m=>exact bG (bS hP _ (by split<;>first | exact b7 | exact this trivial)) (wK P fr h.1 _ _ _ _)
  | throw m=>exact bG (bS hP _ (by split<;>first | exact b7 | exact this trivial)) (lW fr h.1 _ _)
  | unsupported u =>
   cases u with
   | initOrder g=>exact bG (bS hP _ (by split<;>exact b7)) (O0 P h _ _)
   | _=>exact trivial
  | exit c=>exact trivial
  | stuck s=>exact trivial
theorem RJ {P:Program} (hP:Plain P) (h:Hg b dy fr callers) (w:World):xh b (stepG.oper P true fr callers dy w):=by
 unfold stepG.oper
 split
 ·exact trivial
 ·split
  ·refine pn hP h ?_ w
   exact aB TC.out fun _=>aB TC.out fun _=>aK trivial
  ·exact pn hP h (A5 hP _ _) w
theorem pK (P:Program) (main:Bool) (h:Hg b dy fr callers) (hx:dy≠none→BK fr callers) (v:Value) (w:World):xh b (doReturn P main fr callers dy v w):=by
 unfold doReturn
 split
 ·rename_i c rest
  split
  ·exact aV (rN h (pI _ _) fun hc=>sx hc _)
  ·exact aV (rN h (pI _ _) fun hc=>sx hc _)
  ·exact aV (rN h rfl id)
  ·dsimp only
   refine aV (rN h ?_ fun hc => ?_)
   ·split
    ·split<;>rfl
    ·rfl
   ·split
    ·split<;>exact hc
    ·exact hc
 ·split
  ·exact aV ⟨h.1,h.2.1,⟨fun _ hx=>(nomatch hx),fun d hd => .inl (by cases hd; rfl)⟩⟩
  ·exact trivial
  ·rename_i hk _
   have nb:b→False:=fun hb=>hk (hx (h.2.2.1 hb))
   split
   ·exact aV ⟨h.1,h.2.1,fun hb=>(nb hb).elim,fun d hd=>(nomatch hd)⟩
   ·split
    ·exact aV ⟨jk _ _ _ _,h.2.1,fun hb=>(nb hb).elim,fun d hd=>(nomatch hd)⟩
    ·exact trivial
theorem wY {P:Program} (hP:Plain P) (h:Hg b dy fr callers) (d:Deferred) (w:World):xh b (callDeferred P fr callers dy d w):=by
 unfold callDeferred
 refine lQ trivial ?_
 have:=(ji hP d.target d.args).tb w #[] b7
 revert this
 generalize (invoke d.target d.args).runT P w #[]=x
 obtain⟨r,es⟩:=x
 intro this
 dsimp only
 cases r with
 | ok a w' =>
  obtain⟨hn,he⟩:=this
  refine bG (bS hP _ he) ?_
  cases a with
  | callThen d r s x=>exact absurd hn id
  | stack r s=>exact absurd hn id
  | row r args =>
   have hr : r = "runtime.print$piece" := hn
   subst hr
   exact aV (jA h (IJ _ _ _))
  | enter f args=>exact aV (jA h (jk _ _ _ _))
  | round l f tmps as body=>exact aV (jA h (Bf _ _ _ _ _ _))
  | recover =>
   dsimp only
   split
   ·rename_i e
    exact aV (nN e h)
   ·exact aV h
  | coroswitch c x=>cases x<;>first | exact trivial | exact⟨b7,h⟩
  | value v=>exact aV h
  | skip=>exact aV h
  | defer d=>exact aV h
  | spawn d=>exact aV h
  | comm c bl sh=>exact aV h
  | _=>exact absurd hn id
 | halt x w' =>
  cases x with
  | panic v=>exact bG (bS hP _ (this trivial)) (aV (mO h _))
  | goexit=>exact bG (bS hP _ (this trivial)) (aV (mO h _))
  | blocked=>exact bG (bS hP _ b7) (aV (p9 h rfl rfl))
  | waiting=>exact bG (bS hP _ b7) (aV (p9 h rfl rfl))
  | fatal m=>exact bG (bS hP _ (this trivial)) (wK P fr h.1 _ _ _ _)
  | throw m=>exact bG (bS hP _ (this trivial)) (lW fr h.1 _ _)
  | unsupported u=>exact trivial
  | exit c=>exact trivial
  | stuck s=>exact trivial
theorem JF {P:Program} (hP:Plain P) (main:Bool) (h:Hg b dy fr callers) (hx:dy≠none→BK fr callers) (w:World):xh b (unwind P main fr callers dy w):=by
 unfold unwind
 split
 ·rename_i block args ds hk
  have:=(TC.out:T1 P (Instr.takeDeferred block)).tb w #[] b7
  revert this
  generalize (Instr.takeDeferred block).runT P w #[]=x
  obtain⟨r,es⟩:=x
  intro this
  cases r with
  | ok a w'=>exact bG (bS hP _ this.2) (aV (p9 h rfl rfl))
  | halt x w'=>exact trivial
 ·rename_i d ds _ _
  exact wY (fr:={ fr with defers:=ds }) hP (p9 h rfl rfl) _ w
 ·split
  ·exact trivial
  ·refine lQ trivial ?_
   split
   ·exact aV (rN h (zG _ _) fun hc=>Bg hc _)
   ·split
    ·refine lQ (aV ⟨h.1,h.2.1,h.2.2.1,fun d hd=>(nomatch hd)⟩) ?_
     split
     ·exact aV ⟨h.1,h.2.1,⟨fun _ hx=>(nomatch hx),fun d hd => .inl (by cases hd; rfl)⟩⟩
     ·exact trivial
     ·exact trivial
    ·split
     ·exact pO P fr h.1 _ _
     ·exact trivial
  ·split
   ·exact pK P main h hx _ w
   ·rename_i fn _
    have:=(TC.out:T1 P (results fn fr.tmps)).tb w #[] b7
    revert this
    generalize (results fn fr.tmps).runT P w #[]=x
    obtain⟨r,es⟩:=x
    intro this
    cases r with
    | ok a w'=>exact bG (bS hP _ this.2) (pK P main h hx _ _)
    | halt x w'=>cases x<;>exact trivial
theorem sA {id:Nat}:∀ {k k':List Item},exitTo id k=some k'→∀ i∈k',i∈k
 | [],_,e=>by simp[exitTo] at e
 | x::k,k',e=>by
  unfold exitTo at e
  split at e
  ·rename_i hk
   cases hk
   split at e
   ·cases e; exact fun i hi=>by simp[hi]
   ·exact fun i hi=>by simp[sA e i hi]
  ·rename_i hk
   cases hk
   exact fun i hi=>by simp[sA e i hi]
  ·rename_i hk; cases hk
theorem sw {l:Nat}:∀ {k k':List Item},gotoIn l k=some k'→∀ i∈k',i∈k∨ye i
 | [],_,e=>by simp[gotoIn] at e
 | x::k,k',e=>by
  unfold gotoIn at e
  split at e
  ·rename_i hk
   cases hk
   split at e
   ·cases e
    intro i hi
    rcases List.mem_cons.1 hi with rfl | hi
    ·exact .inr trivial
    ·exact .inl (by simpa using hi)
   ·intro i hi
    rcases sw e i hi with h | h
    ·exact .inl (by simp[h])
    ·exact .inr h
  ·rename_i hk
   cases hk
   intro i hi
   rcases sw e i hi with h | h
   ·exact .inl (by simp[h])
   ·exact .inr h
  ·rename_i hk; cases hk
theorem zB {P : Program} {e : Array Value → Sem Next} (h : Extern.next "runtime.print$piece" = some e) (args : Array Value) : TN P (e args) := by
 have : Extern.next "runtime.print$piece" = some (Extern.PrintPieces.piece #[] #[]) := by rfl
 rw[this] at h
 cases h
 exact Ef _ _ _
theorem Sd {P:Program} (hP:Plain P) (main:Bool) (h:Hg b dy fr callers) (hx:dy≠none→BK fr callers) (w:World):xh b (stepG.exec P main true fr callers dy w):=by
 have leave:∀ jump:Option Code,xh b
   (match fr.roundOf with
    | none => if jump matches none | some .ret then .go { frame := { fr with mode := .returning }, callers, status := .running, dying := dy } w else .ended (.stuck "exit, goto: no such block or label" (fr.pos P)) w
    | some l =>
     GStep.after (seen P fr.fn ((Instr.endRound l jump).runT P w #[]).2) <| match ((Instr.endRound l jump).runT P w #[]).1 with
     | .ok v w=>doReturn P main fr callers dy v w
     | .halt _ w => .ended (.stuck "range over a function: no such loop" (fr.pos P)) w) := by
  intro jump
  cases fr.roundOf with
  | none=>exact lQ (aV (p9 h rfl rfl)) trivial
  | some l =>
   dsimp only
   have:=(TC.out:T1 P (Instr.endRound l jump)).tb w #[] b7
   revert this
   generalize (Instr.endRound l jump).runT P w #[]=x
   obtain⟨r,es⟩:=x
   intro this
   cases r with
   | ok a w'=>exact bG (bS hP _ this.2) (pK P main h hx _ _)
   | halt x w'=>exact trivial
 have to:∀ (todo:List Item),(∀ i∈todo,i∈fr.todo∨ye i)→xh b (.go { frame:={ fr with todo },callers,status := .running,dying:=dy } w) :=
  fun todo ht=>aV (vT h rfl (EH h.1 ht))
 have ho:=h.1
 unfold stepG.exec
 dsimp only
 split
 ·exact leave none
 ·exact leave (some .ret)
 ·rename_i k hk; exact to k (fun i hi => .inl (by rw[hk]; simp[hi]))
 ·rename_i k hk; exact to k (fun i hi => .inl (by rw[hk]; simp[hi]))
 ·rename_i k hk; exact to k (fun i hi => .inl (by rw[hk]; simp[hi]))
 ·rename_i k hk; exact to k (fun i hi => .inl (by rw[hk]; simp[hi]))
 ·rename_i x y k hk
  refine to _ fun i hi => ?_
  rcases List.mem_cons.1 hi with rfl | hi
  ·exact .inr trivial
  rcases List.mem_cons.1 hi with rfl | hi
  ·exact .inr trivial
  ·exact .inl (by rw[hk]; simp[hi])
 ·rename_i c x y k hk
  split
  ·refine to _ fun i hi => ?_
   rcases List.mem_cons.1 hi with rfl | hi
   ·exact .inr trivial
   ·exact .inl (by rw[hk]; simp[hi])
  ·exact trivial
 ·rename_i k hk
  refine to _ fun i hi => ?_
  rcases List.mem_cons.1 hi with rfl | hi
  ·exact .inr trivial
  rcases List.mem_cons.1 hi with rfl | hi
  ·exact .inr trivial
  ·exact .inl (by rw[hk]; simp[hi])
 ·rename_i k hk
  refine to _ fun i hi => ?_
  rcases List.mem_cons.1 hi with rfl | hi
  ·exact .inr trivial
  rcases List.mem_cons.1 hi with rfl | hi
  ·exact .inr trivial
  ·exact .inl (by rw[hk]; simp[hi])
 ·rename_i k hk
  refine to _ fun i hi => ?_
  rcases List.mem_cons.1 hi with rfl | hi
  ·exact .inr trivial
  rcases List.mem_cons.1 hi with rfl | hi
  ·exact .inr trivial
  ·exact .inl (by rw[hk]; simp[hi])
 ·rename_i k hk
  refine to _ fun i hi => ?_
  rcases List.mem_cons.1 hi with rfl | hi
  ·exact .inr trivial
  rcases List.mem_cons.1 hi with rfl | hi
  ·exact .inr trivial
  ·exact .inl (by rw[hk]; simp[hi])
 ·rename_i id k hk
  cases e:exitTo id k with
  | none=>exact leave (some (.exit id))
  | some k'=>exact to k' fun i hi => .inl (by rw[hk]; simp[sA e i hi])
 ·rename_i l k hk
  cases e:gotoIn l k with
  | none=>exact leave (some (.goto l))
  | some k'=>exact to k' fun i hi=>(sw e i hi).imp (fun hi=>by rw[hk]; simp[hi]) _root_.id
 ·rename_i f params assign body k hk
  have:=(TC.out:T1 P (Instr.enterLoop fr.fn fr.tmps params assign body fr.roundOf)).tb w #[] b7
  revert this
  generalize (Instr.enterLoop fr.fn fr.tmps params assign body fr.roundOf).runT P w #[]=x
  obtain⟨r,es⟩:=x
  intro this
  cases r with
  | ok a w' =>
   refine bG (bS hP _ this.2) ?_
   refine pn (fr:={ fr with todo := .inRangeFunc a.1::k,defers:=a.2++fr.defers }) hP (vT h rfl ?_) (aB TC.out fun _=>ji hP _ _) _
   intro i hi
   rcases List.mem_cons.1 hi with rfl | hi
   ·exact trivial
   ·exact ho i (by rw[hk]; simp[hi])
  | halt x w'=>exact trivial
 ·exact trivial
 ·refine pn hP h (aB ?_ fun _=>aK (show kZ .skip from trivial)) w
  cases fr.roundOf with
  | none=>exact ax _
  | some l=>exact(TC.out:T1 P (Instr.beginRound l))
 ·rename_i l k hk
  have:=(TC.out:T1 P (Instr.endLoop l)).tb w #[] b7
  revert this
  generalize (Instr.endLoop l).runT P w #[]=x
  obtain⟨r,es⟩:=x
  intro this
  cases r with
  | ok a w' =>
   refine bG (bS hP _ this.2) (aV (vT h rfl ?_))
   intro i hi
   rcases List.mem_append.1 hi with hi | hi
   ·cases a with
    | none=>simp at hi
    | some c=>simp at hi; subst hi; exact trivial
   ·exact ho i (by rw[hk]; simp[hi])
  | halt x w' =>
   cases x with
   | panic v=>exact bG (bS hP _ (this trivial)) (aV (mO h _))
   | _=>exact trivial
 ·exact trivial
 ·rename_i hk; exact absurd (ho _ (by rw[hk]; exact List.mem_cons_self ..)) id
 ·rename_i row args k hk
  have hr : row = "runtime.print$piece" := ho (.extern row args) (by rw [hk]; exact List.mem_cons_self ..)
  subst hr
  cases e : Extern.next "runtime.print$piece" with
  | none=>exact trivial
  | some x=>exact pn hP h (zB e args) w
 ·rename_i id ops draw k hk
  have lD:∀ t,∀ i∈(Item.inRegion ops t::k),i∈fr.todo∨ye i:=fun t i hi=>by
   rcases List.mem_cons.1 hi with rfl | hi
   ·exact .inr trivial
   ·exact .inl (by rw[hk]; simp[hi])
  refine lQ (to _ (lD _)) ?_
  split
  ·exact aV (vT h rfl (EH ho (lD _)))
  ·exact trivial
 ·rename_i k hk; exact to k (fun i hi => .inl (by rw[hk]; simp[hi]))
 ·exact lQ (RJ hP h w) (aV (cK h _))
theorem Wz {P:Program} {α:Type} {d d':Nat} (m:Unsupported):Td P d d' (unsupported m:Sem α):=xk id
theorem WA {P:Program} {d:Nat} (c:Sys):Td P d d (sys c):=fun _ es he=>by
 show deafBehind 0 (es.push _)=_
 rw[ct,he]
theorem GD {b:Prop} {P:Program} (fr:Frame) (d:Dying) (f:Fatal) (ho:okF fr) (hd:d.calling=false) (w:World):xh b (writeOn P fr d f w):=by
 unfold writeOn
 dsimp only
 split
 ·exact trivial
 ·rename_i piece rest _
  have hT:Tb P (fun _=>True) (do
    if !(f.whole&&f.begun) then
     mark .disable
     if ← Extern.PrintPieces.held then .halt .blocked
     if f.whole then store (printLock (← program)) (.bool true) .atomic
     mark .enable
    if piece.size > 65536 then unsupported (.noEntry "a report of more than 65536 bytes")
    match ← sys (.write 2 piece) with
    | .int n => if n != piece.size then unsupported (.noEntry "a report that its descriptor cannot take whole")
    | .err _=>pure ()
    | _ => unsupported (.noEntry "a report that its descriptor cannot take whole") : Sem Unit) := by
   refine Ej ?_
   (repeat' first | (with_reducible exact Eh _) | (with_reducible exact Cy _) | (with_reducible refine ug _ _) | (with_reducible refine za _ _) | (with_reducible refine wh id _) | (with_reducible refine fW zb (fun _ => ?_)) | (with_reducible refine fW qf (fun _ => ?_)) | (with_reducible exact qf) | (with_reducible exact xk id) | (with_reducible exact Wz _) | (with_reducible refine fW Iq (fun _ => ?_)) | (with_reducible refine fW rT (fun _ => ?_)) | (with_reducible refine fW (Ei _ _ _) (fun _ => ?_)) | (with_reducible refine fW (WA _) (fun _ => ?_)) | split | dsimp only)
  have:=hT w #[] b7
  revert this
  generalize Sem.runT P _ w #[]=x
  obtain⟨r,es⟩:=x
  intro this
  cases r with
  | ok a w'=>exact⟨this.2,⟨ho,fun _ hf=>absurd hf (List.not_mem_nil),⟨fun _ hx=>(nomatch hx),fun d' zX => .inl (by cases zX; exact hd)⟩⟩,by simp⟩
  | halt x w' =>
   cases x with
   | blocked=>exact⟨b7,⟨ho,fun _ hf=>absurd hf (List.not_mem_nil),⟨fun _ hx=>(nomatch hx),fun d' zX => .inl (by cases zX; exact hd)⟩⟩,by simp⟩
   | _=>exact trivial
theorem Xr {b:Prop} {P:Program} (hP:Plain P) (fr:Frame) (d:Dying) (ho:okF fr) (hd:d.calling=false) (w:World):xh b (die P fr d w):=by
 have hg:∀ (d:Dying),d.calling=false→Hg b (some d) fr []:=fun d hd=>⟨ho,fun _ hf=>absurd hf (List.not_mem_nil),⟨fun _ hx=>(nomatch hx),fun d' zX => .inl (by cases zX; exact hd)⟩⟩
 unfold die
 split
 ·exact GD fr d _ ho hd w
 ·split
  ·exact lQ (aV (hg d hd)) (Hj _ _ _ _)
  ·dsimp only
   split
   ·exact aV (hg _ hd)
   ·split
    ·exact aV (hg _ hd)
    ·exact trivial
   ·rename_i t recv name _
    have:=(ji hP (.fn (.method name) #[]) #[.iface t recv]).tb w #[] b7
    revert this
    generalize (invoke (.fn (.method name) #[]) #[.iface t recv]).runT P w #[]=x
    obtain⟨r,es⟩:=x
    intro this
    dsimp only
    split
    ·refine bG (bS hP _ this.2) (aV ⟨jk _ _ _ _,fun _ hf=>absurd hf (List.not_mem_nil),⟨fun _ hx=>(nomatch hx),fun d' zX => .inr rfl⟩⟩)
    ·exact bG (bS hP _ this.2) (aV (hg _ hd))
    ·exact trivial
    ·exact bG (bS hP _ (this trivial)) (pO P fr ho _ _)
    ·exact trivial
   ·exact trivial
theorem mK {b:Prop} {P:Program} (hP:Plain P) (main:Bool) (g:Goroutine) (h:Hg b g.dying g.frame g.callers) (w:World):xh b (stepG P main g w):=by
 obtain⟨fr,callers,st,dy,off⟩:=g
 unfold stepG
 dsimp only at h ⊢
 split
 ·rename_i d hc _
  exact Xr hP fr _ h.1 rfl w
 ·rename_i hd hm
  refine Sd hP main h (fun hb => ?_) w
  obtain⟨d,FU⟩:=Option.ne_none_iff_exists'.1 hb
  rcases h.2.2.2 d FU with h' | h'
  ·obtain⟨_,_,_,_,_,_,_⟩:=d
   simp only at h'
   subst h'
   exact(hd _ _ _ _ _ _ FU).elim
  ·exact h'
 ·rename_i hd hm
  refine JF hP main h (fun hb => ?_) w
  obtain⟨d,FU⟩:=Option.ne_none_iff_exists'.1 hb
  rcases h.2.2.2 d FU with h' | h'
  ·obtain⟨_,_,_,_,_,_,_⟩:=d
   simp only at h'
   subst h'
   exact(hd _ _ _ _ _ _ FU).elim
  ·exact h'
end Go.Co
end
