import Derived.Test.YtadeehilamokkaaGreatDoorPk19
namespace Go.Co
open Go
def pH:Next->Prop
 |.callThen .. |.stack .. |.numGoroutine|.collect|.watch _|.newcoro .. |.sleep _|.timer _|.alone .. =>False
 |.row r _=>r="runtime.print$piece"
 |_=>True
structure Plain (P:Program):Prop where
 count:∀(f:FuncId)(fn:Func),P.funcs[f]? =some fn->(fn.name=="runtime.NumGoroutine")=false
 quiet:∀f:FuncId,(P.funcs[f]?).any (·.norace)=false
 next:∀(f:FuncId)(fn:Func),P.funcs[f]? =some fn->fn.body.isNone=true->Extern.findNext fn=none
 find:∀(f:FuncId)(fn:Func)(e:Array Value->Sem Value),P.funcs[f]? =some fn->fn.body.isNone=true->Extern.find fn=some e->∀args,T1 P (e args)
def Td(P:Program){α:Type}(d d':Nat)(s:Sem α):Prop:=
 ∀(w:World)(es:Array Event),deafBehind 0 es=d->match s.runT P w es with
  |(.ok _ _,es')=>deafBehind 0 es'=d'
  |(.halt h _,_)=>¬RY h
section
variable {P:Program}
theorem iM{α β:Type}{d d' d'':Nat}{s:Sem α}{f:α->Sem β}(h:Td P d d' s)(hf:∀a,Td P d' d'' (f a)):Td P d d'' (s>>=f):=by
 intro w es he;rw[runT_bind'];have:=h w es he
 revert this
 cases s.runT P w es with
 |mk r es'=>
  cases r with
  |ok a w'=>exactλhb=>hf a w' es' hb
  |halt x w'=>exact id
theorem IV{α:Type}{d:Nat}(a:α):Td P d d (pure a):=λ_ _ he=>he
theorem CW{α:Type}{d d':Nat}{h:Halt}(hh:¬RY h):Td P d d' (Sem.halt h:Sem α):=λ_ _ _=>hh
theorem EL{d:Nat}:Td P d (d+1) (mark .disable):=λ_ es he=>by show deafBehind 0 (es.push _)=_;rw[dI,he]
theorem vK{d:Nat}:Td P (d+1) d (mark .enable):=λ_ es he=>by show deafBehind 0 (es.push _)=_;rw[dI,he];rfl
theorem rP{d:Nat}{es es':Array Event}(he:deafBehind 0 es=d)(h:∀e∈es',∃a,e.loc=.cell a):deafBehind 0 (es++es')=d:=by
 obtain⟨l⟩:=es';rw[gC,he];induction l with
 |nil=>rfl
 |cons e l ih=>
  have e1:(⟨e::l⟩:Array Event)=#[e]++⟨l⟩:=ae
  rw[e1,gC];have:deafBehind d #[e]=d:=by obtain⟨a,ha⟩:=h e ae;have:=dI d #[] e;rw[ha]at this;exact this
  rw[this];exact ih λx hx=>h x (by simp at hx⊢;exact .inr hx)
theorem aa5{d:Nat}(a:Addr)(m:Mode):Td P d d (load a m):=by
 intro w es he;unfold load;simp only[Sem.runT];cases w.cell? a with
 |some v=>show deafBehind 0 (es.push _)=_;rw[dI,he]
 |none=>
  cases hf:w.farLoad P a (m==.atomic)with
  |ok r=>exact rP he ae
  |error x=>
   show¬RY x;unfold World.farLoad at hf;split at hf;split at hf;cases hf;cases hf;exact id
   simp only[Except.error.injEq]at hf;subst hf;unfold World.noCell;split<;>exact id
theorem KS{d:Nat}(a:Addr)(v:Value)(m:Mode):Td P d d (store a v m):=by
 intro w es he;unfold store;cases v<;>simp only[Sem.runT]<;>first
  |exact id
  |(cases w.cell? a with
   |some _=>
    by_cases hz:w.frozen? a=true;simp only[hz,if_true];exact id
    simp only[hz,if_false,aJ];show deafBehind 0 (es.push _)=_;rw[dI,he]
   |none=>
    generalize hf:w.farStore P a _ _=r;cases r with
    |ok r=>exact rP he ae
    |error x=>
     show¬RY x;unfold World.farStore at hf;split at hf;split at hf;cases hf;cases hf;exact id
     simp only[Except.error.injEq]at hf;subst hf;unfold World.noCell;split<;>exact id)
theorem xD{d:Nat}:Td P d d program:=λ_ _ he=>he
theorem KT{α:Type}{s:Sem α}(h:Td P 0 0 s):Tb P (λ_=>True) s:=by
 intro w es he;have:=h w es he
 revert this
 cases s.runT P w es with
 |mk r es'=>
  cases r with
  |ok a w'=>exactλhb=>⟨trivial,hb⟩
  |halt x w'=>exactλhb hl=>absurd hl hb
theorem t_of_td{α:Type}{s:Sem α}(h:Td P 0 0 s)(hp:Pf P s):T1 P s:=⟨KT h,hp⟩
theorem P6{d:Nat}:Td P d d Extern.PrintPieces.held:=by unfold Extern.PrintPieces.held;refine iM xD λp=>iM (aa5 _ _) λv=>?_;split;exact IV _;exact CW id
theorem BP{α β:Type}{d d':Nat}{h:Halt}(hh:¬RY h)(f:α->Sem β):Td P d d' ((Sem.halt h:Sem α)>>=f):=λ_ _ _=>hh
theorem zO{α β:Type}{d d':Nat}(m:String)(f:α->Sem β):Td P d d' ((stuck m:Sem α)>>=f):=λ_ _ _=>id
theorem EK{α β:Type}{d d':Nat}(m:Unsupported)(f:α->Sem β):Td P d d' ((unsupported m:Sem α)>>=f):=λ_ _ _=>id
theorem KR{α:Type}{d d':Nat}(m:String):Td P d d' (stuck m:Sem α):=CW id
theorem Xs(fd:Nat)(b:ByteArray):Td P 0 0 (writeFd fd b):=by
 intro w es he;unfold writeFd;simp only[Sem.runT];have h0:deafBehind 0 (es.push ⟨.output,true,false⟩)=0:=by rw[dI,he]
 split;rename_i h;revert h;split<;>intro h<;>simp only[Sem.runT]at h
 cases h;cases h
 grind
 rename_i h;revert h;split<;>intro h<;>simp only[Sem.runT]at h
 cases h;exact id
 cases h;exact id
 cases h
theorem JG(v:Value):pH (.value v):=trivial
theorem OI(a:Array Value):pH (.row "runtime.print$piece" a):=rfl
def Yl(P:Program){α:Type}(Q:α->Prop)(s:Sem α):Prop:=∀w es a w' es',s.runT P w es=(.ok a w',es')->Q a
theorem IP{α:Type}{Q:α->Prop}{a:α}(h:Q a):Yl P Q (pure a:Sem α):=λ_ _ _ _ _ e=>by cases e;exact h
theorem PZ{α:Type}{Q:α->Prop}(h:Halt):Yl P Q (Sem.halt h:Sem α):=λ_ _ _ _ _ e=>aE
theorem aaN{α β:Type}{Q:β->Prop}{s:Sem α}{f:α->Sem β}(h:∀a,Yl P Q (f a)):Yl P Q (s>>=f):=by
 intro w es b w' es' e;rw[runT_bind']at e
 revert e
 cases s.runT P w es with
 |mk r es'=>
  cases r with
  |ok a w'=>exactλe=>h a _ _ _ _ _ e
  |halt x w'=>exactλe=>aE
theorem Ei(a b:Array TypeId)(args:Array Value):Yl P pH (Extern.PrintPieces.piece a b args):=by
 unfold Extern.PrintPieces.piece
 (repeat' first|(with_reducible exact IP (JG _))|(with_reducible exact IP (OI _))|(with_reducible exact PZ _)|(with_reducible refine aaN (λ_=>?_))|split|dsimp only|exact IP rfl|exact PZ _)
theorem Xt(a b:Array TypeId)(args:Array Value):Td P 0 0 (Extern.PrintPieces.piece a b args):=by
 unfold Extern.PrintPieces.piece
 (repeat' first|(with_reducible exact KR _)|(with_reducible exact IV _)|(with_reducible refine zO _ _)|(with_reducible refine EK _ _)|(with_reducible refine BP id _)|(with_reducible refine iM EL (λ_=>?_))|(with_reducible refine iM vK (λ_=>?_))|(with_reducible exact vK)|(with_reducible refine iM P6 (λ_=>?_))|(with_reducible refine iM xD (λ_=>?_))|(with_reducible refine iM (KS _ _ _) (λ_=>?_))|(with_reducible refine iM (Xs _ _) (λ_=>?_))|split|dsimp only)
instance (t:TypeId) (x:Place):TC P (Place.get t x):=⟨by cases x<;>unfold Place.get<;>first|exact TC.out|exact aX trivial⟩
theorem t_follow:∀(l:List FieldStep)(t:TypeId)(x:Place),T1 P (follow l t x)
 |[],_,_=>aX trivial
 |s::rest,t,x=>by
  have ih:=t_follow rest;unfold follow
  (repeat' first|exact ih _ _|exact TC.out|(with_reducible refine aA ?_ (λ_=>?_))|(with_reducible refine ja ?_ ?_)|split|dsimp only)
instance (l:List FieldStep) (t:TypeId) (x:Place):TC P (follow l t x):=⟨t_follow l t x⟩
instance (t:TypeId) (x:Place) (b:Bool) (o:Option String):TC P (receiverAt t x b o):=⟨by
 unfold receiverAt
 (repeat' first|exact TC.out|(with_reducible refine aA ?_ (λ_=>?_))|(with_reducible refine ve ?_ (λ_=>trivial))|(with_reducible exact aX trivial)|(with_reducible refine t_forInArray _ (λ_ _=>?_) _ _)|(with_reducible refine t_forInList _ (λ_ _=>?_) _ _)|(with_reducible refine t_forInRange _ (λ_ _=>?_) _ _)|(with_reducible refine t_mapMArray _ (λ_=>?_) _)|(with_reducible refine t_mapMList _ (λ_=>?_) _)|(with_reducible refine ja ?_ ?_)|split|dsimp only)⟩
instance (t:TypeId) (v:Value) (p:Array FieldStep) (b:Bool):TC P (receiverVia t v p b):=⟨by
 unfold receiverVia
 (repeat' first|exact TC.out|(with_reducible refine aA ?_ (λ_=>?_))|(with_reducible refine ve ?_ (λ_=>trivial))|(with_reducible exact aX trivial)|(with_reducible refine t_forInArray _ (λ_ _=>?_) _ _)|(with_reducible refine t_forInList _ (λ_ _=>?_) _ _)|(with_reducible refine t_forInRange _ (λ_ _=>?_) _ _)|(with_reducible refine t_mapMArray _ (λ_=>?_) _)|(with_reducible refine t_mapMList _ (λ_=>?_) _)|(with_reducible refine ja ?_ ?_)|split|dsimp only)⟩
theorem t_method:∀(d:Nat)(t:TypeId)(v:Value)(n:String),T1 P (method d t v n)
 |0,_,_,_=>fO _
 |d+1,t,v,n=>by
  have ih:=t_method d;unfold method
  (repeat' first|exact ih _ _ _|exact TC.out|(with_reducible refine aA ?_ (λ_=>?_))|(with_reducible refine ja ?_ ?_)|split|dsimp only)
instance (d:Nat) (t:TypeId) (v:Value) (n:String):TC P (method d t v n):=⟨t_method d t v n⟩
theorem t_followBlind:∀(l:List FieldStep)(t:TypeId)(x:Option Value),T1 P (followBlind l t x)
 |[],_,_=>aX trivial
 |s::rest,t,x=>by
  have ih:=t_followBlind rest;unfold followBlind
  (repeat' first|exact ih _ _|exact TC.out|(with_reducible refine aA ?_ (λ_=>?_))|(with_reducible refine ja ?_ ?_)|split|dsimp only)
instance (l:List FieldStep) (t:TypeId) (x:Option Value):TC P (followBlind l t x):=⟨t_followBlind l t x⟩
theorem t_nilAhead:∀(d:Nat)(t:TypeId)(v:Value)(n:String),T1 P (nilAhead d t v n)
 |0,_,_,_=>aX trivial
 |d+1,t,v,n=>by
  have ih:=t_nilAhead d;unfold nilAhead
  (repeat' first|exact ih _ _ _|exact TC.out|(with_reducible refine aA ?_ (λ_=>?_))|(with_reducible refine ja ?_ ?_)|split|dsimp only)
instance (d:Nat) (t:TypeId) (v:Value) (n:String):TC P (nilAhead d t v n):=⟨t_nilAhead d t v n⟩
instance (t:TypeId) (v:Value):TC P (Builtin.printOne t v):=⟨by
 unfold Builtin.printOne
 (repeat' first|exact TC.out|(with_reducible refine aA ?_ (λ_=>?_))|(with_reducible refine ve ?_ (λ_=>trivial))|(with_reducible exact aX trivial)|(with_reducible refine t_forInArray _ (λ_ _=>?_) _ _)|(with_reducible refine t_forInList _ (λ_ _=>?_) _ _)|(with_reducible refine t_forInRange _ (λ_ _=>?_) _ _)|(with_reducible refine t_mapMArray _ (λ_=>?_) _)|(with_reducible refine t_mapMList _ (λ_=>?_) _)|(with_reducible refine ja ?_ ?_)|split|dsimp only)⟩
theorem zP{γ σ:Type}:∀(l:List γ)(f:(c:γ)->c∈l->σ->Sem (ForInStep σ))(_:∀c hc s,T1 P (f c hc s))(s:σ),T1 P (forIn' l s f)
 |[],_,_,_=>aX trivial
 |c::l,f,h,s=>by rw[List.forIn'_cons];refine aA (h _ _ _) λr=>?_;split;exact aX trivial;exact zP l _ (λ_ _ _=>h _ _ _) _
theorem FV{σ:Type}(n:Nat)(f:(i:Nat)->i∈([:n]:Std.Legacy.Range)->σ->Sem (ForInStep σ))(h:∀i hi s,T1 P (f i hi s))(s:σ):T1 P (forIn' [:n] s f):=by rw[Std.Legacy.Range.forIn'_eq_forIn'_range'];exact zP _ _ (λ_ _ _=>h _ _ _) _
instance (ln:Bool) (c:Array Bool) (ts:Array TypeId) (args:Array Value):TC P (Builtin.pieces ln c ts args):=⟨by
 unfold Builtin.pieces
 (repeat' first|exact TC.out|(with_reducible refine aA ?_ (λ_=>?_))|(with_reducible refine ve ?_ (λ_=>trivial))|(with_reducible exact aX trivial)|(with_reducible refine FV _ _ (λ_ _ _=>?_) _)|(with_reducible refine t_forInArray _ (λ_ _=>?_) _ _)|(with_reducible refine t_forInList _ (λ_ _=>?_) _ _)|(with_reducible refine ja ?_ ?_)|split|dsimp only)⟩
abbrev TN(P:Program)(s:Sem Next):Prop:=Tm P pH s
theorem agP{s:Sem Next}(h:T1 P s)(h':Yl P pH s):TN P s:=by
 refine⟨λw es he=>?_,h.pf⟩;have:=h.tb w es he;have h2:=h' w es
 revert this h2
 cases s.runT P w es with
 |mk r es'=>grind
theorem Qw(a:Addr)(m:Mode):Pf P (load a m):=(t_load a m).pf
theorem Yk(a:Addr)(v:Value)(m:Mode):Pf P (store a v m):=(t_store a v m).pf
theorem Lh{α:Type}(m:String):Pf P (stuck m:Sem α):=vo _
theorem ae6{α:Type}(m:Unsupported):Pf P (unsupported m:Sem α):=vo _
theorem abA:Pf P Extern.PrintPieces.held:=by
 unfold Extern.PrintPieces.held
 (repeat' first|(with_reducible exact C4 _)|(with_reducible exact vo _)|(with_reducible exact Lh _)|(with_reducible exact Qw _ _)|(with_reducible exact t_program1.pf)|(with_reducible refine Jc ?_ (λ_=>?_))|split|dsimp only)
theorem Ym(a b:Array TypeId)(args:Array Value):Pf P (Extern.PrintPieces.piece a b args):=by
 unfold Extern.PrintPieces.piece
 (repeat' first|(with_reducible exact C4 _)|(with_reducible exact vo _)|(with_reducible exact Lh _)|(with_reducible exact ae6 _)|(with_reducible exact Qw _ _)|(with_reducible exact Yk _ _ _)|(with_reducible exact Qv _)|(with_reducible exact abA)|(with_reducible exact(t_writeFd _ _).pf)|(with_reducible exact t_program1.pf)|(with_reducible refine Jc ?_ (λ_=>?_))|split|dsimp only)
theorem KP(a b:Array TypeId)(args:Array Value):TN P (Extern.PrintPieces.piece a b args):=agP (t_of_td (Xt a b args) (Ym a b args)) (Ei a b args)
theorem Fp(ln:Bool)(c:Array Bool)(ts:Array TypeId)(args:Array Value):TN P (Builtin.printMarked ln c ts args):=by unfold Builtin.printMarked;refine aA TC.out λps=>?_;split;exact aX trivial;exact KP _ _ _
theorem Z8{s:Sem Value}(h:T1 P s):TN P (do pure (.value (<-s))):=aA h λ_=>aX trivial
theorem aiO{s:Sem Unit}(h:T1 P s):TN P (do s;pure .skip):=aA h λ_=>aX trivial
theorem Oa(b:Builtin)(ts:Array TypeId)(t:TypeId)(c:Array Bool)(args:Array Value):TN P (builtin b ts t c args):=by
 unfold builtin;dsimp only;split<;>first
  |(with_reducible exact Z8 TC.out)
  |exact Fp _ _ _ _
  |exact aX trivial
  |exact ak _
  |exact fO _
  |exact aA TC.out λ_=>aX trivial
theorem uH(hP:Plain P)(f:FuncId)(args:Array Value):TN P (callFunc f args):=by unfold callFunc;refine Ob ?_;split;exact ak _;rename_i fn UT;rw[hP.count f fn UT];simp only[aJ,if_false];split;rename_i hb;refine aA (t_mark ae) λ_=>?_;rw[hP.next f fn UT hb];dsimp only;split;rename_i e he;exact Z8 (hP.find f fn e UT hb he args);split;exact aX trivial;exact fO _;exact aX trivial
theorem kO{α:Type}{R:α->Prop}(e:RuntimeError):Tm P R (runtimePanic e:Sem α):=by unfold runtimePanic;refine aA t_program1 λp=>?_;dsimp only;split<;>first|exact EJ _|exact aA TC.out λ_=>aA TC.out λ_=>EJ _
theorem wS(hP:Plain P)(r:Value)(n:String)(args:Array Value):TN P (callMethod r n args):=by unfold callMethod;split;refine aA t_program1 λp=>aA TC.out λx=>?_;exact uH hP _ _;exact kO _;exact ak _
theorem mF(hP:Plain P)(t:Target)(args:Array Value):TN P (invoke t args):=by unfold invoke;split;exact kO _;exact Oa _ _ _ _ _;exact uH hP _ _;split;exact wS hP _ _ _;exact ak _;split;refine aA TC.out λ_=>?_;exact wS hP _ _ _;exact ak _;split;refine aA TC.out λ_=>?_;exact uH hP _ _;exact ak _;unfold Instr.yield;refine aA TC.out λr=>?_;dsimp only;split;exact aA (ak _) λ_=>aX trivial;exact aX trivial;exact ak _;exact aX trivial
instance (f:Value) (args:Array Value):TC P (Deferred.ofValue f args):=⟨by
 unfold Deferred.ofValue
 split<;>first|exact aX trivial|exact ak _⟩
instance (ρ:Operand->Value) (c:Call) (t:TypeId):TC P (resolve ρ c t):=⟨by
 unfold resolve
 dsimp only
 split<;>first|exact aX trivial|exact TC.out⟩
theorem GF(hP:Plain P)(ρ:Operand->Value)(o:Oper):TN P (execOp ρ o):=by
 unfold execOp;dsimp only;split<;>first
  |(with_reducible exact Z8 TC.out)
  |(with_reducible exact aiO TC.out)
  |exact aX trivial
  |exact aA TC.out λ_=>aX trivial
  |exact aA TC.out λ_=>mF hP _ _
  |skip
 split<;>first
  |exact kO _
  |exact aX trivial
  |skip
 split<;>first
  |exact kO _
  |exact aX trivial
  |skip
 refine aA t_program1 λ_=>aA TC.out λ_=>?_;split;exact aA (fO _) λ_=>aX trivial;exact aX trivial;exact Z8 (aA TC.out λ_=>TC.out);refine aA TC.out λ_=>?_;split;exact aA TC.out λ_=>aX trivial;exact ak _;exact aA (t_mapMArray _ (λ_=>aA TC.out λ_=>aX trivial) _) λ_=>aX trivial
instance (fn:Func) (ts:Array Value):TC P (results fn ts):=⟨by
 unfold results
 refine aA (t_mapMArray _ (λr=>?_) _) λvs=>?_
 .split
  .exact aX trivial
  .exact aA TC.out λ_=>TC.out
 .split<;>exact aX trivial⟩
end
end Go.Co
namespace Go.Co
open Go
def DN:Item->Prop
 |.call .. =>False
 |.extern r _=>r="runtime.print$piece"
 |_=>True
def okF(fr:Frame):Prop:=∀i∈fr.todo,DN i
def BK(fr:Frame)(callers:List Frame):Prop:=match callers.getLast? with|none=>fr.kind=.report|some f=>f.kind=.report
def Hg(b:Prop)(dy:Option Dying)(fr:Frame)(callers:List Frame):Prop:=
 okF fr/\(∀f∈callers,okF f)/\((b->dy≠none)/\∀d,dy=some d->(d.calling=false\/BK fr callers))
def CS(b:Prop):GStep->Prop
 |.go g _ es=>Gf es/\Hg b g.dying g.frame g.callers/\(∀t,g.status≠.sleeping t)/\g.status≠.parked
 |.comm g _ _ _ _ es=>Gf es/\Hg b g.dying g.frame g.callers/\g.status=.running
 |.spawn g _ _ es=>Gf es/\Hg b g.dying g.frame g.callers
 |.coroswitch g _ _ _ es=>Gf es/\Hg b g.dying g.frame g.callers
 |.ended .. =>True
 |_=>False
theorem cB{b:Prop}{es:Array Event}{s:GStep}(he:Gf es)(h:CS b s):CS b (GStep.after es s):=by cases s<;>first|exact⟨sO he h.1,h.2⟩|exact h
theorem bH{b:Prop}{dy:Option Dying}{fr:Frame}{callers:List Frame}{st:GoStatus}{off:Option (Array CommCase×CommShape)}{w:World}(h:Hg b dy fr callers)(hs:(∀t,st≠.sleeping t)/\st≠.parked:=by simp):CS b (.go ⟨fr,callers,st,dy,off⟩ w):=⟨di,h,hs⟩
variable {b:Prop} {dy:Option Dying} {fr fr':Frame} {callers jk:List Frame}
theorem BD(h:Hg b dy fr callers)(hk:fr'.kind=fr.kind)(ho:okF fr'):Hg b dy fr' callers:=by
 refine⟨ho,h.2.1,h.2.2.1,λd hd=>(h.2.2.2 d hd).imp id ?_⟩;unfold BK;cases callers.getLast? with
 |none=>exactλe=>hk.trans e
 |some f=>exact id
theorem mZ(h:Hg b dy fr callers)(ho:okF fr'):Hg b dy fr' (fr::callers):=by
 refine⟨ho,λf hf=>?_,h.2.2.1,λd hd=>(h.2.2.2 d hd).imp id ?_⟩;rcases aV.1 hf with rfl|hf;exact h.1;exact h.2.1 f hf;unfold BK;rw[List.getLast?_cons];cases callers.getLast? with
 |none=>exact id
 |some f=>exact id
theorem xy{c:Frame}{rest:List Frame}(h:Hg b dy fr (c::rest))(hk:fr'.kind=c.kind)(ho:okF c->okF fr'):Hg b dy fr' rest:=by
 refine⟨ho (h.2.1 c ae),λf hf=>h.2.1 f (by simp[hf]),h.2.2.1,λd hd=>(h.2.2.2 d hd).imp id ?_⟩;unfold BK;rw[List.getLast?_cons];cases rest.getLast? with
 |none=>exactλe=>hk.trans e
 |some f=>exact id
theorem Ln{fr fr':Frame}(h:okF fr)(e:∀i∈fr'.todo,i∈fr.todo\/DN i):okF fr':=λi hi=>(e i hi).elim (h i) id
theorem Lp{fr fr':Frame}(h:okF fr)(e:fr'.todo=fr.todo):okF fr':=λi hi=>h i (e▸hi)
theorem xN(h:okF fr)(v:Value):okF (fr.finish v):=by unfold Frame.finish;split;rename_i hk;intro i hi;rcases aV.1 hi with rfl|hi;trivial;exact h i (by rw[hk];simp[hi]);rename_i hk;intro i hi;rcases aV.1 hi with rfl|hi;trivial;exact h i (by rw[hk];simp[hi]);rename_i hk;intro i hi;exact h i (by rw[hk];simp[hi]);rename_i hk;exact absurd (h _ (by rw[hk];exact gO ..)) id;rename_i hk;intro i hi;exact h i (by rw[hk];simp[hi]);exact h
theorem uN(fr:Frame)(v:Value):(fr.finish v).kind=fr.kind:=by unfold Frame.finish;split<;>rfl
theorem G4(h:okF fr)(l:List PanicEntry):okF (fr.raise l):=by unfold Frame.raise;split<;>exact h
theorem Ff(fr:Frame)(l:List PanicEntry):(fr.raise l).kind=fr.kind:=by unfold Frame.raise;split<;>rfl
theorem mH(P:Program)(f:FuncId)(args:Array Value)(k:CallKind):okF (Frame.enter P f args k):=by intro i hi;simp only[Frame.enter,bX]at hi;subst hi;trivial
theorem G0(l:Nat)(f:FuncId)(tmps:Array Value)(a c:Code)(k:CallKind):okF (Frame.round l f tmps a c k):=by intro i hi;simp only[Frame.round,aV,ek,or_false]at hi;rcases hi with rfl|rfl|rfl<;>trivial
theorem QC(P:Program)(args:Array Value)(k:CallKind):okF (Frame.ofRow P "runtime.print$piece" args k):=by intro i hi;simp only[Frame.ofRow,bX]at hi;subst hi;exact rfl
theorem er(h:Hg b dy fr callers)(v:Value):Hg b dy (fr.finish v) callers:=BD h (uN _ _) (xN h.1 v)
theorem rC(h:Hg b dy fr callers)(l:List PanicEntry):Hg b dy (fr.raise l) callers:=BD h (Ff _ _) (G4 h.1 l)
theorem vw(h:Hg b dy fr callers)(hk:fr'.kind=fr.kind)(ht:fr'.todo=fr.todo):Hg b dy fr' callers:=BD h hk (Lp h.1 ht)
theorem sN:∀{fr:Frame}{callers jk:List Frame}{v:Value},tryRecover fr callers=some (v,jk)->Hg b dy fr callers->Hg b dy fr jk:=by
 intro fr callers;induction callers generalizing fr with
 |nil=>intro jk v e;simp[tryRecover]at e
 |cons c rest ih=>intro jk v e h;unfold tryRecover at e;split at e;rename_i hc;simp only[List.cons.injEq]at hc;obtain⟨rfl,rfl⟩:=hc;split at e;simp only[aF,az]at e;obtain⟨-,rfl⟩:=e;refine⟨h.1,λf hf=>?_,h.2.2.1,λd hd=>(h.2.2.2 d hd).imp id ?_⟩;rcases aV.1 hf with rfl|hf;exact Lp (h.2.1 _ (gO ..)) rfl;exact h.2.1 f (by simp[hf]);unfold BK;rw[List.getLast?_cons,List.getLast?_cons];cases rest.getLast?<;>exact id;cases e;rename_i hc;simp only[List.cons.injEq]at hc;obtain⟨rfl,rfl⟩:=hc;simp only[af,Prod.exists,az]at e;obtain⟨a,r,e,rfl,rfl⟩:=e;exact mZ (ih e (xy (fr':=c) h rfl id)) h.1;cases e
theorem Fu:∀{l:Nat}{fr:Frame}{callers jk:List Frame}{v:Value},tryRecoverLoop l callers=some (v,jk)->Hg b dy fr callers->Hg b dy fr jk:=by
 intro l fr callers;induction callers generalizing fr l with
 |nil=>intro jk v e;simp[tryRecoverLoop]at e
 |cons c rest ih=>
  intro jk v e h;unfold tryRecoverLoop at e;simp only[af,Prod.exists,az]at e;obtain⟨a,r,e,rfl,rfl⟩:=e;have h':=xy (fr':=c) h rfl id;have:Hg b dy c r:=by
   split at e
   grind
   split at e;exact sN e h'
   grind
   grind
  exact mZ this h.1
theorem Ua(d:Nat)(e:Event)(es:List Event):deafBehind d ⟨e::es⟩=deafBehind (deafBehind d #[e]) ⟨es⟩:=by
 have e1:(⟨e::es⟩:Array Event)=#[e]++⟨es⟩:=ae
 rw[e1,gC]
theorem Fq{P:Program}(hq:∀f:FuncId,(P.funcs[f]?).any (·.norace)=false)(fn:FuncId)(es:Array Event)(d:Nat):deafBehind d (seen P fn es)=deafBehind d es:=by
 obtain⟨l⟩:=es;have key:∀(l:List Event)(kept:Array Event),deafBehind d (l.foldl (λ(x:Bool×Array Event) e=>
   match e.loc with
   |.mark (.extern _)=>(false,x.2)
   |_=>(x.1,if x.1&&!e.sync then x.2 else x.2.push e)) (false,kept)).2=deafBehind (deafBehind d kept) ⟨l⟩:=by
  intro l;induction l with
  |nil=>intro kept;rfl
  |cons e l ih=>intro kept;rw[oG,Ua];split;rename_i f hf;rw[ih];congr 1;have:=dI (deafBehind d kept) #[] e;rw[hf]at this;exact this.symm;simp only[Bool.false_and,aJ,if_false];rw[ih];congr 1;rw[<-gC];rfl
 have:=key l #[];unfold seen;simp only[hq];rw[<-yZ];exact this
theorem cR{P:Program}(hP:Plain P)(fn:FuncId){es:Array Event}(h:Gf es):Gf (seen P fn es):=by unfold Gf;rw[Fq hP.quiet];exact h
theorem qq{b:Prop}{c:Prop}[Decidable c]{x y:GStep}(hx:CS b x)(hy:CS b y):CS b (if c then x else y):=by split<;>assumption
theorem LR{b:Prop}(fr:Frame)(h:okF fr)(a:List ByteArray)(m:String)(x:Bool)(w:World):CS b (dieOf fr a m x w):=
 ⟨di,⟨h,λ_ hf=>absurd hf (ek),⟨λ_ hx=>(nomatch hx),λd hd=>.inl (by cases hd;rfl)⟩⟩,ae⟩
theorem qG{b:Prop}(fr:Frame)(h:okF fr)(m:String)(w:World):CS b (endThrow fr m w):=LR fr h _ _ _ w
theorem Ce{b:Prop}(P:Program)(fr:Frame)(h:okF fr)(callers:List Frame)(dy:Option Dying)(m:String)(w:World):CS b (endFatal P fr callers dy m w):=by unfold endFatal;dsimp only;split;exact LR fr h _ _ _ _;exact trivial;exact trivial
theorem uW{b:Prop}(P:Program)(fr:Frame)(h:okF fr)(v:Value)(w:World):CS b (endPrinting P fr v w):=by unfold endPrinting;dsimp only;split;exact qG fr h _ _;exact trivial
theorem O4{b:Prop}(w:World)(fd:Nat)(t:ByteArray)(o:Outcome):CS b (endWith w fd t o):=by unfold endWith;dsimp only;split;split<;>exact trivial;exact trivial;exact trivial
theorem zC{P:Program}:∀(l:cy),Hg b dy fr callers->∀f,Hg b dy (Frame.enter P f #[] .early) (l.map (Frame.enter P · #[] .early)++fr::callers)
 |[],h,f=>mZ h (by exact mH _ _ _ _)
 |x::l,h,f=>mZ (zC l h x) (by exact mH _ _ _ _)
theorem YZ(P:Program)(h:Hg b dy fr callers)(g:Nat)(w:World):CS b (early P fr callers dy g w):=by
 have notYet:∀w:World,CS b
   (match w.heap[g]? with
    |some (.pending c elem)=>.go {frame:=fr,callers,status:=.running,dying:=dy} {w with heap:=w.heap.setIfInBounds g (.cells c elem)}
    |_=>.ended (.stuck "early: the variable does not wait" (fr.pos P)) w):=by
  intro w;split;exact bH h;exact trivial
 unfold early;dsimp only;split
 grind
 split;exact trivial;split
 grind
 split
 grind
 split;exact trivial;exact bH (zC _ h _);exact trivial
 grind
 split;exact bH (zC _ h _);split
 grind
 split
 grind
 exact bH (zC _ h _);exact trivial
theorem uG{P:Program}(hP:Plain P)(h:Hg b dy fr callers){s:Sem Next}(hs:TN P s)(w:World):CS b (stepG.apply P true fr callers dy s w):=by
 unfold stepG.apply;have:=hs.tb w #[] di
 revert this
 generalize s.runT P w #[]=x;obtain⟨r,es⟩:=x;simp only[if_true];intro this;cases r with
 |ok a w'=>
  obtain⟨hn,he⟩:=this;refine cB (cR hP _ (by split<;>first|exact di|exact he)) ?_;cases a with
  |callThen d r s x=>exact absurd hn id
  |stack r s=>exact absurd hn id
  |row r args=>have hr:r="runtime.print$piece":=hn;subst hr;dsimp only;split;rename_i k hk;refine bH (BD h rfl ?_);intro i hi;rcases aV.1 hi with rfl|hi;exact rfl;exact h.1 i (by rw[hk];simp[hi]);exact bH (mZ h (by exact QC _ _ _))
  |value v=>exact bH (er h v)
  |skip=>exact bH (er h _)
  |enter f args=>exact bH (mZ h (by exact mH _ _ _ _))
  |round l f tmps as body=>exact bH (mZ h (by exact G0 _ _ _ _ _ _))
  |defer d=>exact bH (er (fr:={fr with defers:=d::fr.defers}) (vw h rfl rfl) _)
  |recover=>dsimp only;split;rename_i v jk e;split at e;split at e;exact bH (er (sN e h) _);exact bH (er (Fu e h) _);exact bH (er (sN e h) _);exact bH (er h _)
  |comm c bl sh=>exact⟨di,h,rfl⟩
  |coroswitch c x=>exact⟨di,h⟩
  |spawn d=>dsimp only;exact qq (qG fr h.1 _ _) ⟨di,er h _⟩
  |_=>exact absurd hn id
 |halt x w'=>
  cases x with
  |panic v=>exact cB (cR hP _ (by split<;>first|exact di|exact this trivial)) (bH (rC h _))
  |goexit=>exact cB (cR hP _ (by split<;>first|exact di|exact this trivial)) (bH (rC h _))
  |blocked=>exact cB (cR hP _ (by split<;>exact di)) (bH h)
  |waiting=>exact cB (cR hP _ (by split<;>exact di)) (bH h)
  |fatal m=>exact cB (cR hP _ (by split<;>first|exact di|exact this trivial)) (Ce P fr h.1 _ _ _ _)
  |throw m=>exact cB (cR hP _ (by split<;>first|exact di|exact this trivial)) (qG fr h.1 _ _)
  |unsupported u=>
   cases u with
   |initOrder g=>exact cB (cR hP _ (by split<;>exact di)) (YZ P h _ _)
   |_=>exact trivial
  |exit c=>exact trivial
  |stuck s=>exact trivial
theorem abD{P:Program}(hP:Plain P)(h:Hg b dy fr callers)(w:World):CS b (stepG.oper P true fr callers dy w):=by unfold stepG.oper;split;exact trivial;split;refine uG hP h ?_ w;exact aA TC.out λ_=>aA TC.out λ_=>aX trivial;exact uG hP h (GF hP _ _) w
theorem uR(P:Program)(main:Bool)(h:Hg b dy fr callers)(hx:dy≠none->BK fr callers)(v:Value)(w:World):CS b (doReturn P main fr callers dy v w):=by
 unfold doReturn;split;rename_i c rest;split;exact bH (xy h (uN _ _) λhc=>xN hc _);exact bH (xy h (uN _ _) λhc=>xN hc _);exact bH (xy h rfl id);dsimp only;refine bH (xy h ?_ λhc=>?_)
 grind
 split;split<;>exact hc;exact hc;split;exact bH ⟨h.1,h.2.1,⟨λ_ hx=>(nomatch hx),λd hd=>.inl (by cases hd;rfl)⟩⟩;exact trivial;rename_i hk _;have nb:b->False:=λhb=>hk (hx (h.2.2.1 hb));split;exact bH ⟨h.1,h.2.1,λhb=>(nb hb).elim,λd hd=>(nomatch hd)⟩;split;exact bH ⟨mH _ _ _ _,h.2.1,λhb=>(nb hb).elim,λd hd=>(nomatch hd)⟩;exact trivial
theorem CH{P:Program}(hP:Plain P)(h:Hg b dy fr callers)(d:Deferred)(w:World):CS b (callDeferred P fr callers dy d w):=by
 unfold callDeferred;refine qq trivial ?_;have:=(mF hP d.target d.args).tb w #[] di
 revert this
 generalize(invoke d.target d.args).runT P w #[]=x;obtain⟨r,es⟩:=x;intro this;dsimp only;cases r with
 |ok a w'=>
  obtain⟨hn,he⟩:=this;refine cB (cR hP _ he) ?_;cases a with
  |callThen d r s x=>exact absurd hn id
  |stack r s=>exact absurd hn id
  |row r args=>have hr:r="runtime.print$piece":=hn;subst hr;exact bH (mZ h (QC _ _ _))
  |enter f args=>exact bH (mZ h (mH _ _ _ _))
  |round l f tmps as body=>exact bH (mZ h (G0 _ _ _ _ _ _))
  |recover=>dsimp only;split;rename_i e;exact bH (sN e h);exact bH h
  |coroswitch c x=>cases x<;>first|exact trivial|exact⟨di,h⟩
  |value v=>exact bH h
  |skip=>exact bH h
  |defer d=>exact bH h
  |spawn d=>exact bH h
  |comm c bl sh=>exact bH h
  |_=>exact absurd hn id
 |halt x w'=>
  cases x with
  |panic v=>exact cB (cR hP _ (this trivial)) (bH (rC h _))
  |goexit=>exact cB (cR hP _ (this trivial)) (bH (rC h _))
  |blocked=>exact cB (cR hP _ di) (bH (vw h rfl rfl))
  |waiting=>exact cB (cR hP _ di) (bH (vw h rfl rfl))
  |fatal m=>exact cB (cR hP _ (this trivial)) (Ce P fr h.1 _ _ _ _)
  |throw m=>exact cB (cR hP _ (this trivial)) (qG fr h.1 _ _)
  |unsupported u=>exact trivial
  |exit c=>exact trivial
  |stuck s=>exact trivial
theorem Sj{P:Program}(hP:Plain P)(main:Bool)(h:Hg b dy fr callers)(hx:dy≠none->BK fr callers)(w:World):CS b (unwind P main fr callers dy w):=by
 unfold unwind;split;rename_i block args ds hk;have:=(TC.out:T1 P (Instr.takeDeferred block)).tb w #[] di
 revert this
 generalize(Instr.takeDeferred block).runT P w #[]=x;obtain⟨r,es⟩:=x;intro this;cases r with
 |ok a w'=>exact cB (cR hP _ this.2) (bH (vw h rfl rfl))
 |halt x w'=>exact trivial
 rename_i d ds _ _;exact CH (fr:={fr with defers:=ds}) hP (vw h rfl rfl) _ w;split;exact trivial;refine qq trivial ?_;split;exact bH (xy h (Ff _ _) λhc=>G4 hc _);split;refine qq (bH ⟨h.1,h.2.1,h.2.2.1,λd hd=>(nomatch hd)⟩) ?_;split;exact bH ⟨h.1,h.2.1,⟨λ_ hx=>(nomatch hx),λd hd=>.inl (by cases hd;rfl)⟩⟩;exact trivial;exact trivial;split;exact uW P fr h.1 _ _;exact trivial;split;exact uR P main h hx _ w;rename_i fn _;have:=(TC.out:T1 P (results fn fr.tmps)).tb w #[] di
 revert this
 generalize(results fn fr.tmps).runT P w #[]=x;obtain⟨r,es⟩:=x;intro this;cases r with
 |ok a w'=>exact cB (cR hP _ this.2) (uR P main h hx _ _)
 |halt x w'=>cases x<;>exact trivial
theorem xO{id:Nat}:∀{k k':List Item},exitTo id k=some k'->∀i∈k',i∈k
 |[],_,e=>by simp[exitTo]at e
 |x::k,k',e=>by
  unfold exitTo at e;split at e;rename_i hk;cases hk;split at e
  grind
  exactλi hi=>by simp[xO e i hi]
  rename_i hk;cases hk;exactλi hi=>by simp[xO e i hi]
  grind
theorem xM{l:Nat}:∀{k k':List Item},gotoIn l k=some k'->∀i∈k',i∈k\/DN i
 |[],_,e=>by simp[gotoIn]at e
 |x::k,k',e=>by
  unfold gotoIn at e;split at e;rename_i hk;cases hk;split at e;cases e;intro i hi;rcases aV.1 hi with rfl|hi;exact .inr trivial
  grind
  intro i hi;rcases xM e i hi with h|h
  grind
  grind
  rename_i hk;cases hk;intro i hi;rcases xM e i hi with h|h
  grind
  grind
  grind
theorem Fa{P:Program}{e:Array Value->Sem Next}(h:Extern.next "runtime.print$piece"=some e)(args:Array Value):TN P (e args):=by
 have:Extern.next "runtime.print$piece"=some (Extern.PrintPieces.piece #[] #[]):=by rfl
 rw[this]at h;cases h;exact KP _ _ _
theorem ab5{P:Program}(hP:Plain P)(main:Bool)(h:Hg b dy fr callers)(hx:dy≠none->BK fr callers)(w:World):CS b (stepG.exec P main true fr callers dy w):=by
 have leave:∀jump:Option Code,CS b
   (match fr.roundOf with
    |none=>if jump matches none|some .ret then .go {frame:={fr with mode:=.returning},callers,status:=.running,dying:=dy} w else .ended (.stuck "exit, goto: no such block or label" (fr.pos P)) w
    |some l=>
     GStep.after (seen P fr.fn ((Instr.endRound l jump).runT P w #[]).2)<|match((Instr.endRound l jump).runT P w #[]).1 with
     |.ok v w=>doReturn P main fr callers dy v w
     |.halt _ w=>.ended (.stuck "range over a function: no such loop" (fr.pos P)) w):=by
  intro jump;cases fr.roundOf with
  |none=>exact qq (bH (vw h rfl rfl)) trivial
  |some l=>
   dsimp only;have:=(TC.out:T1 P (Instr.endRound l jump)).tb w #[] di
   revert this
   generalize(Instr.endRound l jump).runT P w #[]=x;obtain⟨r,es⟩:=x;intro this;cases r with
   |ok a w'=>exact cB (cR hP _ this.2) (uR P main h hx _ _)
   |halt x w'=>exact trivial
 have to:∀(todo:List Item),(∀i∈todo,i∈fr.todo\/DN i)->CS b (.go {frame:={fr with todo},callers,status:=.running,dying:=dy} w):=
  λtodo ht=>bH (BD h rfl (Ln h.1 ht))
 have ho:=h.1;unfold stepG.exec;dsimp only;split;exact leave none;exact leave (some .ret);rename_i k hk;exact to k (λi hi=>.inl (by rw[hk];simp[hi]))
 rename_i k hk;exact to k (λi hi=>.inl (by rw[hk];simp[hi]))
 rename_i k hk;exact to k (λi hi=>.inl (by rw[hk];simp[hi]))
 rename_i k hk;exact to k (λi hi=>.inl (by rw[hk];simp[hi]))
 rename_i x y k hk;refine to _ λi hi=>?_;rcases aV.1 hi with rfl|hi;exact .inr trivial;rcases aV.1 hi with rfl|hi;exact .inr trivial;exact .inl (by rw[hk];simp[hi]);rename_i c x y k hk;split;refine to _ λi hi=>?_;rcases aV.1 hi with rfl|hi;exact .inr trivial;exact .inl (by rw[hk];simp[hi]);exact trivial;rename_i k hk;refine to _ λi hi=>?_;rcases aV.1 hi with rfl|hi;exact .inr trivial;rcases aV.1 hi with rfl|hi;exact .inr trivial;exact .inl (by rw[hk];simp[hi]);rename_i k hk;refine to _ λi hi=>?_;rcases aV.1 hi with rfl|hi;exact .inr trivial;rcases aV.1 hi with rfl|hi;exact .inr trivial;exact .inl (by rw[hk];simp[hi]);rename_i k hk;refine to _ λi hi=>?_;rcases aV.1 hi with rfl|hi;exact .inr trivial;rcases aV.1 hi with rfl|hi;exact .inr trivial;exact .inl (by rw[hk];simp[hi]);rename_i k hk;refine to _ λi hi=>?_;rcases aV.1 hi with rfl|hi;exact .inr trivial;rcases aV.1 hi with rfl|hi;exact .inr trivial;exact .inl (by rw[hk];simp[hi]);rename_i id k hk;cases e:exitTo id k with
 |none=>exact leave (some (.exit id))
 |some k'=>exact to k' λi hi=>.inl (by rw[hk];simp[xO e i hi])
 rename_i l k hk;cases e:gotoIn l k with
 |none=>exact leave (some (.goto l))
 |some k'=>exact to k' λi hi=>(xM e i hi).imp (λhi=>by rw[hk];simp[hi]) _root_.id
 rename_i f params assign body k hk;have:=(TC.out:T1 P (Instr.enterLoop fr.fn fr.tmps params assign body fr.roundOf)).tb w #[] di
 revert this
 generalize(Instr.enterLoop fr.fn fr.tmps params assign body fr.roundOf).runT P w #[]=x;obtain⟨r,es⟩:=x;intro this;cases r with
 |ok a w'=>refine cB (cR hP _ this.2) ?_;refine uG (fr:={fr with todo:=.inRangeFunc a.1::k,defers:=a.2++fr.defers}) hP (BD h rfl ?_) (aA TC.out λ_=>mF hP _ _) _;intro i hi;rcases aV.1 hi with rfl|hi;exact trivial;exact ho i (by rw[hk];simp[hi])
 |halt x w'=>exact trivial
 exact trivial;refine uG hP h (aA ?_ λ_=>aX (show pH .skip from trivial)) w;cases fr.roundOf with
 |none=>exact ak _
 |some l=>exact(TC.out:T1 P (Instr.beginRound l))
 rename_i l k hk;have:=(TC.out:T1 P (Instr.endLoop l)).tb w #[] di
 revert this
 generalize(Instr.endLoop l).runT P w #[]=x;obtain⟨r,es⟩:=x;intro this;cases r with
 |ok a w'=>
  refine cB (cR hP _ this.2) (bH (BD h rfl ?_));intro i hi;rcases iQ.1 hi with hi|hi;cases a with
  |none=>simp at hi
  |some c=>simp at hi;subst hi;exact trivial
  exact ho i (by rw[hk];simp[hi])
 |halt x w'=>
  cases x with
  |panic v=>exact cB (cR hP _ (this trivial)) (bH (rC h _))
  |_=>exact trivial
 exact trivial;rename_i hk;exact absurd (ho _ (by rw[hk];exact gO ..)) id
 rename_i row args k hk;have hr:row="runtime.print$piece":=ho (.extern row args) (by rw[hk];exact gO ..);subst hr;cases e:Extern.next "runtime.print$piece" with
 |none=>exact trivial
 |some x=>exact uG hP h (Fa e args) w
 rename_i id ops draw k hk;have nQ:∀t,∀i∈(Item.inRegion ops t::k),i∈fr.todo\/DN i:=λt i hi=>by rcases aV.1 hi with rfl|hi;exact .inr trivial;exact .inl (by rw[hk];simp[hi])
 refine qq (to _ (nQ _)) ?_;split;exact bH (BD h rfl (Ln ho (nQ _)));exact trivial;rename_i k hk;exact to k (λi hi=>.inl (by rw[hk];simp[hi]))
 exact qq (abD hP h w) (bH (er h _))
theorem aeM{P:Program}{α:Type}{d d':Nat}(m:Unsupported):Td P d d' (unsupported m:Sem α):=CW id
theorem aeN{P:Program}{d:Nat}(c:Sys):Td P d d (sys c):=λ_ es he=>by show deafBehind 0 (es.push _)=_;rw[dI,he]
theorem N8{b:Prop}{P:Program}(fr:Frame)(d:Dying)(f:Fatal)(ho:okF fr)(hd:d.calling=false)(w:World):CS b (writeOn P fr d f w):=by
 unfold writeOn;dsimp only;split;exact trivial;rename_i piece rest _;have hT:Tb P (λ_=>True) (do
   if !(f.whole&&f.begun)then
    mark .disable
    if<-Extern.PrintPieces.held then .halt .blocked
    if f.whole then store (printLock (<-program)) (.bool true) .atomic
    mark .enable
   if piece.size>65536 then unsupported (.noEntry "a report of more than 65536 bytes")
   match<-sys (.write 2 piece)with
   |.int n=>if n !=piece.size then unsupported (.noEntry "a report that its descriptor cannot take whole")
   |.err _=>pure ()
   |_=>unsupported (.noEntry "a report that its descriptor cannot take whole"):Sem Unit):=by
  refine KT ?_
  (repeat' first|(with_reducible exact KR _)|(with_reducible exact IV _)|(with_reducible refine zO _ _)|(with_reducible refine EK _ _)|(with_reducible refine BP id _)|(with_reducible refine iM EL (λ_=>?_))|(with_reducible refine iM vK (λ_=>?_))|(with_reducible exact vK)|(with_reducible exact CW id)|(with_reducible exact aeM _)|(with_reducible refine iM P6 (λ_=>?_))|(with_reducible refine iM xD (λ_=>?_))|(with_reducible refine iM (KS _ _ _) (λ_=>?_))|(with_reducible refine iM (aeN _) (λ_=>?_))|split|dsimp only)
 have:=hT w #[] di
 revert this
 generalize Sem.runT P _ w #[]=x;obtain⟨r,es⟩:=x;intro this;cases r with
 |ok a w'=>exact⟨this.2,⟨ho,λ_ hf=>absurd hf (ek),⟨λ_ hx=>(nomatch hx),λd' wv=>.inl (by cases wv;exact hd)⟩⟩,ae⟩
 |halt x w'=>
  cases x with
  |blocked=>exact⟨di,⟨ho,λ_ hf=>absurd hf (ek),⟨λ_ hx=>(nomatch hx),λd' wv=>.inl (by cases wv;exact hd)⟩⟩,ae⟩
  |_=>exact trivial
theorem afB{b:Prop}{P:Program}(hP:Plain P)(fr:Frame)(d:Dying)(ho:okF fr)(hd:d.calling=false)(w:World):CS b (die P fr d w):=by
 have hg:∀(d:Dying),d.calling=false->Hg b (some d) fr []:=λd hd=>⟨ho,λ_ hf=>absurd hf (ek),⟨λ_ hx=>(nomatch hx),λd' wv=>.inl (by cases wv;exact hd)⟩⟩;unfold die;split;exact N8 fr d _ ho hd w;split;exact qq (bH (hg d hd)) (O4 _ _ _ _);dsimp only;split;exact bH (hg _ hd);split;exact bH (hg _ hd);exact trivial;rename_i t recv name _;have:=(mF hP (.fn (.method name) #[]) #[.iface t recv]).tb w #[] di
 revert this
 generalize(invoke (.fn (.method name) #[]) #[.iface t recv]).runT P w #[]=x;obtain⟨r,es⟩:=x;intro this;dsimp only;split;refine cB (cR hP _ this.2) (bH ⟨mH _ _ _ _,λ_ hf=>absurd hf (ek),⟨λ_ hx=>(nomatch hx),λd' wv=>.inr rfl⟩⟩);exact cB (cR hP _ this.2) (bH (hg _ hd));exact trivial;exact cB (cR hP _ (this trivial)) (uW P fr ho _ _);exact trivial;exact trivial
theorem ru{b:Prop}{P:Program}(hP:Plain P)(main:Bool)(g:Goroutine)(h:Hg b g.dying g.frame g.callers)(w:World):CS b (stepG P main g w):=by obtain⟨fr,callers,st,dy,off⟩:=g;unfold stepG;dsimp only at h⊢;split;rename_i d hc _;exact afB hP fr _ h.1 rfl w;rename_i hd hm;refine ab5 hP main h (λhb=>?_) w;obtain⟨d,M6⟩:=Dg.1 hb;rcases h.2.2.2 d M6 with h'|h';obtain⟨_,_,_,_,_,_,_⟩:=d;simp only at h';subst h';exact(hd _ _ _ _ _ _ M6).elim;exact h';rename_i hd hm;refine Sj hP main h (λhb=>?_) w;obtain⟨d,M6⟩:=Dg.1 hb;rcases h.2.2.2 d M6 with h'|h';obtain⟨_,_,_,_,_,_,_⟩:=d;simp only at h';subst h';exact(hd _ _ _ _ _ _ M6).elim;exact h'
end Go.Co
