import Derived.Test.YtedcgbkilmlbhaaGreatPk24
namespace Go.Co
open Go
def qj:Next->Prop
 |.callThen .. |.stack .. |.numGoroutine|.collect|.watch _|.newcoro .. |.sleep _|.timer _|.alone .. =>False
 |.row r _=>r="runtime.print$piece"
 |_=>True
structure Plain (P:Program):Prop where
 count:∀(f:FuncId)(fn:Func),P.funcs[f]? =some fn->(fn.name=="runtime.NumGoroutine")=false
 quiet:∀f:FuncId,(P.funcs[f]?).any (·.norace)=false
 next:∀(f:FuncId)(fn:Func),P.funcs[f]? =some fn->fn.body.isNone=true->Extern.findNext fn=none
 find:∀(f:FuncId)(fn:Func)(e:Array Value->Sem Value),P.funcs[f]? =some fn->fn.body.isNone=true->Extern.find fn=some e->∀args,T1 P (e args)
def Td(P:Program){α:Type}(d d':Nat)(s:Sem α):Prop:=
 ∀(w:World)(es:Array Event),deafBehind 0 es=d->match s.runT P w es with
  |(.ok _ _,es')=>deafBehind 0 es'=d'
  |(.halt h _,_)=>¬Si h
section
variable {P:Program}
theorem jj{α β:Type}{d d' d'':Nat}{s:Sem α}{f:α->Sem β}(h:Td P d d' s)(hf:∀a,Td P d' d'' (f a)):Td P d d'' (s>>=f):=by
 intro w es he;rw[runT_bind'];have:=h w es he
 revert this
 cases s.runT P w es with
 |mk r es'=>
  cases r with
  |ok a w'=>exactλhb=>hf a w' es' hb
  |halt x w'=>exact id
theorem Je{α:Type}{d:Nat}(a:α):Td P d d (pure a):=λ_ _ he=>he
theorem Da{α:Type}{d d':Nat}{h:Halt}(hh:¬Si h):Td P d d' (Sem.halt h:Sem α):=λ_ _ _=>hh
theorem EX{d:Nat}:Td P d (d+1) (mark .disable):=λ_ es he=>by show deafBehind 0 (es.push _)=_;rw[ew,he]
theorem wK{d:Nat}:Td P (d+1) d (mark .enable):=λ_ es he=>by show deafBehind 0 (es.push _)=_;rw[ew,he];rfl
theorem sS{d:Nat}{es es':Array Event}(he:deafBehind 0 es=d)(h:∀e∈es',∃a,e.loc=.cell a):deafBehind 0 (es++es')=d:=by
 obtain⟨l⟩:=es';rw[gW,he];induction l with
 |nil=>rfl
 |cons e l ih=>
  have e1:(⟨e::l⟩:Array Event)=#[e]++⟨l⟩:=ae
  rw[e1,gW];have:deafBehind d #[e]=d:=by obtain⟨a,ha⟩:=h e ae;have:=ew d #[] e;rw[ha]at this;exact this
  rw[this];exact ih λx hx=>h x (by simp at hx⊢;exact .inr hx)
theorem aa8{d:Nat}(a:Addr)(m:Mode):Td P d d (load a m):=by
 intro w es he;unfold load;simp only[Sem.runT];cases w.cell? a with
 |some v=>show deafBehind 0 (es.push _)=_;rw[ew,he]
 |none=>
  cases hf:w.farLoad P a (m==.atomic)with
  |ok r=>exact sS he ae
  |error x=>
   show¬Si x;unfold World.farLoad at hf;split at hf;split at hf;cases hf;cases hf;exact id
   simp only[Except.error.injEq]at hf;subst hf;unfold World.noCell;split<;>exact id
theorem Lj{d:Nat}(a:Addr)(v:Value)(m:Mode):Td P d d (store a v m):=by
 intro w es he;unfold store;cases v<;>simp only[Sem.runT]<;>first
  |exact id
  |(cases w.cell? a with
   |some _=>
    by_cases hz:w.frozen? a=true;simp only[hz,if_true];exact id
    simp only[hz,if_false,aK];show deafBehind 0 (es.push _)=_;rw[ew,he]
   |none=>
    generalize hf:w.farStore P a _ _=r;cases r with
    |ok r=>exact sS he ae
    |error x=>
     show¬Si x;unfold World.farStore at hf;split at hf;split at hf;cases hf;cases hf;exact id
     simp only[Except.error.injEq]at hf;subst hf;unfold World.noCell;split<;>exact id)
theorem yc{d:Nat}:Td P d d program:=λ_ _ he=>he
theorem Lk{α:Type}{s:Sem α}(h:Td P 0 0 s):Tb P (λ_=>True) s:=by
 intro w es he;have:=h w es he
 revert this
 cases s.runT P w es with
 |mk r es'=>
  cases r with
  |ok a w'=>exactλhb=>⟨trivial,hb⟩
  |halt x w'=>exactλhb hl=>absurd hl hb
theorem t_of_td{α:Type}{s:Sem α}(h:Td P 0 0 s)(hp:Pf P s):T1 P s:=⟨Lk h,hp⟩
theorem P7{d:Nat}:Td P d d Extern.PrintPieces.held:=by unfold Extern.PrintPieces.held;refine jj yc λp=>jj (aa8 _ _) λv=>?_;split;exact Je _;exact Da id
theorem Cg{α β:Type}{d d':Nat}{h:Halt}(hh:¬Si h)(f:α->Sem β):Td P d d' ((Sem.halt h:Sem α)>>=f):=λ_ _ _=>hh
theorem Ak{α β:Type}{d d':Nat}(m:String)(f:α->Sem β):Td P d d' ((stuck m:Sem α)>>=f):=λ_ _ _=>id
theorem EW{α β:Type}{d d':Nat}(m:Unsupported)(f:α->Sem β):Td P d d' ((unsupported m:Sem α)>>=f):=λ_ _ _=>id
theorem Li{α:Type}{d d':Nat}(m:String):Td P d d' (stuck m:Sem α):=Da id
theorem Xy(fd:Nat)(b:ByteArray):Td P 0 0 (writeFd fd b):=by
 intro w es he;unfold writeFd;simp only[Sem.runT];have h0:deafBehind 0 (es.push ⟨.output,true,false⟩)=0:=by rw[ew,he]
 split;rename_i h;revert h;split<;>intro h<;>simp only[Sem.runT]at h
 cases h;cases h
 grind
 rename_i h;revert h;split<;>intro h<;>simp only[Sem.runT]at h
 cases h;exact id
 cases h;exact id
 cases h
theorem J7(v:Value):qj (.value v):=trivial
theorem OS(a:Array Value):qj (.row "runtime.print$piece" a):=rfl
def Yl(P:Program){α:Type}(Q:α->Prop)(s:Sem α):Prop:=∀w es a w' es',s.runT P w es=(.ok a w',es')->Q a
theorem Ja{α:Type}{Q:α->Prop}{a:α}(h:Q a):Yl P Q (pure a:Sem α):=λ_ _ _ _ _ e=>by cases e;exact h
theorem P4{α:Type}{Q:α->Prop}(h:Halt):Yl P Q (Sem.halt h:Sem α):=λ_ _ _ _ _ e=>ar
theorem aaO{α β:Type}{Q:β->Prop}{s:Sem α}{f:α->Sem β}(h:∀a,Yl P Q (f a)):Yl P Q (s>>=f):=by
 intro w es b w' es' e;rw[runT_bind']at e
 revert e
 cases s.runT P w es with
 |mk r es'=>
  cases r with
  |ok a w'=>exactλe=>h a _ _ _ _ _ e
  |halt x w'=>exactλe=>ar
theorem Yh(a b:Array TypeId)(args:Array Value):Yl P qj (Extern.PrintPieces.piece a b args):=by
 unfold Extern.PrintPieces.piece
 (repeat' first|(with_reducible exact Ja (J7 _))|(with_reducible exact Ja (OS _))|(with_reducible exact P4 _)|(with_reducible refine aaO (λ_=>?_))|split|dsimp only|exact Ja rfl|exact P4 _)
theorem Xz(a b:Array TypeId)(args:Array Value):Td P 0 0 (Extern.PrintPieces.piece a b args):=by
 unfold Extern.PrintPieces.piece
 (repeat' first|(with_reducible exact Li _)|(with_reducible exact Je _)|(with_reducible refine Ak _ _)|(with_reducible refine EW _ _)|(with_reducible refine Cg id _)|(with_reducible refine jj EX (λ_=>?_))|(with_reducible refine jj wK (λ_=>?_))|(with_reducible exact wK)|(with_reducible refine jj P7 (λ_=>?_))|(with_reducible refine jj yc (λ_=>?_))|(with_reducible refine jj (Lj _ _ _) (λ_=>?_))|(with_reducible refine jj (Xy _ _) (λ_=>?_))|split|dsimp only)
instance (t:TypeId) (x:Place):TC P (Place.get t x):=⟨by cases x<;>unfold Place.get<;>first|exact TC.out|exact bh trivial⟩
theorem t_follow:∀(l:List FieldStep)(t:TypeId)(x:Place),T1 P (follow l t x)
 |[],_,_=>bh trivial
 |s::rest,t,x=>by
  have ih:=t_follow rest;unfold follow
  (repeat' first|exact ih _ _|exact TC.out|(with_reducible refine aP ?_ (λ_=>?_))|(with_reducible refine jF ?_ ?_)|split|dsimp only)
instance (l:List FieldStep) (t:TypeId) (x:Place):TC P (follow l t x):=⟨t_follow l t x⟩
instance (t:TypeId) (x:Place) (b:Bool) (o:Option String):TC P (receiverAt t x b o):=⟨by
 unfold receiverAt
 (repeat' first|exact TC.out|(with_reducible refine aP ?_ (λ_=>?_))|(with_reducible refine vY ?_ (λ_=>trivial))|(with_reducible exact bh trivial)|(with_reducible refine t_forInArray _ (λ_ _=>?_) _ _)|(with_reducible refine t_forInList _ (λ_ _=>?_) _ _)|(with_reducible refine t_forInRange _ (λ_ _=>?_) _ _)|(with_reducible refine t_mapMArray _ (λ_=>?_) _)|(with_reducible refine t_mapMList _ (λ_=>?_) _)|(with_reducible refine jF ?_ ?_)|split|dsimp only)⟩
instance (t:TypeId) (v:Value) (p:Array FieldStep) (b:Bool):TC P (receiverVia t v p b):=⟨by
 unfold receiverVia
 (repeat' first|exact TC.out|(with_reducible refine aP ?_ (λ_=>?_))|(with_reducible refine vY ?_ (λ_=>trivial))|(with_reducible exact bh trivial)|(with_reducible refine t_forInArray _ (λ_ _=>?_) _ _)|(with_reducible refine t_forInList _ (λ_ _=>?_) _ _)|(with_reducible refine t_forInRange _ (λ_ _=>?_) _ _)|(with_reducible refine t_mapMArray _ (λ_=>?_) _)|(with_reducible refine t_mapMList _ (λ_=>?_) _)|(with_reducible refine jF ?_ ?_)|split|dsimp only)⟩
theorem t_method:∀(d:Nat)(t:TypeId)(v:Value)(n:String),T1 P (method d t v n)
 |0,_,_,_=>gz _
 |d+1,t,v,n=>by
  have ih:=t_method d;unfold method
  (repeat' first|exact ih _ _ _|exact TC.out|(with_reducible refine aP ?_ (λ_=>?_))|(with_reducible refine jF ?_ ?_)|split|dsimp only)
instance (d:Nat) (t:TypeId) (v:Value) (n:String):TC P (method d t v n):=⟨t_method d t v n⟩
theorem t_followBlind:∀(l:List FieldStep)(t:TypeId)(x:Option Value),T1 P (followBlind l t x)
 |[],_,_=>bh trivial
 |s::rest,t,x=>by
  have ih:=t_followBlind rest;unfold followBlind
  (repeat' first|exact ih _ _|exact TC.out|(with_reducible refine aP ?_ (λ_=>?_))|(with_reducible refine jF ?_ ?_)|split|dsimp only)
instance (l:List FieldStep) (t:TypeId) (x:Option Value):TC P (followBlind l t x):=⟨t_followBlind l t x⟩
theorem t_nilAhead:∀(d:Nat)(t:TypeId)(v:Value)(n:String),T1 P (nilAhead d t v n)
 |0,_,_,_=>bh trivial
 |d+1,t,v,n=>by
  have ih:=t_nilAhead d;unfold nilAhead
  (repeat' first|exact ih _ _ _|exact TC.out|(with_reducible refine aP ?_ (λ_=>?_))|(with_reducible refine jF ?_ ?_)|split|dsimp only)
instance (d:Nat) (t:TypeId) (v:Value) (n:String):TC P (nilAhead d t v n):=⟨t_nilAhead d t v n⟩
instance (t:TypeId) (v:Value):TC P (Builtin.printOne t v):=⟨by
 unfold Builtin.printOne
 (repeat' first|exact TC.out|(with_reducible refine aP ?_ (λ_=>?_))|(with_reducible refine vY ?_ (λ_=>trivial))|(with_reducible exact bh trivial)|(with_reducible refine t_forInArray _ (λ_ _=>?_) _ _)|(with_reducible refine t_forInList _ (λ_ _=>?_) _ _)|(with_reducible refine t_forInRange _ (λ_ _=>?_) _ _)|(with_reducible refine t_mapMArray _ (λ_=>?_) _)|(with_reducible refine t_mapMList _ (λ_=>?_) _)|(with_reducible refine jF ?_ ?_)|split|dsimp only)⟩
theorem Al{γ σ:Type}:∀(l:List γ)(f:(c:γ)->c∈l->σ->Sem (ForInStep σ))(_:∀c hc s,T1 P (f c hc s))(s:σ),T1 P (forIn' l s f)
 |[],_,_,_=>bh trivial
 |c::l,f,h,s=>by rw[List.forIn'_cons];refine aP (h _ _ _) λr=>?_;split;exact bh trivial;exact Al l _ (λ_ _ _=>h _ _ _) _
theorem F3{σ:Type}(n:Nat)(f:(i:Nat)->i∈([:n]:Std.Legacy.Range)->σ->Sem (ForInStep σ))(h:∀i hi s,T1 P (f i hi s))(s:σ):T1 P (forIn' [:n] s f):=by rw[Std.Legacy.Range.forIn'_eq_forIn'_range'];exact Al _ _ (λ_ _ _=>h _ _ _) _
instance (ln:Bool) (c:Array Bool) (ts:Array TypeId) (args:Array Value):TC P (Builtin.pieces ln c ts args):=⟨by
 unfold Builtin.pieces
 (repeat' first|exact TC.out|(with_reducible refine aP ?_ (λ_=>?_))|(with_reducible refine vY ?_ (λ_=>trivial))|(with_reducible exact bh trivial)|(with_reducible refine F3 _ _ (λ_ _ _=>?_) _)|(with_reducible refine t_forInArray _ (λ_ _=>?_) _ _)|(with_reducible refine t_forInList _ (λ_ _=>?_) _ _)|(with_reducible refine jF ?_ ?_)|split|dsimp only)⟩
abbrev TN(P:Program)(s:Sem Next):Prop:=Tm P qj s
theorem ahs{s:Sem Next}(h:T1 P s)(h':Yl P qj s):TN P s:=by
 refine⟨λw es he=>?_,h.pf⟩;have:=h.tb w es he;have h2:=h' w es
 revert this h2
 cases s.runT P w es with
 |mk r es'=>grind
theorem Qy(a:Addr)(m:Mode):Pf P (load a m):=(t_load a m).pf
theorem Yj(a:Addr)(v:Value)(m:Mode):Pf P (store a v m):=(t_store a v m).pf
theorem LK{α:Type}(m:String):Pf P (stuck m:Sem α):=wm _
theorem afN{α:Type}(m:Unsupported):Pf P (unsupported m:Sem α):=wm _
theorem abG:Pf P Extern.PrintPieces.held:=by
 unfold Extern.PrintPieces.held
 (repeat' first|(with_reducible exact De _)|(with_reducible exact wm _)|(with_reducible exact LK _)|(with_reducible exact Qy _ _)|(with_reducible exact t_program1.pf)|(with_reducible refine Ju ?_ (λ_=>?_))|split|dsimp only)
theorem Yk(a b:Array TypeId)(args:Array Value):Pf P (Extern.PrintPieces.piece a b args):=by
 unfold Extern.PrintPieces.piece
 (repeat' first|(with_reducible exact De _)|(with_reducible exact wm _)|(with_reducible exact LK _)|(with_reducible exact afN _)|(with_reducible exact Qy _ _)|(with_reducible exact Yj _ _ _)|(with_reducible exact Qx _)|(with_reducible exact abG)|(with_reducible exact(t_writeFd _ _).pf)|(with_reducible exact t_program1.pf)|(with_reducible refine Ju ?_ (λ_=>?_))|split|dsimp only)
theorem Lg(a b:Array TypeId)(args:Array Value):TN P (Extern.PrintPieces.piece a b args):=ahs (t_of_td (Xz a b args) (Yk a b args)) (Yh a b args)
theorem Fv(ln:Bool)(c:Array Bool)(ts:Array TypeId)(args:Array Value):TN P (Builtin.printMarked ln c ts args):=by unfold Builtin.printMarked;refine aP TC.out λps=>?_;split;exact bh trivial;exact Lg _ _ _
theorem aad{s:Sem Value}(h:T1 P s):TN P (do pure (.value (<-s))):=aP h λ_=>bh trivial
theorem ai1{s:Sem Unit}(h:T1 P s):TN P (do s;pure .skip):=aP h λ_=>bh trivial
theorem Ox(b:Builtin)(ts:Array TypeId)(t:TypeId)(c:Array Bool)(args:Array Value):TN P (builtin b ts t c args):=by
 unfold builtin;dsimp only;split<;>first
  |(with_reducible exact aad TC.out)
  |exact Fv _ _ _ _
  |exact bh trivial
  |exact aH _
  |exact gz _
  |exact aP TC.out λ_=>bh trivial
theorem vG(hP:Plain P)(f:FuncId)(args:Array Value):TN P (callFunc f args):=by unfold callFunc;refine Oy ?_;split;exact aH _;rename_i fn UU;rw[hP.count f fn UU];simp only[aK,if_false];split;rename_i hb;refine aP (t_mark ae) λ_=>?_;rw[hP.next f fn UU hb];dsimp only;split;rename_i e he;exact aad (hP.find f fn e UU hb he args);split;exact bh trivial;exact gz _;exact bh trivial
theorem lC{α:Type}{R:α->Prop}(e:RuntimeError):Tm P R (runtimePanic e:Sem α):=by unfold runtimePanic;refine aP t_program1 λp=>?_;dsimp only;split<;>first|exact EU _|exact aP TC.out λ_=>aP TC.out λ_=>EU _
theorem xD(hP:Plain P)(r:Value)(n:String)(args:Array Value):TN P (callMethod r n args):=by unfold callMethod;split;refine aP t_program1 λp=>aP TC.out λx=>?_;exact vG hP _ _;exact lC _;exact aH _
theorem nt(hP:Plain P)(t:Target)(args:Array Value):TN P (invoke t args):=by unfold invoke;split;exact lC _;exact Ox _ _ _ _ _;exact vG hP _ _;split;exact xD hP _ _ _;exact aH _;split;refine aP TC.out λ_=>?_;exact xD hP _ _ _;exact aH _;split;refine aP TC.out λ_=>?_;exact vG hP _ _;exact aH _;unfold Instr.yield;refine aP TC.out λr=>?_;dsimp only;split;exact aP (aH _) λ_=>bh trivial;exact bh trivial;exact aH _;exact bh trivial
instance (f:Value) (args:Array Value):TC P (Deferred.ofValue f args):=⟨by
 unfold Deferred.ofValue
 split<;>first|exact bh trivial|exact aH _⟩
instance (ρ:Operand->Value) (c:Call) (t:TypeId):TC P (resolve ρ c t):=⟨by
 unfold resolve
 dsimp only
 split<;>first|exact bh trivial|exact TC.out⟩
theorem GO(hP:Plain P)(ρ:Operand->Value)(o:Oper):TN P (execOp ρ o):=by
 unfold execOp;dsimp only;split<;>first
  |(with_reducible exact aad TC.out)
  |(with_reducible exact ai1 TC.out)
  |exact bh trivial
  |exact aP TC.out λ_=>bh trivial
  |exact aP TC.out λ_=>nt hP _ _
  |skip
 split<;>first
  |exact lC _
  |exact bh trivial
  |skip
 split<;>first
  |exact lC _
  |exact bh trivial
  |skip
 refine aP t_program1 λ_=>aP TC.out λ_=>?_;split;exact aP (gz _) λ_=>bh trivial;exact bh trivial;exact aad (aP TC.out λ_=>TC.out);refine aP TC.out λ_=>?_;split;exact aP TC.out λ_=>bh trivial;exact aH _;exact aP (t_mapMArray _ (λ_=>aP TC.out λ_=>bh trivial) _) λ_=>bh trivial
instance (fn:Func) (ts:Array Value):TC P (results fn ts):=⟨by
 unfold results
 refine aP (t_mapMArray _ (λr=>?_) _) λvs=>?_
 .split
  .exact bh trivial
  .exact aP TC.out λ_=>TC.out
 .split<;>exact bh trivial⟩
end
end Go.Co
namespace Go.Co
open Go
def D5:Item->Prop
 |.call .. =>False
 |.extern r _=>r="runtime.print$piece"
 |_=>True
def okF(fr:Frame):Prop:=∀i∈fr.todo,D5 i
def BK(fr:Frame)(callers:List Frame):Prop:=match callers.getLast? with|none=>fr.kind=.report|some f=>f.kind=.report
def Hg(b:Prop)(dy:Option Dying)(fr:Frame)(callers:List Frame):Prop:=
 okF fr/\(∀f∈callers,okF f)/\((b->dy≠none)/\∀d,dy=some d->(d.calling=false\/BK fr callers))
def rD(b:Prop):GStep->Prop
 |.go g _ es=>Gl es/\Hg b g.dying g.frame g.callers/\(∀t,g.status≠.sleeping t)/\g.status≠.parked
 |.comm g _ _ _ _ es=>Gl es/\Hg b g.dying g.frame g.callers/\g.status=.running
 |.spawn g _ _ es=>Gl es/\Hg b g.dying g.frame g.callers
 |.coroswitch g _ _ _ es=>Gl es/\Hg b g.dying g.frame g.callers
 |.ended .. =>True
 |_=>False
theorem cM{b:Prop}{es:Array Event}{s:GStep}(he:Gl es)(h:rD b s):rD b (GStep.after es s):=by cases s<;>first|exact⟨tX he h.1,h.2⟩|exact h
theorem bT{b:Prop}{dy:Option Dying}{fr:Frame}{callers:List Frame}{st:GoStatus}{off:Option (Array CommCase×CommShape)}{w:World}(h:Hg b dy fr callers)(hs:(∀t,st≠.sleeping t)/\st≠.parked:=by simp):rD b (.go ⟨fr,callers,st,dy,off⟩ w):=⟨dU,h,hs⟩
variable {b:Prop} {dy:Option Dying} {fr fr':Frame} {callers jL:List Frame}
theorem B5(h:Hg b dy fr callers)(hk:fr'.kind=fr.kind)(ho:okF fr'):Hg b dy fr' callers:=by
 refine⟨ho,h.2.1,h.2.2.1,λd hd=>(h.2.2.2 d hd).imp id ?_⟩;unfold BK;cases callers.getLast? with
 |none=>exactλe=>hk.trans e
 |some f=>exact id
theorem nK(h:Hg b dy fr callers)(ho:okF fr'):Hg b dy fr' (fr::callers):=by
 refine⟨ho,λf hf=>?_,h.2.2.1,λd hd=>(h.2.2.2 d hd).imp id ?_⟩;rcases bE.1 hf with rfl|hf;exact h.1;exact h.2.1 f hf;unfold BK;rw[List.getLast?_cons];cases callers.getLast? with
 |none=>exact id
 |some f=>exact id
theorem xY{c:Frame}{rest:List Frame}(h:Hg b dy fr (c::rest))(hk:fr'.kind=c.kind)(ho:okF c->okF fr'):Hg b dy fr' rest:=by
 refine⟨ho (h.2.1 c ae),λf hf=>h.2.1 f (by simp[hf]),h.2.2.1,λd hd=>(h.2.2.2 d hd).imp id ?_⟩;unfold BK;rw[List.getLast?_cons];cases rest.getLast? with
 |none=>exactλe=>hk.trans e
 |some f=>exact id
theorem LR{fr fr':Frame}(h:okF fr)(e:∀i∈fr'.todo,i∈fr.todo\/D5 i):okF fr':=λi hi=>(e i hi).elim (h i) id
theorem LS{fr fr':Frame}(h:okF fr)(e:fr'.todo=fr.todo):okF fr':=λi hi=>h i (e▸hi)
theorem yu(h:okF fr)(v:Value):okF (fr.finish v):=by unfold Frame.finish;split;rename_i hk;intro i hi;rcases bE.1 hi with rfl|hi;trivial;exact h i (by rw[hk];simp[hi]);rename_i hk;intro i hi;rcases bE.1 hi with rfl|hi;trivial;exact h i (by rw[hk];simp[hi]);rename_i hk;intro i hi;exact h i (by rw[hk];simp[hi]);rename_i hk;exact absurd (h _ (by rw[hk];exact iz ..)) id;rename_i hk;intro i hi;exact h i (by rw[hk];simp[hi]);exact h
theorem vL(fr:Frame)(v:Value):(fr.finish v).kind=fr.kind:=by unfold Frame.finish;split<;>rfl
theorem Hq(h:okF fr)(l:List PanicEntry):okF (fr.raise l):=by unfold Frame.raise;split<;>exact h
theorem Fo(fr:Frame)(l:List PanicEntry):(fr.raise l).kind=fr.kind:=by unfold Frame.raise;split<;>rfl
theorem nv(P:Program)(f:FuncId)(args:Array Value)(k:CallKind):okF (Frame.enter P f args k):=by intro i hi;simp only[Frame.enter,bV]at hi;subst hi;trivial
theorem Hp(l:Nat)(f:FuncId)(tmps:Array Value)(a c:Code)(k:CallKind):okF (Frame.round l f tmps a c k):=by intro i hi;simp only[Frame.round,bE,eP,or_false]at hi;rcases hi with rfl|rfl|rfl<;>trivial
theorem QH(P:Program)(args:Array Value)(k:CallKind):okF (Frame.ofRow P "runtime.print$piece" args k):=by intro i hi;simp only[Frame.ofRow,bV]at hi;subst hi;exact rfl
theorem eS(h:Hg b dy fr callers)(v:Value):Hg b dy (fr.finish v) callers:=B5 h (vL _ _) (yu h.1 v)
theorem sF(h:Hg b dy fr callers)(l:List PanicEntry):Hg b dy (fr.raise l) callers:=B5 h (Fo _ _) (Hq h.1 l)
theorem wz(h:Hg b dy fr callers)(hk:fr'.kind=fr.kind)(ht:fr'.todo=fr.todo):Hg b dy fr' callers:=B5 h hk (LS h.1 ht)
theorem tW:∀{fr:Frame}{callers jL:List Frame}{v:Value},tryRecover fr callers=some (v,jL)->Hg b dy fr callers->Hg b dy fr jL:=by
 intro fr callers;induction callers generalizing fr with
 |nil=>intro jL v e;simp[tryRecover]at e
 |cons c rest ih=>intro jL v e h;unfold tryRecover at e;split at e;rename_i hc;simp only[List.cons.injEq]at hc;obtain⟨rfl,rfl⟩:=hc;split at e;simp only[aG,aA]at e;obtain⟨-,rfl⟩:=e;refine⟨h.1,λf hf=>?_,h.2.2.1,λd hd=>(h.2.2.2 d hd).imp id ?_⟩;rcases bE.1 hf with rfl|hf;exact LS (h.2.1 _ (iz ..)) rfl;exact h.2.1 f (by simp[hf]);unfold BK;rw[List.getLast?_cons,List.getLast?_cons];cases rest.getLast?<;>exact id;cases e;rename_i hc;simp only[List.cons.injEq]at hc;obtain⟨rfl,rfl⟩:=hc;simp only[ah,Prod.exists,aA]at e;obtain⟨a,r,e,rfl,rfl⟩:=e;exact nK (ih e (xY (fr':=c) h rfl id)) h.1;cases e
theorem FB:∀{l:Nat}{fr:Frame}{callers jL:List Frame}{v:Value},tryRecoverLoop l callers=some (v,jL)->Hg b dy fr callers->Hg b dy fr jL:=by
 intro l fr callers;induction callers generalizing fr l with
 |nil=>intro jL v e;simp[tryRecoverLoop]at e
 |cons c rest ih=>
  intro jL v e h;unfold tryRecoverLoop at e;simp only[ah,Prod.exists,aA]at e;obtain⟨a,r,e,rfl,rfl⟩:=e;have h':=xY (fr':=c) h rfl id;have:Hg b dy c r:=by
   split at e
   grind
   split at e;exact tW e h'
   grind
   grind
  exact nK this h.1
theorem Uf(d:Nat)(e:Event)(es:List Event):deafBehind d ⟨e::es⟩=deafBehind (deafBehind d #[e]) ⟨es⟩:=by
 have e1:(⟨e::es⟩:Array Event)=#[e]++⟨es⟩:=ae
 rw[e1,gW]
theorem Fw{P:Program}(hq:∀f:FuncId,(P.funcs[f]?).any (·.norace)=false)(fn:FuncId)(es:Array Event)(d:Nat):deafBehind d (seen P fn es)=deafBehind d es:=by
 obtain⟨l⟩:=es;have key:∀(l:List Event)(kept:Array Event),deafBehind d (l.foldl (λ(x:Bool×Array Event) e=>
   match e.loc with
   |.mark (.extern _)=>(false,x.2)
   |_=>(x.1,if x.1&&!e.sync then x.2 else x.2.push e)) (false,kept)).2=deafBehind (deafBehind d kept) ⟨l⟩:=by
  intro l;induction l with
  |nil=>intro kept;rfl
  |cons e l ih=>intro kept;rw[gh,Uf];split;rename_i f hf;rw[ih];congr 1;have:=ew (deafBehind d kept) #[] e;rw[hf]at this;exact this.symm;simp only[Bool.false_and,aK,if_false];rw[ih];congr 1;rw[<-gW];rfl
 have:=key l #[];unfold seen;simp only[hq];rw[<-zF];exact this
theorem dF{P:Program}(hP:Plain P)(fn:FuncId){es:Array Event}(h:Gl es):Gl (seen P fn es):=by unfold Gl;rw[Fw hP.quiet];exact h
theorem qU{b:Prop}{c:Prop}[Decidable c]{x y:GStep}(hx:rD b x)(hy:rD b y):rD b (if c then x else y):=by split<;>assumption
theorem Ms{b:Prop}(fr:Frame)(h:okF fr)(a:List ByteArray)(m:String)(x:Bool)(w:World):rD b (dieOf fr a m x w):=
 ⟨dU,⟨h,λ_ hf=>absurd hf (eP),⟨λ_ hx=>(nomatch hx),λd hd=>.inl (by cases hd;rfl)⟩⟩,ae⟩
theorem rA{b:Prop}(fr:Frame)(h:okF fr)(m:String)(w:World):rD b (endThrow fr m w):=Ms fr h _ _ _ w
theorem CE{b:Prop}(P:Program)(fr:Frame)(h:okF fr)(callers:List Frame)(dy:Option Dying)(m:String)(w:World):rD b (endFatal P fr callers dy m w):=by unfold endFatal;dsimp only;split;exact Ms fr h _ _ _ _;exact trivial;exact trivial
theorem vT{b:Prop}(P:Program)(fr:Frame)(h:okF fr)(v:Value)(w:World):rD b (endPrinting P fr v w):=by unfold endPrinting;dsimp only;split;exact rA fr h _ _;exact trivial
theorem O5{b:Prop}(w:World)(fd:Nat)(t:ByteArray)(o:Outcome):rD b (endWith w fd t o):=by unfold endWith;dsimp only;split;split<;>exact trivial;exact trivial;exact trivial
theorem Ab{P:Program}:∀(l:cy),Hg b dy fr callers->∀f,Hg b dy (Frame.enter P f #[] .early) (l.map (Frame.enter P · #[] .early)++fr::callers)
 |[],h,f=>nK h (by exact nv _ _ _ _)
 |x::l,h,f=>nK (Ab l h x) (by exact nv _ _ _ _)
theorem Y1(P:Program)(h:Hg b dy fr callers)(g:Nat)(w:World):rD b (early P fr callers dy g w):=by
 have notYet:∀w:World,rD b
   (match w.heap[g]? with
    |some (.pending c elem)=>.go {frame:=fr,callers,status:=.running,dying:=dy} {w with heap:=w.heap.setIfInBounds g (.cells c elem)}
    |_=>.ended (.stuck "early: the variable does not wait" (fr.pos P)) w):=by
  intro w;split;exact bT h;exact trivial
 unfold early;dsimp only;split
 grind
 split;exact trivial;split
 grind
 split
 grind
 split;exact trivial;exact bT (Ab _ h _);exact trivial
 grind
 split;exact bT (Ab _ h _);split
 grind
 split
 grind
 exact bT (Ab _ h _);exact trivial
theorem vF{P:Program}(hP:Plain P)(h:Hg b dy fr callers){s:Sem Next}(hs:TN P s)(w:World):rD b (stepG.apply P true fr callers dy s w):=by
 unfold stepG.apply;have:=hs.tb w #[] dU
 revert this
 generalize s.runT P w #[]=x;obtain⟨r,es⟩:=x;simp only[if_true];intro this;cases r with
 |ok a w'=>
  obtain⟨hn,he⟩:=this;refine cM (dF hP _ (by split<;>first|exact dU|exact he)) ?_;cases a with
  |callThen d r s x=>exact absurd hn id
  |stack r s=>exact absurd hn id
  |row r args=>have hr:r="runtime.print$piece":=hn;subst hr;dsimp only;split;rename_i k hk;refine bT (B5 h rfl ?_);intro i hi;rcases bE.1 hi with rfl|hi;exact rfl;exact h.1 i (by rw[hk];simp[hi]);exact bT (nK h (by exact QH _ _ _))
  |value v=>exact bT (eS h v)
  |skip=>exact bT (eS h _)
  |enter f args=>exact bT (nK h (by exact nv _ _ _ _))
  |round l f tmps as body=>exact bT (nK h (by exact Hp _ _ _ _ _ _))
  |defer d=>exact bT (eS (fr:={fr with defers:=d::fr.defers}) (wz h rfl rfl) _)
  |recover=>dsimp only;split;rename_i v jL e;split at e;split at e;exact bT (eS (tW e h) _);exact bT (eS (FB e h) _);exact bT (eS (tW e h) _);exact bT (eS h _)
  |comm c bl sh=>exact⟨dU,h,rfl⟩
  |coroswitch c x=>exact⟨dU,h⟩
  |spawn d=>dsimp only;exact qU (rA fr h.1 _ _) ⟨dU,eS h _⟩
  |_=>exact absurd hn id
 |halt x w'=>
  cases x with
  |panic v=>exact cM (dF hP _ (by split<;>first|exact dU|exact this trivial)) (bT (sF h _))
  |goexit=>exact cM (dF hP _ (by split<;>first|exact dU|exact this trivial)) (bT (sF h _))
  |blocked=>exact cM (dF hP _ (by split<;>exact dU)) (bT h)
  |waiting=>exact cM (dF hP _ (by split<;>exact dU)) (bT h)
  |fatal m=>exact cM (dF hP _ (by split<;>first|exact dU|exact this trivial)) (CE P fr h.1 _ _ _ _)
  |throw m=>exact cM (dF hP _ (by split<;>first|exact dU|exact this trivial)) (rA fr h.1 _ _)
  |unsupported u=>
   cases u with
   |initOrder g=>exact cM (dF hP _ (by split<;>exact dU)) (Y1 P h _ _)
   |_=>exact trivial
  |exit c=>exact trivial
  |stuck s=>exact trivial
theorem abO{P:Program}(hP:Plain P)(h:Hg b dy fr callers)(w:World):rD b (stepG.oper P true fr callers dy w):=by unfold stepG.oper;split;exact trivial;split;refine vF hP h ?_ w;exact aP TC.out λ_=>aP TC.out λ_=>bh trivial;exact vF hP h (GO hP _ _) w
theorem vO(P:Program)(main:Bool)(h:Hg b dy fr callers)(hx:dy≠none->BK fr callers)(v:Value)(w:World):rD b (doReturn P main fr callers dy v w):=by
 unfold doReturn;split;rename_i c rest;split;exact bT (xY h (vL _ _) λhc=>yu hc _);exact bT (xY h (vL _ _) λhc=>yu hc _);exact bT (xY h rfl id);dsimp only;refine bT (xY h ?_ λhc=>?_)
 grind
 split;split<;>exact hc;exact hc;split;exact bT ⟨h.1,h.2.1,⟨λ_ hx=>(nomatch hx),λd hd=>.inl (by cases hd;rfl)⟩⟩;exact trivial;rename_i hk _;have nb:b->False:=λhb=>hk (hx (h.2.2.1 hb));split;exact bT ⟨h.1,h.2.1,λhb=>(nb hb).elim,λd hd=>(nomatch hd)⟩;split;exact bT ⟨nv _ _ _ _,h.2.1,λhb=>(nb hb).elim,λd hd=>(nomatch hd)⟩;exact trivial
theorem C1{P:Program}(hP:Plain P)(h:Hg b dy fr callers)(d:Deferred)(w:World):rD b (callDeferred P fr callers dy d w):=by
 unfold callDeferred;refine qU trivial ?_;have:=(nt hP d.target d.args).tb w #[] dU
 revert this
 generalize(invoke d.target d.args).runT P w #[]=x;obtain⟨r,es⟩:=x;intro this;dsimp only;cases r with
 |ok a w'=>
  obtain⟨hn,he⟩:=this;refine cM (dF hP _ he) ?_;cases a with
  |callThen d r s x=>exact absurd hn id
  |stack r s=>exact absurd hn id
  |row r args=>have hr:r="runtime.print$piece":=hn;subst hr;exact bT (nK h (QH _ _ _))
  |enter f args=>exact bT (nK h (nv _ _ _ _))
  |round l f tmps as body=>exact bT (nK h (Hp _ _ _ _ _ _))
  |recover=>dsimp only;split;rename_i e;exact bT (tW e h);exact bT h
  |coroswitch c x=>cases x<;>first|exact trivial|exact⟨dU,h⟩
  |value v=>exact bT h
  |skip=>exact bT h
  |defer d=>exact bT h
  |spawn d=>exact bT h
  |comm c bl sh=>exact bT h
  |_=>exact absurd hn id
 |halt x w'=>
  cases x with
  |panic v=>exact cM (dF hP _ (this trivial)) (bT (sF h _))
  |goexit=>exact cM (dF hP _ (this trivial)) (bT (sF h _))
  |blocked=>exact cM (dF hP _ dU) (bT (wz h rfl rfl))
  |waiting=>exact cM (dF hP _ dU) (bT (wz h rfl rfl))
  |fatal m=>exact cM (dF hP _ (this trivial)) (CE P fr h.1 _ _ _ _)
  |throw m=>exact cM (dF hP _ (this trivial)) (rA fr h.1 _ _)
  |unsupported u=>exact trivial
  |exit c=>exact trivial
  |stuck s=>exact trivial
theorem Sz{P:Program}(hP:Plain P)(main:Bool)(h:Hg b dy fr callers)(hx:dy≠none->BK fr callers)(w:World):rD b (unwind P main fr callers dy w):=by
 unfold unwind;split;rename_i block args ds hk;have:=(TC.out:T1 P (Instr.takeDeferred block)).tb w #[] dU
 revert this
 generalize(Instr.takeDeferred block).runT P w #[]=x;obtain⟨r,es⟩:=x;intro this;cases r with
 |ok a w'=>exact cM (dF hP _ this.2) (bT (wz h rfl rfl))
 |halt x w'=>exact trivial
 rename_i d ds _ _;exact C1 (fr:={fr with defers:=ds}) hP (wz h rfl rfl) _ w;split;exact trivial;refine qU trivial ?_;split;exact bT (xY h (Fo _ _) λhc=>Hq hc _);split;refine qU (bT ⟨h.1,h.2.1,h.2.2.1,λd hd=>(nomatch hd)⟩) ?_;split;exact bT ⟨h.1,h.2.1,⟨λ_ hx=>(nomatch hx),λd hd=>.inl (by cases hd;rfl)⟩⟩;exact trivial;exact trivial;split;exact vT P fr h.1 _ _;exact trivial;split;exact vO P main h hx _ w;rename_i fn _;have:=(TC.out:T1 P (results fn fr.tmps)).tb w #[] dU
 revert this
 generalize(results fn fr.tmps).runT P w #[]=x;obtain⟨r,es⟩:=x;intro this;cases r with
 |ok a w'=>exact cM (dF hP _ this.2) (vO P main h hx _ _)
 |halt x w'=>cases x<;>exact trivial
theorem yw{id:Nat}:∀{k k':List Item},exitTo id k=some k'->∀i∈k',i∈k
 |[],_,e=>by simp[exitTo]at e
 |x::k,k',e=>by
  unfold exitTo at e;split at e;rename_i hk;cases hk;split at e
  grind
  exactλi hi=>by simp[yw e i hi]
  rename_i hk;cases hk;exactλi hi=>by simp[yw e i hi]
  grind
theorem yt{l:Nat}:∀{k k':List Item},gotoIn l k=some k'->∀i∈k',i∈k\/D5 i
 |[],_,e=>by simp[gotoIn]at e
 |x::k,k',e=>by
  unfold gotoIn at e;split at e;rename_i hk;cases hk;split at e;cases e;intro i hi;rcases bE.1 hi with rfl|hi;exact .inr trivial
  grind
  intro i hi;rcases yt e i hi with h|h
  grind
  grind
  rename_i hk;cases hk;intro i hi;rcases yt e i hi with h|h
  grind
  grind
  grind
theorem Fg{P:Program}{e:Array Value->Sem Next}(h:Extern.next "runtime.print$piece"=some e)(args:Array Value):TN P (e args):=by
 have:Extern.next "runtime.print$piece"=some (Extern.PrintPieces.piece #[] #[]):=by rfl
 rw[this]at h;cases h;exact Lg _ _ _
theorem acg{P:Program}(hP:Plain P)(main:Bool)(h:Hg b dy fr callers)(hx:dy≠none->BK fr callers)(w:World):rD b (stepG.exec P main true fr callers dy w):=by
 have leave:∀jump:Option Code,rD b
   (match fr.roundOf with
    |none=>if jump matches none|some .ret then .go {frame:={fr with mode:=.returning},callers,status:=.running,dying:=dy} w else .ended (.stuck "exit, goto: no such block or label" (fr.pos P)) w
    |some l=>
     GStep.after (seen P fr.fn ((Instr.endRound l jump).runT P w #[]).2)<|match((Instr.endRound l jump).runT P w #[]).1 with
     |.ok v w=>doReturn P main fr callers dy v w
     |.halt _ w=>.ended (.stuck "range over a function: no such loop" (fr.pos P)) w):=by
  intro jump;cases fr.roundOf with
  |none=>exact qU (bT (wz h rfl rfl)) trivial
  |some l=>
   dsimp only;have:=(TC.out:T1 P (Instr.endRound l jump)).tb w #[] dU
   revert this
   generalize(Instr.endRound l jump).runT P w #[]=x;obtain⟨r,es⟩:=x;intro this;cases r with
   |ok a w'=>exact cM (dF hP _ this.2) (vO P main h hx _ _)
   |halt x w'=>exact trivial
 have to:∀(todo:List Item),(∀i∈todo,i∈fr.todo\/D5 i)->rD b (.go {frame:={fr with todo},callers,status:=.running,dying:=dy} w):=
  λtodo ht=>bT (B5 h rfl (LR h.1 ht))
 have ho:=h.1;unfold stepG.exec;dsimp only;split;exact leave none;exact leave (some .ret);rename_i k hk;exact to k (λi hi=>.inl (by rw[hk];simp[hi]))
 rename_i k hk;exact to k (λi hi=>.inl (by rw[hk];simp[hi]))
 rename_i k hk;exact to k (λi hi=>.inl (by rw[hk];simp[hi]))
 rename_i k hk;exact to k (λi hi=>.inl (by rw[hk];simp[hi]))
 rename_i x y k hk;refine to _ λi hi=>?_;rcases bE.1 hi with rfl|hi;exact .inr trivial;rcases bE.1 hi with rfl|hi;exact .inr trivial;exact .inl (by rw[hk];simp[hi]);rename_i c x y k hk;split;refine to _ λi hi=>?_;rcases bE.1 hi with rfl|hi;exact .inr trivial;exact .inl (by rw[hk];simp[hi]);exact trivial;rename_i k hk;refine to _ λi hi=>?_;rcases bE.1 hi with rfl|hi;exact .inr trivial;rcases bE.1 hi with rfl|hi;exact .inr trivial;exact .inl (by rw[hk];simp[hi]);rename_i k hk;refine to _ λi hi=>?_;rcases bE.1 hi with rfl|hi;exact .inr trivial;rcases bE.1 hi with rfl|hi;exact .inr trivial;exact .inl (by rw[hk];simp[hi]);rename_i k hk;refine to _ λi hi=>?_;rcases bE.1 hi with rfl|hi;exact .inr trivial;rcases bE.1 hi with rfl|hi;exact .inr trivial;exact .inl (by rw[hk];simp[hi]);rename_i k hk;refine to _ λi hi=>?_;rcases bE.1 hi with rfl|hi;exact .inr trivial;rcases bE.1 hi with rfl|hi;exact .inr trivial;exact .inl (by rw[hk];simp[hi]);rename_i id k hk;cases e:exitTo id k with
 |none=>exact leave (some (.exit id))
 |some k'=>exact to k' λi hi=>.inl (by rw[hk];simp[yw e i hi])
 rename_i l k hk;cases e:gotoIn l k with
 |none=>exact leave (some (.goto l))
 |some k'=>exact to k' λi hi=>(yt e i hi).imp (λhi=>by rw[hk];simp[hi]) _root_.id
 rename_i f params assign body k hk;have:=(TC.out:T1 P (Instr.enterLoop fr.fn fr.tmps params assign body fr.roundOf)).tb w #[] dU
 revert this
 generalize(Instr.enterLoop fr.fn fr.tmps params assign body fr.roundOf).runT P w #[]=x;obtain⟨r,es⟩:=x;intro this;cases r with
 |ok a w'=>refine cM (dF hP _ this.2) ?_;refine vF (fr:={fr with todo:=.inRangeFunc a.1::k,defers:=a.2++fr.defers}) hP (B5 h rfl ?_) (aP TC.out λ_=>nt hP _ _) _;intro i hi;rcases bE.1 hi with rfl|hi;exact trivial;exact ho i (by rw[hk];simp[hi])
 |halt x w'=>exact trivial
 exact trivial;refine vF hP h (aP ?_ λ_=>bh (show qj .skip from trivial)) w;cases fr.roundOf with
 |none=>exact aH _
 |some l=>exact(TC.out:T1 P (Instr.beginRound l))
 rename_i l k hk;have:=(TC.out:T1 P (Instr.endLoop l)).tb w #[] dU
 revert this
 generalize(Instr.endLoop l).runT P w #[]=x;obtain⟨r,es⟩:=x;intro this;cases r with
 |ok a w'=>
  refine cM (dF hP _ this.2) (bT (B5 h rfl ?_));intro i hi;rcases eG.1 hi with hi|hi;cases a with
  |none=>simp at hi
  |some c=>simp at hi;subst hi;exact trivial
  exact ho i (by rw[hk];simp[hi])
 |halt x w'=>
  cases x with
  |panic v=>exact cM (dF hP _ (this trivial)) (bT (sF h _))
  |_=>exact trivial
 exact trivial;rename_i hk;exact absurd (ho _ (by rw[hk];exact iz ..)) id
 rename_i row args k hk;have hr:row="runtime.print$piece":=ho (.extern row args) (by rw[hk];exact iz ..);subst hr;cases e:Extern.next "runtime.print$piece" with
 |none=>exact trivial
 |some x=>exact vF hP h (Fg e args) w
 rename_i id ops draw k hk;have oK:∀t,∀i∈(Item.inRegion ops t::k),i∈fr.todo\/D5 i:=λt i hi=>by rcases bE.1 hi with rfl|hi;exact .inr trivial;exact .inl (by rw[hk];simp[hi])
 refine qU (to _ (oK _)) ?_;split;exact bT (B5 h rfl (LR ho (oK _)));exact trivial;rename_i k hk;exact to k (λi hi=>.inl (by rw[hk];simp[hi]))
 exact qU (abO hP h w) (bT (eS h _))
theorem afo{P:Program}{α:Type}{d d':Nat}(m:Unsupported):Td P d d' (unsupported m:Sem α):=Da id
theorem afp{P:Program}{d:Nat}(c:Sys):Td P d d (sys c):=λ_ es he=>by show deafBehind 0 (es.push _)=_;rw[ew,he]
theorem Ov{b:Prop}{P:Program}(fr:Frame)(d:Dying)(f:Fatal)(ho:okF fr)(hd:d.calling=false)(w:World):rD b (writeOn P fr d f w):=by
 unfold writeOn;dsimp only;split;exact trivial;rename_i piece rest _;have hT:Tb P (λ_=>True) (do
   if !(f.whole&&f.begun)then
    mark .disable
    if<-Extern.PrintPieces.held then .halt .blocked
    if f.whole then store (printLock (<-program)) (.bool true) .atomic
    mark .enable
   if piece.size>65536 then unsupported (.noEntry "a report of more than 65536 bytes")
   match<-sys (.write 2 piece)with
   |.int n=>if n !=piece.size then unsupported (.noEntry "a report that its descriptor cannot take whole")
   |.err _=>pure ()
   |_=>unsupported (.noEntry "a report that its descriptor cannot take whole"):Sem Unit):=by
  refine Lk ?_
  (repeat' first|(with_reducible exact Li _)|(with_reducible exact Je _)|(with_reducible refine Ak _ _)|(with_reducible refine EW _ _)|(with_reducible refine Cg id _)|(with_reducible refine jj EX (λ_=>?_))|(with_reducible refine jj wK (λ_=>?_))|(with_reducible exact wK)|(with_reducible exact Da id)|(with_reducible exact afo _)|(with_reducible refine jj P7 (λ_=>?_))|(with_reducible refine jj yc (λ_=>?_))|(with_reducible refine jj (Lj _ _ _) (λ_=>?_))|(with_reducible refine jj (afp _) (λ_=>?_))|split|dsimp only)
 have:=hT w #[] dU
 revert this
 generalize Sem.runT P _ w #[]=x;obtain⟨r,es⟩:=x;intro this;cases r with
 |ok a w'=>exact⟨this.2,⟨ho,λ_ hf=>absurd hf (eP),⟨λ_ hx=>(nomatch hx),λd' yH=>.inl (by cases yH;exact hd)⟩⟩,ae⟩
 |halt x w'=>
  cases x with
  |blocked=>exact⟨dU,⟨ho,λ_ hf=>absurd hf (eP),⟨λ_ hx=>(nomatch hx),λd' yH=>.inl (by cases yH;exact hd)⟩⟩,ae⟩
  |_=>exact trivial
theorem agd{b:Prop}{P:Program}(hP:Plain P)(fr:Frame)(d:Dying)(ho:okF fr)(hd:d.calling=false)(w:World):rD b (die P fr d w):=by
 have hg:∀(d:Dying),d.calling=false->Hg b (some d) fr []:=λd hd=>⟨ho,λ_ hf=>absurd hf (eP),⟨λ_ hx=>(nomatch hx),λd' yH=>.inl (by cases yH;exact hd)⟩⟩;unfold die;split;exact Ov fr d _ ho hd w;split;exact qU (bT (hg d hd)) (O5 _ _ _ _);dsimp only;split;exact bT (hg _ hd);split;exact bT (hg _ hd);exact trivial;rename_i t recv name _;have:=(nt hP (.fn (.method name) #[]) #[.iface t recv]).tb w #[] dU
 revert this
 generalize(invoke (.fn (.method name) #[]) #[.iface t recv]).runT P w #[]=x;obtain⟨r,es⟩:=x;intro this;dsimp only;split;refine cM (dF hP _ this.2) (bT ⟨nv _ _ _ _,λ_ hf=>absurd hf (eP),⟨λ_ hx=>(nomatch hx),λd' yH=>.inr rfl⟩⟩);exact cM (dF hP _ this.2) (bT (hg _ hd));exact trivial;exact cM (dF hP _ (this trivial)) (vT P fr ho _ _);exact trivial;exact trivial
theorem sA{b:Prop}{P:Program}(hP:Plain P)(main:Bool)(g:Goroutine)(h:Hg b g.dying g.frame g.callers)(w:World):rD b (stepG P main g w):=by obtain⟨fr,callers,st,dy,off⟩:=g;unfold stepG;dsimp only at h⊢;split;rename_i d hc _;exact agd hP fr _ h.1 rfl w;rename_i hd hm;refine acg hP main h (λhb=>?_) w;obtain⟨d,Nu⟩:=Dt.1 hb;rcases h.2.2.2 d Nu with h'|h';obtain⟨_,_,_,_,_,_,_⟩:=d;simp only at h';subst h';exact(hd _ _ _ _ _ _ Nu).elim;exact h';rename_i hd hm;refine Sz hP main h (λhb=>?_) w;obtain⟨d,Nu⟩:=Dt.1 hb;rcases h.2.2.2 d Nu with h'|h';obtain⟨_,_,_,_,_,_,_⟩:=d;simp only at h';subst h';exact(hd _ _ _ _ _ _ Nu).elim;exact h'
end Go.Co
