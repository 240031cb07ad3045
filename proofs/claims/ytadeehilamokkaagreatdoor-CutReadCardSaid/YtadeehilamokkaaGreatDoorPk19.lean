import Derived.Test.YtadeehilamokkaaGreatDoorPk18
namespace Go.Co
open Go
def oN:Next->Prop
 |.callThen .. |.stack .. |.numGoroutine|.collect|.watch _|.newcoro .. |.sleep _|.timer _|.alone .. =>False
 |.row r _=>r="runtime.print$piece"
 |_=>True
structure Plain (P:Program):Prop where
 count:∀(f:FuncId)(fn:Func),P.funcs[f]? =some fn->(fn.name=="runtime.NumGoroutine")=false
 quiet:∀f:FuncId,(P.funcs[f]?).any (·.norace)=false
 next:∀(f:FuncId)(fn:Func),P.funcs[f]? =some fn->fn.body.isNone=true->Extern.findNext fn=none
 find:∀(f:FuncId)(fn:Func)(e:Array Value->Sem Value),P.funcs[f]? =some fn->fn.body.isNone=true->Extern.find fn=some e->∀args,T1 P (e args)
def Td(P:Program){α:Type}(d d':Nat)(s:Sem α):Prop:=
 ∀(w:World)(es:Array Event),deafBehind 0 es=d->match s.runT P w es with
  |(.ok _ _,es')=>deafBehind 0 es'=d'
  |(.halt h _,_)=>¬QK h
section
variable {P:Program}
theorem iF{α β:Type}{d d' d'':Nat}{s:Sem α}{f:α->Sem β}(h:Td P d d' s)(hf:∀a,Td P d' d'' (f a)):Td P d d'' (s>>=f):=by
 intro w es he;rw[runT_bind'];have:=h w es he
 revert this
 cases s.runT P w es with
 |mk r es'=>
  cases r with
  |ok a w'=>exactλhb=>hf a w' es' hb
  |halt x w'=>exact id
theorem Ib{α:Type}{d:Nat}(a:α):Td P d d (pure a):=λ_ _ he=>he
theorem Cp{α:Type}{d d':Nat}{h:Halt}(hh:¬QK h):Td P d d' (Sem.halt h:Sem α):=λ_ _ _=>hh
theorem Ej{d:Nat}:Td P d (d+1) (mark .disable):=λ_ es he=>by show deafBehind 0 (es.push _)=_;rw[dD,he]
theorem uZ{d:Nat}:Td P (d+1) d (mark .enable):=λ_ es he=>by show deafBehind 0 (es.push _)=_;rw[dD,he];rfl
theorem qX{d:Nat}{es es':Array Event}(he:deafBehind 0 es=d)(h:∀e∈es',∃a,e.loc=.cell a):deafBehind 0 (es++es')=d:=by
 obtain⟨l⟩:=es';rw[gy,he];induction l with
 |nil=>rfl
 |cons e l ih=>
  have e1:(⟨e::l⟩:Array Event)=#[e]++⟨l⟩:=ab
  rw[e1,gy];have:deafBehind d #[e]=d:=by obtain⟨a,ha⟩:=h e ab;have:=dD d #[] e;rw[ha]at this;exact this
  rw[this];exact ih λx hx=>h x (by simp at hx⊢;exact .inr hx)
theorem ZI{d:Nat}(a:Addr)(m:Mode):Td P d d (load a m):=by
 intro w es he;unfold load;simp only[Sem.runT];cases w.cell? a with
 |some v=>show deafBehind 0 (es.push _)=_;rw[dD,he]
 |none=>
  cases hf:w.farLoad P a (m==.atomic)with
  |ok r=>exact qX he ab
  |error x=>
   show¬QK x;unfold World.farLoad at hf;split at hf;split at hf;cases hf;cases hf;exact id
   simp only[Except.error.injEq]at hf;subst hf;unfold World.noCell;split<;>exact id
theorem J3{d:Nat}(a:Addr)(v:Value)(m:Mode):Td P d d (store a v m):=by
 intro w es he;unfold store;cases v<;>simp only[Sem.runT]<;>first
  |exact id
  |(cases w.cell? a with
   |some _=>
    by_cases hz:w.frozen? a=true;simp only[hz,if_true];exact id
    simp only[hz,if_false,aJ];show deafBehind 0 (es.push _)=_;rw[dD,he]
   |none=>
    generalize hf:w.farStore P a _ _=r;cases r with
    |ok r=>exact qX he ab
    |error x=>
     show¬QK x;unfold World.farStore at hf;split at hf;split at hf;cases hf;cases hf;exact id
     simp only[Except.error.injEq]at hf;subst hf;unfold World.noCell;split<;>exact id)
theorem wN{d:Nat}:Td P d d program:=λ_ _ he=>he
theorem J4{α:Type}{s:Sem α}(h:Td P 0 0 s):Tb P (λ_=>True) s:=by
 intro w es he;have:=h w es he
 revert this
 cases s.runT P w es with
 |mk r es'=>
  cases r with
  |ok a w'=>exactλhb=>⟨trivial,hb⟩
  |halt x w'=>exactλhb hl=>absurd hl hb
theorem t_of_td{α:Type}{s:Sem α}(h:Td P 0 0 s)(hp:Pf P s):T1 P s:=⟨J4 h,hp⟩
theorem OV{d:Nat}:Td P d d Extern.PrintPieces.held:=by unfold Extern.PrintPieces.held;refine iF wN λp=>iF (ZI _ _) λv=>?_;split;exact Ib _;exact Cp id
theorem Bn{α β:Type}{d d':Nat}{h:Halt}(hh:¬QK h)(f:α->Sem β):Td P d d' ((Sem.halt h:Sem α)>>=f):=λ_ _ _=>hh
theorem yY{α β:Type}{d d':Nat}(m:String)(f:α->Sem β):Td P d d' ((stuck m:Sem α)>>=f):=λ_ _ _=>id
theorem Ei{α β:Type}{d d':Nat}(m:Unsupported)(f:α->Sem β):Td P d d' ((unsupported m:Sem α)>>=f):=λ_ _ _=>id
theorem J2{α:Type}{d d':Nat}(m:String):Td P d d' (stuck m:Sem α):=Cp id
theorem V0(fd:Nat)(b:ByteArray):Td P 0 0 (writeFd fd b):=by
 intro w es he;unfold writeFd;simp only[Sem.runT];have h0:deafBehind 0 (es.push ⟨.output,true,false⟩)=0:=by rw[dD,he]
 split;rename_i h;revert h;split<;>intro h<;>simp only[Sem.runT]at h
 cases h;cases h
 grind
 rename_i h;revert h;split<;>intro h<;>simp only[Sem.runT]at h
 cases h;exact id
 cases h;exact id
 cases h
theorem I2(v:Value):oN (.value v):=trivial
theorem NH(a:Array Value):oN (.row "runtime.print$piece" a):=rfl
def Yl(P:Program){α:Type}(Q:α->Prop)(s:Sem α):Prop:=∀w es a w' es',s.runT P w es=(.ok a w',es')->Q a
theorem H8{α:Type}{Q:α->Prop}{a:α}(h:Q a):Yl P Q (pure a:Sem α):=λ_ _ _ _ _ e=>by cases e;exact h
theorem OS{α:Type}{Q:α->Prop}(h:Halt):Yl P Q (Sem.halt h:Sem α):=λ_ _ _ _ _ e=>ar
theorem Zq{α β:Type}{Q:β->Prop}{s:Sem α}{f:α->Sem β}(h:∀a,Yl P Q (f a)):Yl P Q (s>>=f):=by
 intro w es b w' es' e;rw[runT_bind']at e
 revert e
 cases s.runT P w es with
 |mk r es'=>
  cases r with
  |ok a w'=>exactλe=>h a _ _ _ _ _ e
  |halt x w'=>exactλe=>ar
theorem DJ(a b:Array TypeId)(args:Array Value):Yl P oN (Extern.PrintPieces.piece a b args):=by
 unfold Extern.PrintPieces.piece
 (repeat' first|(with_reducible exact H8 (I2 _))|(with_reducible exact H8 (NH _))|(with_reducible exact OS _)|(with_reducible refine Zq (λ_=>?_))|split|dsimp only|exact H8 rfl|exact OS _)
theorem V1(a b:Array TypeId)(args:Array Value):Td P 0 0 (Extern.PrintPieces.piece a b args):=by
 unfold Extern.PrintPieces.piece
 (repeat' first|(with_reducible exact J2 _)|(with_reducible exact Ib _)|(with_reducible refine yY _ _)|(with_reducible refine Ei _ _)|(with_reducible refine Bn id _)|(with_reducible refine iF Ej (λ_=>?_))|(with_reducible refine iF uZ (λ_=>?_))|(with_reducible exact uZ)|(with_reducible refine iF OV (λ_=>?_))|(with_reducible refine iF wN (λ_=>?_))|(with_reducible refine iF (J3 _ _ _) (λ_=>?_))|(with_reducible refine iF (V0 _ _) (λ_=>?_))|split|dsimp only)
instance (t:TypeId) (x:Place):TC P (Place.get t x):=⟨by cases x<;>unfold Place.get<;>first|exact TC.out|exact aV trivial⟩
theorem t_follow:∀(l:List FieldStep)(t:TypeId)(x:Place),T1 P (follow l t x)
 |[],_,_=>aV trivial
 |s::rest,t,x=>by
  have ih:=t_follow rest;unfold follow
  (repeat' first|exact ih _ _|exact TC.out|(with_reducible refine aA ?_ (λ_=>?_))|(with_reducible refine iS ?_ ?_)|split|dsimp only)
instance (l:List FieldStep) (t:TypeId) (x:Place):TC P (follow l t x):=⟨t_follow l t x⟩
instance (t:TypeId) (x:Place) (b:Bool) (o:Option String):TC P (receiverAt t x b o):=⟨by
 unfold receiverAt
 (repeat' first|exact TC.out|(with_reducible refine aA ?_ (λ_=>?_))|(with_reducible refine uG ?_ (λ_=>trivial))|(with_reducible exact aV trivial)|(with_reducible refine t_forInArray _ (λ_ _=>?_) _ _)|(with_reducible refine t_forInList _ (λ_ _=>?_) _ _)|(with_reducible refine t_forInRange _ (λ_ _=>?_) _ _)|(with_reducible refine t_mapMArray _ (λ_=>?_) _)|(with_reducible refine t_mapMList _ (λ_=>?_) _)|(with_reducible refine iS ?_ ?_)|split|dsimp only)⟩
instance (t:TypeId) (v:Value) (p:Array FieldStep) (b:Bool):TC P (receiverVia t v p b):=⟨by
 unfold receiverVia
 (repeat' first|exact TC.out|(with_reducible refine aA ?_ (λ_=>?_))|(with_reducible refine uG ?_ (λ_=>trivial))|(with_reducible exact aV trivial)|(with_reducible refine t_forInArray _ (λ_ _=>?_) _ _)|(with_reducible refine t_forInList _ (λ_ _=>?_) _ _)|(with_reducible refine t_forInRange _ (λ_ _=>?_) _ _)|(with_reducible refine t_mapMArray _ (λ_=>?_) _)|(with_reducible refine t_mapMList _ (λ_=>?_) _)|(with_reducible refine iS ?_ ?_)|split|dsimp only)⟩
theorem t_method:∀(d:Nat)(t:TypeId)(v:Value)(n:String),T1 P (method d t v n)
 |0,_,_,_=>fL _
 |d+1,t,v,n=>by
  have ih:=t_method d;unfold method
  (repeat' first|exact ih _ _ _|exact TC.out|(with_reducible refine aA ?_ (λ_=>?_))|(with_reducible refine iS ?_ ?_)|split|dsimp only)
instance (d:Nat) (t:TypeId) (v:Value) (n:String):TC P (method d t v n):=⟨t_method d t v n⟩
theorem t_followBlind:∀(l:List FieldStep)(t:TypeId)(x:Option Value),T1 P (followBlind l t x)
 |[],_,_=>aV trivial
 |s::rest,t,x=>by
  have ih:=t_followBlind rest;unfold followBlind
  (repeat' first|exact ih _ _|exact TC.out|(with_reducible refine aA ?_ (λ_=>?_))|(with_reducible refine iS ?_ ?_)|split|dsimp only)
instance (l:List FieldStep) (t:TypeId) (x:Option Value):TC P (followBlind l t x):=⟨t_followBlind l t x⟩
theorem t_nilAhead:∀(d:Nat)(t:TypeId)(v:Value)(n:String),T1 P (nilAhead d t v n)
 |0,_,_,_=>aV trivial
 |d+1,t,v,n=>by
  have ih:=t_nilAhead d;unfold nilAhead
  (repeat' first|exact ih _ _ _|exact TC.out|(with_reducible refine aA ?_ (λ_=>?_))|(with_reducible refine iS ?_ ?_)|split|dsimp only)
instance (d:Nat) (t:TypeId) (v:Value) (n:String):TC P (nilAhead d t v n):=⟨t_nilAhead d t v n⟩
instance (t:TypeId) (v:Value):TC P (Builtin.printOne t v):=⟨by
 unfold Builtin.printOne
 (repeat' first|exact TC.out|(with_reducible refine aA ?_ (λ_=>?_))|(with_reducible refine uG ?_ (λ_=>trivial))|(with_reducible exact aV trivial)|(with_reducible refine t_forInArray _ (λ_ _=>?_) _ _)|(with_reducible refine t_forInList _ (λ_ _=>?_) _ _)|(with_reducible refine t_forInRange _ (λ_ _=>?_) _ _)|(with_reducible refine t_mapMArray _ (λ_=>?_) _)|(with_reducible refine t_mapMList _ (λ_=>?_) _)|(with_reducible refine iS ?_ ?_)|split|dsimp only)⟩
theorem yZ{γ σ:Type}:∀(l:List γ)(f:(c:γ)->c∈l->σ->Sem (ForInStep σ))(_:∀c hc s,T1 P (f c hc s))(s:σ),T1 P (forIn' l s f)
 |[],_,_,_=>aV trivial
 |c::l,f,h,s=>by rw[List.forIn'_cons];refine aA (h _ _ _) λr=>?_;split;exact aV trivial;exact yZ l _ (λ_ _ _=>h _ _ _) _
theorem Fp{σ:Type}(n:Nat)(f:(i:Nat)->i∈([:n]:Std.Legacy.Range)->σ->Sem (ForInStep σ))(h:∀i hi s,T1 P (f i hi s))(s:σ):T1 P (forIn' [:n] s f):=by rw[Std.Legacy.Range.forIn'_eq_forIn'_range'];exact yZ _ _ (λ_ _ _=>h _ _ _) _
instance (ln:Bool) (c:Array Bool) (ts:Array TypeId) (args:Array Value):TC P (Builtin.pieces ln c ts args):=⟨by
 unfold Builtin.pieces
 (repeat' first|exact TC.out|(with_reducible refine aA ?_ (λ_=>?_))|(with_reducible refine uG ?_ (λ_=>trivial))|(with_reducible exact aV trivial)|(with_reducible refine Fp _ _ (λ_ _ _=>?_) _)|(with_reducible refine t_forInArray _ (λ_ _=>?_) _ _)|(with_reducible refine t_forInList _ (λ_ _=>?_) _ _)|(with_reducible refine iS ?_ ?_)|split|dsimp only)⟩
abbrev TN(P:Program)(s:Sem Next):Prop:=Tm P oN s
theorem ae7{s:Sem Next}(h:T1 P s)(h':Yl P oN s):TN P s:=by
 refine⟨λw es he=>?_,h.pf⟩;have:=h.tb w es he;have h2:=h' w es
 revert this h2
 cases s.runT P w es with
 |mk r es'=>grind
theorem Pm(a:Addr)(m:Mode):Pf P (load a m):=(t_load a m).pf
theorem WY(a:Addr)(v:Value)(m:Mode):Pf P (store a v m):=(t_store a v m).pf
theorem Kt{α:Type}(m:String):Pf P (stuck m:Sem α):=uK _
theorem ady{α:Type}(m:Unsupported):Pf P (unsupported m:Sem α):=uK _
theorem aac:Pf P Extern.PrintPieces.held:=by
 unfold Extern.PrintPieces.held
 (repeat' first|(with_reducible exact Cz _)|(with_reducible exact uK _)|(with_reducible exact Kt _)|(with_reducible exact Pm _ _)|(with_reducible exact t_program1.pf)|(with_reducible refine Is ?_ (λ_=>?_))|split|dsimp only)
theorem WZ(a b:Array TypeId)(args:Array Value):Pf P (Extern.PrintPieces.piece a b args):=by
 unfold Extern.PrintPieces.piece
 (repeat' first|(with_reducible exact Cz _)|(with_reducible exact uK _)|(with_reducible exact Kt _)|(with_reducible exact ady _)|(with_reducible exact Pm _ _)|(with_reducible exact WY _ _ _)|(with_reducible exact Pk _)|(with_reducible exact aac)|(with_reducible exact(t_writeFd _ _).pf)|(with_reducible exact t_program1.pf)|(with_reducible refine Is ?_ (λ_=>?_))|split|dsimp only)
theorem JZ(a b:Array TypeId)(args:Array Value):TN P (Extern.PrintPieces.piece a b args):=ae7 (t_of_td (V1 a b args) (WZ a b args)) (DJ a b args)
theorem ET(ln:Bool)(c:Array Bool)(ts:Array TypeId)(args:Array Value):TN P (Builtin.printMarked ln c ts args):=by unfold Builtin.printMarked;refine aA TC.out λps=>?_;split;exact aV trivial;exact JZ _ _ _
theorem YQ{s:Sem Value}(h:T1 P s):TN P (do pure (.value (<-s))):=aA h λ_=>aV trivial
theorem ag2{s:Sem Unit}(h:T1 P s):TN P (do s;pure .skip):=aA h λ_=>aV trivial
theorem Nf(b:Builtin)(ts:Array TypeId)(t:TypeId)(c:Array Bool)(args:Array Value):TN P (builtin b ts t c args):=by
 unfold builtin;dsimp only;split<;>first
  |(with_reducible exact YQ TC.out)
  |exact ET _ _ _ _
  |exact aV trivial
  |exact ak _
  |exact fL _
  |exact aA TC.out λ_=>aV trivial
theorem uc(hP:Plain P)(f:FuncId)(args:Array Value):TN P (callFunc f args):=by unfold callFunc;refine Ng ?_;split;exact ak _;rename_i fn TH;rw[hP.count f fn TH];simp only[aJ,if_false];split;rename_i hb;refine aA (t_mark ab) λ_=>?_;rw[hP.next f fn TH hb];dsimp only;split;rename_i e he;exact YQ (hP.find f fn e TH hb he args);split;exact aV trivial;exact fL _;exact aV trivial
theorem kg{α:Type}{R:α->Prop}(e:RuntimeError):Tm P R (runtimePanic e:Sem α):=by unfold runtimePanic;refine aA t_program1 λp=>?_;dsimp only;split<;>first|exact Eg _|exact aA TC.out λ_=>aA TC.out λ_=>Eg _
theorem vT(hP:Plain P)(r:Value)(n:String)(args:Array Value):TN P (callMethod r n args):=by unfold callMethod;split;refine aA t_program1 λp=>aA TC.out λx=>?_;exact uc hP _ _;exact kg _;exact ak _
theorem lT(hP:Plain P)(t:Target)(args:Array Value):TN P (invoke t args):=by unfold invoke;split;exact kg _;exact Nf _ _ _ _ _;exact uc hP _ _;split;exact vT hP _ _ _;exact ak _;split;refine aA TC.out λ_=>?_;exact vT hP _ _ _;exact ak _;split;refine aA TC.out λ_=>?_;exact uc hP _ _;exact ak _;unfold Instr.yield;refine aA TC.out λr=>?_;dsimp only;split;exact aA (ak _) λ_=>aV trivial;exact aV trivial;exact ak _;exact aV trivial
instance (f:Value) (args:Array Value):TC P (Deferred.ofValue f args):=⟨by
 unfold Deferred.ofValue
 split<;>first|exact aV trivial|exact ak _⟩
instance (ρ:Operand->Value) (c:Call) (t:TypeId):TC P (resolve ρ c t):=⟨by
 unfold resolve
 dsimp only
 split<;>first|exact aV trivial|exact TC.out⟩
theorem F6(hP:Plain P)(ρ:Operand->Value)(o:Oper):TN P (execOp ρ o):=by
 unfold execOp;dsimp only;split<;>first
  |(with_reducible exact YQ TC.out)
  |(with_reducible exact ag2 TC.out)
  |exact aV trivial
  |exact aA TC.out λ_=>aV trivial
  |exact aA TC.out λ_=>lT hP _ _
  |skip
 split<;>first
  |exact kg _
  |exact aV trivial
  |skip
 split<;>first
  |exact kg _
  |exact aV trivial
  |skip
 refine aA t_program1 λ_=>aA TC.out λ_=>?_;split;exact aA (fL _) λ_=>aV trivial;exact aV trivial;exact YQ (aA TC.out λ_=>TC.out);refine aA TC.out λ_=>?_;split;exact aA TC.out λ_=>aV trivial;exact ak _;exact aA (t_mapMArray _ (λ_=>aA TC.out λ_=>aV trivial) _) λ_=>aV trivial
instance (fn:Func) (ts:Array Value):TC P (results fn ts):=⟨by
 unfold results
 refine aA (t_mapMArray _ (λr=>?_) _) λvs=>?_
 .split
  .exact aV trivial
  .exact aA TC.out λ_=>TC.out
 .split<;>exact aV trivial⟩
end
end Go.Co
namespace Go.Co
open Go
def De:Item->Prop
 |.call .. =>False
 |.extern r _=>r="runtime.print$piece"
 |_=>True
def okF(fr:Frame):Prop:=∀i∈fr.todo,De i
def BK(fr:Frame)(callers:List Frame):Prop:=match callers.getLast? with|none=>fr.kind=.report|some f=>f.kind=.report
def Hg(b:Prop)(dy:Option Dying)(fr:Frame)(callers:List Frame):Prop:=
 okF fr/\(∀f∈callers,okF f)/\((b->dy≠none)/\∀d,dy=some d->(d.calling=false\/BK fr callers))
def Cm(b:Prop):GStep->Prop
 |.go g _ es=>FK es/\Hg b g.dying g.frame g.callers/\(∀t,g.status≠.sleeping t)/\g.status≠.parked
 |.comm g _ _ _ _ es=>FK es/\Hg b g.dying g.frame g.callers/\g.status=.running
 |.spawn g _ _ es=>FK es/\Hg b g.dying g.frame g.callers
 |.coroswitch g _ _ _ es=>FK es/\Hg b g.dying g.frame g.callers
 |.ended .. =>True
 |_=>False
theorem cq{b:Prop}{es:Array Event}{s:GStep}(he:FK es)(h:Cm b s):Cm b (GStep.after es s):=by cases s<;>first|exact⟨sg he h.1,h.2⟩|exact h
theorem bG{b:Prop}{dy:Option Dying}{fr:Frame}{callers:List Frame}{st:GoStatus}{off:Option (Array CommCase×CommShape)}{w:World}(h:Hg b dy fr callers)(hs:(∀t,st≠.sleeping t)/\st≠.parked:=by simp):Cm b (.go ⟨fr,callers,st,dy,off⟩ w):=⟨dc,h,hs⟩
variable {b:Prop} {dy:Option Dying} {fr fr':Frame} {callers iY:List Frame}
theorem Bb(h:Hg b dy fr callers)(hk:fr'.kind=fr.kind)(ho:okF fr'):Hg b dy fr' callers:=by
 refine⟨ho,h.2.1,h.2.2.1,λd hd=>(h.2.2.2 d hd).imp id ?_⟩;unfold BK;cases callers.getLast? with
 |none=>exactλe=>hk.trans e
 |some f=>exact id
theorem mB(h:Hg b dy fr callers)(ho:okF fr'):Hg b dy fr' (fr::callers):=by
 refine⟨ho,λf hf=>?_,h.2.2.1,λd hd=>(h.2.2.2 d hd).imp id ?_⟩;rcases aX.1 hf with rfl|hf;exact h.1;exact h.2.1 f hf;unfold BK;rw[List.getLast?_cons];cases callers.getLast? with
 |none=>exact id
 |some f=>exact id
theorem wI{c:Frame}{rest:List Frame}(h:Hg b dy fr (c::rest))(hk:fr'.kind=c.kind)(ho:okF c->okF fr'):Hg b dy fr' rest:=by
 refine⟨ho (h.2.1 c ab),λf hf=>h.2.1 f (by simp[hf]),h.2.2.1,λd hd=>(h.2.2.2 d hd).imp id ?_⟩;unfold BK;rw[List.getLast?_cons];cases rest.getLast? with
 |none=>exactλe=>hk.trans e
 |some f=>exact id
theorem Kz{fr fr':Frame}(h:okF fr)(e:∀i∈fr'.todo,i∈fr.todo\/De i):okF fr':=λi hi=>(e i hi).elim (h i) id
theorem KA{fr fr':Frame}(h:okF fr)(e:fr'.todo=fr.todo):okF fr':=λi hi=>h i (e▸hi)
theorem wY(h:okF fr)(v:Value):okF (fr.finish v):=by unfold Frame.finish;split;rename_i hk;intro i hi;rcases aX.1 hi with rfl|hi;trivial;exact h i (by rw[hk];simp[hi]);rename_i hk;intro i hi;rcases aX.1 hi with rfl|hi;trivial;exact h i (by rw[hk];simp[hi]);rename_i hk;intro i hi;exact h i (by rw[hk];simp[hi]);rename_i hk;exact absurd (h _ (by rw[hk];exact gG ..)) id;rename_i hk;intro i hi;exact h i (by rw[hk];simp[hi]);exact h
theorem uj(fr:Frame)(v:Value):(fr.finish v).kind=fr.kind:=by unfold Frame.finish;split<;>rfl
theorem Gs(h:okF fr)(l:List PanicEntry):okF (fr.raise l):=by unfold Frame.raise;split<;>exact h
theorem EM(fr:Frame)(l:List PanicEntry):(fr.raise l).kind=fr.kind:=by unfold Frame.raise;split<;>rfl
theorem lV(P:Program)(f:FuncId)(args:Array Value)(k:CallKind):okF (Frame.enter P f args k):=by intro i hi;simp only[Frame.enter,bQ]at hi;subst hi;trivial
theorem Gr(l:Nat)(f:FuncId)(tmps:Array Value)(a c:Code)(k:CallKind):okF (Frame.round l f tmps a c k):=by intro i hi;simp only[Frame.round,aX,ez,or_false]at hi;rcases hi with rfl|rfl|rfl<;>trivial
theorem Pu(P:Program)(args:Array Value)(k:CallKind):okF (Frame.ofRow P "runtime.print$piece" args k):=by intro i hi;simp only[Frame.ofRow,bQ]at hi;subst hi;exact rfl
theorem dX(h:Hg b dy fr callers)(v:Value):Hg b dy (fr.finish v) callers:=Bb h (uj _ _) (wY h.1 v)
theorem qL(h:Hg b dy fr callers)(l:List PanicEntry):Hg b dy (fr.raise l) callers:=Bb h (EM _ _) (Gs h.1 l)
theorem uQ(h:Hg b dy fr callers)(hk:fr'.kind=fr.kind)(ht:fr'.todo=fr.todo):Hg b dy fr' callers:=Bb h hk (KA h.1 ht)
theorem rZ:∀{fr:Frame}{callers iY:List Frame}{v:Value},tryRecover fr callers=some (v,iY)->Hg b dy fr callers->Hg b dy fr iY:=by
 intro fr callers;induction callers generalizing fr with
 |nil=>intro iY v e;simp[tryRecover]at e
 |cons c rest ih=>intro iY v e h;unfold tryRecover at e;split at e;rename_i hc;simp only[List.cons.injEq]at hc;obtain⟨rfl,rfl⟩:=hc;split at e;simp only[aF,ay]at e;obtain⟨-,rfl⟩:=e;refine⟨h.1,λf hf=>?_,h.2.2.1,λd hd=>(h.2.2.2 d hd).imp id ?_⟩;rcases aX.1 hf with rfl|hf;exact KA (h.2.1 _ (gG ..)) rfl;exact h.2.1 f (by simp[hf]);unfold BK;rw[List.getLast?_cons,List.getLast?_cons];cases rest.getLast?<;>exact id;cases e;rename_i hc;simp only[List.cons.injEq]at hc;obtain⟨rfl,rfl⟩:=hc;simp only[af,Prod.exists,ay]at e;obtain⟨a,r,e,rfl,rfl⟩:=e;exact mB (ih e (wI (fr':=c) h rfl id)) h.1;cases e
theorem EY:∀{l:Nat}{fr:Frame}{callers iY:List Frame}{v:Value},tryRecoverLoop l callers=some (v,iY)->Hg b dy fr callers->Hg b dy fr iY:=by
 intro l fr callers;induction callers generalizing fr l with
 |nil=>intro iY v e;simp[tryRecoverLoop]at e
 |cons c rest ih=>
  intro iY v e h;unfold tryRecoverLoop at e;simp only[af,Prod.exists,ay]at e;obtain⟨a,r,e,rfl,rfl⟩:=e;have h':=wI (fr':=c) h rfl id;have:Hg b dy c r:=by
   split at e
   grind
   split at e;exact rZ e h'
   grind
   grind
  exact mB this h.1
theorem SG(d:Nat)(e:Event)(es:List Event):deafBehind d ⟨e::es⟩=deafBehind (deafBehind d #[e]) ⟨es⟩:=by
 have e1:(⟨e::es⟩:Array Event)=#[e]++⟨es⟩:=ab
 rw[e1,gy]
theorem EU{P:Program}(hq:∀f:FuncId,(P.funcs[f]?).any (·.norace)=false)(fn:FuncId)(es:Array Event)(d:Nat):deafBehind d (seen P fn es)=deafBehind d es:=by
 obtain⟨l⟩:=es;have key:∀(l:List Event)(kept:Array Event),deafBehind d (l.foldl (λ(x:Bool×Array Event) e=>
   match e.loc with
   |.mark (.extern _)=>(false,x.2)
   |_=>(x.1,if x.1&&!e.sync then x.2 else x.2.push e)) (false,kept)).2=deafBehind (deafBehind d kept) ⟨l⟩:=by
  intro l;induction l with
  |nil=>intro kept;rfl
  |cons e l ih=>intro kept;rw[nX,SG];split;rename_i f hf;rw[ih];congr 1;have:=dD (deafBehind d kept) #[] e;rw[hf]at this;exact this.symm;simp only[Bool.false_and,aJ,if_false];rw[ih];congr 1;rw[<-gy];rfl
 have:=key l #[];unfold seen;simp only[hq];rw[<-yt];exact this
theorem cN{P:Program}(hP:Plain P)(fn:FuncId){es:Array Event}(h:FK es):FK (seen P fn es):=by unfold FK;rw[EU hP.quiet];exact h
theorem pO{b:Prop}{c:Prop}[Decidable c]{x y:GStep}(hx:Cm b x)(hy:Cm b y):Cm b (if c then x else y):=by split<;>assumption
theorem K4{b:Prop}(fr:Frame)(h:okF fr)(a:List ByteArray)(m:String)(x:Bool)(w:World):Cm b (dieOf fr a m x w):=
 ⟨dc,⟨h,λ_ hf=>absurd hf (ez),⟨λ_ hx=>(nomatch hx),λd hd=>.inl (by cases hd;rfl)⟩⟩,ab⟩
theorem qb{b:Prop}(fr:Frame)(h:okF fr)(m:String)(w:World):Cm b (endThrow fr m w):=K4 fr h _ _ _ w
theorem BJ{b:Prop}(P:Program)(fr:Frame)(h:okF fr)(callers:List Frame)(dy:Option Dying)(m:String)(w:World):Cm b (endFatal P fr callers dy m w):=by unfold endFatal;dsimp only;split;exact K4 fr h _ _ _ _;exact trivial;exact trivial
theorem uz{b:Prop}(P:Program)(fr:Frame)(h:okF fr)(v:Value)(w:World):Cm b (endPrinting P fr v w):=by unfold endPrinting;dsimp only;split;exact qb fr h _ _;exact trivial
theorem N2{b:Prop}(w:World)(fd:Nat)(t:ByteArray)(o:Outcome):Cm b (endWith w fd t o):=by unfold endWith;dsimp only;split;split<;>exact trivial;exact trivial;exact trivial
theorem yP{P:Program}:∀(l:cx),Hg b dy fr callers->∀f,Hg b dy (Frame.enter P f #[] .early) (l.map (Frame.enter P · #[] .early)++fr::callers)
 |[],h,f=>mB h (by exact lV _ _ _ _)
 |x::l,h,f=>mB (yP l h x) (by exact lV _ _ _ _)
theorem XE(P:Program)(h:Hg b dy fr callers)(g:Nat)(w:World):Cm b (early P fr callers dy g w):=by
 have notYet:∀w:World,Cm b
   (match w.heap[g]? with
    |some (.pending c elem)=>.go {frame:=fr,callers,status:=.running,dying:=dy} {w with heap:=w.heap.setIfInBounds g (.cells c elem)}
    |_=>.ended (.stuck "early: the variable does not wait" (fr.pos P)) w):=by
  intro w;split;exact bG h;exact trivial
 unfold early;dsimp only;split
 grind
 split;exact trivial;split
 grind
 split
 grind
 split;exact trivial;exact bG (yP _ h _);exact trivial
 grind
 split;exact bG (yP _ h _);split
 grind
 split
 grind
 exact bG (yP _ h _);exact trivial
theorem tZ{P:Program}(hP:Plain P)(h:Hg b dy fr callers){s:Sem Next}(hs:TN P s)(w:World):Cm b (stepG.apply P true fr callers dy s w):=by
 unfold stepG.apply;have:=hs.tb w #[] dc
 revert this
 generalize s.runT P w #[]=x;obtain⟨r,es⟩:=x;simp only[if_true];intro this;cases r with
 |ok a w'=>
  obtain⟨hn,he⟩:=this;refine cq (cN hP _ (by split<;>first|exact dc|exact he)) ?_;cases a with
  |callThen d r s x=>exact absurd hn id
  |stack r s=>exact absurd hn id
  |row r args=>have hr:r="runtime.print$piece":=hn;subst hr;dsimp only;split;rename_i k hk;refine bG (Bb h rfl ?_);intro i hi;rcases aX.1 hi with rfl|hi;exact rfl;exact h.1 i (by rw[hk];simp[hi]);exact bG (mB h (by exact Pu _ _ _))
  |value v=>exact bG (dX h v)
  |skip=>exact bG (dX h _)
  |enter f args=>exact bG (mB h (by exact lV _ _ _ _))
  |round l f tmps as body=>exact bG (mB h (by exact Gr _ _ _ _ _ _))
  |defer d=>exact bG (dX (fr:={fr with defers:=d::fr.defers}) (uQ h rfl rfl) _)
  |recover=>dsimp only;split;rename_i v iY e;split at e;split at e;exact bG (dX (rZ e h) _);exact bG (dX (EY e h) _);exact bG (dX (rZ e h) _);exact bG (dX h _)
  |comm c bl sh=>exact⟨dc,h,rfl⟩
  |coroswitch c x=>exact⟨dc,h⟩
  |spawn d=>dsimp only;exact pO (qb fr h.1 _ _) ⟨dc,dX h _⟩
  |_=>exact absurd hn id
 |halt x w'=>
  cases x with
  |panic v=>exact cq (cN hP _ (by split<;>first|exact dc|exact this trivial)) (bG (qL h _))
  |goexit=>exact cq (cN hP _ (by split<;>first|exact dc|exact this trivial)) (bG (qL h _))
  |blocked=>exact cq (cN hP _ (by split<;>exact dc)) (bG h)
  |waiting=>exact cq (cN hP _ (by split<;>exact dc)) (bG h)
  |fatal m=>exact cq (cN hP _ (by split<;>first|exact dc|exact this trivial)) (BJ P fr h.1 _ _ _ _)
  |throw m=>exact cq (cN hP _ (by split<;>first|exact dc|exact this trivial)) (qb fr h.1 _ _)
  |unsupported u=>
   cases u with
   |initOrder g=>exact cq (cN hP _ (by split<;>exact dc)) (XE P h _ _)
   |_=>exact trivial
  |exit c=>exact trivial
  |stuck s=>exact trivial
theorem aag{P:Program}(hP:Plain P)(h:Hg b dy fr callers)(w:World):Cm b (stepG.oper P true fr callers dy w):=by unfold stepG.oper;split;exact trivial;split;refine tZ hP h ?_ w;exact aA TC.out λ_=>aA TC.out λ_=>aV trivial;exact tZ hP h (F6 hP _ _) w
theorem uq(P:Program)(main:Bool)(h:Hg b dy fr callers)(hx:dy≠none->BK fr callers)(v:Value)(w:World):Cm b (doReturn P main fr callers dy v w):=by
 unfold doReturn;split;rename_i c rest;split;exact bG (wI h (uj _ _) λhc=>wY hc _);exact bG (wI h (uj _ _) λhc=>wY hc _);exact bG (wI h rfl id);dsimp only;refine bG (wI h ?_ λhc=>?_)
 grind
 split;split<;>exact hc;exact hc;split;exact bG ⟨h.1,h.2.1,⟨λ_ hx=>(nomatch hx),λd hd=>.inl (by cases hd;rfl)⟩⟩;exact trivial;rename_i hk _;have nb:b->False:=λhb=>hk (hx (h.2.2.1 hb));split;exact bG ⟨h.1,h.2.1,λhb=>(nb hb).elim,λd hd=>(nomatch hd)⟩;split;exact bG ⟨lV _ _ _ _,h.2.1,λhb=>(nb hb).elim,λd hd=>(nomatch hd)⟩;exact trivial
theorem B9{P:Program}(hP:Plain P)(h:Hg b dy fr callers)(d:Deferred)(w:World):Cm b (callDeferred P fr callers dy d w):=by
 unfold callDeferred;refine pO trivial ?_;have:=(lT hP d.target d.args).tb w #[] dc
 revert this
 generalize(invoke d.target d.args).runT P w #[]=x;obtain⟨r,es⟩:=x;intro this;dsimp only;cases r with
 |ok a w'=>
  obtain⟨hn,he⟩:=this;refine cq (cN hP _ he) ?_;cases a with
  |callThen d r s x=>exact absurd hn id
  |stack r s=>exact absurd hn id
  |row r args=>have hr:r="runtime.print$piece":=hn;subst hr;exact bG (mB h (Pu _ _ _))
  |enter f args=>exact bG (mB h (lV _ _ _ _))
  |round l f tmps as body=>exact bG (mB h (Gr _ _ _ _ _ _))
  |recover=>dsimp only;split;rename_i e;exact bG (rZ e h);exact bG h
  |coroswitch c x=>cases x<;>first|exact trivial|exact⟨dc,h⟩
  |value v=>exact bG h
  |skip=>exact bG h
  |defer d=>exact bG h
  |spawn d=>exact bG h
  |comm c bl sh=>exact bG h
  |_=>exact absurd hn id
 |halt x w'=>
  cases x with
  |panic v=>exact cq (cN hP _ (this trivial)) (bG (qL h _))
  |goexit=>exact cq (cN hP _ (this trivial)) (bG (qL h _))
  |blocked=>exact cq (cN hP _ dc) (bG (uQ h rfl rfl))
  |waiting=>exact cq (cN hP _ dc) (bG (uQ h rfl rfl))
  |fatal m=>exact cq (cN hP _ (this trivial)) (BJ P fr h.1 _ _ _ _)
  |throw m=>exact cq (cN hP _ (this trivial)) (qb fr h.1 _ _)
  |unsupported u=>exact trivial
  |exit c=>exact trivial
  |stuck s=>exact trivial
theorem QX{P:Program}(hP:Plain P)(main:Bool)(h:Hg b dy fr callers)(hx:dy≠none->BK fr callers)(w:World):Cm b (unwind P main fr callers dy w):=by
 unfold unwind;split;rename_i block args ds hk;have:=(TC.out:T1 P (Instr.takeDeferred block)).tb w #[] dc
 revert this
 generalize(Instr.takeDeferred block).runT P w #[]=x;obtain⟨r,es⟩:=x;intro this;cases r with
 |ok a w'=>exact cq (cN hP _ this.2) (bG (uQ h rfl rfl))
 |halt x w'=>exact trivial
 rename_i d ds _ _;exact B9 (fr:={fr with defers:=ds}) hP (uQ h rfl rfl) _ w;split;exact trivial;refine pO trivial ?_;split;exact bG (wI h (EM _ _) λhc=>Gs hc _);split;refine pO (bG ⟨h.1,h.2.1,h.2.2.1,λd hd=>(nomatch hd)⟩) ?_;split;exact bG ⟨h.1,h.2.1,⟨λ_ hx=>(nomatch hx),λd hd=>.inl (by cases hd;rfl)⟩⟩;exact trivial;exact trivial;split;exact uz P fr h.1 _ _;exact trivial;split;exact uq P main h hx _ w;rename_i fn _;have:=(TC.out:T1 P (results fn fr.tmps)).tb w #[] dc
 revert this
 generalize(results fn fr.tmps).runT P w #[]=x;obtain⟨r,es⟩:=x;intro this;cases r with
 |ok a w'=>exact cq (cN hP _ this.2) (uq P main h hx _ _)
 |halt x w'=>cases x<;>exact trivial
theorem wZ{id:Nat}:∀{k k':List Item},exitTo id k=some k'->∀i∈k',i∈k
 |[],_,e=>by simp[exitTo]at e
 |x::k,k',e=>by
  unfold exitTo at e;split at e;rename_i hk;cases hk;split at e
  grind
  exactλi hi=>by simp[wZ e i hi]
  rename_i hk;cases hk;exactλi hi=>by simp[wZ e i hi]
  grind
theorem wX{l:Nat}:∀{k k':List Item},gotoIn l k=some k'->∀i∈k',i∈k\/De i
 |[],_,e=>by simp[gotoIn]at e
 |x::k,k',e=>by
  unfold gotoIn at e;split at e;rename_i hk;cases hk;split at e;cases e;intro i hi;rcases aX.1 hi with rfl|hi;exact .inr trivial
  grind
  intro i hi;rcases wX e i hi with h|h
  grind
  grind
  rename_i hk;cases hk;intro i hi;rcases wX e i hi with h|h
  grind
  grind
  grind
theorem EH{P:Program}{e:Array Value->Sem Next}(h:Extern.next "runtime.print$piece"=some e)(args:Array Value):TN P (e args):=by
 have:Extern.next "runtime.print$piece"=some (Extern.PrintPieces.piece #[] #[]):=by rfl
 rw[this]at h;cases h;exact JZ _ _ _
theorem aaF{P:Program}(hP:Plain P)(main:Bool)(h:Hg b dy fr callers)(hx:dy≠none->BK fr callers)(w:World):Cm b (stepG.exec P main true fr callers dy w):=by
 have leave:∀jump:Option Code,Cm b
   (match fr.roundOf with
    |none=>if jump matches none|some .ret then .go {frame:={fr with mode:=.returning},callers,status:=.running,dying:=dy} w else .ended (.stuck "exit, goto: no such block or label" (fr.pos P)) w
    |some l=>
     GStep.after (seen P fr.fn ((Instr.endRound l jump).runT P w #[]).2)<|match((Instr.endRound l jump).runT P w #[]).1 with
     |.ok v w=>doReturn P main fr callers dy v w
     |.halt _ w=>.ended (.stuck "range over a function: no such loop" (fr.pos P)) w):=by
  intro jump;cases fr.roundOf with
  |none=>exact pO (bG (uQ h rfl rfl)) trivial
  |some l=>
   dsimp only;have:=(TC.out:T1 P (Instr.endRound l jump)).tb w #[] dc
   revert this
   generalize(Instr.endRound l jump).runT P w #[]=x;obtain⟨r,es⟩:=x;intro this;cases r with
   |ok a w'=>exact cq (cN hP _ this.2) (uq P main h hx _ _)
   |halt x w'=>exact trivial
 have to:∀(todo:List Item),(∀i∈todo,i∈fr.todo\/De i)->Cm b (.go {frame:={fr with todo},callers,status:=.running,dying:=dy} w):=
  λtodo ht=>bG (Bb h rfl (Kz h.1 ht))
 have ho:=h.1;unfold stepG.exec;dsimp only;split;exact leave none;exact leave (some .ret);rename_i k hk;exact to k (λi hi=>.inl (by rw[hk];simp[hi]))
 rename_i k hk;exact to k (λi hi=>.inl (by rw[hk];simp[hi]))
 rename_i k hk;exact to k (λi hi=>.inl (by rw[hk];simp[hi]))
 rename_i k hk;exact to k (λi hi=>.inl (by rw[hk];simp[hi]))
 rename_i x y k hk;refine to _ λi hi=>?_;rcases aX.1 hi with rfl|hi;exact .inr trivial;rcases aX.1 hi with rfl|hi;exact .inr trivial;exact .inl (by rw[hk];simp[hi]);rename_i c x y k hk;split;refine to _ λi hi=>?_;rcases aX.1 hi with rfl|hi;exact .inr trivial;exact .inl (by rw[hk];simp[hi]);exact trivial;rename_i k hk;refine to _ λi hi=>?_;rcases aX.1 hi with rfl|hi;exact .inr trivial;rcases aX.1 hi with rfl|hi;exact .inr trivial;exact .inl (by rw[hk];simp[hi]);rename_i k hk;refine to _ λi hi=>?_;rcases aX.1 hi with rfl|hi;exact .inr trivial;rcases aX.1 hi with rfl|hi;exact .inr trivial;exact .inl (by rw[hk];simp[hi]);rename_i k hk;refine to _ λi hi=>?_;rcases aX.1 hi with rfl|hi;exact .inr trivial;rcases aX.1 hi with rfl|hi;exact .inr trivial;exact .inl (by rw[hk];simp[hi]);rename_i k hk;refine to _ λi hi=>?_;rcases aX.1 hi with rfl|hi;exact .inr trivial;rcases aX.1 hi with rfl|hi;exact .inr trivial;exact .inl (by rw[hk];simp[hi]);rename_i id k hk;cases e:exitTo id k with
 |none=>exact leave (some (.exit id))
 |some k'=>exact to k' λi hi=>.inl (by rw[hk];simp[wZ e i hi])
 rename_i l k hk;cases e:gotoIn l k with
 |none=>exact leave (some (.goto l))
 |some k'=>exact to k' λi hi=>(wX e i hi).imp (λhi=>by rw[hk];simp[hi]) _root_.id
 rename_i f params assign body k hk;have:=(TC.out:T1 P (Instr.enterLoop fr.fn fr.tmps params assign body fr.roundOf)).tb w #[] dc
 revert this
 generalize(Instr.enterLoop fr.fn fr.tmps params assign body fr.roundOf).runT P w #[]=x;obtain⟨r,es⟩:=x;intro this;cases r with
 |ok a w'=>refine cq (cN hP _ this.2) ?_;refine tZ (fr:={fr with todo:=.inRangeFunc a.1::k,defers:=a.2++fr.defers}) hP (Bb h rfl ?_) (aA TC.out λ_=>lT hP _ _) _;intro i hi;rcases aX.1 hi with rfl|hi;exact trivial;exact ho i (by rw[hk];simp[hi])
 |halt x w'=>exact trivial
 exact trivial;refine tZ hP h (aA ?_ λ_=>aV (show oN .skip from trivial)) w;cases fr.roundOf with
 |none=>exact ak _
 |some l=>exact(TC.out:T1 P (Instr.beginRound l))
 rename_i l k hk;have:=(TC.out:T1 P (Instr.endLoop l)).tb w #[] dc
 revert this
 generalize(Instr.endLoop l).runT P w #[]=x;obtain⟨r,es⟩:=x;intro this;cases r with
 |ok a w'=>
  refine cq (cN hP _ this.2) (bG (Bb h rfl ?_));intro i hi;rcases gV.1 hi with hi|hi;cases a with
  |none=>simp at hi
  |some c=>simp at hi;subst hi;exact trivial
  exact ho i (by rw[hk];simp[hi])
 |halt x w'=>
  cases x with
  |panic v=>exact cq (cN hP _ (this trivial)) (bG (qL h _))
  |_=>exact trivial
 exact trivial;rename_i hk;exact absurd (ho _ (by rw[hk];exact gG ..)) id
 rename_i row args k hk;have hr:row="runtime.print$piece":=ho (.extern row args) (by rw[hk];exact gG ..);subst hr;cases e:Extern.next "runtime.print$piece" with
 |none=>exact trivial
 |some x=>exact tZ hP h (EH e args) w
 rename_i id ops draw k hk;have mo:∀t,∀i∈(Item.inRegion ops t::k),i∈fr.todo\/De i:=λt i hi=>by rcases aX.1 hi with rfl|hi;exact .inr trivial;exact .inl (by rw[hk];simp[hi])
 refine pO (to _ (mo _)) ?_;split;exact bG (Bb h rfl (Kz ho (mo _)));exact trivial;rename_i k hk;exact to k (λi hi=>.inl (by rw[hk];simp[hi]))
 exact pO (aag hP h w) (bG (dX h _))
theorem adg{P:Program}{α:Type}{d d':Nat}(m:Unsupported):Td P d d' (unsupported m:Sem α):=Cp id
theorem adh{P:Program}{d:Nat}(c:Sys):Td P d d (sys c):=λ_ es he=>by show deafBehind 0 (es.push _)=_;rw[dD,he]
theorem Nc{b:Prop}{P:Program}(fr:Frame)(d:Dying)(f:Fatal)(ho:okF fr)(hd:d.calling=false)(w:World):Cm b (writeOn P fr d f w):=by
 unfold writeOn;dsimp only;split;exact trivial;rename_i piece rest _;have hT:Tb P (λ_=>True) (do
   if !(f.whole&&f.begun)then
    mark .disable
    if<-Extern.PrintPieces.held then .halt .blocked
    if f.whole then store (printLock (<-program)) (.bool true) .atomic
    mark .enable
   if piece.size>65536 then unsupported (.noEntry "a report of more than 65536 bytes")
   match<-sys (.write 2 piece)with
   |.int n=>if n !=piece.size then unsupported (.noEntry "a report that its descriptor cannot take whole")
   |.err _=>pure ()
   |_=>unsupported (.noEntry "a report that its descriptor cannot take whole"):Sem Unit):=by
  refine J4 ?_
  (repeat' first|(with_reducible exact J2 _)|(with_reducible exact Ib _)|(with_reducible refine yY _ _)|(with_reducible refine Ei _ _)|(with_reducible refine Bn id _)|(with_reducible refine iF Ej (λ_=>?_))|(with_reducible refine iF uZ (λ_=>?_))|(with_reducible exact uZ)|(with_reducible exact Cp id)|(with_reducible exact adg _)|(with_reducible refine iF OV (λ_=>?_))|(with_reducible refine iF wN (λ_=>?_))|(with_reducible refine iF (J3 _ _ _) (λ_=>?_))|(with_reducible refine iF (adh _) (λ_=>?_))|split|dsimp only)
 have:=hT w #[] dc
 revert this
 generalize Sem.runT P _ w #[]=x;obtain⟨r,es⟩:=x;intro this;cases r with
 |ok a w'=>exact⟨this.2,⟨ho,λ_ hf=>absurd hf (ez),⟨λ_ hx=>(nomatch hx),λd' xz=>.inl (by cases xz;exact hd)⟩⟩,ab⟩
 |halt x w'=>
  cases x with
  |blocked=>exact⟨dc,⟨ho,λ_ hf=>absurd hf (ez),⟨λ_ hx=>(nomatch hx),λd' xz=>.inl (by cases xz;exact hd)⟩⟩,ab⟩
  |_=>exact trivial
theorem ad0{b:Prop}{P:Program}(hP:Plain P)(fr:Frame)(d:Dying)(ho:okF fr)(hd:d.calling=false)(w:World):Cm b (die P fr d w):=by
 have hg:∀(d:Dying),d.calling=false->Hg b (some d) fr []:=λd hd=>⟨ho,λ_ hf=>absurd hf (ez),⟨λ_ hx=>(nomatch hx),λd' xz=>.inl (by cases xz;exact hd)⟩⟩;unfold die;split;exact Nc fr d _ ho hd w;split;exact pO (bG (hg d hd)) (N2 _ _ _ _);dsimp only;split;exact bG (hg _ hd);split;exact bG (hg _ hd);exact trivial;rename_i t recv name _;have:=(lT hP (.fn (.method name) #[]) #[.iface t recv]).tb w #[] dc
 revert this
 generalize(invoke (.fn (.method name) #[]) #[.iface t recv]).runT P w #[]=x;obtain⟨r,es⟩:=x;intro this;dsimp only;split;refine cq (cN hP _ this.2) (bG ⟨lV _ _ _ _,λ_ hf=>absurd hf (ez),⟨λ_ hx=>(nomatch hx),λd' xz=>.inr rfl⟩⟩);exact cq (cN hP _ this.2) (bG (hg _ hd));exact trivial;exact cq (cN hP _ (this trivial)) (uz P fr ho _ _);exact trivial;exact trivial
theorem qG{b:Prop}{P:Program}(hP:Plain P)(main:Bool)(g:Goroutine)(h:Hg b g.dying g.frame g.callers)(w:World):Cm b (stepG P main g w):=by obtain⟨fr,callers,st,dy,off⟩:=g;unfold stepG;dsimp only at h⊢;split;rename_i d hc _;exact ad0 hP fr _ h.1 rfl w;rename_i hd hm;refine aaF hP main h (λhb=>?_) w;obtain⟨d,Mg⟩:=CM.1 hb;rcases h.2.2.2 d Mg with h'|h';obtain⟨_,_,_,_,_,_,_⟩:=d;simp only at h';subst h';exact(hd _ _ _ _ _ _ Mg).elim;exact h';rename_i hd hm;refine QX hP main h (λhb=>?_) w;obtain⟨d,Mg⟩:=CM.1 hb;rcases h.2.2.2 d Mg with h'|h';obtain⟨_,_,_,_,_,_,_⟩:=d;simp only at h';subst h';exact(hd _ _ _ _ _ _ Mg).elim;exact h'
end Go.Co
