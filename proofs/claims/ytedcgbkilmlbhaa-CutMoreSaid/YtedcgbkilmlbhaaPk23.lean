import Derived.Test.YtedcgbkilmlbhaaPk22
namespace Go.Co
open Go
def pY:Next->Prop
 |.callThen .. |.stack .. |.numGoroutine|.collect|.watch _|.newcoro .. |.sleep _|.timer _|.alone .. =>False
 |.row r _=>r="runtime.print$piece"
 |_=>True
structure Plain (P:Program):Prop where
 count:∀(f:FuncId)(fn:Func),P.funcs[f]? =some fn->(fn.name=="runtime.NumGoroutine")=false
 quiet:∀f:FuncId,(P.funcs[f]?).any (·.norace)=false
 next:∀(f:FuncId)(fn:Func),P.funcs[f]? =some fn->fn.body.isNone=true->Extern.findNext fn=none
 find:∀(f:FuncId)(fn:Func)(e:Array Value->Sem Value),P.funcs[f]? =some fn->fn.body.isNone=true->Extern.find fn=some e->∀args,T1 P (e args)
def Td(P:Program){α:Type}(d d':Nat)(s:Sem α):Prop:=
 ∀(w:World)(es:Array Event),deafBehind 0 es=d->match s.runT P w es with
  |(.ok _ _,es')=>deafBehind 0 es'=d'
  |(.halt h _,_)=>¬QY h
section
variable {P:Program}
theorem ji{α β:Type}{d d' d'':Nat}{s:Sem α}{f:α->Sem β}(h:Td P d d' s)(hf:∀a,Td P d' d'' (f a)):Td P d d'' (s>>=f):=by
 intro w es he;rw[runT_bind'];have:=h w es he
 revert this
 cases s.runT P w es with
 |mk r es'=>
  cases r with
  |ok a w'=>exactλhb=>hf a w' es' hb
  |halt x w'=>exact id
theorem ID{α:Type}{d:Nat}(a:α):Td P d d (pure a):=λ_ _ he=>he
theorem CN{α:Type}{d d':Nat}{h:Halt}(hh:¬QY h):Td P d d' (Sem.halt h:Sem α):=λ_ _ _=>hh
theorem EA{d:Nat}:Td P d (d+1) (mark .disable):=λ_ es he=>by show deafBehind 0 (es.push _)=_;rw[ei,he]
theorem vV{d:Nat}:Td P (d+1) d (mark .enable):=λ_ es he=>by show deafBehind 0 (es.push _)=_;rw[ei,he];rfl
theorem sw{d:Nat}{es es':Array Event}(he:deafBehind 0 es=d)(h:∀e∈es',∃a,e.loc=.cell a):deafBehind 0 (es++es')=d:=by
 obtain⟨l⟩:=es';rw[gL,he];induction l with
 |nil=>rfl
 |cons e l ih=>
  have e1:(⟨e::l⟩:Array Event)=#[e]++⟨l⟩:=by simp
  rw[e1,gL];have:deafBehind d #[e]=d:=by obtain⟨a,ha⟩:=h e (by simp);have:=ei d #[] e;rw[ha]at this;exact this
  rw[this];exact ih λx hx=>h x (by simp at hx⊢;exact .inr hx)
theorem ZL{d:Nat}(a:Addr)(m:Mode):Td P d d (load a m):=by
 intro w es he;unfold load;simp only[Sem.runT];cases w.cell? a with
 |some v=>show deafBehind 0 (es.push _)=_;rw[ei,he]
 |none=>
  cases hf:w.farLoad P a (m==.atomic)with
  |ok r=>exact sw he (by simp)
  |error x=>
   show¬QY x;unfold World.farLoad at hf;split at hf
   .split at hf;· cases hf
    cases hf;exact id
   simp only[Except.error.injEq]at hf;subst hf;unfold World.noCell;split<;>exact id
theorem Kt{d:Nat}(a:Addr)(v:Value)(m:Mode):Td P d d (store a v m):=by
 intro w es he;unfold store;cases v<;>simp only[Sem.runT]<;>first
  |exact id
  |(cases w.cell? a with
   |some _=>
    by_cases hz:w.frozen? a=true;· simp only[hz,if_true];exact id
    simp only[hz,if_false,aI];show deafBehind 0 (es.push _)=_;rw[ei,he]
   |none=>
    generalize hf:w.farStore P a _ _=r;cases r with
    |ok r=>exact sw he (by simp)
    |error x=>
     show¬QY x;unfold World.farStore at hf;split at hf
     .split at hf;· cases hf
      cases hf;exact id
     simp only[Except.error.injEq]at hf;subst hf;unfold World.noCell;split<;>exact id)
theorem xI{d:Nat}:Td P d d program:=λ_ _ he=>he
theorem Ku{α:Type}{s:Sem α}(h:Td P 0 0 s):Tb P (λ_=>True) s:=by
 intro w es he;have:=h w es he
 revert this
 cases s.runT P w es with
 |mk r es'=>
  cases r with
  |ok a w'=>exactλhb=>⟨trivial,hb⟩
  |halt x w'=>exactλhb hl=>absurd hl hb
theorem t_of_td{α:Type}{s:Sem α}(h:Td P 0 0 s)(hp:Pf P s):T1 P s:=⟨Ku h,hp⟩
theorem O1{d:Nat}:Td P d d Extern.PrintPieces.held:=by
 unfold Extern.PrintPieces.held;refine ji xI λp=>ji (ZL _ _) λv=>?_;split;· exact ID _
 exact CN id
theorem BO{α β:Type}{d d':Nat}{h:Halt}(hh:¬QY h)(f:α->Sem β):Td P d d' ((Sem.halt h:Sem α)>>=f):=λ_ _ _=>hh
theorem zO{α β:Type}{d d':Nat}(m:String)(f:α->Sem β):Td P d d' ((stuck m:Sem α)>>=f):=λ_ _ _=>id
theorem Ez{α β:Type}{d d':Nat}(m:Unsupported)(f:α->Sem β):Td P d d' ((unsupported m:Sem α)>>=f):=λ_ _ _=>id
theorem Ks{α:Type}{d d':Nat}(m:String):Td P d d' (stuck m:Sem α):=CN id
theorem V1(fd:Nat)(b:ByteArray):Td P 0 0 (writeFd fd b):=by
 intro w es he;unfold writeFd;simp only[Sem.runT];have h0:deafBehind 0 (es.push ⟨.output,true,false⟩)=0:=by rw[ei,he]
 split
 .rename_i h;revert h;split<;>intro h<;>simp only[Sem.runT]at h
  .cases h
  .cases h
  obtain⟨-,rfl⟩:=h;exact h0
 rename_i h;revert h;split<;>intro h<;>simp only[Sem.runT]at h
 .cases h;exact id
 .cases h;exact id
 cases h
theorem Ju(v:Value):pY (.value v):=trivial
theorem NU(a:Array Value):pY (.row "runtime.print$piece" a):=rfl
def Yl(P:Program){α:Type}(Q:α->Prop)(s:Sem α):Prop:=∀w es a w' es',s.runT P w es=(.ok a w',es')->Q a
theorem Iy{α:Type}{Q:α->Prop}{a:α}(h:Q a):Yl P Q (pure a:Sem α):=λ_ _ _ _ _ e=>by cases e;exact h
theorem OY{α:Type}{Q:α->Prop}(h:Halt):Yl P Q (Sem.halt h:Sem α):=λ_ _ _ _ _ e=>by cases e
theorem Zr{α β:Type}{Q:β->Prop}{s:Sem α}{f:α->Sem β}(h:∀a,Yl P Q (f a)):Yl P Q (s>>=f):=by
 intro w es b w' es' e;rw[runT_bind']at e
 revert e
 cases s.runT P w es with
 |mk r es'=>
  cases r with
  |ok a w'=>exactλe=>h a _ _ _ _ _ e
  |halt x w'=>exactλe=>by cases e
theorem WU(a b:Array TypeId)(args:Array Value):Yl P pY (Extern.PrintPieces.piece a b args):=by
 unfold Extern.PrintPieces.piece
 (repeat' first|(with_reducible exact Iy (Ju _))|(with_reducible exact Iy (NU _))|(with_reducible exact OY _)|(with_reducible refine Zr (λ_=>?_))|split|dsimp only|exact Iy rfl|exact OY _)
theorem V2(a b:Array TypeId)(args:Array Value):Td P 0 0 (Extern.PrintPieces.piece a b args):=by
 unfold Extern.PrintPieces.piece
 (repeat' first|(with_reducible exact Ks _)|(with_reducible exact ID _)|(with_reducible refine zO _ _)|(with_reducible refine Ez _ _)|(with_reducible refine BO id _)|(with_reducible refine ji EA (λ_=>?_))|(with_reducible refine ji vV (λ_=>?_))|(with_reducible exact vV)|(with_reducible refine ji O1 (λ_=>?_))|(with_reducible refine ji xI (λ_=>?_))|(with_reducible refine ji (Kt _ _ _) (λ_=>?_))|(with_reducible refine ji (V1 _ _) (λ_=>?_))|split|dsimp only)
instance (t:TypeId) (x:Place):TC P (Place.get t x):=⟨by cases x<;>unfold Place.get<;>first|exact TC.out|exact aY trivial⟩
theorem t_follow:∀(l:List FieldStep)(t:TypeId)(x:Place),T1 P (follow l t x)
 |[],_,_=>aY trivial
 |s::rest,t,x=>by
  have ih:=t_follow rest;unfold follow
  (repeat' first|exact ih _ _|exact TC.out|(with_reducible refine aQ ?_ (λ_=>?_))|(with_reducible refine jA ?_ ?_)|split|dsimp only)
instance (l:List FieldStep) (t:TypeId) (x:Place):TC P (follow l t x):=⟨t_follow l t x⟩
instance (t:TypeId) (x:Place) (b:Bool) (o:Option String):TC P (receiverAt t x b o):=⟨by
 unfold receiverAt
 (repeat' first|exact TC.out|(with_reducible refine aQ ?_ (λ_=>?_))|(with_reducible refine vw ?_ (λ_=>trivial))|(with_reducible exact aY trivial)|(with_reducible refine t_forInArray _ (λ_ _=>?_) _ _)|(with_reducible refine t_forInList _ (λ_ _=>?_) _ _)|(with_reducible refine t_forInRange _ (λ_ _=>?_) _ _)|(with_reducible refine t_mapMArray _ (λ_=>?_) _)|(with_reducible refine t_mapMList _ (λ_=>?_) _)|(with_reducible refine jA ?_ ?_)|split|dsimp only)⟩
instance (t:TypeId) (v:Value) (p:Array FieldStep) (b:Bool):TC P (receiverVia t v p b):=⟨by
 unfold receiverVia
 (repeat' first|exact TC.out|(with_reducible refine aQ ?_ (λ_=>?_))|(with_reducible refine vw ?_ (λ_=>trivial))|(with_reducible exact aY trivial)|(with_reducible refine t_forInArray _ (λ_ _=>?_) _ _)|(with_reducible refine t_forInList _ (λ_ _=>?_) _ _)|(with_reducible refine t_forInRange _ (λ_ _=>?_) _ _)|(with_reducible refine t_mapMArray _ (λ_=>?_) _)|(with_reducible refine t_mapMList _ (λ_=>?_) _)|(with_reducible refine jA ?_ ?_)|split|dsimp only)⟩
theorem t_method:∀(d:Nat)(t:TypeId)(v:Value)(n:String),T1 P (method d t v n)
 |0,_,_,_=>gm _
 |d+1,t,v,n=>by
  have ih:=t_method d;unfold method
  (repeat' first|exact ih _ _ _|exact TC.out|(with_reducible refine aQ ?_ (λ_=>?_))|(with_reducible refine jA ?_ ?_)|split|dsimp only)
instance (d:Nat) (t:TypeId) (v:Value) (n:String):TC P (method d t v n):=⟨t_method d t v n⟩
theorem t_followBlind:∀(l:List FieldStep)(t:TypeId)(x:Option Value),T1 P (followBlind l t x)
 |[],_,_=>aY trivial
 |s::rest,t,x=>by
  have ih:=t_followBlind rest;unfold followBlind
  (repeat' first|exact ih _ _|exact TC.out|(with_reducible refine aQ ?_ (λ_=>?_))|(with_reducible refine jA ?_ ?_)|split|dsimp only)
instance (l:List FieldStep) (t:TypeId) (x:Option Value):TC P (followBlind l t x):=⟨t_followBlind l t x⟩
theorem t_nilAhead:∀(d:Nat)(t:TypeId)(v:Value)(n:String),T1 P (nilAhead d t v n)
 |0,_,_,_=>aY trivial
 |d+1,t,v,n=>by
  have ih:=t_nilAhead d;unfold nilAhead
  (repeat' first|exact ih _ _ _|exact TC.out|(with_reducible refine aQ ?_ (λ_=>?_))|(with_reducible refine jA ?_ ?_)|split|dsimp only)
instance (d:Nat) (t:TypeId) (v:Value) (n:String):TC P (nilAhead d t v n):=⟨t_nilAhead d t v n⟩
instance (t:TypeId) (v:Value):TC P (Builtin.printOne t v):=⟨by
 unfold Builtin.printOne
 (repeat' first|exact TC.out|(with_reducible refine aQ ?_ (λ_=>?_))|(with_reducible refine vw ?_ (λ_=>trivial))|(with_reducible exact aY trivial)|(with_reducible refine t_forInArray _ (λ_ _=>?_) _ _)|(with_reducible refine t_forInList _ (λ_ _=>?_) _ _)|(with_reducible refine t_forInRange _ (λ_ _=>?_) _ _)|(with_reducible refine t_mapMArray _ (λ_=>?_) _)|(with_reducible refine t_mapMList _ (λ_=>?_) _)|(with_reducible refine jA ?_ ?_)|split|dsimp only)⟩
theorem zP{γ σ:Type}:∀(l:List γ)(f:(c:γ)->c∈l->σ->Sem (ForInStep σ))(_:∀c hc s,T1 P (f c hc s))(s:σ),T1 P (forIn' l s f)
 |[],_,_,_=>aY trivial
 |c::l,f,h,s=>by
  rw[List.forIn'_cons];refine aQ (h _ _ _) λr=>?_;split;· exact aY trivial
  exact zP l _ (λ_ _ _=>h _ _ _) _
theorem FL{σ:Type}(n:Nat)(f:(i:Nat)->i∈([:n]:Std.Legacy.Range)->σ->Sem (ForInStep σ))(h:∀i hi s,T1 P (f i hi s))(s:σ):T1 P (forIn' [:n] s f):=by rw[Std.Legacy.Range.forIn'_eq_forIn'_range'];exact zP _ _ (λ_ _ _=>h _ _ _) _
instance (ln:Bool) (c:Array Bool) (ts:Array TypeId) (args:Array Value):TC P (Builtin.pieces ln c ts args):=⟨by
 unfold Builtin.pieces
 (repeat' first|exact TC.out|(with_reducible refine aQ ?_ (λ_=>?_))|(with_reducible refine vw ?_ (λ_=>trivial))|(with_reducible exact aY trivial)|(with_reducible refine FL _ _ (λ_ _ _=>?_) _)|(with_reducible refine t_forInArray _ (λ_ _=>?_) _ _)|(with_reducible refine t_forInList _ (λ_ _=>?_) _ _)|(with_reducible refine jA ?_ ?_)|split|dsimp only)⟩
abbrev TN(P:Program)(s:Sem Next):Prop:=Tm P pY s
theorem af0{s:Sem Next}(h:T1 P s)(h':Yl P pY s):TN P s:=by
 refine⟨λw es he=>?_,h.pf⟩;have:=h.tb w es he;have h2:=h' w es
 revert this h2
 cases s.runT P w es with
 |mk r es'=>
  cases r with
  |ok a w'=>exactλhb h2=>⟨h2 _ _ _ rfl,hb.2⟩
  |halt x w'=>exactλhb _=>hb
theorem Pw(a:Addr)(m:Mode):Pf P (load a m):=(t_load a m).pf
theorem WW(a:Addr)(v:Value)(m:Mode):Pf P (store a v m):=(t_store a v m).pf
theorem KV{α:Type}(m:String):Pf P (stuck m:Sem α):=vD _
theorem ael{α:Type}(m:Unsupported):Pf P (unsupported m:Sem α):=vD _
theorem aah:Pf P Extern.PrintPieces.held:=by
 unfold Extern.PrintPieces.held
 (repeat' first|(with_reducible exact CQ _)|(with_reducible exact vD _)|(with_reducible exact KV _)|(with_reducible exact Pw _ _)|(with_reducible exact t_program1.pf)|(with_reducible refine IX ?_ (λ_=>?_))|split|dsimp only)
theorem WX(a b:Array TypeId)(args:Array Value):Pf P (Extern.PrintPieces.piece a b args):=by
 unfold Extern.PrintPieces.piece
 (repeat' first|(with_reducible exact CQ _)|(with_reducible exact vD _)|(with_reducible exact KV _)|(with_reducible exact ael _)|(with_reducible exact Pw _ _)|(with_reducible exact WW _ _ _)|(with_reducible exact Pv _)|(with_reducible exact aah)|(with_reducible exact(t_writeFd _ _).pf)|(with_reducible exact t_program1.pf)|(with_reducible refine IX ?_ (λ_=>?_))|split|dsimp only)
theorem Kq(a b:Array TypeId)(args:Array Value):TN P (Extern.PrintPieces.piece a b args):=af0 (t_of_td (V2 a b args) (WX a b args)) (WU a b args)
theorem E5(ln:Bool)(c:Array Bool)(ts:Array TypeId)(args:Array Value):TN P (Builtin.printMarked ln c ts args):=by
 unfold Builtin.printMarked;refine aQ TC.out λps=>?_;split;· exact aY trivial
 exact Kq _ _ _
theorem YS{s:Sem Value}(h:T1 P s):TN P (do pure (.value (<-s))):=aQ h λ_=>aY trivial
theorem ahq{s:Sem Unit}(h:T1 P s):TN P (do s;pure .skip):=aQ h λ_=>aY trivial
theorem Ny(b:Builtin)(ts:Array TypeId)(t:TypeId)(c:Array Bool)(args:Array Value):TN P (builtin b ts t c args):=by
 unfold builtin;dsimp only;split<;>first
  |(with_reducible exact YS TC.out)
  |exact E5 _ _ _ _
  |exact aY trivial
  |exact aJ _
  |exact gm _
  |exact aQ TC.out λ_=>aY trivial
theorem u5(hP:Plain P)(f:FuncId)(args:Array Value):TN P (callFunc f args):=by
 unfold callFunc;refine Nz ?_;split;· exact aJ _
 rename_i fn Tj;rw[hP.count f fn Tj];simp only[aI,if_false];split
 .rename_i hb;refine aQ (t_mark (by simp)) λ_=>?_;rw[hP.next f fn Tj hb];dsimp only;split;· rename_i e he;exact YS (hP.find f fn e Tj hb he args)
  split;· exact aY trivial
  exact gm _
 exact aY trivial
theorem kX{α:Type}{R:α->Prop}(e:RuntimeError):Tm P R (runtimePanic e:Sem α):=by unfold runtimePanic;refine aQ t_program1 λp=>?_;dsimp only;split<;>first|exact Ey _|exact aQ TC.out λ_=>aQ TC.out λ_=>Ey _
theorem wT(hP:Plain P)(r:Value)(n:String)(args:Array Value):TN P (callMethod r n args):=by
 unfold callMethod;split;· refine aQ t_program1 λp=>aQ TC.out λx=>?_;exact u5 hP _ _
 .exact kX _
 exact aJ _
theorem mY(hP:Plain P)(t:Target)(args:Array Value):TN P (invoke t args):=by
 unfold invoke;split;· exact kX _
 .exact Ny _ _ _ _ _
 .exact u5 hP _ _
 .split;· exact wT hP _ _ _
  exact aJ _
 .split;· refine aQ TC.out λ_=>?_;exact wT hP _ _ _
  exact aJ _
 .split;· refine aQ TC.out λ_=>?_;exact u5 hP _ _
  exact aJ _
 .unfold Instr.yield;refine aQ TC.out λr=>?_;dsimp only;split;· exact aQ (aJ _) λ_=>aY trivial
  exact aY trivial
 .exact aJ _
 exact aY trivial
instance (f:Value) (args:Array Value):TC P (Deferred.ofValue f args):=⟨by
 unfold Deferred.ofValue
 split<;>first|exact aY trivial|exact aJ _⟩
instance (ρ:Operand->Value) (c:Call) (t:TypeId):TC P (resolve ρ c t):=⟨by
 unfold resolve
 dsimp only
 split<;>first|exact aY trivial|exact TC.out⟩
theorem Gv(hP:Plain P)(ρ:Operand->Value)(o:Oper):TN P (execOp ρ o):=by
 unfold execOp;dsimp only;split<;>first
  |(with_reducible exact YS TC.out)
  |(with_reducible exact ahq TC.out)
  |exact aY trivial
  |exact aQ TC.out λ_=>aY trivial
  |exact aQ TC.out λ_=>mY hP _ _
  |skip
 .split<;>first
   |exact kX _
   |exact aY trivial
   |skip
  split<;>first
   |exact kX _
   |exact aY trivial
   |skip
  refine aQ t_program1 λ_=>aQ TC.out λ_=>?_;split;· exact aQ (gm _) λ_=>aY trivial
  exact aY trivial
 .exact YS (aQ TC.out λ_=>TC.out)
 .refine aQ TC.out λ_=>?_;split;· exact aQ TC.out λ_=>aY trivial
  exact aJ _
 exact aQ (t_mapMArray _ (λ_=>aQ TC.out λ_=>aY trivial) _) λ_=>aY trivial
instance (fn:Func) (ts:Array Value):TC P (results fn ts):=⟨by
 unfold results
 refine aQ (t_mapMArray _ (λr=>?_) _) λvs=>?_
 .split
  .exact aY trivial
  .exact aQ TC.out λ_=>TC.out
 .split<;>exact aY trivial⟩
end
end Go.Co
namespace Go.Co
open Go
def Dy:Item->Prop
 |.call .. =>False
 |.extern r _=>r="runtime.print$piece"
 |_=>True
def okF(fr:Frame):Prop:=∀i∈fr.todo,Dy i
def BK(fr:Frame)(callers:List Frame):Prop:=match callers.getLast? with|none=>fr.kind=.report|some f=>f.kind=.report
def Hg(b:Prop)(dy:Option Dying)(fr:Frame)(callers:List Frame):Prop:=
 okF fr/\(∀f∈callers,okF f)/\((b->dy≠none)/\∀d,dy=some d->(d.calling=false\/BK fr callers))
def tD(b:Prop):GStep->Prop
 |.go g _ es=>FZ es/\Hg b g.dying g.frame g.callers/\(∀t,g.status≠.sleeping t)/\g.status≠.parked
 |.comm g _ _ _ _ es=>FZ es/\Hg b g.dying g.frame g.callers/\g.status=.running
 |.spawn g _ _ es=>FZ es/\Hg b g.dying g.frame g.callers
 |.coroswitch g _ _ _ es=>FZ es/\Hg b g.dying g.frame g.callers
 |.ended .. =>True
 |_=>False
theorem cH{b:Prop}{es:Array Event}{s:GStep}(he:FZ es)(h:tD b s):tD b (GStep.after es s):=by cases s<;>first|exact⟨s9 he h.1,h.2⟩|exact h
theorem bM{b:Prop}{dy:Option Dying}{fr:Frame}{callers:List Frame}{st:GoStatus}{off:Option (Array CommCase×CommShape)}{w:World}(h:Hg b dy fr callers)(hs:(∀t,st≠.sleeping t)/\st≠.parked:=by simp):tD b (.go ⟨fr,callers,st,dy,off⟩ w):=⟨dG,h,hs⟩
variable {b:Prop} {dy:Option Dying} {fr fr':Frame} {callers jH:List Frame}
theorem BA(h:Hg b dy fr callers)(hk:fr'.kind=fr.kind)(ho:okF fr'):Hg b dy fr' callers:=by
 refine⟨ho,h.2.1,h.2.2.1,λd hd=>(h.2.2.2 d hd).imp id ?_⟩;unfold BK;cases callers.getLast? with
 |none=>exactλe=>hk.trans e
 |some f=>exact id
theorem nD(h:Hg b dy fr callers)(ho:okF fr'):Hg b dy fr' (fr::callers):=by
 refine⟨ho,λf hf=>?_,h.2.2.1,λd hd=>(h.2.2.2 d hd).imp id ?_⟩
 .rcases bw.1 hf with rfl|hf;.exact h.1
  exact h.2.1 f hf
 unfold BK;rw[List.getLast?_cons];cases callers.getLast? with
 |none=>exact id
 |some f=>exact id
theorem xA{c:Frame}{rest:List Frame}(h:Hg b dy fr (c::rest))(hk:fr'.kind=c.kind)(ho:okF c->okF fr'):Hg b dy fr' rest:=by
 refine⟨ho (h.2.1 c (by simp)),λf hf=>h.2.1 f (by simp[hf]),h.2.2.1,λd hd=>(h.2.2.2 d hd).imp id ?_⟩;unfold BK;rw[List.getLast?_cons];cases rest.getLast? with
 |none=>exactλe=>hk.trans e
 |some f=>exact id
theorem K0{fr fr':Frame}(h:okF fr)(e:∀i∈fr'.todo,i∈fr.todo\/Dy i):okF fr':=λi hi=>(e i hi).elim (h i) id
theorem K1{fr fr':Frame}(h:okF fr)(e:fr'.todo=fr.todo):okF fr':=λi hi=>h i (e▸hi)
theorem xS(h:okF fr)(v:Value):okF (fr.finish v):=by
 unfold Frame.finish;split
 .rename_i hk;intro i hi;rcases bw.1 hi with rfl|hi;.trivial
  exact h i (by rw[hk];simp[hi])
 .rename_i hk;intro i hi;rcases bw.1 hi with rfl|hi;.trivial
  exact h i (by rw[hk];simp[hi])
 .rename_i hk;intro i hi;exact h i (by rw[hk];simp[hi])
 .rename_i hk;exact absurd (h _ (by rw[hk];exact fH ..)) id
 .rename_i hk;intro i hi;exact h i (by rw[hk];simp[hi])
 exact h
theorem vc(fr:Frame)(v:Value):(fr.finish v).kind=fr.kind:=by unfold Frame.finish;split<;>rfl
theorem GO(h:okF fr)(l:List PanicEntry):okF (fr.raise l):=by unfold Frame.raise;split<;>exact h
theorem EY(fr:Frame)(l:List PanicEntry):(fr.raise l).kind=fr.kind:=by unfold Frame.raise;split<;>rfl
theorem ng(P:Program)(f:FuncId)(args:Array Value)(k:CallKind):okF (Frame.enter P f args k):=by intro i hi;simp only[Frame.enter,bI]at hi;subst hi;trivial
theorem GN(l:Nat)(f:FuncId)(tmps:Array Value)(a c:Code)(k:CallKind):okF (Frame.round l f tmps a c k):=by intro i hi;simp only[Frame.round,bw,eB,or_false]at hi;rcases hi with rfl|rfl|rfl<;>trivial
theorem PB(P:Program)(args:Array Value)(k:CallKind):okF (Frame.ofRow P "runtime.print$piece" args k):=by intro i hi;simp only[Frame.ofRow,bI]at hi;subst hi;exact rfl
theorem eH(h:Hg b dy fr callers)(v:Value):Hg b dy (fr.finish v) callers:=BA h (vc _ _) (xS h.1 v)
theorem rS(h:Hg b dy fr callers)(l:List PanicEntry):Hg b dy (fr.raise l) callers:=BA h (EY _ _) (GO h.1 l)
theorem vJ(h:Hg b dy fr callers)(hk:fr'.kind=fr.kind)(ht:fr'.todo=fr.todo):Hg b dy fr' callers:=BA h hk (K1 h.1 ht)
theorem s8:∀{fr:Frame}{callers jH:List Frame}{v:Value},tryRecover fr callers=some (v,jH)->Hg b dy fr callers->Hg b dy fr jH:=by
 intro fr callers;induction callers generalizing fr with
 |nil=>intro jH v e;simp[tryRecover]at e
 |cons c rest ih=>
  intro jH v e h;unfold tryRecover at e;split at e
  .rename_i hc;simp only[List.cons.injEq]at hc;obtain⟨rfl,rfl⟩:=hc;split at e
   .simp only[aB,az]at e;obtain⟨-,rfl⟩:=e;refine⟨h.1,λf hf=>?_,h.2.2.1,λd hd=>(h.2.2.2 d hd).imp id ?_⟩
    .rcases bw.1 hf with rfl|hf;.exact K1 (h.2.1 _ (fH ..)) rfl
     exact h.2.1 f (by simp[hf])
    unfold BK;rw[List.getLast?_cons,List.getLast?_cons];cases rest.getLast?<;>exact id
   cases e
  .rename_i hc;simp only[List.cons.injEq]at hc;obtain⟨rfl,rfl⟩:=hc;simp only[af,Prod.exists,az]at e;obtain⟨a,r,e,rfl,rfl⟩:=e;exact nD (ih e (xA (fr':=c) h rfl id)) h.1
  cases e
theorem E9:∀{l:Nat}{fr:Frame}{callers jH:List Frame}{v:Value},tryRecoverLoop l callers=some (v,jH)->Hg b dy fr callers->Hg b dy fr jH:=by
 intro l fr callers;induction callers generalizing fr l with
 |nil=>intro jH v e;simp[tryRecoverLoop]at e
 |cons c rest ih=>
  intro jH v e h;unfold tryRecoverLoop at e;simp only[af,Prod.exists,az]at e;obtain⟨a,r,e,rfl,rfl⟩:=e;have h':=xA (fr':=c) h rfl id;have:Hg b dy c r:=by
   split at e;.exact ih e h'
   .split at e;.exact s8 e h'
    exact ih e h'
   exact ih e h'
  exact nD this h.1
theorem Ss(d:Nat)(e:Event)(es:List Event):deafBehind d ⟨e::es⟩=deafBehind (deafBehind d #[e]) ⟨es⟩:=by
 have e1:(⟨e::es⟩:Array Event)=#[e]++⟨es⟩:=by simp
 rw[e1,gL]
theorem E6{P:Program}(hq:∀f:FuncId,(P.funcs[f]?).any (·.norace)=false)(fn:FuncId)(es:Array Event)(d:Nat):deafBehind d (seen P fn es)=deafBehind d es:=by
 obtain⟨l⟩:=es;have key:∀(l:List Event)(kept:Array Event),deafBehind d (l.foldl (λ(x:Bool×Array Event) e=>
   match e.loc with
   |.mark (.extern _)=>(false,x.2)
   |_=>(x.1,if x.1&&!e.sync then x.2 else x.2.push e)) (false,kept)).2=deafBehind (deafBehind d kept) ⟨l⟩:=by
  intro l;induction l with
  |nil=>intro kept;rfl
  |cons e l ih=>
   intro kept;rw[gp,Ss];split;.rename_i f hf;rw[ih];congr 1;have:=ei (deafBehind d kept) #[] e;rw[hf]at this;exact this.symm
   simp only[Bool.false_and,aI,if_false];rw[ih];congr 1;rw[<-gL];rfl
 have:=key l #[];unfold seen;simp only[hq];rw[<-y9];exact this
theorem di{P:Program}(hP:Plain P)(fn:FuncId){es:Array Event}(h:FZ es):FZ (seen P fn es):=by unfold FZ;rw[E6 hP.quiet];exact h
theorem qD{b:Prop}{c:Prop}[Decidable c]{x y:GStep}(hx:tD b x)(hy:tD b y):tD b (if c then x else y):=by split<;>assumption
theorem Lm{b:Prop}(fr:Frame)(h:okF fr)(a:List ByteArray)(m:String)(x:Bool)(w:World):tD b (dieOf fr a m x w):=
 ⟨dG,⟨h,λ_ hf=>absurd hf (eB),⟨λ_ hx=>(nomatch hx),λd hd=>.inl (by cases hd;rfl)⟩⟩,by simp⟩
theorem qR{b:Prop}(fr:Frame)(h:okF fr)(m:String)(w:World):tD b (endThrow fr m w):=Lm fr h _ _ _ w
theorem Cb{b:Prop}(P:Program)(fr:Frame)(h:okF fr)(callers:List Frame)(dy:Option Dying)(m:String)(w:World):tD b (endFatal P fr callers dy m w):=by
 unfold endFatal;dsimp only;split;.exact Lm fr h _ _ _ _
 .exact trivial
 exact trivial
theorem vq{b:Prop}(P:Program)(fr:Frame)(h:okF fr)(v:Value)(w:World):tD b (endPrinting P fr v w):=by
 unfold endPrinting;dsimp only;split;.exact qR fr h _ _
 exact trivial
theorem N7{b:Prop}(w:World)(fd:Nat)(t:ByteArray)(o:Outcome):tD b (endWith w fd t o):=by
 unfold endWith;dsimp only;split;.split<;>exact trivial
 .exact trivial
 exact trivial
theorem zF{P:Program}:∀(l:List Nat),Hg b dy fr callers->∀f,Hg b dy (Frame.enter P f #[] .early) (l.map (Frame.enter P · #[] .early)++fr::callers)
 |[],h,f=>nD h (by exact ng _ _ _ _)
 |x::l,h,f=>nD (zF l h x) (by exact ng _ _ _ _)
theorem XJ(P:Program)(h:Hg b dy fr callers)(g:Nat)(w:World):tD b (early P fr callers dy g w):=by
 have notYet:∀w:World,tD b
   (match w.heap[g]? with
    |some (.pending c elem)=>.go {frame:=fr,callers,status:=.running,dying:=dy} {w with heap:=w.heap.setIfInBounds g (.cells c elem)}
    |_=>.ended (.stuck "early: the variable does not wait" (fr.pos P)) w):=by
  intro w;split;.exact bM h
  exact trivial
 unfold early;dsimp only;split;.exact notYet w
 split;.exact trivial
 split;.exact notYet w
 split;.exact notYet w
 split;.exact trivial
 .exact bM (zF _ h _)
 .exact trivial
 .exact notYet w
 split;.exact bM (zF _ h _)
 split;.exact notYet w
 split;.exact notYet _
 .exact bM (zF _ h _)
 exact trivial
theorem uZ{P:Program}(hP:Plain P)(h:Hg b dy fr callers){s:Sem Next}(hs:TN P s)(w:World):tD b (stepG.apply P true fr callers dy s w):=by
 unfold stepG.apply;have:=hs.tb w #[] dG
 revert this
 generalize s.runT P w #[]=x;obtain⟨r,es⟩:=x;simp only[if_true];intro this;cases r with
 |ok a w'=>
  obtain⟨hn,he⟩:=this;refine cH (di hP _ (by split<;>first|exact dG|exact he)) ?_;cases a with
  |callThen d r s x=>exact absurd hn id
  |stack r s=>exact absurd hn id
  |row r args=>
   have hr:r="runtime.print$piece":=hn;subst hr;dsimp only;split
   .rename_i k hk;refine bM (BA h rfl ?_);intro i hi;rcases bw.1 hi with rfl|hi;.exact rfl
    exact h.1 i (by rw[hk];simp[hi])
   exact bM (nD h (by exact PB _ _ _))
  |value v=>exact bM (eH h v)
  |skip=>exact bM (eH h _)
  |enter f args=>exact bM (nD h (by exact ng _ _ _ _))
  |round l f tmps as body=>exact bM (nD h (by exact GN _ _ _ _ _ _))
  |defer d=>exact bM (eH (fr:={fr with defers:=d::fr.defers}) (vJ h rfl rfl) _)
  |recover=>
   dsimp only;split
   .rename_i v jH e;split at e
    .split at e;.exact bM (eH (s8 e h) _)
     exact bM (eH (E9 e h) _)
    exact bM (eH (s8 e h) _)
   exact bM (eH h _)
  |comm c bl sh=>exact⟨dG,h,rfl⟩
  |coroswitch c x=>exact⟨dG,h⟩
  |spawn d=>dsimp only;exact qD (qR fr h.1 _ _) ⟨dG,eH h _⟩
  |_=>exact absurd hn id
 |halt x w'=>
  cases x with
  |panic v=>exact cH (di hP _ (by split<;>first|exact dG|exact this trivial)) (bM (rS h _))
  |goexit=>exact cH (di hP _ (by split<;>first|exact dG|exact this trivial)) (bM (rS h _))
  |blocked=>exact cH (di hP _ (by split<;>exact dG)) (bM h)
  |waiting=>exact cH (di hP _ (by split<;>exact dG)) (bM h)
  |fatal m=>exact cH (di hP _ (by split<;>first|exact dG|exact this trivial)) (Cb P fr h.1 _ _ _ _)
  |throw m=>exact cH (di hP _ (by split<;>first|exact dG|exact this trivial)) (qR fr h.1 _ _)
  |unsupported u=>
   cases u with
   |initOrder g=>exact cH (di hP _ (by split<;>exact dG)) (XJ P h _ _)
   |_=>exact trivial
  |exit c=>exact trivial
  |stuck s=>exact trivial
theorem aak{P:Program}(hP:Plain P)(h:Hg b dy fr callers)(w:World):tD b (stepG.oper P true fr callers dy w):=by
 unfold stepG.oper;split;.exact trivial
 split;.refine uZ hP h ?_ w;exact aQ TC.out λ_=>aQ TC.out λ_=>aY trivial
 exact uZ hP h (Gv hP _ _) w
theorem vh(P:Program)(main:Bool)(h:Hg b dy fr callers)(hx:dy≠none->BK fr callers)(v:Value)(w:World):tD b (doReturn P main fr callers dy v w):=by
 unfold doReturn;split
 .rename_i c rest;split;.exact bM (xA h (vc _ _) λhc=>xS hc _)
  .exact bM (xA h (vc _ _) λhc=>xS hc _)
  .exact bM (xA h rfl id)
  dsimp only;refine bM (xA h ?_ λhc=>?_)
  .split;.split<;>rfl
   rfl
  split;.split<;>exact hc
  exact hc
 split;.exact bM ⟨h.1,h.2.1,⟨λ_ hx=>(nomatch hx),λd hd=>.inl (by cases hd;rfl)⟩⟩
 .exact trivial
 rename_i hk _;have nb:b->False:=λhb=>hk (hx (h.2.2.1 hb));split;.exact bM ⟨h.1,h.2.1,λhb=>(nb hb).elim,λd hd=>(nomatch hd)⟩
 split;.exact bM ⟨ng _ _ _ _,h.2.1,λhb=>(nb hb).elim,λd hd=>(nomatch hd)⟩
 exact trivial
theorem CC{P:Program}(hP:Plain P)(h:Hg b dy fr callers)(d:Deferred)(w:World):tD b (callDeferred P fr callers dy d w):=by
 unfold callDeferred;refine qD trivial ?_;have:=(mY hP d.target d.args).tb w #[] dG
 revert this
 generalize(invoke d.target d.args).runT P w #[]=x;obtain⟨r,es⟩:=x;intro this;dsimp only;cases r with
 |ok a w'=>
  obtain⟨hn,he⟩:=this;refine cH (di hP _ he) ?_;cases a with
  |callThen d r s x=>exact absurd hn id
  |stack r s=>exact absurd hn id
  |row r args=>have hr:r="runtime.print$piece":=hn;subst hr;exact bM (nD h (PB _ _ _))
  |enter f args=>exact bM (nD h (ng _ _ _ _))
  |round l f tmps as body=>exact bM (nD h (GN _ _ _ _ _ _))
  |recover=>
   dsimp only;split;.rename_i e;exact bM (s8 e h)
   exact bM h
  |coroswitch c x=>cases x<;>first|exact trivial|exact⟨dG,h⟩
  |value v=>exact bM h
  |skip=>exact bM h
  |defer d=>exact bM h
  |spawn d=>exact bM h
  |comm c bl sh=>exact bM h
  |_=>exact absurd hn id
 |halt x w'=>
  cases x with
  |panic v=>exact cH (di hP _ (this trivial)) (bM (rS h _))
  |goexit=>exact cH (di hP _ (this trivial)) (bM (rS h _))
  |blocked=>exact cH (di hP _ dG) (bM (vJ h rfl rfl))
  |waiting=>exact cH (di hP _ dG) (bM (vJ h rfl rfl))
  |fatal m=>exact cH (di hP _ (this trivial)) (Cb P fr h.1 _ _ _ _)
  |throw m=>exact cH (di hP _ (this trivial)) (qR fr h.1 _ _)
  |unsupported u=>exact trivial
  |exit c=>exact trivial
  |stuck s=>exact trivial
theorem Q8{P:Program}(hP:Plain P)(main:Bool)(h:Hg b dy fr callers)(hx:dy≠none->BK fr callers)(w:World):tD b (unwind P main fr callers dy w):=by
 unfold unwind;split
 .rename_i block args ds hk;have:=(TC.out:T1 P (Instr.takeDeferred block)).tb w #[] dG
  revert this
  generalize(Instr.takeDeferred block).runT P w #[]=x;obtain⟨r,es⟩:=x;intro this;cases r with
  |ok a w'=>exact cH (di hP _ this.2) (bM (vJ h rfl rfl))
  |halt x w'=>exact trivial
 .rename_i d ds _ _;exact CC (fr:={fr with defers:=ds}) hP (vJ h rfl rfl) _ w
 split;.exact trivial
 .refine qD trivial ?_;split;.exact bM (xA h (EY _ _) λhc=>GO hc _)
  split
  .refine qD (bM ⟨h.1,h.2.1,h.2.2.1,λd hd=>(nomatch hd)⟩) ?_;split;.exact bM ⟨h.1,h.2.1,⟨λ_ hx=>(nomatch hx),λd hd=>.inl (by cases hd;rfl)⟩⟩
   .exact trivial
   exact trivial
  split;.exact vq P fr h.1 _ _
  exact trivial
 split;.exact vh P main h hx _ w
 rename_i fn _;have:=(TC.out:T1 P (results fn fr.tmps)).tb w #[] dG
 revert this
 generalize(results fn fr.tmps).runT P w #[]=x;obtain⟨r,es⟩:=x;intro this;cases r with
 |ok a w'=>exact cH (di hP _ this.2) (vh P main h hx _ _)
 |halt x w'=>cases x<;>exact trivial
theorem xT{id:Nat}:∀{k k':List Item},exitTo id k=some k'->∀i∈k',i∈k
 |[],_,e=>by simp[exitTo]at e
 |x::k,k',e=>by
  unfold exitTo at e;split at e
  .rename_i hk;cases hk;split at e;.cases e;exactλi hi=>by simp[hi]
   exactλi hi=>by simp[xT e i hi]
  .rename_i hk;cases hk;exactλi hi=>by simp[xT e i hi]
  rename_i hk;cases hk
theorem xR{l:Nat}:∀{k k':List Item},gotoIn l k=some k'->∀i∈k',i∈k\/Dy i
 |[],_,e=>by simp[gotoIn]at e
 |x::k,k',e=>by
  unfold gotoIn at e;split at e
  .rename_i hk;cases hk;split at e
   .cases e;intro i hi;rcases bw.1 hi with rfl|hi;.exact .inr trivial
    exact .inl (by simpa using hi)
   intro i hi;rcases xR e i hi with h|h;.exact .inl (by simp[h])
   exact .inr h
  .rename_i hk;cases hk;intro i hi;rcases xR e i hi with h|h;.exact .inl (by simp[h])
   exact .inr h
  rename_i hk;cases hk
theorem ET{P:Program}{e:Array Value->Sem Next}(h:Extern.next "runtime.print$piece"=some e)(args:Array Value):TN P (e args):=by
 have:Extern.next "runtime.print$piece"=some (Extern.PrintPieces.piece #[] #[]):=by rfl
 rw[this]at h;cases h;exact Kq _ _ _
theorem aaS{P:Program}(hP:Plain P)(main:Bool)(h:Hg b dy fr callers)(hx:dy≠none->BK fr callers)(w:World):tD b (stepG.exec P main true fr callers dy w):=by
 have leave:∀jump:Option Code,tD b
   (match fr.roundOf with
    |none=>if jump matches none|some .ret then .go {frame:={fr with mode:=.returning},callers,status:=.running,dying:=dy} w else .ended (.stuck "exit, goto: no such block or label" (fr.pos P)) w
    |some l=>
     GStep.after (seen P fr.fn ((Instr.endRound l jump).runT P w #[]).2)<|match((Instr.endRound l jump).runT P w #[]).1 with
     |.ok v w=>doReturn P main fr callers dy v w
     |.halt _ w=>.ended (.stuck "range over a function: no such loop" (fr.pos P)) w):=by
  intro jump;cases fr.roundOf with
  |none=>exact qD (bM (vJ h rfl rfl)) trivial
  |some l=>
   dsimp only;have:=(TC.out:T1 P (Instr.endRound l jump)).tb w #[] dG
   revert this
   generalize(Instr.endRound l jump).runT P w #[]=x;obtain⟨r,es⟩:=x;intro this;cases r with
   |ok a w'=>exact cH (di hP _ this.2) (vh P main h hx _ _)
   |halt x w'=>exact trivial
 have to:∀(todo:List Item),(∀i∈todo,i∈fr.todo\/Dy i)->tD b (.go {frame:={fr with todo},callers,status:=.running,dying:=dy} w):=
  λtodo ht=>bM (BA h rfl (K0 h.1 ht))
 have ho:=h.1;unfold stepG.exec;dsimp only;split;.exact leave none
 .exact leave (some .ret)
 .rename_i k hk;exact to k (λi hi=>.inl (by rw[hk];simp[hi]))
 .rename_i k hk;exact to k (λi hi=>.inl (by rw[hk];simp[hi]))
 .rename_i k hk;exact to k (λi hi=>.inl (by rw[hk];simp[hi]))
 .rename_i k hk;exact to k (λi hi=>.inl (by rw[hk];simp[hi]))
 .rename_i x y k hk;refine to _ λi hi=>?_;rcases bw.1 hi with rfl|hi;.exact .inr trivial
  rcases bw.1 hi with rfl|hi;.exact .inr trivial
  exact .inl (by rw[hk];simp[hi])
 .rename_i c x y k hk;split
  .refine to _ λi hi=>?_;rcases bw.1 hi with rfl|hi;.exact .inr trivial
   exact .inl (by rw[hk];simp[hi])
  exact trivial
 .rename_i k hk;refine to _ λi hi=>?_;rcases bw.1 hi with rfl|hi;.exact .inr trivial
  rcases bw.1 hi with rfl|hi;.exact .inr trivial
  exact .inl (by rw[hk];simp[hi])
 .rename_i k hk;refine to _ λi hi=>?_;rcases bw.1 hi with rfl|hi;.exact .inr trivial
  rcases bw.1 hi with rfl|hi;.exact .inr trivial
  exact .inl (by rw[hk];simp[hi])
 .rename_i k hk;refine to _ λi hi=>?_;rcases bw.1 hi with rfl|hi;.exact .inr trivial
  rcases bw.1 hi with rfl|hi;.exact .inr trivial
  exact .inl (by rw[hk];simp[hi])
 .rename_i k hk;refine to _ λi hi=>?_;rcases bw.1 hi with rfl|hi;.exact .inr trivial
  rcases bw.1 hi with rfl|hi;.exact .inr trivial
  exact .inl (by rw[hk];simp[hi])
 .rename_i id k hk;cases e:exitTo id k with
  |none=>exact leave (some (.exit id))
  |some k'=>exact to k' λi hi=>.inl (by rw[hk];simp[xT e i hi])
 .rename_i l k hk;cases e:gotoIn l k with
  |none=>exact leave (some (.goto l))
  |some k'=>exact to k' λi hi=>(xR e i hi).imp (λhi=>by rw[hk];simp[hi]) _root_.id
 .rename_i f params assign body k hk;have:=(TC.out:T1 P (Instr.enterLoop fr.fn fr.tmps params assign body fr.roundOf)).tb w #[] dG
  revert this
  generalize(Instr.enterLoop fr.fn fr.tmps params assign body fr.roundOf).runT P w #[]=x;obtain⟨r,es⟩:=x;intro this;cases r with
  |ok a w'=>
   refine cH (di hP _ this.2) ?_;refine uZ (fr:={fr with todo:=.inRangeFunc a.1::k,defers:=a.2++fr.defers}) hP (BA h rfl ?_) (aQ TC.out λ_=>mY hP _ _) _;intro i hi;rcases bw.1 hi with rfl|hi;.exact trivial
   exact ho i (by rw[hk];simp[hi])
  |halt x w'=>exact trivial
 .exact trivial
 .refine uZ hP h (aQ ?_ λ_=>aY (show pY .skip from trivial)) w;cases fr.roundOf with
  |none=>exact aJ _
  |some l=>exact(TC.out:T1 P (Instr.beginRound l))
 .rename_i l k hk;have:=(TC.out:T1 P (Instr.endLoop l)).tb w #[] dG
  revert this
  generalize(Instr.endLoop l).runT P w #[]=x;obtain⟨r,es⟩:=x;intro this;cases r with
  |ok a w'=>
   refine cH (di hP _ this.2) (bM (BA h rfl ?_));intro i hi;rcases eY.1 hi with hi|hi
   .cases a with
    |none=>simp at hi
    |some c=>simp at hi;subst hi;exact trivial
   exact ho i (by rw[hk];simp[hi])
  |halt x w'=>
   cases x with
   |panic v=>exact cH (di hP _ (this trivial)) (bM (rS h _))
   |_=>exact trivial
 .exact trivial
 .rename_i hk;exact absurd (ho _ (by rw[hk];exact fH ..)) id
 .rename_i row args k hk;have hr:row="runtime.print$piece":=ho (.extern row args) (by rw[hk];exact fH ..);subst hr;cases e:Extern.next "runtime.print$piece" with
  |none=>exact trivial
  |some x=>exact uZ hP h (ET e args) w
 .rename_i id ops draw k hk;have o7:∀t,∀i∈(Item.inRegion ops t::k),i∈fr.todo\/Dy i:=λt i hi=>by
   rcases bw.1 hi with rfl|hi;.exact .inr trivial
   exact .inl (by rw[hk];simp[hi])
  refine qD (to _ (o7 _)) ?_;split;.exact bM (BA h rfl (K0 ho (o7 _)))
  exact trivial
 .rename_i k hk;exact to k (λi hi=>.inl (by rw[hk];simp[hi]))
 exact qD (aak hP h w) (bM (eH h _))
theorem adY{P:Program}{α:Type}{d d':Nat}(m:Unsupported):Td P d d' (unsupported m:Sem α):=CN id
theorem adZ{P:Program}{d:Nat}(c:Sys):Td P d d (sys c):=λ_ es he=>by show deafBehind 0 (es.push _)=_;rw[ei,he]
theorem Nw{b:Prop}{P:Program}(fr:Frame)(d:Dying)(f:Fatal)(ho:okF fr)(hd:d.calling=false)(w:World):tD b (writeOn P fr d f w):=by
 unfold writeOn;dsimp only;split;.exact trivial
 rename_i piece rest _;have hT:Tb P (λ_=>True) (do
   if !(f.whole&&f.begun)then
    mark .disable
    if<-Extern.PrintPieces.held then .halt .blocked
    if f.whole then store (printLock (<-program)) (.bool true) .atomic
    mark .enable
   if piece.size>65536 then unsupported (.noEntry "a report of more than 65536 bytes")
   match<-sys (.write 2 piece)with
   |.int n=>if n !=piece.size then unsupported (.noEntry "a report that its descriptor cannot take whole")
   |.err _=>pure ()
   |_=>unsupported (.noEntry "a report that its descriptor cannot take whole"):Sem Unit):=by
  refine Ku ?_
  (repeat' first|(with_reducible exact Ks _)|(with_reducible exact ID _)|(with_reducible refine zO _ _)|(with_reducible refine Ez _ _)|(with_reducible refine BO id _)|(with_reducible refine ji EA (λ_=>?_))|(with_reducible refine ji vV (λ_=>?_))|(with_reducible exact vV)|(with_reducible exact CN id)|(with_reducible exact adY _)|(with_reducible refine ji O1 (λ_=>?_))|(with_reducible refine ji xI (λ_=>?_))|(with_reducible refine ji (Kt _ _ _) (λ_=>?_))|(with_reducible refine ji (adZ _) (λ_=>?_))|split|dsimp only)
 have:=hT w #[] dG
 revert this
 generalize Sem.runT P _ w #[]=x;obtain⟨r,es⟩:=x;intro this;cases r with
 |ok a w'=>exact⟨this.2,⟨ho,λ_ hf=>absurd hf (eB),⟨λ_ hx=>(nomatch hx),λd' xg=>.inl (by cases xg;exact hd)⟩⟩,by simp⟩
 |halt x w'=>
  cases x with
  |blocked=>exact⟨dG,⟨ho,λ_ hf=>absurd hf (eB),⟨λ_ hx=>(nomatch hx),λd' xg=>.inl (by cases xg;exact hd)⟩⟩,by simp⟩
  |_=>exact trivial
theorem aeM{b:Prop}{P:Program}(hP:Plain P)(fr:Frame)(d:Dying)(ho:okF fr)(hd:d.calling=false)(w:World):tD b (die P fr d w):=by
 have hg:∀(d:Dying),d.calling=false->Hg b (some d) fr []:=λd hd=>⟨ho,λ_ hf=>absurd hf (eB),⟨λ_ hx=>(nomatch hx),λd' xg=>.inl (by cases xg;exact hd)⟩⟩;unfold die;split;.exact Nw fr d _ ho hd w
 split;.exact qD (bM (hg d hd)) (N7 _ _ _ _)
 dsimp only;split;.exact bM (hg _ hd)
 .split;.exact bM (hg _ hd)
  exact trivial
 .rename_i t recv name _;have:=(mY hP (.fn (.method name) #[]) #[.iface t recv]).tb w #[] dG
  revert this
  generalize(invoke (.fn (.method name) #[]) #[.iface t recv]).runT P w #[]=x;obtain⟨r,es⟩:=x;intro this;dsimp only;split;.refine cH (di hP _ this.2) (bM ⟨ng _ _ _ _,λ_ hf=>absurd hf (eB),⟨λ_ hx=>(nomatch hx),λd' xg=>.inr rfl⟩⟩)
  .exact cH (di hP _ this.2) (bM (hg _ hd))
  .exact trivial
  .exact cH (di hP _ (this trivial)) (vq P fr ho _ _)
  exact trivial
 exact trivial
theorem rN{b:Prop}{P:Program}(hP:Plain P)(main:Bool)(g:Goroutine)(h:Hg b g.dying g.frame g.callers)(w:World):tD b (stepG P main g w):=by
 obtain⟨fr,callers,st,dy,off⟩:=g;unfold stepG;dsimp only at h⊢;split;.rename_i d hc _;exact aeM hP fr _ h.1 rfl w
 .rename_i hd hm;refine aaS hP main h (λhb=>?_) w;obtain⟨d,Mu⟩:=C3.1 hb;rcases h.2.2.2 d Mu with h'|h';.obtain⟨_,_,_,_,_,_,_⟩:=d;simp only at h';subst h';exact(hd _ _ _ _ _ _ Mu).elim
  exact h'
 rename_i hd hm;refine Q8 hP main h (λhb=>?_) w;obtain⟨d,Mu⟩:=C3.1 hb;rcases h.2.2.2 d Mu with h'|h';.obtain⟨_,_,_,_,_,_,_⟩:=d;simp only at h';subst h';exact(hd _ _ _ _ _ _ Mu).elim
 exact h'
end Go.Co
