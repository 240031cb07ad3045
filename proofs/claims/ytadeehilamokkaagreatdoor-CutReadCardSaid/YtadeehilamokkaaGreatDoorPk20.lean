import Derived.Test.YtadeehilamokkaaGreatDoorPk19
import Derived.Conc.Beside
import Derived.Conc.CrowdComm
import Derived.Lone
namespace Go.Co
open Go
variable {hz:Hz}
theorem MH{P:Program}{α:Type}{s:Sem α}(hs:Pf P s){L W:World}(h:Sync hz L W):Over hz (s.run P L)\/JS hz (s.run P L) (s.run P W):=by have:=hs hz L W #[] h;unfold Sim at this;simp only[Sem.runT_fst]at this;exact this.imp id (·.1)
def gN(hz:Hz):GStep->GStep->Prop
 |.go g L es,s=>g.dying=none->L.drawn<=hz.h->∃W,s=.go g W es/\Sync hz L W
 |.comm g c b sh L es,s=>g.dying=none->L.drawn<=hz.h->∃W,s=.comm g c b sh W es/\Sync hz L W
 |.coroswitch g c x L es,s=>g.dying=none->L.drawn<=hz.h->∃W,s=.coroswitch g c x W es/\Sync hz L W
 |_,_=>True
def E8(hz:Hz):GStep->Prop
 |.go g L _=>g.dying=none->hz.h<L.drawn
 |.comm g _ _ _ L _=>g.dying=none->hz.h<L.drawn
 |.coroswitch g _ _ L _=>g.dying=none->hz.h<L.drawn
 |_=>True
theorem fK{s s':GStep}(h:E8 hz s):gN hz s s':=by cases s<;>first|exact trivial|exactλhd hl=>absurd (h hd) U
theorem E8.after (es:Array Event){s:GStep}(h:E8 hz s):E8 hz (GStep.after es s):=by cases s<;>exact h
theorem gN.after (es:Array Event){s s':GStep}(h:gN hz s s'):gN hz (GStep.after es s) (GStep.after es s'):=by cases s<;>first|exact trivial|(intro hd hl;obtain⟨W,rfl,hs⟩:=h hd hl;exact⟨W,rfl,hs⟩)
theorem bZ(g:Goroutine)(es:Array Event){L W:World}(h:Sync hz L W):gN hz (.go g L es) (.go g W es):=λ_ _=>⟨W,rfl,h⟩
theorem F8{c:Prop}[Decidable c]{a a' b b':GStep}(h:gN hz a a')(h':gN hz b b'):gN hz (if c then a else b) (if c then a' else b'):=by grind
theorem Gn(fr:Frame)(a:List ByteArray)(m:String)(b:Bool)(L:World):E8 hz (dieOf fr a m b L):=λhd=>nomatch hd
theorem gu(fr:Frame)(m:String)(L:World):E8 hz (endThrow fr m L):=Gn _ _ _ _ _
theorem lF(P:Program)(fr:Frame)(callers:List Frame)(dy:Option Dying)(m:String)(L:World):E8 hz (endFatal P fr callers dy m L):=by unfold endFatal;dsimp only;split;exact Gn _ _ _ _ _;exact trivial;exact trivial
theorem Gl(P:Program)(fr:Frame)(callers:List Frame)(dy:Option Dying)(g:Nat){L:World}(h:hz.h<L.drawn):E8 hz (early P fr callers dy g L):=by
 have notYet:∀{L:World},hz.h<L.drawn->E8 hz
   (match L.heap[g]? with
    |some (.pending c elem)=>.go {frame:=fr,callers,status:=.running,dying:=dy} {L with heap:=L.heap.setIfInBounds g (.cells c elem)}
    |_=>.ended (.stuck "early: the variable does not wait" (fr.pos P)) L):=by
  intro L h;split;exactλ_=>h;exact trivial
 unfold early;dsimp only;split
 grind
 split;exact trivial;split
 grind
 split
 grind
 split;exact trivial;exactλ_=>h;exact trivial
 grind
 split;exactλ_=>h;split
 grind
 have hm:=jb P (choose (.early g)) L #[];rw[Sem.runT_fst]at hm;generalize Sem.run P (choose (.early g)) L=x at hm;cases x with
 |ok a w=>
  cases a with
  |zero=>exact notYet (cG h hm)
  |succ a=>exactλ_=>cG h hm
 |halt x w=>exact trivial
theorem N3(P:Program)(fr:Frame)(callers:List Frame)(dy:Option Dying)(g:Nat){L W:World}(h:Sync hz L W):gN hz (early P fr callers dy g L) (early P fr callers dy g W):=by
 have hb:∀n a b,P.brought W n a b=P.brought L n a b:=by
  intro n;induction n with
  |zero=>intro a b;rfl
  |succ n ih=>
   intro a b;cases a with
   |nil=>rfl
   |cons f todo=>simp only[Program.brought,ih,h.heap]
 have hsh:W.shape?=L.shape?:=by funext r;unfold World.shape?;rw[h.heap]
 have hf:∀n f,P.found W n f=P.found L n f:=by
  intro n;induction n with
  |zero=>intro f;rfl
  |succ n ih=>intro f;simp only[Program.found,ih,h.heap,hsh]
 have notYet:∀{L W:World},Sync hz L W->gN hz
   (match L.heap[g]? with
    |some (.pending c elem)=>.go {frame:=fr,callers,status:=.running,dying:=dy} {L with heap:=L.heap.setIfInBounds g (.cells c elem)}
    |_=>.ended (.stuck "early: the variable does not wait" (fr.pos P)) L)
   (match W.heap[g]? with
    |some (.pending c elem)=>.go {frame:=fr,callers,status:=.running,dying:=dy} {W with heap:=W.heap.setIfInBounds g (.cells c elem)}
    |_=>.ended (.stuck "early: the variable does not wait" (fr.pos P)) W):=by
  intro L W h;rw[h.heap];split;exact bZ _ _ (h.qF _);exact trivial
 unfold early;simp only[hb,hf,hsh];by_cases hfo:P.follows .staticDataAhead=true;simp only[hfo,fN,aJ,if_false];cases P.stepOf g with
 |none=>exact trivial
 |some f=>
  simp only;split
  grind
  split
  grind
  split;exact trivial;exact bZ _ _ h;exact trivial
  grind
  split;exact bZ _ _ h;split
  grind
  have hr:=MH (t_choose (P:=P) (.early g)).pf h;generalize Sem.run P (choose (.early g)) L=x at hr;generalize Sem.run P (choose (.early g)) W=y at hr;rcases hr with ho|hr;cases x with
  |ok a w=>
   rcases ho with ho|⟨m,w,e⟩;refine fK ?_;cases a with
   |zero=>show E8 hz (match w.heap[g]? with|some (.pending c elem)=>_|_=>_);split;exactλ_=>ho;exact trivial
   |succ a=>exactλ_=>ho
   cases e
  |halt x w=>exact trivial
  cases hr with
  |ok a h'=>
   cases a with
   |zero=>exact notYet h'
   |succ a=>exact bZ _ _ h'
  |halt x h'=>exact trivial
 grind
theorem Rz(P:Program)(fr:Frame)(callers:List Frame)(dy:Option Dying)(s:Sem Next){L:World}(h:hz.h<L.drawn):E8 hz (stepG.apply P true fr callers dy s L):=by
 unfold stepG.apply;have hm:=jb P s L #[];generalize Sem.runT P s L #[]=x at hm;obtain⟨r,es⟩:=x;simp only[if_true];cases r with
 |ok a w=>
  have h':hz.h<w.drawn:=cG h hm;cases a<;>refine E8.after _ ?_<;>try(first|exactλ_=>h'|exact trivial)
  all_goals (dsimp only;(repeat' split)<;>first|exactλ_=>h'|exact trivial|exact gu _ _ _)
 |halt x w=>
  have h':hz.h<w.drawn:=cG h hm;cases x with
  |unsupported u=>cases u<;>refine E8.after _ ?_<;>first|exact Gl _ _ _ _ _ h'|exact trivial
  |_=>refine E8.after _ ?_;first|exactλ_=>h'|exact trivial|exact lF _ _ _ _ _ _|exact gu _ _ _
theorem za(P:Program)(main:Bool)(fr:Frame)(callers:List Frame)(dy:Option Dying)(v:Value){L:World}(h:hz.h<L.drawn):E8 hz (doReturn P main fr callers dy v L):=by
 unfold doReturn
 (repeat' split)<;>first|exactλ_=>h|exact trivial
theorem mh(P:Program)(fr:Frame)(callers:List Frame){s:Sem Next}(hs:Pf P s){L W:World}(h:Sync hz L W):
  gN hz (stepG.apply P true fr callers none s L) (stepG.apply P true fr callers none s W):=by
 unfold stepG.apply;have hr:=hs hz L W #[] h;generalize Sem.runT P s L #[]=x at hr;generalize Sem.runT P s W #[]=y at hr;obtain⟨r,es⟩:=x;obtain⟨r',es'⟩:=y;simp only[if_true];rcases hr with ho|⟨hr,he⟩
 .rcases ho with ho|⟨m,w,e⟩
  .refine fK ?_;cases r with
   |ok a w=>
    have h':hz.h<w.drawn:=ho;cases a<;>refine E8.after _ ?_<;>try(first|exactλ_=>h'|exact trivial)
    all_goals (dsimp only;(repeat' split)<;>first|exactλ_=>h'|exact trivial|exact gu _ _ _)
   |halt x w=>
    have h':hz.h<w.drawn:=ho;cases x with
    |unsupported u=>cases u<;>refine E8.after _ ?_<;>first|exact Gl _ _ _ _ _ h'|exact trivial
    |_=>refine E8.after _ ?_;first|exactλ_=>h'|exact trivial|exact lF _ _ _ _ _ _|exact gu _ _ _
  simp only at e;subst e;exact trivial
 simp only at hr he;subst he;cases hr with
 |ok a h'=>
  cases a<;>refine gN.after _ ?_<;>try(first|exact bZ _ _ h'|exact trivial|exactλ_ _=>⟨_,rfl,h'⟩)
  all_goals (dsimp only;(repeat' split)<;>first|exact bZ _ _ h'|exact trivial|exact fK (gu _ _ _))
 |halt x h'=>
  cases x with
  |unsupported u=>cases u<;>refine gN.after _ ?_<;>first|exact N3 _ _ _ _ _ h'|exact trivial
  |_=>refine gN.after _ ?_;first|exact bZ _ _ h'|exact trivial|exact fK (lF _ _ _ _ _ _)|exact fK (gu _ _ _)
theorem RN{P:Program}(hP:Plain P)(fr:Frame)(callers:List Frame){L W:World}(h:Sync hz L W):gN hz (stepG.oper P true fr callers none L) (stepG.oper P true fr callers none W):=by unfold stepG.oper;split;exact trivial;split;refine mh _ _ _ ?_ h;exact(aA (R':=oN) TC.out λ_=>aA TC.out λ_=>aV (show oN .skip from trivial)).pf;exact mh _ _ _ (F6 hP _ _).pf h
theorem qu(P:Program)(main:Bool)(fr:Frame)(callers:List Frame)(v:Value){L W:World}(h:Sync hz L W):gN hz (doReturn P main fr callers none v L) (doReturn P main fr callers none v W):=by
 unfold doReturn;cases callers with
 |cons c rest=>cases fr.kind<;>exact bZ _ _ h
 |nil=>
  simp only
  (repeat' split)<;>first|exact bZ _ _ h|exact trivial
theorem qW{α:Type}(P:Program)(fn:FuncId){s:Sem α}(hs:Pf P s)(k:Result α->GStep)(hk:∀{r r':Result α},JS hz r r'->gN hz (k r) (k r'))(ho:∀{r:Result α},Over hz r->E8 hz (k r)){L W:World}(h:Sync hz L W):
  gN hz (GStep.after (seen P fn (s.runT P L #[]).2) (k (s.runT P L #[]).1)) (GStep.after (seen P fn (s.runT P W #[]).2) (k (s.runT P W #[]).1)):=by
 rcases hs hz L W #[] h with h1|⟨h1,h2⟩;exact fK (E8.after _ (ho h1));rw[h2];exact gN.after _ (hk h1)
theorem zi{P:Program}(hP:Plain P)(fr:Frame)(callers:List Frame)(d:Deferred){L W:World}(h:Sync hz L W):gN hz (callDeferred P fr callers none d L) (callDeferred P fr callers none d W):=by
 unfold callDeferred;refine F8 trivial ?_;have hr:=(lT hP d.target d.args).pf hz L W #[] h;generalize Sem.runT P (invoke d.target d.args) L #[]=x at hr;generalize Sem.runT P (invoke d.target d.args) W #[]=y at hr;obtain⟨r,es⟩:=x;obtain⟨r',es'⟩:=y;simp only;rcases hr with ho|⟨hr,he⟩;rcases ho with ho|⟨m,w,e⟩;refine fK (E8.after _ ?_);cases r with
 |ok a w=>
  have h':hz.h<w.drawn:=ho;cases a with
  |recover=>dsimp only;split<;>exactλ_=>h'
  |alone on v=>cases on<;>exact trivial
  |coroswitch c e=>cases e<;>first|exactλ_=>h'|exact trivial
  |_=>first|exactλ_=>h'|exact trivial
 |halt x w=>have h':hz.h<w.drawn:=ho;cases x<;>first|exactλ_=>h'|exact trivial|exact lF _ _ _ _ _ _|exact gu _ _ _
 simp only at e;subst e;exact trivial;simp only at hr he;subst he;cases hr with
 |ok a h'=>
  refine gN.after _ ?_;cases a with
  |recover=>dsimp only;split<;>exact bZ _ _ h'
  |alone on v=>cases on<;>exact trivial
  |coroswitch c e=>cases e<;>first|exactλ_ _=>⟨_,rfl,h'⟩|exact trivial
  |_=>first|exact bZ _ _ h'|exact trivial
 |halt x h'=>
  cases x with
  |unsupported u=>exact trivial
  |_=>refine gN.after _ ?_;first|exact bZ _ _ h'|exact trivial|exact fK (lF _ _ _ _ _ _)|exact fK (gu _ _ _)
theorem Bl{P:Program}(hP:Plain P)(main:Bool)(fr:Frame)(callers:List Frame){L W:World}(h:Sync hz L W):gN hz (unwind P main fr callers none L) (unwind P main fr callers none W):=by
 unfold unwind;split;rename_i block args ds hk;refine qW P _ (TC.out:T1 P (Instr.takeDeferred block)).pf (λr=>match r with
  |.ok calls w=>.go {frame:={fr with defers:=calls++ds},callers,status:=.running,dying:=none} w
  |.halt _ w=>.ended (.stuck "the deferred calls of a range-over-func loop have been taken" (fr.pos P)) w) (λhr=>?_) (λ{r} ho=>?_) h
 cases hr with
 |ok a h'=>exact bZ _ _ h'
 |halt x h'=>exact trivial
 cases r with
 |ok a w=>rcases ho with ho|⟨m,w,e⟩;exactλ_=>ho;cases e
 |halt x w=>exact trivial
 exact zi hP _ _ _ h;split;exact trivial;split;exact trivial;split;exact bZ _ _ h;dsimp only;split;exact bZ _ _ h;refine fK ?_;split;exactλhd=>nomatch hd;exact trivial;exact trivial;split;exact qu _ _ _ _ _ h;rename_i fn _;refine qW P _ (TC.out:T1 P (results fn fr.tmps)).pf (λr=>match r with
  |.ok v w=>doReturn P main fr callers none v w
  |.halt (.stuck s) w=>.ended (.stuck s (fr.pos P)) w
  |.halt _ w=>.ended (.stuck "return: the result variables cannot be read" (fr.pos P)) w) (λhr=>?_) (λ{r} ho=>?_) h
 cases hr with
 |ok a h'=>exact qu _ _ _ _ _ h'
 |halt x h'=>cases x<;>exact trivial
 cases r with
 |ok a w=>rcases ho with ho|⟨m,w,e⟩;exact za _ _ _ _ _ _ ho;cases e
 |halt x w=>cases x<;>exact trivial
theorem SC{P:Program}(hP:Plain P)(main:Bool)(fr:Frame)(callers:List Frame)(ho:okF fr){L W:World}(h:Sync hz L W):gN hz (stepG.exec P main true fr callers none L) (stepG.exec P main true fr callers none W):=by
 have leave:∀jump:Option Code,gN hz
   (match fr.roundOf with
    |none=>if jump matches none|some .ret then .go {frame:={fr with mode:=.returning},callers,status:=.running,dying:=none} L else .ended (.stuck "exit, goto: no such block or label" (fr.pos P)) L
    |some l=>
     GStep.after (seen P fr.fn ((Instr.endRound l jump).runT P L #[]).2)<|match((Instr.endRound l jump).runT P L #[]).1 with
     |.ok v w=>doReturn P main fr callers none v w
     |.halt _ w=>.ended (.stuck "range over a function: no such loop" (fr.pos P)) w)
   (match fr.roundOf with
    |none=>if jump matches none|some .ret then .go {frame:={fr with mode:=.returning},callers,status:=.running,dying:=none} W else .ended (.stuck "exit, goto: no such block or label" (fr.pos P)) W
    |some l=>
     GStep.after (seen P fr.fn ((Instr.endRound l jump).runT P W #[]).2)<|match((Instr.endRound l jump).runT P W #[]).1 with
     |.ok v w=>doReturn P main fr callers none v w
     |.halt _ w=>.ended (.stuck "range over a function: no such loop" (fr.pos P)) w):=by
  intro jump;cases fr.roundOf with
  |none=>exact F8 (bZ _ _ h) trivial
  |some l=>
   refine qW P _ (TC.out:T1 P (Instr.endRound l jump)).pf (λr=>match r with
     |.ok v w=>doReturn P main fr callers none v w
     |.halt _ w=>.ended (.stuck "range over a function: no such loop" (fr.pos P)) w) (λhr=>?_) (λ{r} ho=>?_) h
   cases hr with
   |ok a h'=>exact qu _ _ _ _ _ h'
   |halt x h'=>exact trivial
   cases r with
   |ok a w=>rcases ho with ho|⟨m,w,e⟩;exact za _ _ _ _ _ _ ho;cases e
   |halt x w=>exact trivial
 unfold stepG.exec;dsimp only;obtain⟨fn,tmps,todo,defers,mode,kind,ro⟩:=fr;cases todo with
 |nil=>exact leave none
 |cons it k=>
  cases it with
  |code c=>
   cases c with
   |ret=>exact leave (some .ret)
   |exit id=>
    simp only;cases exitTo id k with
    |none=>exact leave (some (.exit id))
    |some k'=>exact bZ _ _ h
   |goto l=>
    simp only;cases gotoIn l k with
    |none=>exact leave (some (.goto l))
    |some k'=>exact bZ _ _ h
   |cond c x y=>simp only;split;exact bZ _ _ h;exact trivial
   |region id ops draw=>
    simp only;split;exact bZ _ _ h;have hr:=MH (t_choose (P:=P) (.order fn id)).pf h;generalize Sem.run P (choose (.order fn id)) L=x at hr;generalize Sem.run P (choose (.order fn id)) W=y at hr;rcases hr with ho|hr;cases x with
    |ok a w=>rcases ho with ho|⟨m,w,e⟩;exact fK (λ_=>ho);cases e
    |halt x w=>exact trivial
    cases hr with
    |ok a h'=>exact bZ _ _ h'
    |halt x h'=>exact trivial
   |rangeFunc f params assign body=>
    refine qW P _ (TC.out:T1 P (Instr.enterLoop fn tmps params assign body ro)).pf (λr=>match r with
     |.ok (l,mark) w=>stepG.apply P true ⟨fn,tmps,.inRangeFunc l::k,mark++defers,mode,kind,ro⟩ callers none (do let d<-resolve (Frame.eval ⟨fn,tmps,.inRangeFunc l::k,mark++defers,mode,kind,ro⟩) {callee:=.value f,args:=#[.const (.func (.yield l) #[] #[])],argTypes:=#[]} 0;invoke d.target d.args) w
     |.halt _ w=>.ended (.stuck "range over a function: no such loop" (Frame.pos P _)) w) (λhr=>?_) (λ{r} ho=>?_) h
    cases hr with
    |ok a h'=>exact mh _ _ _ (aA (R':=oN) TC.out λ_=>lT hP _ _).pf h'
    |halt x h'=>exact trivial
    cases r with
    |ok a w=>rcases ho with ho|⟨m,w,e⟩;exact Rz _ _ _ _ _ ho;cases e
    |halt x w=>exact trivial
   |refuse why=>exact trivial
   |_=>exact bZ _ _ h
  |inBlock _=>exact bZ _ _ h
  |inLoop _=>exact bZ _ _ h
  |inScope _=>exact bZ _ _ h
  |inRegion ops todo=>
   cases todo with
   |nil=>exact bZ _ _ h
   |cons i rest=>simp only;split;exact RN hP _ _ h;exact bZ _ _ h
  |inRangeFunc _=>exact trivial
  |endRangeFunc l=>
   refine qW P _ (TC.out:T1 P (Instr.endLoop l)).pf (λ(r:Result (Option Code))=>match r with
     |.ok jump w=>.go {frame:=⟨fn,tmps,(jump.map Item.code).toList++k,defers,mode,kind,ro⟩,callers,status:=.running,dying:=none} w
     |.halt (.panic v) w=>.go {frame:=Frame.raise ⟨fn,tmps,.endRangeFunc l::k,defers,mode,kind,ro⟩ [{v,recovered:=false}],callers,status:=.running,dying:=none} w
     |.halt _ w=>.ended (.stuck "range over a function: no such loop" (Frame.pos P _)) w) (λhr=>?_) (λ{r} ho=>?_) h
   cases hr with
   |ok a h'=>exact bZ _ _ h'
   |halt x h'=>cases x<;>first|exact bZ _ _ h'|exact trivial
   cases r with
   |ok a w=>rcases ho with ho|⟨m,w,e⟩;exactλ_=>ho;cases e
   |halt x w=>
    rcases ho with ho|⟨m,w,e⟩;cases x<;>first|exactλ_=>ho|exact trivial
    cases e;exact trivial
  |beginRound=>
   refine mh _ _ _ ?_ h;refine(aA (R':=oN) ?_ λ_=>aV (show oN .skip from trivial)).pf;cases ro with
   |none=>exact ak _
   |some l=>exact(TC.out:T1 P (Instr.beginRound l))
  |call d w r s=>exact mh _ _ _ (lT hP _ _).pf h
  |extern row args=>
   have hr:row="runtime.print$piece":=ho (.extern row args) (gG ..);subst hr;simp only;cases e:Extern.next "runtime.print$piece" with
   |none=>exact trivial
   |some x=>exact mh _ _ _ (EH e args).pf h
theorem Nh{P:Program}(hP:Plain P)(main:Bool)(g:Goroutine)(hd:g.dying=none)(ho:okF g.frame){L W:World}(h:Sync hz L W):gN hz (stepG P main g L) (stepG P main g W):=by
 obtain⟨fr,callers,st,dy,off⟩:=g;simp only at hd;subst hd;unfold stepG;cases hm:fr.mode with
 |run=>simp only[hm];exact SC hP _ _ _ ho h
 |returning=>simp only[hm];exact Bl hP _ _ _ h
 |panicking c=>simp only[hm];exact Bl hP _ _ _ h
end Go.Co
namespace Go.Co
open Go Go.Conc
variable {P:Program}
def Lw:Way->Prop
 |.partner .. =>False
 |_=>True
theorem ZF{w:World}{gs:Array Goroutine}{c:CommCase}(hp:∀r b,partners gs r b=[]):∀x∈ways w gs c,Lw x:=by
 unfold ways;simp only[hp];intro x hx;split at hx;split at hx;split at hx;simp at hx;subst hx;trivial
 split at hx;simp at hx;subst hx;trivial
 simp at hx;split at hx;simp at hx;subst hx;trivial
 split at hx;simp at hx;subst hx;trivial
 simp at hx;simp at hx;simp at hx
theorem Nd{w:World}{gs gs':Array Goroutine}{c:CommCase}(hp:∀r b,partners gs r b=[])(sD:∀r b,partners gs' r b=[]):ways w gs c=ways w gs' c:=by unfold ways;simp only[hp,sD]
theorem QU{w w':World}{gs:Array Goroutine}{c:CommCase}(h:w'.heap=w.heap):ways w' gs c=ways w gs c:=by unfold ways;rw[h]
theorem aal{ws:List Way}(h:∀x∈ws,Lw x)(b:Nat):Lw (ws.getD b .closed):=by
 rw[aP];cases e:ws[b]? with
 |none=>trivial
 |some x=>exact h x (bV e)
theorem Xk{l:List (Nat×CommCase×List Way)}(h:∀x∈l,∀y∈x.2.2,Lw y)(a b:Nat):Lw ((l.getD a (0,default,[])).2.2.getD b .closed):=by
 refine aal ?_ b;rw[aP];cases e:l[a]? with
 |none=>simp
 |some x=>exact h x (bV e)
theorem GV(q:Question)(w:World):∃n d,(choose q).run P w=.ok n (w.at d):=by unfold choose;simp only[Sem.run];split;exact⟨0,w.drawn,rfl⟩;exact⟨_,w.drawn+1,rfl⟩
def aeV(op:MemOp):Prop:=op.g=0/\op.act.touch?=none/\(∀m,op.act≠.mark m)
theorem uw{rest:Rest}(hT:rest.timers=#[])(cases:Array CommCase)(w:World):waitingAt rest cases w=some w:=by
 have:timerAhead rest w.os.mono cases=false:=by unfold timerAhead;rw[Array.any_eq_false];intro k hk;split<;>simp[hT]
 unfold waitingAt;simp[this]
theorem qa{α β:Type}{s:Sem α}{f:α->Sem β}{w w':World}{a:α}(h:s.run P w=.ok a w'):(s>>=f).run P w=(f a).run P w':=by
 have e:=runT_bind' P s f w #[];have e2:=Sem.runT_fst P s w #[];rw[<-Sem.runT_fst P (s>>=f) w #[],e]
 revert e2
 generalize s.runT P w #[]=x;obtain⟨r,es⟩:=x;intro e2;simp only at e2;rw[h]at e2;subst e2;exact Sem.runT_fst P (f a) w' es
theorem BL{hz:Hz}(q:Question){L W:World}(h:Sync hz L W):∃n L',(choose q).run P L=.ok n L'/\(L'.drawn<=hz.h->∃W',(choose q).run P W=.ok n W'/\Sync hz L' W')/\L.drawn<=L'.drawn:=by
 obtain⟨n,d,hn⟩:=GV (P:=P) q L;refine⟨n,L.at d,hn,λhd=>?_,?_⟩;have:=MH (t_choose (P:=P) q).pf h;rw[hn]at this;rcases this with (ho|⟨m,w,e⟩)|hr;have nt:hz.h<(L.at d).drawn:=ho;omega;cases e;generalize Sem.run P (choose q) W=y at hr;cases hr with
 |ok a h'=>exact⟨_,rfl,h'⟩
 have:=jb P (choose q) L #[];rw[Sem.runT_fst,hn]at this;exact this
theorem Rc{α:Type}{s:Sem α}{w w':World}{a:α}(e:s.run P w=.ok a w'):w.drawn<=w'.drawn:=by have:=jb P s w #[];rw[Sem.runT_fst,e]at this;exact this
theorem RE {hz:Hz} (ready:List (Nat×CommCase×List Way)) {L W:World} (h:Sync hz L W):∃ x L2,
    (do let a ← choose (.select ready.length)
        let (k,c,ws):=ready.getD a (0,default,[])
        let b ← choose (.extern "which waiting goroutine is the partner" ws.length)
        pure (k,c,ws.getD b .closed):Sem (Nat×CommCase×Way)).run P L = .ok x L2 ∧
    (L2.drawn≤hz.h→∃ W2,(do let a ← choose (.select ready.length)
                                 let (k,c,ws):=ready.getD a (0,default,[])
                                 let b ← choose (.extern "which waiting goroutine is the partner" ws.length)
                                 pure (k,c,ws.getD b .closed):Sem (Nat×CommCase×Way)).run P W = .ok x W2∧Sync hz L2 W2) ∧
    ((∀ x∈ready,∀ y∈x.2.2,Lw y)→Lw x.2.2):=by
  obtain⟨n1,L1,e1,f1,m1⟩:=BL (P:=P) (.select ready.length) h
  rw[qa e1]
  have hl:=fun hlw b=>Xk (l:=ready) hlw n1 b
  cases Qp:ready.getD n1 (0,default,[]) with
  | mk k cw =>
    obtain⟨c,ws⟩:=cw
    rw[Qp] at hl
    dsimp only
    obtain ⟨n2, d2, e2⟩ := GV (P := P) (.extern "which waiting goroutine is the partner" ws.length) L1
    rw[qa e2]
    refine⟨_,_,rfl,fun hd => ?_,fun hlw=>hl hlw n2⟩
    have hm := jb P (choose (.extern "which waiting goroutine is the partner" ws.length)) L1 #[]
    rw[Sem.runT_fst,e2] at hm
    obtain⟨W1,e1',s1⟩:=f1 (bz hm hd)
    rw[qa e1',Qp]
    dsimp only
    obtain ⟨n3, L3, e3, f3, _⟩ := BL (P := P) (.extern "which waiting goroutine is the partner" ws.length) s1
    rw[e2] at e3
    cases e3
    obtain⟨W2,e2',s2⟩:=f3 hd
    rw[qa e2']
    exact⟨_,rfl,s2⟩
theorem xo {hz:Hz} {b:Prop} {rest Ur:Rest} (hT:rest.timers=#[]) (hT0:Ur.timers=#[]) {gs gs0:Array Goroutine} (hp:∀ r b,partners gs r b=[]) (mN:∀ r b,partners gs0 r b=[]) {g:Goroutine} {cases:Array CommCase} {bl:Bool} {sh:CommShape} {L W:World} (hs:Sync hz L W) {m0:Machine} {ops:Array MemOp}
    (h:communicate P Ur gs0 0 g cases bl sh L=(.next m0,ops)) (hle:m0.world.drawn≤hz.h) :
    ∃ g' L' W',m0={ world:=L',gs:=gs0.setIfInBounds 0 g',rest:=Ur }∧communicate P rest gs 0 g cases bl sh W=(.next { world:=W',gs:=gs.setIfInBounds 0 g',rest },ops)∧Sync hz L' W'∧(∀ op∈ops,aeV op)∧g'.dying=g.dying∧L.drawn≤L'.drawn∧(g.status = .running→∀ t,g'.status ≠ .sleeping t)∧(Hg b g.dying g.frame g.callers→Hg b g'.dying g'.frame g'.callers):=by
  unfold communicate at h ⊢
  simp only[uw hT,uw hT0] at h ⊢
  have hw:(fun(x:CommCase×Nat)=>((x.2,x.1,ways W gs x.1):Nat×CommCase×List Way))=fun x=>(x.2,x.1,ways L gs0 x.1):=by
    funext x
    rw[QU hs.heap,Nd hp mN]
  have hlw:∀ x∈((cases.zipIdx.toList.map fun(x:CommCase×Nat)=>((x.2,x.1,ways L gs0 x.1):Nat×CommCase×List Way)).filter fun(x:Nat×CommCase×List Way) => !x.2.2.isEmpty),∀ y∈x.2.2,Lw y:=by
    intro x hx y hy
    obtain⟨x',-,rfl⟩:=eO.1 (List.mem_filter.1 hx).1
    exact ZF mN y hy
  rw[hw,hs.heap]
  generalize ((cases.zipIdx.toList.map fun(x:CommCase×Nat)=>((x.2,x.1,ways L gs0 x.1):Nat×CommCase×List Way)).filter fun(x:Nat×CommCase×List Way) => !x.2.2.isEmpty)=ready at h hlw ⊢
  split at h
  · cases h
  rename_i ahz
  rw[if_neg ahz]
  split at h
  · rename_i hr
    rw[if_pos hr]
    split at h
    · rename_i hb
      rw[if_pos hb]
      simp only[ay,Stepped.next.injEq] at h
      obtain⟨rfl,rfl⟩:=h
      exact⟨_,_,_,rfl,rfl,hs,by simp,rfl,ai _,fun hst t=>by first | (intro h; cases h; done) | (show g.status≠_; rw[hst]; simp; done),fun hg=>hg⟩
    · rename_i hb
      rw[if_neg hb]
      simp only[ay,Stepped.next.injEq] at h
      obtain⟨rfl,rfl⟩:=h
      exact⟨_,_,_,rfl,rfl,hs,by simp,rfl,ai _,fun hst t=>by first | (intro h; cases h; done) | (show g.status≠_; rw[hst]; simp; done),fun hg=>dX hg _⟩
  · rename_i hr
    rw[if_neg hr]
    obtain⟨⟨k,c,way⟩,L2,e,f,hl⟩:=RE (P:=P) ready hs
    have hm:L.drawn≤L2.drawn:=by
      exact Rc e
    rw[e] at h
    replace hl:Lw way:=hl hlw
    dsimp only at h
    have Vu : ∀ w : World, (runtimePanic (.plain "send on closed channel") : Sem Unit).run P w = .halt (.panic (.iface P.rt.plainError (strVal "send on closed channel"))) w := fun _ => rfl
    simp only[Vu] at h
    split at h
    ·
      simp only[ay,Stepped.next.injEq] at h
      obtain⟨rfl,rfl⟩:=h
      obtain⟨W2,e',s2⟩:=f hle
      rw[e']
      dsimp only
      simp only[Vu]
      exact⟨_,_,_,rfl,rfl,s2,by simp,rfl,hm,fun hst t=>by first | (intro h; cases h; done) | (show g.status≠_; rw[hst]; simp; done),fun hg=>qL hg _⟩
    · simp only[ay,Stepped.next.injEq] at h
      obtain⟨rfl,rfl⟩:=h
      obtain⟨W2,e',s2⟩:=f hle
      rw[e']
      dsimp only
      refine⟨_,_,_,rfl,rfl,s2,?_,rfl,hm,fun hst t=>by first | (intro h; cases h; done) | (show g.status≠_; rw[hst]; simp; done),fun hg=>dX hg _⟩
      intro op hop
      simp only[eA,bQ] at hop
      subst hop
      exact⟨rfl,rfl,by simp⟩
    · rename_i UI hsend
      simp only[ay,Stepped.next.injEq] at h
      obtain⟨rfl,rfl⟩:=h
      obtain⟨W2,e',s2⟩:=f hle
      rw[e']
      dsimp only
      rw[s2.heap,UI,hsend]
      dsimp only
      refine⟨_,_,_,rfl,rfl,s2.qF _,?_,rfl,hm,fun hst t=>by first | (intro h; cases h; done) | (show g.status≠_; rw[hst]; simp; done),fun hg=>dX hg _⟩
      intro op hop
      simp only[eA,aX,ez,or_false] at hop
      rcases hop with rfl | rfl<;>exact⟨rfl,rfl,by simp⟩
    · rename_i UI hsend
      rw[mN] at h
      simp only[ay,Stepped.next.injEq] at h
      obtain⟨rfl,rfl⟩:=h
      obtain⟨W2,e',s2⟩:=f hle
      rw[e']
      dsimp only
      rw[s2.heap,UI,hsend]
      dsimp only
      rw[hp]
      refine⟨_,_,_,rfl,rfl,s2.qF _,?_,rfl,hm,fun hst t=>by first | (intro h; cases h; done) | (show g.status≠_; rw[hst]; simp; done),fun hg=>dX hg _⟩
      intro op hop
      simp only[eA,aX,ez,or_false] at hop
      rcases hop with rfl | rfl<;>exact⟨rfl,rfl,by simp⟩
    · exact hl.elim
    · exact hl.elim
    · cases h
end Go.Co
namespace Go.Co
open Go Go.Conc
variable {P:Program}
theorem Sync.refl (h:Nat)(w:World):Sync ⟨h,w.tape,0,0⟩ w w:=⟨w.drawn,rfl,rfl,λ_ _ _=>rfl⟩
def Oth(P:Program)(g:Goroutine)(gs:Array Goroutine):Prop:=∀j x,0<j->gs[j]? =some x->(x.status=.running\/x.status=.finished)/\∀g' w',woken P g g' w' x=x
theorem jG{g:Goroutine}{gs:Array Goroutine}(h:Oth P g gs)(r:Nat)(b:Bool):partners (gs.setIfInBounds 0 ph) r b=[]:=by refine partners_nil λj x hx=>offersAt_of_not_blocked ?_ r b;rcases getElem?_stand gs 0 j x hx with ⟨_,rfl⟩|⟨hj,hx⟩;simp[ph];rcases(h j x U hx).1 with e|e<;>simp[e]
theorem mz{g:Goroutine}:Oth P g #[g]:=λj x hj hx=>by have:=(aG.1 hx).1;simp at this;omega
theorem aaf{g:Goroutine}{gs:Array Goroutine}(h:Oth P g gs)(g' g'':Goroutine)(w':World):(gs.map (woken P g g' w')).setIfInBounds 0 g''=gs.setIfInBounds 0 g'':=by
 apply Array.ext_getElem?;intro j;by_cases hj:0=j
 grind
 rw[fF hj,fF hj,yw];cases hx:gs[j]? with
 |none=>rfl
 |some x=>simp[(h j x U hx).2]
theorem SE(t:Trace):∀(u:List MemOp),(∀op∈u,aeV op)->Deaf (t++u.toArray) 0=Deaf t 0:=by
 intro u hu;rw[Deaf_append];generalize Deaf t 0=d;induction u generalizing d with
 |nil=>rfl
 |cons y u ih=>
  rw[nX];have hy:=hu y ab;have:deafStep 0 d y=d:=by
   unfold deafStep;split;rename_i h;exact absurd h (hy.2.2 _)
   rename_i h;exact absurd h (hy.2.2 _)
   rfl
  rw[this];exact ih (λop hop=>hu op (by simp[hop])) d
abbrev Fr(g:Goroutine):Prop:=Hg False g.dying g.frame g.callers
theorem Wd{g g':Goroutine}{w w':World}{o o':Array MemOp}(e:((Stepped.next (solo g w),o):Stepped×Array MemOp)=(.next (solo g' w'),o')):g=g'/\w=w'/\o=o':=by simp[solo]at e;exact⟨e.1.2,e.1.1,e.2⟩
theorem Ai{gs:Array Goroutine}{g g1:Goroutine}{w w1:World}{sl:Option (Nat×Nat)}{c:Nat}{x:Bool}{es:Array Event}(h0:gs[0]? =some g)(h:stepG P true g w=.coroswitch g1 c x w1 es):
  runT P (crowd gs w sl) 0=((match w1.heap[c]? with
   |some (.coro (some h))=>.next {world:={w1 with heap:=w1.heap.setIfInBounds c (.coro (if x then none else some 0))},gs:=(gs.setIfInBounds 0 (if x then{g1 with status:=.finished}else{g1 with frame:=g1.frame.finish undef,status:=.parked})).modify h (λo=>{o with status:=.running}),rest:={timers:=#[],alone:=none,slice:=sl}}
   |some (.coro none)=>(match endThrow g1.frame "coroswitch on exited coro" w1 with
    |.go g w _=>.next {world:=w,gs:=gs.setIfInBounds 0 g,rest:={timers:=#[],alone:=none,slice:=sl}}
    |_=>.ended (.stuck "" "") w1)
   |_=>.ended (.stuck "coroswitch: no coroutine" "") w1),MemOp.ofEvents 0 g.frame.fn g.frame.place es):=by
 obtain⟨hlt,rfl⟩:=aG.1 h0;have hsw:=swapAt_of_lt hlt {(default:Goroutine)with status:=.finished};show runT P {world:=w,gs:=gs,rest:={timers:=#[],alone:=none,slice:=sl}} 0=_;unfold runT;simp only[hsw,show(0==0)=true from rfl,h,GStep.es,set_setIfInBounds hlt];rfl
theorem qI{hz:Hz}(hP:Plain P){g:Goroutine}(hd:g.dying=none)(hf:Fr g){L W:World}(hs:Sync hz L W){g':Goroutine}{L':World}{ops:Array MemOp}
  (h:runT P (solo g L) 0=(.next (solo g' L'),ops)) (FE:g'.status=.running) (xz:g'.dying=none) (hle:L'.drawn<=hz.h) {gs:Array Goroutine} {sl:Option (Nat×Nat)} (h0:gs[0]? =some g) (hO:Oth P g gs):
  ∃W',Sync hz L' W'/\runT P (crowd gs W sl) 0=(.next (crowd (gs.setIfInBounds 0 g') W' sl),ops)/\(∀op∈ops,op.g=0)/\(∀t,Deaf t 0=0->Deaf (t++ops) 0=0)/\Fr g':=by
 have jU:=qG (b:=False) hP true g hf L;have hsy:=Nh hP true g hd hf.1 hs;cases hst:stepG P true g L with
 |go g1 w1 es=>rw[hst]at jU hsy;have e:=runT_solo_go hst;rw[h]at e;obtain⟨rfl,rfl,rfl⟩:=Wd e;obtain⟨W',hW,Hf⟩:=hsy xz hle;refine⟨W',Hf,?_,?_,?_,jU.2.1⟩;have:=runT_crowd_go (P:=P) (sl:=sl) (i:=0) h0 (show stepG P (0==0) g W=_ from hW);rw[aaf hO]at this;exact this;intro op hop;rw[ofEvents_eq]at hop;obtain⟨e,_,rfl⟩:=gf.1 hop;rfl;intro t ht;rw[Deaf_own,ht];exact jU.1
 |comm g1 cases bl sh w1 es=>
  rw[hst]at jU hsy;have e:=runT_crowd_comm (P:=P) (gs:=#[g]) (sl:=none) (i:=0) rfl (show stepG P (0==0) g L=_ from hst);rw[<-solo_eq_crowd,h]at e;simp only[ay]at e;obtain⟨e1,e2⟩:=e;generalize hc:communicate P (solo g L).rest (#[g].setIfInBounds 0 ph) 0 g1 cases bl sh w1=cm at e1 e2;obtain⟨c1,c2⟩:=cm;subst e1;dsimp only at e2;have e6:g'.dying=g1.dying/\w1.drawn<=L'.drawn:=by
   obtain⟨g2,L2,W2,h1,h2,h3,h4,h5,h5',_,h6⟩:=xo (P:=P) (b:=False) (rest:=(crowd #[g] L none).rest) (gs:=#[g].setIfInBounds 0 ph) rfl rfl (jG (P:=P) mz) (jG (P:=P) mz) (Sync.refl L'.drawn w1) hc (ai _);have Mh:(solo g' L')=solo g2 L2:=by rw[h1];simp[solo]
   simp[solo]at Mh;obtain⟨rfl,rfl⟩:=Mh;exact⟨h5,h5'⟩
  obtain⟨W1,hW,He⟩:∃W1,stepG P true g W=.comm g1 cases bl sh W1 es/\Sync hz w1 W1:=hsy (e6.1▸xz) (bz e6.2 hle);obtain⟨g2,L2,W2,h1,h2,h3,h4,h5,_,_,h6⟩:=xo (P:=P) (b:=False) (rest:=(crowd gs W sl).rest) (gs:=gs.setIfInBounds 0 ph) rfl rfl (jG hO) (jG (P:=P) mz) He hc hle;have Mh:(solo g' L')=solo g2 L2:=by rw[h1];simp[solo]
  simp[solo]at Mh;obtain⟨rfl,rfl⟩:=Mh;have:=runT_crowd_comm (P:=P) (sl:=sl) (i:=0) h0 (show stepG P (0==0) g W=_ from hW);refine⟨W2,h3,?_,?_,?_,h6 jU.2.1⟩;rw[this,h2,e2];simp[crowd];intro op hop;rw[e2]at hop;rcases Array.mem_append.1 hop with hop|hop;rw[ofEvents_eq]at hop;obtain⟨e,_,rfl⟩:=gf.1 hop;rfl;exact(h4 op hop).1;intro t ht;have e5:t++ops=(t++MemOp.ofEvents 0 g.frame.fn g.frame.place es)++c2.toList.toArray:=by rw[e2];simp
  rw[e5,SE _ _ (λop hop=>h4 op (by simpa using hop)),Deaf_own,ht];exact jU.1
 |coroswitch g1 c x w1 es=>
  rw[hst]at jU hsy;have e:=Ai (gs:=#[g]) (sl:=none) rfl hst;rw[<-solo_eq_crowd,h]at e;obtain⟨eh,eo⟩:=Prod.mk.inj e;cases hc:w1.heap[c]? with
  |none=>rw[hc]at eh;cases eh
  |some o=>
   rw[hc]at eh;cases o<;>try cases eh
   rename_i oh;cases oh with
   |none=>dsimp only[endThrow,dieOf]at eh;simp[solo]at eh;obtain⟨-,rfl⟩:=eh;simp at xz
   |some k=>
    dsimp only at eh;obtain⟨me,xx⟩:∃f:Goroutine,f=(if x then{g1 with status:=.finished}else{g1 with frame:=g1.frame.finish undef,status:=.parked}):=⟨_,rfl⟩;rw[<-xx]at eh;have hmf:me.status≠.running/\me.dying=g1.dying/\Hg False me.dying me.frame me.callers:=by subst xx;cases x;exact⟨ab,rfl,dX jU.2 _⟩;exact⟨ab,rfl,jU.2⟩
    have h1:(#[g].setIfInBounds 0 me)=#[me]:=ab
    rw[h1]at eh;by_cases hk:k=0;subst hk;rw[modify_eq_set #[me] 0 _ me rfl]at eh;simp[solo]at eh;obtain⟨rfl,rfl⟩:=eh;obtain⟨W1,hW,He⟩:=hsy (hmf.2.1▸xz) hle;have:=Ai (sl:=sl) h0 hW;rw[He.heap,hc,<-xx]at this;dsimp only at this;have hlt:0<gs.size:=(aG.1 h0).1;rw[modify_eq_set (gs.setIfInBounds 0 me) 0 _ me (by simp[hlt])]at this;refine⟨_,He.qF _,?_,?_,?_,hmf.2.2⟩;rw[this,eo];simp[crowd];intro op hop;rw[eo,ofEvents_eq]at hop;obtain⟨e,_,rfl⟩:=gf.1 hop;rfl;intro t ht;rw[eo,Deaf_own];show deafBehind (Deaf t 0) es=0;rw[ht];exact jU.1;exfalso;have:(#[me]).modify k (λo=>{o with status:=.running})=#[me]:=by grind
    rw[this]at eh;simp[solo]at eh;obtain⟨-,rfl⟩:=eh;exact hmf.1 FE
 |spawn g1 ch w1 es=>have e:=runT_solo_spawn hst;rw[h]at e;simp[solo,duo]at e
 |ended o w1 es=>have e:=runT_many_ended (P:=P) (gs:=#[g]) (sl:=none) (i:=0) rfl (show stepG P (0==0) g L=_ from hst);rw[<-solo_eq_crowd,h]at e;simp at e
 |_=>rw[hst]at jU;exact jU.elim
end Go.Co
namespace Go.Co
open Go Go.Conc
variable {P:Program}
theorem Nk{g:Goroutine}{w:World}(h1:g.status≠.running)(h2:∀t,g.status≠.sleeping t){m':Machine}{ops:Array MemOp}(h:stepT P (solo g w)=(.next m',ops)):m'=solo g w:=by
 have hrun:runnable (solo g w).gs (solo g w).world.os.mono=[]:=by cases hs:g.status<;>simp[solo,runnable_eq,Goroutine.canRun,IE,hs]<;>first|exact absurd hs h1|exact absurd hs (h2 _)
 have hah:ahead (solo g w) false=none:=by cases hs:g.status<;>simp[solo,ahead,hs]<;>first|exact absurd hs h1|exact absurd hs (h2 _)
 have ahI:due (solo g w).rest.timers (solo g w).world.os.mono=[]:=by simp[solo,due]
 have hm:move P (solo g w)=.machine (.next (solo g w))\/∃o w',move P (solo g w)=.machine (.ended o w'):=by
  have e1:move P (solo g w)=askOn P (solo g w):=rfl;rw[e1];unfold askOn;simp only[hrun,ahI,hah,List.isEmpty_nil,if_true,Sem.run,pure,j8,Nat.not_lt_zero,if_false];split
  grind
  grind
 rcases hm with hm|⟨o,w',hm⟩;unfold stepT at h;rw[hm]at h;simp only[ay,Stepped.next.injEq]at h;exact h.1.symm;unfold stepT at h;rw[hm]at h;simp at h
theorem x5(g me:Goroutine):(#[g].setIfInBounds 0 me)=#[me]:=ab
theorem En(hP:Plain P){b:Prop}{g:Goroutine}{w:World}(hr:g.status=.running)(hg:Hg b g.dying g.frame g.callers){m':Machine}{ops:Array MemOp}(h:stepT P (solo g w)=(.next m',ops))(h1:m'.gs.size<=1):
  ∃g' w',m'=solo g' w'/\Hg b g'.dying g'.frame g'.callers/\∀t,g'.status≠.sleeping t:=by
 rw[stepT_solo hr]at h;have jU:=qG (b:=b) hP true g hg w;cases hst:stepG P true g w with
 |go g1 w1 es=>rw[hst]at jU;rw[runT_solo_go hst]at h;simp only[ay,Stepped.next.injEq]at h;exact⟨g1,w1,h.1.symm,jU.2.1,jU.2.2.1⟩
 |comm g1 cases bl sh w1 es=>rw[hst]at jU;have e:=runT_crowd_comm (P:=P) (gs:=#[g]) (sl:=none) (i:=0) rfl (show stepG P (0==0) g w=_ from hst);rw[<-solo_eq_crowd,h]at e;simp only[ay]at e;obtain⟨e1,e2⟩:=e;generalize hc:communicate P (solo g w).rest (#[g].setIfInBounds 0 ph) 0 g1 cases bl sh w1=cm at e1 e2;obtain⟨c1,c2⟩:=cm;subst e1;obtain⟨g2,L2,W2,h1,h2,h3,h4,h5,h5',h7,h6⟩:=xo (P:=P) (b:=b) (rest:=(crowd #[g] w none).rest) (gs:=#[g].setIfInBounds 0 ph) rfl rfl (jG (P:=P) mz) (jG (P:=P) mz) (Sync.refl m'.world.drawn w1) hc (ai _);exact⟨g2,L2,by rw[h1];simp[solo],h6 jU.2.1,h7 jU.2.2⟩
 |coroswitch g1 c x w1 es=>
  rw[hst]at jU;have e:=Ai (gs:=#[g]) (sl:=none) rfl hst;rw[<-solo_eq_crowd,h]at e;obtain⟨eh,eo⟩:=Prod.mk.inj e;cases hc:w1.heap[c]? with
  |none=>rw[hc]at eh;cases eh
  |some o=>
   rw[hc]at eh;cases o<;>try cases eh
   rename_i oh;cases oh with
   |none=>dsimp only[endThrow,dieOf]at eh;simp only[Stepped.next.injEq]at eh;rw[x5]at eh;refine⟨_,_,eh,?_,ab⟩;exact⟨jU.2.1,λ_ hf=>absurd hf (ez),⟨λ_ hx=>(nomatch hx),λd hd=>.inl (by cases hd;rfl)⟩⟩
   |some k=>
    dsimp only at eh;obtain⟨me,xx⟩:∃f:Goroutine,f=(if x then{g1 with status:=.finished}else{g1 with frame:=g1.frame.finish undef,status:=.parked}):=⟨_,rfl⟩;rw[<-xx]at eh;have hmf:(∀t,me.status≠.sleeping t)/\Hg b me.dying me.frame me.callers:=by subst xx;cases x;exact⟨ab,dX jU.2 _⟩;exact⟨ab,jU.2⟩
    have h1:(#[g].setIfInBounds 0 me)=#[me]:=ab
    rw[h1]at eh;simp only[Stepped.next.injEq]at eh;by_cases hk:k=0;subst hk;rw[modify_eq_set #[me] 0 _ me rfl,x5]at eh;refine⟨_,_,eh,?_,ab⟩;exact hmf.2;have:(#[me]).modify k (λo=>{o with status:=.running})=#[me]:=by
     apply Array.ext_getElem?;intro j;rw[Array.getElem?_modify];split
     grind
     rfl
    rw[this]at eh;exact⟨me,_,eh,hmf.2,hmf.1⟩
 |spawn g1 ch w1 es=>rw[runT_solo_spawn hst]at h;simp only[ay,Stepped.next.injEq]at h;rw[<-h.1]at h1;simp[duo]at h1
 |ended o w1 es=>have e:=runT_many_ended (P:=P) (gs:=#[g]) (sl:=none) (i:=0) rfl (show stepG P (0==0) g w=_ from hst);rw[<-solo_eq_crowd,h]at e;simp at e
 |_=>rw[hst]at jU;exact jU.elim
end Go.Co
namespace Go.Co
open Go Go.Conc
variable {P:Program}
theorem Ak:∀{n:Nat}{m m':Machine},runN P n m=.next m'->m.gs.size<=m'.gs.size
 |0,m,m',h=>by simp[runN]at h;subst h;exact ai _
 |n+1,m,m',h=>by
  unfold runN at h;cases hs:step P m with
  |next m1=>rw[hs]at h;exact bz (stepT_size P m m1 true hs) (Ak h)
  |ended o w=>rw[hs]at h;cases h
theorem wQ{g:Goroutine}{w:World}(h1:g.status≠.running)(h2:∀t,g.status≠.sleeping t):∀{n:Nat}{m':Machine},runN P n (solo g w)=.next m'->m'=solo g w
 |0,m',h=>by simp[runN]at h;exact h.symm
 |n+1,m',h=>by
  unfold runN at h;cases hs:stepT P (solo g w)with
  |mk s ops=>
   cases s with
   |next m1=>
    have e:=Nk h1 h2 hs;subst e;have:step P (solo g w)=.next (solo g w):=by unfold step;rw[hs]
    rw[this]at h;exact wQ h1 h2 h
   |ended o w'=>
    have:step P (solo g w)=.ended o w':=by unfold step;rw[hs]
    rw[this]at h;cases h
theorem Er(hP:Plain P):∀{n:Nat}{g:Goroutine}{w:World}{gt:Goroutine}{wt:World},Hg True g.dying g.frame g.callers->(∀t,g.status≠.sleeping t)->runN P n (solo g w)=.next (solo gt wt)->gt.dying≠none
 |0,g,w,gt,wt,hg,_,h=>by simp[runN,solo]at h;rw[<-h.2];exact hg.2.2.1 trivial
 |n+1,g,w,gt,wt,hg,hs,h=>by
  by_cases hr:g.status=.running
  .unfold runN at h;cases hst:stepT P (solo g w)with
   |mk s ops=>
    cases s with
    |next m1=>
     have e1:step P (solo g w)=.next m1:=by unfold step;rw[hst]
     rw[e1]at h;obtain⟨g',w',rfl,q9,Hf⟩:=En hP hr hg hst (by have:=Ak h;simpa [solo]using this);exact Er hP q9 Hf h
    |ended o w'=>
     have e1:step P (solo g w)=.ended o w':=by unfold step;rw[hst]
     rw[e1]at h;cases h
  have:=wQ hr hs h;simp[solo]at this;rw[this.2];exact hg.2.2.1 trivial
theorem wR(hP:Plain P){n:Nat}{g:Goroutine}{w:World}{gt:Goroutine}{wt:World}(hg:Fr g)(hs:∀t,g.status≠.sleeping t)(h:runN P n (solo g w)=.next (solo gt wt))(hr:gt.status=.running)(hd:gt.dying=none):
  g.status=.running/\g.dying=none/\((n=0/\g=gt/\w=wt)\/∃k g1 w1 ops,n=k+1/\runT P (solo g w) 0=(.next (solo g1 w1),ops)/\Fr g1/\(∀t,g1.status≠.sleeping t)/\runN P k (solo g1 w1)=.next (solo gt wt)):=by
 have SV:g.status=.running:=by by_cases h1:g.status=.running;exact h1;have:=wQ h1 hs h;simp[solo]at this;rw[<-this.2];exact hr
 have Mg:g.dying=none:=by by_cases h1:g.dying=none;exact h1;exact absurd hd (Er hP ⟨hg.1,hg.2.1,λ_=>h1,hg.2.2.2⟩ hs h)
 refine⟨SV,Mg,?_⟩;cases n with
 |zero=>simp[runN,solo]at h;exact .inl ⟨rfl,h.2,h.1⟩
 |succ k=>
  unfold runN at h;cases hst:stepT P (solo g w)with
  |mk s ops=>
   cases s with
   |next m1=>
    have e1:step P (solo g w)=.next m1:=by unfold step;rw[hst]
    rw[e1]at h;obtain⟨g',w',rfl,q9,Hf⟩:=En hP SV hg hst (by have:=Ak h;simpa [solo]using this);rw[stepT_solo SV]at hst;exact .inr ⟨k,g',w',ops,rfl,hst,q9,Hf,h⟩
   |ended o w'=>
    have e1:step P (solo g w)=.ended o w':=by unfold step;rw[hst]
    rw[e1]at h;cases h
theorem W4(hP:Plain P){g:Goroutine}(hd:g.dying=none)(hf:Fr g){L:World}{g':Goroutine}{L':World}{ops:Array MemOp}
  (h:runT P (solo g L) 0=(.next (solo g' L'),ops)) (FE:g'.status=.running) (xz:g'.dying=none):L.drawn<=L'.drawn:=by
 rcases pR L'.drawn L.drawn with hlt|Hi;exfalso;obtain⟨W',⟨d,-,o7,-⟩,-⟩:=qI (hz:=⟨L'.drawn,L.tape,L.drawn,0⟩) (sl:=none) hP hd hf (L:=L) (W:=L.re L.tape 0) ⟨0,rfl,by simp only;omega,λi q hi=>by simp only at hi;omega⟩ h FE xz (ai _) (gs:=#[g]) rfl mz;simp only at o7;omega;exact Hi
open Classical in
theorem lift(hP:Plain P)(K:Goroutine->World->Prop)
  (closed:∀g w,Fr g->g.status=.running->g.dying=none->(∀d,∃g' w' ops,runT P (solo g (w.at d)) 0=(.next (solo g' w'),ops)/\g'.status=.running/\g'.dying=none/\Fr g'/\K g' w')->K g w)
  (g:Goroutine) (w:World) (hg:Fr g) (hs:∀t,g.status≠.sleeping t)
  (lone:∀τ,∃n gt wt,runN P n (solo g (w.re τ 0))=.next (solo gt wt)/\gt.status=.running/\gt.dying=none/\∀τ d,K gt (wt.re τ d)):K g w:=by
 apply Classical.byContradiction;intro hK
 let GS:Goroutine×World->Nat->Goroutine×World->Prop:=λs d s'=>∃ops,runT P (solo s.1 (s.2.at d)) 0=(.next (solo s'.1 s'.2),ops)/\s'.1.status=.running/\s'.1.dying=none
 have o9:∀s:Goroutine×World,∃d,Fr s.1->s.1.status=.running->s.1.dying=none->¬K s.1 s.2->∀s',GS s d s'->Fr s'.1->¬K s'.1 s'.2:=by intro s;apply Classical.byContradiction;intro hno;have hno:∀d,¬(Fr s.1->s.1.status=.running->s.1.dying=none->¬K s.1 s.2->∀s',GS s d s'->Fr s'.1->¬K s'.1 s'.2):=λd hd=>hno ⟨d,hd⟩;have h0:=hno 0;simp only[Classical.not_imp]at h0;obtain⟨h1,h2,h3,h4,-⟩:=h0;refine h4 (closed _ _ h1 h2 h3 λd=>?_);have:=hno d;simp only[Classical.not_forall,Classical.not_not]at this;obtain⟨-,-,-,-,s',⟨ops,e1,e2,e3⟩,hf,hk⟩:=this;exact⟨s'.1,s'.2,ops,e1,e2,e3,hf,hk⟩
 let dd:Goroutine×World->Nat:=λs=>Classical.choose (o9 s)
 have hdd:∀s,Fr s.1->s.1.status=.running->s.1.dying=none->¬K s.1 s.2->∀s',GS s (dd s) s'->Fr s'.1->¬K s'.1 s'.2:=λs=>uT (o9 s)
 let nx:Goroutine×World->Option (Goroutine×World):=λs=>if h:∃s',GS s (dd s) s' then some (Classical.choose h)else none
 have AR:∀s s',nx s=some s'->GS s (dd s) s':=by intro s s' h;simp only[nx]at h;split at h;rename_i hx;have:=bM h;rw[<-this];exact uT hx;cases h
 have TD:∀s,nx s=none->∀s',¬GS s (dd s) s':=by intro s h s' Hf;simp only[nx]at h;split at h;cases h;rename_i hx;exact hx ⟨s',Hf⟩
 let sq:Nat->Goroutine×World:=λn=>Nat.rec (g,w) (λ_ s=>(nx s).getD s) n
 have sq0:sq 0=(g,w):=rfl;have sqs:∀i,sq (i+1)=(nx (sq i)).getD (sq i):=λi=>rfl
 let e:Nat->Nat:=λn=>Nat.rec 0 (λi a=>a+((sq (i+1)).2.drawn-dd (sq i))) n
 have e0:e 0=0:=rfl;have es:∀i,e (i+1)=e i+((sq (i+1)).2.drawn-dd (sq i)):=λi=>rfl;have agH:∀i j,i<=j->e i<=e j:=by
  intro i j h;induction h with
  |refl=>exact ai _
  |step h ih=>exact bz ih (by rw[es];omega)
 have abp:g.status=.running/\g.dying=none:=by obtain⟨n,gt,wt,h1,h2,h3,-⟩:=lone w.tape;have:=wR hP hg hs h1 h2 h3;exact⟨this.1,this.2.1⟩
 have inv:∀i,(∀j,j<i->nx (sq j)≠none)->Fr (sq i).1/\(sq i).1.status=.running/\(sq i).1.dying=none/\¬K (sq i).1 (sq i).2:=by
  intro i;induction i with
  |zero=>exactλ_=>⟨hg,abp.1,abp.2,hK⟩
  |succ i ih=>
   intro h;obtain⟨h1,h2,h3,h4⟩:=ih λj hj=>h j U;obtain⟨s',Hf⟩:=CM.1 (h i U);have hsq:sq (i+1)=s':=by rw[sqs,Hf];rfl
   rw[hsq];have hgs:=AR _ _ Hf;obtain⟨ops,e1,e2,e3⟩:=hgs;have hf:Fr s'.1:=by obtain⟨W',-,-,-,-,hf⟩:=qI (sl:=none) hP h3 h1 (Sync.refl s'.2.drawn _) e1 e2 e3 (ai _) (gs:=#[(sq i).1]) rfl mz;exact hf
   exact⟨hf,e2,e3,hdd _ h1 h2 h3 h4 s' ⟨ops,e1,e2,e3⟩ hf⟩
 let Q:Nat->Nat->Prop:=λn i=>(∀j,j<i->nx (sq j)≠none)/\e i<=n/\(n<e (i+1)\/nx (sq i)=none)
 have Qlt:∀n i i',Q n i->Q n i'->¬i<i':=by intro n i i' h h' hlt;rcases h.2.2 with h1|h1;have:=agH (i+1) i' hlt;have:=h'.2.1;omega;exact h'.1 i hlt h1
 let τs:Nat->Question->Nat:=λn q=>if h:∃i,Q n i then(sq (Classical.choose h)).2.tape (dd (sq (Classical.choose h))+(n-e (Classical.choose h))) q else 0
 have hτ:∀n i q,Q n i->τs n q=(sq i).2.tape (dd (sq i)+(n-e i)) q:=by
  intro n i q h;have hx:∃i,Q n i:=⟨i,h⟩;have hc:=uT hx;have:Classical.choose hx=i:=by rcases Nat.lt_trichotomy (Classical.choose hx) i with h1|h1|h1;exact absurd h1 (Qlt _ _ _ hc h);exact h1;exact absurd h1 (Qlt _ _ _ h hc)
  simp only[τs,dif_pos hx,this]
 have abO:∀i,(∀j,j<i->nx (sq j)≠none)->runN P i (solo g (w.re τs 0))=.next (solo (sq i).1 ((sq i).2.re τs (e i))):=by
  intro i;induction i with
  |zero=>intro _;rfl
  |succ i ih=>
   intro h;have hr:=ih λj hj=>h j U;obtain⟨h1,h2,h3,h4⟩:=inv i λj hj=>h j U;obtain⟨s',Hf⟩:=CM.1 (h i U);have hsq:sq (i+1)=s':=by rw[sqs,Hf];rfl
   obtain⟨ops,e1,e2,e3⟩:=AR _ _ Hf;have hm:=W4 hP h3 h1 e1 e2 e3;have Jo:dd (sq i)<=s'.2.drawn:=hm;have S7:e (i+1)=e i+(s'.2.drawn-dd (sq i)):=by rw[es,hsq]
   obtain⟨W',⟨d,rfl,o7,-⟩,hrun,-⟩:=qI (hz:=⟨s'.2.drawn,τs,dd (sq i),e i⟩) (sl:=none) hP h3 h1 (L:=(sq i).2.at (dd (sq i))) (W:=(sq i).2.re τs (e i))
    ⟨e i,rfl,by show e i+dd (sq i)=dd (sq i)+e i;omega,λk q hk=>by have ox:dd (sq i)+k<s'.2.drawn:=hk;have:Q (e i+k) i:=⟨λj hj=>h j U,U,.inl (by rw[S7];omega)⟩;show(sq i).2.tape (dd (sq i)+k) q=τs (e i+k) q;rw[hτ _ _ q this];congr 1;omega⟩ e1 e2 e3 (ai _) (gs:=#[(sq i).1]) rfl mz
   simp only at o7;have hd:d=e (i+1):=by rw[S7];omega
   rw[runN_add,hr];have hstep:step P (solo (sq i).1 ((sq i).2.re τs (e i)))=.next (solo s'.1 (s'.2.re τs d)):=by unfold step;rw[stepT_solo h2,solo_eq_crowd,hrun,x5];rfl
   simp only[runN,hstep,hsq,hd]
 obtain⟨n,gt,wt,CO,uB,hl3,hl4⟩:=lone τs;have split:∀m,(∀j,j<m->nx (sq j)≠none)\/∃s,s<m/\nx (sq s)=none/\∀j,j<s->nx (sq j)≠none:=by
  intro m;induction m with
  |zero=>exact .inl λj hj=>U
  |succ m ih=>
   rcases ih with h|⟨s,h1,h2,h3⟩;by_cases hm:nx (sq m)=none;exact .inr ⟨m,U,hm,h⟩;refine .inl λj hj=>?_;rcases pR j m with h1|h1;exact h j h1;have:j=m:=U
   rw[this];exact hm
   exact .inr ⟨s,U,h2,h3⟩
 rcases split n with h|⟨s,hsn,dN,h⟩;have:=abO n h;rw[CO]at this;simp[solo]at this;obtain⟨h1,rfl⟩:=this;have hk:=hl4 (sq n).2.tape (sq n).2.drawn;rw[h1,afd,Pd]at hk;exact(inv n h).2.2.2 hk;have hc:=abO s h;obtain⟨h1,h2,h3,h4⟩:=inv s h;have hn:n=s+(n-s):=U
 rw[hn,runN_add,hc]at CO;simp only at CO;obtain⟨-,-,hz|⟨k,g1,w1,ops,-,hrun,TJ,He,lP⟩⟩:=wR hP h1 (λt ht=>by rw[h2]at ht;cases ht) CO uB hl3;omega;have hl:=wR hP TJ He lP uB hl3;obtain⟨W',-,abv,-⟩:=qI (hz:=⟨w1.drawn,(sq s).2.tape,e s,dd (sq s)⟩) (sl:=none) hP h3 h1 (L:=(sq s).2.re τs (e s)) (W:=(sq s).2.at (dd (sq s)))
  ⟨dd (sq s),rfl,by show dd (sq s)+e s=e s+dd (sq s);omega,λi q hi=>by have:Q (e s+i) s:=⟨h,U,.inr dN⟩;show τs (e s+i) q=(sq s).2.tape (dd (sq s)+i) q;rw[hτ _ _ q this];congr 1;omega⟩ hrun hl.1 hl.2.1 (ai _) (gs:=#[(sq s).1]) rfl mz
 rw[<-solo_eq_crowd,x5]at abv;exact TD _ dN (g1,W') ⟨ops,abv,hl.1,hl.2.1⟩
end Go.Co
