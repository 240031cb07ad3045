import Derived.Test.YtadeehilamokkaaGreatDoorPk20
import Derived.Conc.Beside
import Derived.Conc.CrowdComm
import Derived.Lone
namespace Go.Co
open Go
variable {hz:Hz}
theorem NI{P:Program}{α:Type}{s:Sem α}(hs:Pf P s){L W:World}(h:Sync hz L W):Over hz (s.run P L)\/KE hz (s.run P L) (s.run P W):=by have:=hs hz L W #[] h;unfold Sim at this;simp only[Sem.runT_fst]at this;exact this.imp id (·.1)
def gW(hz:Hz):GStep->GStep->Prop
 |.go g L es,s=>g.dying=none->L.drawn<=hz.h->∃W,s=.go g W es/\Sync hz L W
 |.comm g c b sh L es,s=>g.dying=none->L.drawn<=hz.h->∃W,s=.comm g c b sh W es/\Sync hz L W
 |.coroswitch g c x L es,s=>g.dying=none->L.drawn<=hz.h->∃W,s=.coroswitch g c x W es/\Sync hz L W
 |_,_=>True
def FI(hz:Hz):GStep->Prop
 |.go g L _=>g.dying=none->hz.h<L.drawn
 |.comm g _ _ _ L _=>g.dying=none->hz.h<L.drawn
 |.coroswitch g _ _ L _=>g.dying=none->hz.h<L.drawn
 |_=>True
theorem fN{s s':GStep}(h:FI hz s):gW hz s s':=by cases s<;>first|exact trivial|exactλhd hl=>absurd (h hd) ab
theorem FI.after (es:Array Event){s:GStep}(h:FI hz s):FI hz (GStep.after es s):=by cases s<;>exact h
theorem gW.after (es:Array Event){s s':GStep}(h:gW hz s s'):gW hz (GStep.after es s) (GStep.after es s'):=by cases s<;>first|exact trivial|(intro hd hl;obtain⟨W,rfl,hs⟩:=h hd hl;exact⟨W,rfl,hs⟩)
theorem ck(g:Goroutine)(es:Array Event){L W:World}(h:Sync hz L W):gW hz (.go g L es) (.go g W es):=λ_ _=>⟨W,rfl,h⟩
theorem GH{c:Prop}[Decidable c]{a a' b b':GStep}(h:gW hz a a')(h':gW hz b b'):gW hz (if c then a else b) (if c then a' else b'):=by grind
theorem GX(fr:Frame)(a:List ByteArray)(m:String)(b:Bool)(L:World):FI hz (dieOf fr a m b L):=λhd=>nomatch hd
theorem gA(fr:Frame)(m:String)(L:World):FI hz (endThrow fr m L):=GX _ _ _ _ _
theorem mg(P:Program)(fr:Frame)(callers:List Frame)(dy:Option Dying)(m:String)(L:World):FI hz (endFatal P fr callers dy m L):=by unfold endFatal;dsimp only;split;exact GX _ _ _ _ _;exact trivial;exact trivial
theorem GW(P:Program)(fr:Frame)(callers:List Frame)(dy:Option Dying)(g:Nat){L:World}(h:hz.h<L.drawn):FI hz (early P fr callers dy g L):=by
 have notYet:∀{L:World},hz.h<L.drawn->FI hz
   (match L.heap[g]? with
    |some (.pending c elem)=>.go {frame:=fr,callers,status:=.running,dying:=dy} {L with heap:=L.heap.setIfInBounds g (.cells c elem)}
    |_=>.ended (.stuck "early: the variable does not wait" (fr.pos P)) L):=by
  intro L h;split;exactλ_=>h;exact trivial
 unfold early;dsimp only;split
 grind
 split;exact trivial;split
 grind
 split
 grind
 split;exact trivial;exactλ_=>h;exact trivial
 grind
 split;exactλ_=>h;split
 grind
 have hm:=jo P (choose (.early g)) L #[];rw[Sem.runT_fst]at hm;generalize Sem.run P (choose (.early g)) L=x at hm;cases x with
 |ok a w=>
  cases a with
  |zero=>exact notYet (cK h hm)
  |succ a=>exactλ_=>cK h hm
 |halt x w=>exact trivial
theorem O5(P:Program)(fr:Frame)(callers:List Frame)(dy:Option Dying)(g:Nat){L W:World}(h:Sync hz L W):gW hz (early P fr callers dy g L) (early P fr callers dy g W):=by
 have hb:∀n a b,P.brought W n a b=P.brought L n a b:=by
  intro n;induction n with
  |zero=>intro a b;rfl
  |succ n ih=>
   intro a b;cases a with
   |nil=>rfl
   |cons f todo=>simp only[Program.brought,ih,h.heap]
 have hsh:W.shape?=L.shape?:=by funext r;unfold World.shape?;rw[h.heap]
 have hf:∀n f,P.found W n f=P.found L n f:=by
  intro n;induction n with
  |zero=>intro f;rfl
  |succ n ih=>intro f;simp only[Program.found,ih,h.heap,hsh]
 have notYet:∀{L W:World},Sync hz L W->gW hz
   (match L.heap[g]? with
    |some (.pending c elem)=>.go {frame:=fr,callers,status:=.running,dying:=dy} {L with heap:=L.heap.setIfInBounds g (.cells c elem)}
    |_=>.ended (.stuck "early: the variable does not wait" (fr.pos P)) L)
   (match W.heap[g]? with
    |some (.pending c elem)=>.go {frame:=fr,callers,status:=.running,dying:=dy} {W with heap:=W.heap.setIfInBounds g (.cells c elem)}
    |_=>.ended (.stuck "early: the variable does not wait" (fr.pos P)) W):=by
  intro L W h;rw[h.heap];split;exact ck _ _ (h.rq _);exact trivial
 unfold early;simp only[hb,hf,hsh];by_cases hfo:P.follows .staticDataAhead=true;simp only[hfo,fR,aJ,if_false];cases P.stepOf g with
 |none=>exact trivial
 |some f=>
  simp only;split
  grind
  split
  grind
  split;exact trivial;exact ck _ _ h;exact trivial
  grind
  split;exact ck _ _ h;split
  grind
  have hr:=NI (t_choose (P:=P) (.early g)).pf h;generalize Sem.run P (choose (.early g)) L=x at hr;generalize Sem.run P (choose (.early g)) W=y at hr;rcases hr with ho|hr;cases x with
  |ok a w=>
   rcases ho with ho|⟨m,w,e⟩;refine fN ?_;cases a with
   |zero=>show FI hz (match w.heap[g]? with|some (.pending c elem)=>_|_=>_);split;exactλ_=>ho;exact trivial
   |succ a=>exactλ_=>ho
   cases e
  |halt x w=>exact trivial
  cases hr with
  |ok a h'=>
   cases a with
   |zero=>exact notYet h'
   |succ a=>exact ck _ _ h'
  |halt x h'=>exact trivial
 grind
theorem S8(P:Program)(fr:Frame)(callers:List Frame)(dy:Option Dying)(s:Sem Next){L:World}(h:hz.h<L.drawn):FI hz (stepG.apply P true fr callers dy s L):=by
 unfold stepG.apply;have hm:=jo P s L #[];generalize Sem.runT P s L #[]=x at hm;obtain⟨r,es⟩:=x;simp only[if_true];cases r with
 |ok a w=>
  have h':hz.h<w.drawn:=cK h hm;cases a<;>refine FI.after _ ?_<;>try(first|exactλ_=>h'|exact trivial)
  all_goals (dsimp only;(repeat' split)<;>first|exactλ_=>h'|exact trivial|exact gA _ _ _)
 |halt x w=>
  have h':hz.h<w.drawn:=cK h hm;cases x with
  |unsupported u=>cases u<;>refine FI.after _ ?_<;>first|exact GW _ _ _ _ _ h'|exact trivial
  |_=>refine FI.after _ ?_;first|exactλ_=>h'|exact trivial|exact mg _ _ _ _ _ _|exact gA _ _ _
theorem zX(P:Program)(main:Bool)(fr:Frame)(callers:List Frame)(dy:Option Dying)(v:Value){L:World}(h:hz.h<L.drawn):FI hz (doReturn P main fr callers dy v L):=by
 unfold doReturn
 (repeat' split)<;>first|exactλ_=>h|exact trivial
theorem mR(P:Program)(fr:Frame)(callers:List Frame){s:Sem Next}(hs:Pf P s){L W:World}(h:Sync hz L W):
  gW hz (stepG.apply P true fr callers none s L) (stepG.apply P true fr callers none s W):=by
 unfold stepG.apply;have hr:=hs hz L W #[] h;generalize Sem.runT P s L #[]=x at hr;generalize Sem.runT P s W #[]=y at hr;obtain⟨r,es⟩:=x;obtain⟨r',es'⟩:=y;simp only[if_true];rcases hr with ho|⟨hr,he⟩
 .rcases ho with ho|⟨m,w,e⟩
  .refine fN ?_;cases r with
   |ok a w=>
    have h':hz.h<w.drawn:=ho;cases a<;>refine FI.after _ ?_<;>try(first|exactλ_=>h'|exact trivial)
    all_goals (dsimp only;(repeat' split)<;>first|exactλ_=>h'|exact trivial|exact gA _ _ _)
   |halt x w=>
    have h':hz.h<w.drawn:=ho;cases x with
    |unsupported u=>cases u<;>refine FI.after _ ?_<;>first|exact GW _ _ _ _ _ h'|exact trivial
    |_=>refine FI.after _ ?_;first|exactλ_=>h'|exact trivial|exact mg _ _ _ _ _ _|exact gA _ _ _
  simp only at e;subst e;exact trivial
 simp only at hr he;subst he;cases hr with
 |ok a h'=>
  cases a<;>refine gW.after _ ?_<;>try(first|exact ck _ _ h'|exact trivial|exactλ_ _=>⟨_,rfl,h'⟩)
  all_goals (dsimp only;(repeat' split)<;>first|exact ck _ _ h'|exact trivial|exact fN (gA _ _ _))
 |halt x h'=>
  cases x with
  |unsupported u=>cases u<;>refine gW.after _ ?_<;>first|exact O5 _ _ _ _ _ h'|exact trivial
  |_=>refine gW.after _ ?_;first|exact ck _ _ h'|exact trivial|exact fN (mg _ _ _ _ _ _)|exact fN (gA _ _ _)
theorem Tn{P:Program}(hP:Plain P)(fr:Frame)(callers:List Frame){L W:World}(h:Sync hz L W):gW hz (stepG.oper P true fr callers none L) (stepG.oper P true fr callers none W):=by unfold stepG.oper;split;exact trivial;split;refine mR _ _ _ ?_ h;exact(aA (R':=pH) TC.out λ_=>aA TC.out λ_=>aX (show pH .skip from trivial)).pf;exact mR _ _ _ (GF hP _ _).pf h
theorem qS(P:Program)(main:Bool)(fr:Frame)(callers:List Frame)(v:Value){L W:World}(h:Sync hz L W):gW hz (doReturn P main fr callers none v L) (doReturn P main fr callers none v W):=by
 unfold doReturn;cases callers with
 |cons c rest=>cases fr.kind<;>exact ck _ _ h
 |nil=>
  simp only
  (repeat' split)<;>first|exact ck _ _ h|exact trivial
theorem rO{α:Type}(P:Program)(fn:FuncId){s:Sem α}(hs:Pf P s)(k:Result α->GStep)(hk:∀{r r':Result α},KE hz r r'->gW hz (k r) (k r'))(ho:∀{r:Result α},Over hz r->FI hz (k r)){L W:World}(h:Sync hz L W):
  gW hz (GStep.after (seen P fn (s.runT P L #[]).2) (k (s.runT P L #[]).1)) (GStep.after (seen P fn (s.runT P W #[]).2) (k (s.runT P W #[]).1)):=by
 rcases hs hz L W #[] h with h1|⟨h1,h2⟩;exact fN (FI.after _ (ho h1));rw[h2];exact gW.after _ (hk h1)
theorem Ab{P:Program}(hP:Plain P)(fr:Frame)(callers:List Frame)(d:Deferred){L W:World}(h:Sync hz L W):gW hz (callDeferred P fr callers none d L) (callDeferred P fr callers none d W):=by
 unfold callDeferred;refine GH trivial ?_;have hr:=(mF hP d.target d.args).pf hz L W #[] h;generalize Sem.runT P (invoke d.target d.args) L #[]=x at hr;generalize Sem.runT P (invoke d.target d.args) W #[]=y at hr;obtain⟨r,es⟩:=x;obtain⟨r',es'⟩:=y;simp only;rcases hr with ho|⟨hr,he⟩;rcases ho with ho|⟨m,w,e⟩;refine fN (FI.after _ ?_);cases r with
 |ok a w=>
  have h':hz.h<w.drawn:=ho;cases a with
  |recover=>dsimp only;split<;>exactλ_=>h'
  |alone on v=>cases on<;>exact trivial
  |coroswitch c e=>cases e<;>first|exactλ_=>h'|exact trivial
  |_=>first|exactλ_=>h'|exact trivial
 |halt x w=>have h':hz.h<w.drawn:=ho;cases x<;>first|exactλ_=>h'|exact trivial|exact mg _ _ _ _ _ _|exact gA _ _ _
 simp only at e;subst e;exact trivial;simp only at hr he;subst he;cases hr with
 |ok a h'=>
  refine gW.after _ ?_;cases a with
  |recover=>dsimp only;split<;>exact ck _ _ h'
  |alone on v=>cases on<;>exact trivial
  |coroswitch c e=>cases e<;>first|exactλ_ _=>⟨_,rfl,h'⟩|exact trivial
  |_=>first|exact ck _ _ h'|exact trivial
 |halt x h'=>
  cases x with
  |unsupported u=>exact trivial
  |_=>refine gW.after _ ?_;first|exact ck _ _ h'|exact trivial|exact fN (mg _ _ _ _ _ _)|exact fN (gA _ _ _)
theorem BN{P:Program}(hP:Plain P)(main:Bool)(fr:Frame)(callers:List Frame){L W:World}(h:Sync hz L W):gW hz (unwind P main fr callers none L) (unwind P main fr callers none W):=by
 unfold unwind;split;rename_i block args ds hk;refine rO P _ (TC.out:T1 P (Instr.takeDeferred block)).pf (λr=>match r with
  |.ok calls w=>.go {frame:={fr with defers:=calls++ds},callers,status:=.running,dying:=none} w
  |.halt _ w=>.ended (.stuck "the deferred calls of a range-over-func loop have been taken" (fr.pos P)) w) (λhr=>?_) (λ{r} ho=>?_) h
 cases hr with
 |ok a h'=>exact ck _ _ h'
 |halt x h'=>exact trivial
 cases r with
 |ok a w=>rcases ho with ho|⟨m,w,e⟩;exactλ_=>ho;cases e
 |halt x w=>exact trivial
 exact Ab hP _ _ _ h;split;exact trivial;split;exact trivial;split;exact ck _ _ h;dsimp only;split;exact ck _ _ h;refine fN ?_;split;exactλhd=>nomatch hd;exact trivial;exact trivial;split;exact qS _ _ _ _ _ h;rename_i fn _;refine rO P _ (TC.out:T1 P (results fn fr.tmps)).pf (λr=>match r with
  |.ok v w=>doReturn P main fr callers none v w
  |.halt (.stuck s) w=>.ended (.stuck s (fr.pos P)) w
  |.halt _ w=>.ended (.stuck "return: the result variables cannot be read" (fr.pos P)) w) (λhr=>?_) (λ{r} ho=>?_) h
 cases hr with
 |ok a h'=>exact qS _ _ _ _ _ h'
 |halt x h'=>cases x<;>exact trivial
 cases r with
 |ok a w=>rcases ho with ho|⟨m,w,e⟩;exact zX _ _ _ _ _ _ ho;cases e
 |halt x w=>cases x<;>exact trivial
theorem T7{P:Program}(hP:Plain P)(main:Bool)(fr:Frame)(callers:List Frame)(ho:okF fr){L W:World}(h:Sync hz L W):gW hz (stepG.exec P main true fr callers none L) (stepG.exec P main true fr callers none W):=by
 have leave:∀jump:Option Code,gW hz
   (match fr.roundOf with
    |none=>if jump matches none|some .ret then .go {frame:={fr with mode:=.returning},callers,status:=.running,dying:=none} L else .ended (.stuck "exit, goto: no such block or label" (fr.pos P)) L
    |some l=>
     GStep.after (seen P fr.fn ((Instr.endRound l jump).runT P L #[]).2)<|match((Instr.endRound l jump).runT P L #[]).1 with
     |.ok v w=>doReturn P main fr callers none v w
     |.halt _ w=>.ended (.stuck "range over a function: no such loop" (fr.pos P)) w)
   (match fr.roundOf with
    |none=>if jump matches none|some .ret then .go {frame:={fr with mode:=.returning},callers,status:=.running,dying:=none} W else .ended (.stuck "exit, goto: no such block or label" (fr.pos P)) W
    |some l=>
     GStep.after (seen P fr.fn ((Instr.endRound l jump).runT P W #[]).2)<|match((Instr.endRound l jump).runT P W #[]).1 with
     |.ok v w=>doReturn P main fr callers none v w
     |.halt _ w=>.ended (.stuck "range over a function: no such loop" (fr.pos P)) w):=by
  intro jump;cases fr.roundOf with
  |none=>exact GH (ck _ _ h) trivial
  |some l=>
   refine rO P _ (TC.out:T1 P (Instr.endRound l jump)).pf (λr=>match r with
     |.ok v w=>doReturn P main fr callers none v w
     |.halt _ w=>.ended (.stuck "range over a function: no such loop" (fr.pos P)) w) (λhr=>?_) (λ{r} ho=>?_) h
   cases hr with
   |ok a h'=>exact qS _ _ _ _ _ h'
   |halt x h'=>exact trivial
   cases r with
   |ok a w=>rcases ho with ho|⟨m,w,e⟩;exact zX _ _ _ _ _ _ ho;cases e
   |halt x w=>exact trivial
 unfold stepG.exec;dsimp only;obtain⟨fn,tmps,todo,defers,mode,kind,ro⟩:=fr;cases todo with
 |nil=>exact leave none
 |cons it k=>
  cases it with
  |code c=>
   cases c with
   |ret=>exact leave (some .ret)
   |exit id=>
    simp only;cases exitTo id k with
    |none=>exact leave (some (.exit id))
    |some k'=>exact ck _ _ h
   |goto l=>
    simp only;cases gotoIn l k with
    |none=>exact leave (some (.goto l))
    |some k'=>exact ck _ _ h
   |cond c x y=>simp only;split;exact ck _ _ h;exact trivial
   |region id ops draw=>
    simp only;split;exact ck _ _ h;have hr:=NI (t_choose (P:=P) (.order fn id)).pf h;generalize Sem.run P (choose (.order fn id)) L=x at hr;generalize Sem.run P (choose (.order fn id)) W=y at hr;rcases hr with ho|hr;cases x with
    |ok a w=>rcases ho with ho|⟨m,w,e⟩;exact fN (λ_=>ho);cases e
    |halt x w=>exact trivial
    cases hr with
    |ok a h'=>exact ck _ _ h'
    |halt x h'=>exact trivial
   |rangeFunc f params assign body=>
    refine rO P _ (TC.out:T1 P (Instr.enterLoop fn tmps params assign body ro)).pf (λr=>match r with
     |.ok (l,mark) w=>stepG.apply P true ⟨fn,tmps,.inRangeFunc l::k,mark++defers,mode,kind,ro⟩ callers none (do let d<-resolve (Frame.eval ⟨fn,tmps,.inRangeFunc l::k,mark++defers,mode,kind,ro⟩) {callee:=.value f,args:=#[.const (.func (.yield l) #[] #[])],argTypes:=#[]} 0;invoke d.target d.args) w
     |.halt _ w=>.ended (.stuck "range over a function: no such loop" (Frame.pos P _)) w) (λhr=>?_) (λ{r} ho=>?_) h
    cases hr with
    |ok a h'=>exact mR _ _ _ (aA (R':=pH) TC.out λ_=>mF hP _ _).pf h'
    |halt x h'=>exact trivial
    cases r with
    |ok a w=>rcases ho with ho|⟨m,w,e⟩;exact S8 _ _ _ _ _ ho;cases e
    |halt x w=>exact trivial
   |refuse why=>exact trivial
   |_=>exact ck _ _ h
  |inBlock _=>exact ck _ _ h
  |inLoop _=>exact ck _ _ h
  |inScope _=>exact ck _ _ h
  |inRegion ops todo=>
   cases todo with
   |nil=>exact ck _ _ h
   |cons i rest=>simp only;split;exact Tn hP _ _ h;exact ck _ _ h
  |inRangeFunc _=>exact trivial
  |endRangeFunc l=>
   refine rO P _ (TC.out:T1 P (Instr.endLoop l)).pf (λ(r:Result (Option Code))=>match r with
     |.ok jump w=>.go {frame:=⟨fn,tmps,(jump.map Item.code).toList++k,defers,mode,kind,ro⟩,callers,status:=.running,dying:=none} w
     |.halt (.panic v) w=>.go {frame:=Frame.raise ⟨fn,tmps,.endRangeFunc l::k,defers,mode,kind,ro⟩ [{v,recovered:=false}],callers,status:=.running,dying:=none} w
     |.halt _ w=>.ended (.stuck "range over a function: no such loop" (Frame.pos P _)) w) (λhr=>?_) (λ{r} ho=>?_) h
   cases hr with
   |ok a h'=>exact ck _ _ h'
   |halt x h'=>cases x<;>first|exact ck _ _ h'|exact trivial
   cases r with
   |ok a w=>rcases ho with ho|⟨m,w,e⟩;exactλ_=>ho;cases e
   |halt x w=>
    rcases ho with ho|⟨m,w,e⟩;cases x<;>first|exactλ_=>ho|exact trivial
    cases e;exact trivial
  |beginRound=>
   refine mR _ _ _ ?_ h;refine(aA (R':=pH) ?_ λ_=>aX (show pH .skip from trivial)).pf;cases ro with
   |none=>exact ak _
   |some l=>exact(TC.out:T1 P (Instr.beginRound l))
  |call d w r s=>exact mR _ _ _ (mF hP _ _).pf h
  |extern row args=>
   have hr:row="runtime.print$piece":=ho (.extern row args) (gO ..);subst hr;simp only;cases e:Extern.next "runtime.print$piece" with
   |none=>exact trivial
   |some x=>exact mR _ _ _ (Fa e args).pf h
theorem Od{P:Program}(hP:Plain P)(main:Bool)(g:Goroutine)(hd:g.dying=none)(ho:okF g.frame){L W:World}(h:Sync hz L W):gW hz (stepG P main g L) (stepG P main g W):=by
 obtain⟨fr,callers,st,dy,off⟩:=g;simp only at hd;subst hd;unfold stepG;cases hm:fr.mode with
 |run=>simp only[hm];exact T7 hP _ _ _ ho h
 |returning=>simp only[hm];exact BN hP _ _ _ h
 |panicking c=>simp only[hm];exact BN hP _ _ _ h
end Go.Co
namespace Go.Co
open Go Go.Conc
variable {P:Program}
def Lw:Way->Prop
 |.partner .. =>False
 |_=>True
theorem aa2{w:World}{gs:Array Goroutine}{c:CommCase}(hp:∀r b,partners gs r b=[]):∀x∈ways w gs c,Lw x:=by
 unfold ways;simp only[hp];intro x hx;split at hx;split at hx;split at hx;simp at hx;subst hx;trivial
 split at hx;simp at hx;subst hx;trivial
 simp at hx;split at hx;simp at hx;subst hx;trivial
 split at hx;simp at hx;subst hx;trivial
 simp at hx;simp at hx;simp at hx
theorem N9{w:World}{gs gs':Array Goroutine}{c:CommCase}(hp:∀r b,partners gs r b=[])(sY:∀r b,partners gs' r b=[]):ways w gs c=ways w gs' c:=by unfold ways;simp only[hp,sY]
theorem Sf{w w':World}{gs:Array Goroutine}{c:CommCase}(h:w'.heap=w.heap):ways w' gs c=ways w gs c:=by unfold ways;rw[h]
theorem abK{ws:List Way}(h:∀x∈ws,Lw x)(b:Nat):Lw (ws.getD b .closed):=by
 rw[aK];cases e:ws[b]? with
 |none=>trivial
 |some x=>exact h x (bY e)
theorem YF{l:List (Nat×CommCase×List Way)}(h:∀x∈l,∀y∈x.2.2,Lw y)(a b:Nat):Lw ((l.getD a (0,default,[])).2.2.getD b .closed):=by
 refine abK ?_ b;rw[aK];cases e:l[a]? with
 |none=>simp
 |some x=>exact h x (bY e)
theorem HH(q:Question)(w:World):∃n d,(choose q).run P w=.ok n (w.at d):=by unfold choose;simp only[Sem.run];split;exact⟨0,w.drawn,rfl⟩;exact⟨_,w.drawn+1,rfl⟩
def agC(op:MemOp):Prop:=op.g=0/\op.act.touch?=none/\(∀m,op.act≠.mark m)
theorem uV{rest:Rest}(hT:rest.timers=#[])(cases:Array CommCase)(w:World):waitingAt rest cases w=some w:=by
 have:timerAhead rest w.os.mono cases=false:=by unfold timerAhead;rw[Array.any_eq_false];intro k hk;split<;>simp[hT]
 unfold waitingAt;simp[this]
theorem qF{α β:Type}{s:Sem α}{f:α->Sem β}{w w':World}{a:α}(h:s.run P w=.ok a w'):(s>>=f).run P w=(f a).run P w':=by
 have e:=runT_bind' P s f w #[];have e2:=Sem.runT_fst P s w #[];rw[<-Sem.runT_fst P (s>>=f) w #[],e]
 revert e2
 generalize s.runT P w #[]=x;obtain⟨r,es⟩:=x;intro e2;simp only at e2;rw[h]at e2;subst e2;exact Sem.runT_fst P (f a) w' es
theorem Cf{hz:Hz}(q:Question){L W:World}(h:Sync hz L W):∃n L',(choose q).run P L=.ok n L'/\(L'.drawn<=hz.h->∃W',(choose q).run P W=.ok n W'/\Sync hz L' W')/\L.drawn<=L'.drawn:=by
 obtain⟨n,d,hn⟩:=HH (P:=P) q L;refine⟨n,L.at d,hn,λhd=>?_,?_⟩;have:=NI (t_choose (P:=P) q).pf h;rw[hn]at this;rcases this with (ho|⟨m,w,e⟩)|hr;have nP:hz.h<(L.at d).drawn:=ho;omega;cases e;generalize Sem.run P (choose q) W=y at hr;cases hr with
 |ok a h'=>exact⟨_,rfl,h'⟩
 have:=jo P (choose q) L #[];rw[Sem.runT_fst,hn]at this;exact this
theorem SG{α:Type}{s:Sem α}{w w':World}{a:α}(e:s.run P w=.ok a w'):w.drawn<=w'.drawn:=by have:=jo P s w #[];rw[Sem.runT_fst,e]at this;exact this
theorem Tc {hz:Hz} (ready:List (Nat×CommCase×List Way)) {L W:World} (h:Sync hz L W):∃ x L2,
    (do let a ← choose (.select ready.length)
        let (k,c,ws):=ready.getD a (0,default,[])
        let b ← choose (.extern "which waiting goroutine is the partner" ws.length)
        pure (k,c,ws.getD b .closed):Sem (Nat×CommCase×Way)).run P L = .ok x L2 ∧
    (L2.drawn≤hz.h→∃ W2,(do let a ← choose (.select ready.length)
                                 let (k,c,ws):=ready.getD a (0,default,[])
                                 let b ← choose (.extern "which waiting goroutine is the partner" ws.length)
                                 pure (k,c,ws.getD b .closed):Sem (Nat×CommCase×Way)).run P W = .ok x W2∧Sync hz L2 W2) ∧
    ((∀ x∈ready,∀ y∈x.2.2,Lw y)→Lw x.2.2):=by
  obtain⟨n1,L1,e1,f1,m1⟩:=Cf (P:=P) (.select ready.length) h
  rw[qF e1]
  have hl:=fun hlw b=>YF (l:=ready) hlw n1 b
  cases JQ:ready.getD n1 (0,default,[]) with
  | mk k cw =>
    obtain⟨c,ws⟩:=cw
    rw[JQ] at hl
    dsimp only
    obtain ⟨n2, d2, e2⟩ := HH (P := P) (.extern "which waiting goroutine is the partner" ws.length) L1
    rw[qF e2]
    refine⟨_,_,rfl,fun hd => ?_,fun hlw=>hl hlw n2⟩
    have hm := jo P (choose (.extern "which waiting goroutine is the partner" ws.length)) L1 #[]
    rw[Sem.runT_fst,e2] at hm
    obtain⟨W1,e1',s1⟩:=f1 (bt hm hd)
    rw[qF e1',JQ]
    dsimp only
    obtain ⟨n3, L3, e3, f3, _⟩ := Cf (P := P) (.extern "which waiting goroutine is the partner" ws.length) s1
    rw[e2] at e3
    cases e3
    obtain⟨W2,e2',s2⟩:=f3 hd
    rw[qF e2']
    exact⟨_,rfl,s2⟩
theorem xZ {hz:Hz} {b:Prop} {rest VD:Rest} (hT:rest.timers=#[]) (hT0:VD.timers=#[]) {gs gs0:Array Goroutine} (hp:∀ r b,partners gs r b=[]) (mV:∀ r b,partners gs0 r b=[]) {g:Goroutine} {cases:Array CommCase} {bl:Bool} {sh:CommShape} {L W:World} (hs:Sync hz L W) {m0:Machine} {ops:Array MemOp}
    (h:communicate P VD gs0 0 g cases bl sh L=(.next m0,ops)) (hle:m0.world.drawn≤hz.h) :
    ∃ g' L' W',m0={ world:=L',gs:=gs0.setIfInBounds 0 g',rest:=VD }∧communicate P rest gs 0 g cases bl sh W=(.next { world:=W',gs:=gs.setIfInBounds 0 g',rest },ops)∧Sync hz L' W'∧(∀ op∈ops,agC op)∧g'.dying=g.dying∧L.drawn≤L'.drawn∧(g.status = .running→∀ t,g'.status ≠ .sleeping t)∧(Hg b g.dying g.frame g.callers→Hg b g'.dying g'.frame g'.callers):=by
  unfold communicate at h ⊢
  simp only[uV hT,uV hT0] at h ⊢
  have hw:(fun(x:CommCase×Nat)=>((x.2,x.1,ways W gs x.1):Nat×CommCase×List Way))=fun x=>(x.2,x.1,ways L gs0 x.1):=by
    funext x
    rw[Sf hs.heap,N9 hp mV]
  have hlw:∀ x∈((cases.zipIdx.toList.map fun(x:CommCase×Nat)=>((x.2,x.1,ways L gs0 x.1):Nat×CommCase×List Way)).filter fun(x:Nat×CommCase×List Way) => !x.2.2.isEmpty),∀ y∈x.2.2,Lw y:=by
    intro x hx y hy
    obtain⟨x',-,rfl⟩:=fQ.1 (List.mem_filter.1 hx).1
    exact aa2 mV y hy
  rw[hw,hs.heap]
  generalize ((cases.zipIdx.toList.map fun(x:CommCase×Nat)=>((x.2,x.1,ways L gs0 x.1):Nat×CommCase×List Way)).filter fun(x:Nat×CommCase×List Way) => !x.2.2.isEmpty)=ready at h hlw ⊢
  split at h
  · cases h
  rename_i ajl
  rw[if_neg ajl]
  split at h
  · rename_i hr
    rw[if_pos hr]
    split at h
    · rename_i hb
      rw[if_pos hb]
      simp only[az,Stepped.next.injEq] at h
      obtain⟨rfl,rfl⟩:=h
      exact⟨_,_,_,rfl,rfl,hs,by simp,rfl,ai _,fun hst t=>by first | (intro h; cases h; done) | (show g.status≠_; rw[hst]; simp; done),fun hg=>hg⟩
    · rename_i hb
      rw[if_neg hb]
      simp only[az,Stepped.next.injEq] at h
      obtain⟨rfl,rfl⟩:=h
      exact⟨_,_,_,rfl,rfl,hs,by simp,rfl,ai _,fun hst t=>by first | (intro h; cases h; done) | (show g.status≠_; rw[hst]; simp; done),fun hg=>er hg _⟩
  · rename_i hr
    rw[if_neg hr]
    obtain⟨⟨k,c,way⟩,L2,e,f,hl⟩:=Tc (P:=P) ready hs
    have hm:L.drawn≤L2.drawn:=by
      exact SG e
    rw[e] at h
    replace hl:Lw way:=hl hlw
    dsimp only at h
    have WX : ∀ w : World, (runtimePanic (.plain "send on closed channel") : Sem Unit).run P w = .halt (.panic (.iface P.rt.plainError (strVal "send on closed channel"))) w := fun _ => rfl
    simp only[WX] at h
    split at h
    ·
      simp only[az,Stepped.next.injEq] at h
      obtain⟨rfl,rfl⟩:=h
      obtain⟨W2,e',s2⟩:=f hle
      rw[e']
      dsimp only
      simp only[WX]
      exact⟨_,_,_,rfl,rfl,s2,by simp,rfl,hm,fun hst t=>by first | (intro h; cases h; done) | (show g.status≠_; rw[hst]; simp; done),fun hg=>rC hg _⟩
    · simp only[az,Stepped.next.injEq] at h
      obtain⟨rfl,rfl⟩:=h
      obtain⟨W2,e',s2⟩:=f hle
      rw[e']
      dsimp only
      refine⟨_,_,_,rfl,rfl,s2,?_,rfl,hm,fun hst t=>by first | (intro h; cases h; done) | (show g.status≠_; rw[hst]; simp; done),fun hg=>er hg _⟩
      intro op hop
      simp only[eC,bX] at hop
      subst hop
      exact⟨rfl,rfl,by simp⟩
    · rename_i V1 hsend
      simp only[az,Stepped.next.injEq] at h
      obtain⟨rfl,rfl⟩:=h
      obtain⟨W2,e',s2⟩:=f hle
      rw[e']
      dsimp only
      rw[s2.heap,V1,hsend]
      dsimp only
      refine⟨_,_,_,rfl,rfl,s2.rq _,?_,rfl,hm,fun hst t=>by first | (intro h; cases h; done) | (show g.status≠_; rw[hst]; simp; done),fun hg=>er hg _⟩
      intro op hop
      simp only[eC,aV,ek,or_false] at hop
      rcases hop with rfl | rfl<;>exact⟨rfl,rfl,by simp⟩
    · rename_i V1 hsend
      rw[mV] at h
      simp only[az,Stepped.next.injEq] at h
      obtain⟨rfl,rfl⟩:=h
      obtain⟨W2,e',s2⟩:=f hle
      rw[e']
      dsimp only
      rw[s2.heap,V1,hsend]
      dsimp only
      rw[hp]
      refine⟨_,_,_,rfl,rfl,s2.rq _,?_,rfl,hm,fun hst t=>by first | (intro h; cases h; done) | (show g.status≠_; rw[hst]; simp; done),fun hg=>er hg _⟩
      intro op hop
      simp only[eC,aV,ek,or_false] at hop
      rcases hop with rfl | rfl<;>exact⟨rfl,rfl,by simp⟩
    · exact hl.elim
    · exact hl.elim
    · cases h
end Go.Co
namespace Go.Co
open Go Go.Conc
variable {P:Program}
theorem Sync.refl (h:Nat)(w:World):Sync ⟨h,w.tape,0,0⟩ w w:=⟨w.drawn,rfl,rfl,λ_ _ _=>rfl⟩
def Oth(P:Program)(g:Goroutine)(gs:Array Goroutine):Prop:=∀j x,0<j->gs[j]? =some x->(x.status=.running\/x.status=.finished)/\∀g' w',woken P g g' w' x=x
theorem jT{g:Goroutine}{gs:Array Goroutine}(h:Oth P g gs)(r:Nat)(b:Bool):partners (gs.setIfInBounds 0 ph) r b=[]:=by refine partners_nil λj x hx=>offersAt_of_not_blocked ?_ r b;rcases getElem?_stand gs 0 j x hx with ⟨_,rfl⟩|⟨hj,hx⟩;simp[ph];rcases(h j x ab hx).1 with e|e<;>simp[e]
theorem mY{g:Goroutine}:Oth P g #[g]:=λj x hj hx=>by have:=(aG.1 hx).1;simp at this;omega
theorem abC{g:Goroutine}{gs:Array Goroutine}(h:Oth P g gs)(g' g'':Goroutine)(w':World):(gs.map (woken P g g' w')).setIfInBounds 0 g''=gs.setIfInBounds 0 g'':=by
 apply Array.ext_getElem?;intro j;by_cases hj:0=j
 grind
 rw[fF hj,fF hj,y7];cases hx:gs[j]? with
 |none=>rfl
 |some x=>simp[(h j x ab hx).2]
theorem T9(t:Trace):∀(u:List MemOp),(∀op∈u,agC op)->Deaf (t++u.toArray) 0=Deaf t 0:=by
 intro u hu;rw[Deaf_append];generalize Deaf t 0=d;induction u generalizing d with
 |nil=>rfl
 |cons y u ih=>
  rw[oG];have hy:=hu y ae;have:deafStep 0 d y=d:=by
   unfold deafStep;split;rename_i h;exact absurd h (hy.2.2 _)
   rename_i h;exact absurd h (hy.2.2 _)
   rfl
  rw[this];exact ih (λop hop=>hu op (by simp[hop])) d
abbrev Fr(g:Goroutine):Prop:=Hg False g.dying g.frame g.callers
theorem XI{g g':Goroutine}{w w':World}{o o':Array MemOp}(e:((Stepped.next (solo g w),o):Stepped×Array MemOp)=(.next (solo g' w'),o')):g=g'/\w=w'/\o=o':=by simp[solo]at e;exact⟨e.1.2,e.1.1,e.2⟩
theorem AW{gs:Array Goroutine}{g g1:Goroutine}{w w1:World}{sl:Option (Nat×Nat)}{c:Nat}{x:Bool}{es:Array Event}(h0:gs[0]? =some g)(h:stepG P true g w=.coroswitch g1 c x w1 es):
  runT P (crowd gs w sl) 0=((match w1.heap[c]? with
   |some (.coro (some h))=>.next {world:={w1 with heap:=w1.heap.setIfInBounds c (.coro (if x then none else some 0))},gs:=(gs.setIfInBounds 0 (if x then{g1 with status:=.finished}else{g1 with frame:=g1.frame.finish undef,status:=.parked})).modify h (λo=>{o with status:=.running}),rest:={timers:=#[],alone:=none,slice:=sl}}
   |some (.coro none)=>(match endThrow g1.frame "coroswitch on exited coro" w1 with
    |.go g w _=>.next {world:=w,gs:=gs.setIfInBounds 0 g,rest:={timers:=#[],alone:=none,slice:=sl}}
    |_=>.ended (.stuck "" "") w1)
   |_=>.ended (.stuck "coroswitch: no coroutine" "") w1),MemOp.ofEvents 0 g.frame.fn g.frame.place es):=by
 obtain⟨hlt,rfl⟩:=aG.1 h0;have hsw:=swapAt_of_lt hlt {(default:Goroutine)with status:=.finished};show runT P {world:=w,gs:=gs,rest:={timers:=#[],alone:=none,slice:=sl}} 0=_;unfold runT;simp only[hsw,show(0==0)=true from rfl,h,GStep.es,set_setIfInBounds hlt];rfl
theorem rz{hz:Hz}(hP:Plain P){g:Goroutine}(hd:g.dying=none)(hf:Fr g){L W:World}(hs:Sync hz L W){g':Goroutine}{L':World}{ops:Array MemOp}
  (h:runT P (solo g L) 0=(.next (solo g' L'),ops)) (F7:g'.status=.running) (wv:g'.dying=none) (hle:L'.drawn<=hz.h) {gs:Array Goroutine} {sl:Option (Nat×Nat)} (h0:gs[0]? =some g) (hO:Oth P g gs):
  ∃W',Sync hz L' W'/\runT P (crowd gs W sl) 0=(.next (crowd (gs.setIfInBounds 0 g') W' sl),ops)/\(∀op∈ops,op.g=0)/\(∀t,Deaf t 0=0->Deaf (t++ops) 0=0)/\Fr g':=by
 have jU:=ru (b:=False) hP true g hf L;have hsy:=Od hP true g hd hf.1 hs;cases hst:stepG P true g L with
 |go g1 w1 es=>rw[hst]at jU hsy;have e:=runT_solo_go hst;rw[h]at e;obtain⟨rfl,rfl,rfl⟩:=XI e;obtain⟨W',hW,HX⟩:=hsy wv hle;refine⟨W',HX,?_,?_,?_,jU.2.1⟩;have:=runT_crowd_go (P:=P) (sl:=sl) (i:=0) h0 (show stepG P (0==0) g W=_ from hW);rw[abC hO]at this;exact this;intro op hop;rw[ofEvents_eq]at hop;obtain⟨e,_,rfl⟩:=gp.1 hop;rfl;intro t ht;rw[Deaf_own,ht];exact jU.1
 |comm g1 cases bl sh w1 es=>
  rw[hst]at jU hsy;have e:=runT_crowd_comm (P:=P) (gs:=#[g]) (sl:=none) (i:=0) rfl (show stepG P (0==0) g L=_ from hst);rw[<-solo_eq_crowd,h]at e;simp only[az]at e;obtain⟨e1,e2⟩:=e;generalize hc:communicate P (solo g L).rest (#[g].setIfInBounds 0 ph) 0 g1 cases bl sh w1=cm at e1 e2;obtain⟨c1,c2⟩:=cm;subst e1;dsimp only at e2;have e6:g'.dying=g1.dying/\w1.drawn<=L'.drawn:=by
   obtain⟨g2,L2,W2,h1,h2,h3,h4,h5,h5',_,h6⟩:=xZ (P:=P) (b:=False) (rest:=(crowd #[g] L none).rest) (gs:=#[g].setIfInBounds 0 ph) rfl rfl (jT (P:=P) mY) (jT (P:=P) mY) (Sync.refl L'.drawn w1) hc (ai _);have M7:(solo g' L')=solo g2 L2:=by rw[h1];simp[solo]
   simp[solo]at M7;obtain⟨rfl,rfl⟩:=M7;exact⟨h5,h5'⟩
  obtain⟨W1,hW,HW⟩:∃W1,stepG P true g W=.comm g1 cases bl sh W1 es/\Sync hz w1 W1:=hsy (e6.1▸wv) (bt e6.2 hle);obtain⟨g2,L2,W2,h1,h2,h3,h4,h5,_,_,h6⟩:=xZ (P:=P) (b:=False) (rest:=(crowd gs W sl).rest) (gs:=gs.setIfInBounds 0 ph) rfl rfl (jT hO) (jT (P:=P) mY) HW hc hle;have M7:(solo g' L')=solo g2 L2:=by rw[h1];simp[solo]
  simp[solo]at M7;obtain⟨rfl,rfl⟩:=M7;have:=runT_crowd_comm (P:=P) (sl:=sl) (i:=0) h0 (show stepG P (0==0) g W=_ from hW);refine⟨W2,h3,?_,?_,?_,h6 jU.2.1⟩;rw[this,h2,e2];simp[crowd];intro op hop;rw[e2]at hop;rcases Array.mem_append.1 hop with hop|hop;rw[ofEvents_eq]at hop;obtain⟨e,_,rfl⟩:=gp.1 hop;rfl;exact(h4 op hop).1;intro t ht;have e5:t++ops=(t++MemOp.ofEvents 0 g.frame.fn g.frame.place es)++c2.toList.toArray:=by rw[e2];simp
  rw[e5,T9 _ _ (λop hop=>h4 op (by simpa using hop)),Deaf_own,ht];exact jU.1
 |coroswitch g1 c x w1 es=>
  rw[hst]at jU hsy;have e:=AW (gs:=#[g]) (sl:=none) rfl hst;rw[<-solo_eq_crowd,h]at e;obtain⟨eh,eo⟩:=Prod.mk.inj e;cases hc:w1.heap[c]? with
  |none=>rw[hc]at eh;cases eh
  |some o=>
   rw[hc]at eh;cases o<;>try cases eh
   rename_i oh;cases oh with
   |none=>dsimp only[endThrow,dieOf]at eh;simp[solo]at eh;obtain⟨-,rfl⟩:=eh;simp at wv
   |some k=>
    dsimp only at eh;obtain⟨me,x6⟩:∃f:Goroutine,f=(if x then{g1 with status:=.finished}else{g1 with frame:=g1.frame.finish undef,status:=.parked}):=⟨_,rfl⟩;rw[<-x6]at eh;have hmf:me.status≠.running/\me.dying=g1.dying/\Hg False me.dying me.frame me.callers:=by subst x6;cases x;exact⟨ae,rfl,er jU.2 _⟩;exact⟨ae,rfl,jU.2⟩
    have h1:(#[g].setIfInBounds 0 me)=#[me]:=ae
    rw[h1]at eh;by_cases hk:k=0;subst hk;rw[modify_eq_set #[me] 0 _ me rfl]at eh;simp[solo]at eh;obtain⟨rfl,rfl⟩:=eh;obtain⟨W1,hW,HW⟩:=hsy (hmf.2.1▸wv) hle;have:=AW (sl:=sl) h0 hW;rw[HW.heap,hc,<-x6]at this;dsimp only at this;have hlt:0<gs.size:=(aG.1 h0).1;rw[modify_eq_set (gs.setIfInBounds 0 me) 0 _ me (by simp[hlt])]at this;refine⟨_,HW.rq _,?_,?_,?_,hmf.2.2⟩;rw[this,eo];simp[crowd];intro op hop;rw[eo,ofEvents_eq]at hop;obtain⟨e,_,rfl⟩:=gp.1 hop;rfl;intro t ht;rw[eo,Deaf_own];show deafBehind (Deaf t 0) es=0;rw[ht];exact jU.1;exfalso;have:(#[me]).modify k (λo=>{o with status:=.running})=#[me]:=by grind
    rw[this]at eh;simp[solo]at eh;obtain⟨-,rfl⟩:=eh;exact hmf.1 F7
 |spawn g1 ch w1 es=>have e:=runT_solo_spawn hst;rw[h]at e;simp[solo,duo]at e
 |ended o w1 es=>have e:=runT_many_ended (P:=P) (gs:=#[g]) (sl:=none) (i:=0) rfl (show stepG P (0==0) g L=_ from hst);rw[<-solo_eq_crowd,h]at e;simp at e
 |_=>rw[hst]at jU;exact jU.elim
end Go.Co
namespace Go.Co
open Go Go.Conc
variable {P:Program}
theorem Oh{g:Goroutine}{w:World}(h1:g.status≠.running)(h2:∀t,g.status≠.sleeping t){m':Machine}{ops:Array MemOp}(h:stepT P (solo g w)=(.next m',ops)):m'=solo g w:=by
 have hrun:runnable (solo g w).gs (solo g w).world.os.mono=[]:=by cases hs:g.status<;>simp[solo,runnable_eq,Goroutine.canRun,Jp,hs]<;>first|exact absurd hs h1|exact absurd hs (h2 _)
 have hah:ahead (solo g w) false=none:=by cases hs:g.status<;>simp[solo,ahead,hs]<;>first|exact absurd hs h1|exact absurd hs (h2 _)
 have aju:due (solo g w).rest.timers (solo g w).world.os.mono=[]:=by simp[solo,due]
 have hm:move P (solo g w)=.machine (.next (solo g w))\/∃o w',move P (solo g w)=.machine (.ended o w'):=by
  have e1:move P (solo g w)=askOn P (solo g w):=rfl;rw[e1];unfold askOn;simp only[hrun,aju,hah,List.isEmpty_nil,if_true,Sem.run,pure,gr,Nat.not_lt_zero,if_false];split
  grind
  grind
 rcases hm with hm|⟨o,w',hm⟩;unfold stepT at h;rw[hm]at h;simp only[az,Stepped.next.injEq]at h;exact h.1.symm;unfold stepT at h;rw[hm]at h;simp at h
theorem yH(g me:Goroutine):(#[g].setIfInBounds 0 me)=#[me]:=ae
theorem EO(hP:Plain P){b:Prop}{g:Goroutine}{w:World}(hr:g.status=.running)(hg:Hg b g.dying g.frame g.callers){m':Machine}{ops:Array MemOp}(h:stepT P (solo g w)=(.next m',ops))(h1:m'.gs.size<=1):
  ∃g' w',m'=solo g' w'/\Hg b g'.dying g'.frame g'.callers/\∀t,g'.status≠.sleeping t:=by
 rw[stepT_solo hr]at h;have jU:=ru (b:=b) hP true g hg w;cases hst:stepG P true g w with
 |go g1 w1 es=>rw[hst]at jU;rw[runT_solo_go hst]at h;simp only[az,Stepped.next.injEq]at h;exact⟨g1,w1,h.1.symm,jU.2.1,jU.2.2.1⟩
 |comm g1 cases bl sh w1 es=>rw[hst]at jU;have e:=runT_crowd_comm (P:=P) (gs:=#[g]) (sl:=none) (i:=0) rfl (show stepG P (0==0) g w=_ from hst);rw[<-solo_eq_crowd,h]at e;simp only[az]at e;obtain⟨e1,e2⟩:=e;generalize hc:communicate P (solo g w).rest (#[g].setIfInBounds 0 ph) 0 g1 cases bl sh w1=cm at e1 e2;obtain⟨c1,c2⟩:=cm;subst e1;obtain⟨g2,L2,W2,h1,h2,h3,h4,h5,h5',h7,h6⟩:=xZ (P:=P) (b:=b) (rest:=(crowd #[g] w none).rest) (gs:=#[g].setIfInBounds 0 ph) rfl rfl (jT (P:=P) mY) (jT (P:=P) mY) (Sync.refl m'.world.drawn w1) hc (ai _);exact⟨g2,L2,by rw[h1];simp[solo],h6 jU.2.1,h7 jU.2.2⟩
 |coroswitch g1 c x w1 es=>
  rw[hst]at jU;have e:=AW (gs:=#[g]) (sl:=none) rfl hst;rw[<-solo_eq_crowd,h]at e;obtain⟨eh,eo⟩:=Prod.mk.inj e;cases hc:w1.heap[c]? with
  |none=>rw[hc]at eh;cases eh
  |some o=>
   rw[hc]at eh;cases o<;>try cases eh
   rename_i oh;cases oh with
   |none=>dsimp only[endThrow,dieOf]at eh;simp only[Stepped.next.injEq]at eh;rw[yH]at eh;refine⟨_,_,eh,?_,ae⟩;exact⟨jU.2.1,λ_ hf=>absurd hf (ek),⟨λ_ hx=>(nomatch hx),λd hd=>.inl (by cases hd;rfl)⟩⟩
   |some k=>
    dsimp only at eh;obtain⟨me,x6⟩:∃f:Goroutine,f=(if x then{g1 with status:=.finished}else{g1 with frame:=g1.frame.finish undef,status:=.parked}):=⟨_,rfl⟩;rw[<-x6]at eh;have hmf:(∀t,me.status≠.sleeping t)/\Hg b me.dying me.frame me.callers:=by subst x6;cases x;exact⟨ae,er jU.2 _⟩;exact⟨ae,jU.2⟩
    have h1:(#[g].setIfInBounds 0 me)=#[me]:=ae
    rw[h1]at eh;simp only[Stepped.next.injEq]at eh;by_cases hk:k=0;subst hk;rw[modify_eq_set #[me] 0 _ me rfl,yH]at eh;refine⟨_,_,eh,?_,ae⟩;exact hmf.2;have:(#[me]).modify k (λo=>{o with status:=.running})=#[me]:=by
     apply Array.ext_getElem?;intro j;rw[Array.getElem?_modify];split
     grind
     rfl
    rw[this]at eh;exact⟨me,_,eh,hmf.2,hmf.1⟩
 |spawn g1 ch w1 es=>rw[runT_solo_spawn hst]at h;simp only[az,Stepped.next.injEq]at h;rw[<-h.1]at h1;simp[duo]at h1
 |ended o w1 es=>have e:=runT_many_ended (P:=P) (gs:=#[g]) (sl:=none) (i:=0) rfl (show stepG P (0==0) g w=_ from hst);rw[<-solo_eq_crowd,h]at e;simp at e
 |_=>rw[hst]at jU;exact jU.elim
end Go.Co
namespace Go.Co
open Go Go.Conc
variable {P:Program}
theorem AY:∀{n:Nat}{m m':Machine},runN P n m=.next m'->m.gs.size<=m'.gs.size
 |0,m,m',h=>by simp[runN]at h;subst h;exact ai _
 |n+1,m,m',h=>by
  unfold runN at h;cases hs:step P m with
  |next m1=>rw[hs]at h;exact bt (stepT_size P m m1 true hs) (AY h)
  |ended o w=>rw[hs]at h;cases h
theorem xF{g:Goroutine}{w:World}(h1:g.status≠.running)(h2:∀t,g.status≠.sleeping t):∀{n:Nat}{m':Machine},runN P n (solo g w)=.next m'->m'=solo g w
 |0,m',h=>by simp[runN]at h;exact h.symm
 |n+1,m',h=>by
  unfold runN at h;cases hs:stepT P (solo g w)with
  |mk s ops=>
   cases s with
   |next m1=>
    have e:=Oh h1 h2 hs;subst e;have:step P (solo g w)=.next (solo g w):=by unfold step;rw[hs]
    rw[this]at h;exact xF h1 h2 h
   |ended o w'=>
    have:step P (solo g w)=.ended o w':=by unfold step;rw[hs]
    rw[this]at h;cases h
theorem ES(hP:Plain P):∀{n:Nat}{g:Goroutine}{w:World}{gt:Goroutine}{wt:World},Hg True g.dying g.frame g.callers->(∀t,g.status≠.sleeping t)->runN P n (solo g w)=.next (solo gt wt)->gt.dying≠none
 |0,g,w,gt,wt,hg,_,h=>by simp[runN,solo]at h;rw[<-h.2];exact hg.2.2.1 trivial
 |n+1,g,w,gt,wt,hg,hs,h=>by
  by_cases hr:g.status=.running
  .unfold runN at h;cases hst:stepT P (solo g w)with
   |mk s ops=>
    cases s with
    |next m1=>
     have e1:step P (solo g w)=.next m1:=by unfold step;rw[hst]
     rw[e1]at h;obtain⟨g',w',rfl,rT,HX⟩:=EO hP hr hg hst (by have:=AY h;simpa [solo]using this);exact ES hP rT HX h
    |ended o w'=>
     have e1:step P (solo g w)=.ended o w':=by unfold step;rw[hst]
     rw[e1]at h;cases h
  have:=xF hr hs h;simp[solo]at this;rw[this.2];exact hg.2.2.1 trivial
theorem xG(hP:Plain P){n:Nat}{g:Goroutine}{w:World}{gt:Goroutine}{wt:World}(hg:Fr g)(hs:∀t,g.status≠.sleeping t)(h:runN P n (solo g w)=.next (solo gt wt))(hr:gt.status=.running)(hd:gt.dying=none):
  g.status=.running/\g.dying=none/\((n=0/\g=gt/\w=wt)\/∃k g1 w1 ops,n=k+1/\runT P (solo g w) 0=(.next (solo g1 w1),ops)/\Fr g1/\(∀t,g1.status≠.sleeping t)/\runN P k (solo g1 w1)=.next (solo gt wt)):=by
 have Pq:g.status=.running:=by by_cases h1:g.status=.running;exact h1;have:=xF h1 hs h;simp[solo]at this;rw[<-this.2];exact hr
 have M6:g.dying=none:=by by_cases h1:g.dying=none;exact h1;exact absurd hd (ES hP ⟨hg.1,hg.2.1,λ_=>h1,hg.2.2.2⟩ hs h)
 refine⟨Pq,M6,?_⟩;cases n with
 |zero=>simp[runN,solo]at h;exact .inl ⟨rfl,h.2,h.1⟩
 |succ k=>
  unfold runN at h;cases hst:stepT P (solo g w)with
  |mk s ops=>
   cases s with
   |next m1=>
    have e1:step P (solo g w)=.next m1:=by unfold step;rw[hst]
    rw[e1]at h;obtain⟨g',w',rfl,rT,HX⟩:=EO hP Pq hg hst (by have:=AY h;simpa [solo]using this);rw[stepT_solo Pq]at hst;exact .inr ⟨k,g',w',ops,rfl,hst,rT,HX,h⟩
   |ended o w'=>
    have e1:step P (solo g w)=.ended o w':=by unfold step;rw[hst]
    rw[e1]at h;cases h
theorem Yo(hP:Plain P){g:Goroutine}(hd:g.dying=none)(hf:Fr g){L:World}{g':Goroutine}{L':World}{ops:Array MemOp}
  (h:runT P (solo g L) 0=(.next (solo g' L'),ops)) (F7:g'.status=.running) (wv:g'.dying=none):L.drawn<=L'.drawn:=by
 rcases qw L'.drawn L.drawn with hlt|JS;exfalso;obtain⟨W',⟨d,-,pV,-⟩,-⟩:=rz (hz:=⟨L'.drawn,L.tape,L.drawn,0⟩) (sl:=none) hP hd hf (L:=L) (W:=L.re L.tape 0) ⟨0,rfl,by simp only;omega,λi q hi=>by simp only at hi;omega⟩ h F7 wv (ai _) (gs:=#[g]) rfl mY;simp only at pV;omega;exact JS
open Classical in
theorem lift(hP:Plain P)(K:Goroutine->World->Prop)
  (closed:∀g w,Fr g->g.status=.running->g.dying=none->(∀d,∃g' w' ops,runT P (solo g (w.at d)) 0=(.next (solo g' w'),ops)/\g'.status=.running/\g'.dying=none/\Fr g'/\K g' w')->K g w)
  (g:Goroutine) (w:World) (hg:Fr g) (hs:∀t,g.status≠.sleeping t)
  (lone:∀τ,∃n gt wt,runN P n (solo g (w.re τ 0))=.next (solo gt wt)/\gt.status=.running/\gt.dying=none/\∀τ d,K gt (wt.re τ d)):K g w:=by
 apply Classical.byContradiction;intro hK
 let GS:Goroutine×World->Nat->Goroutine×World->Prop:=λs d s'=>∃ops,runT P (solo s.1 (s.2.at d)) 0=(.next (solo s'.1 s'.2),ops)/\s'.1.status=.running/\s'.1.dying=none
 have pX:∀s:Goroutine×World,∃d,Fr s.1->s.1.status=.running->s.1.dying=none->¬K s.1 s.2->∀s',GS s d s'->Fr s'.1->¬K s'.1 s'.2:=by intro s;apply Classical.byContradiction;intro hno;have hno:∀d,¬(Fr s.1->s.1.status=.running->s.1.dying=none->¬K s.1 s.2->∀s',GS s d s'->Fr s'.1->¬K s'.1 s'.2):=λd hd=>hno ⟨d,hd⟩;have h0:=hno 0;simp only[Classical.not_imp]at h0;obtain⟨h1,h2,h3,h4,-⟩:=h0;refine h4 (closed _ _ h1 h2 h3 λd=>?_);have:=hno d;simp only[Classical.not_forall,Classical.not_not]at this;obtain⟨-,-,-,-,s',⟨ops,e1,e2,e3⟩,hf,hk⟩:=this;exact⟨s'.1,s'.2,ops,e1,e2,e3,hf,hk⟩
 let dd:Goroutine×World->Nat:=λs=>Classical.choose (pX s)
 have hdd:∀s,Fr s.1->s.1.status=.running->s.1.dying=none->¬K s.1 s.2->∀s',GS s (dd s) s'->Fr s'.1->¬K s'.1 s'.2:=λs=>vD (pX s)
 let nx:Goroutine×World->Option (Goroutine×World):=λs=>if h:∃s',GS s (dd s) s' then some (Classical.choose h)else none
 have Bs:∀s s',nx s=some s'->GS s (dd s) s':=by intro s s' h;simp only[nx]at h;split at h;rename_i hx;have:=bG h;rw[<-this];exact vD hx;cases h
 have UN:∀s,nx s=none->∀s',¬GS s (dd s) s':=by intro s h s' HX;simp only[nx]at h;split at h;cases h;rename_i hx;exact hx ⟨s',HX⟩
 let sq:Nat->Goroutine×World:=λn=>Nat.rec (g,w) (λ_ s=>(nx s).getD s) n
 have sq0:sq 0=(g,w):=rfl;have sqs:∀i,sq (i+1)=(nx (sq i)).getD (sq i):=λi=>rfl
 let e:Nat->Nat:=λn=>Nat.rec 0 (λi a=>a+((sq (i+1)).2.drawn-dd (sq i))) n
 have e0:e 0=0:=rfl;have es:∀i,e (i+1)=e i+((sq (i+1)).2.drawn-dd (sq i)):=λi=>rfl;have aiq:∀i j,i<=j->e i<=e j:=by
  intro i j h;induction h with
  |refl=>exact ai _
  |step h ih=>exact bt ih (by rw[es];omega)
 have acY:g.status=.running/\g.dying=none:=by obtain⟨n,gt,wt,h1,h2,h3,-⟩:=lone w.tape;have:=xG hP hg hs h1 h2 h3;exact⟨this.1,this.2.1⟩
 have inv:∀i,(∀j,j<i->nx (sq j)≠none)->Fr (sq i).1/\(sq i).1.status=.running/\(sq i).1.dying=none/\¬K (sq i).1 (sq i).2:=by
  intro i;induction i with
  |zero=>exactλ_=>⟨hg,acY.1,acY.2,hK⟩
  |succ i ih=>
   intro h;obtain⟨h1,h2,h3,h4⟩:=ih λj hj=>h j ab;obtain⟨s',HX⟩:=Dg.1 (h i ab);have hsq:sq (i+1)=s':=by rw[sqs,HX];rfl
   rw[hsq];have hgs:=Bs _ _ HX;obtain⟨ops,e1,e2,e3⟩:=hgs;have hf:Fr s'.1:=by obtain⟨W',-,-,-,-,hf⟩:=rz (sl:=none) hP h3 h1 (Sync.refl s'.2.drawn _) e1 e2 e3 (ai _) (gs:=#[(sq i).1]) rfl mY;exact hf
   exact⟨hf,e2,e3,hdd _ h1 h2 h3 h4 s' ⟨ops,e1,e2,e3⟩ hf⟩
 let Q:Nat->Nat->Prop:=λn i=>(∀j,j<i->nx (sq j)≠none)/\e i<=n/\(n<e (i+1)\/nx (sq i)=none)
 have Qlt:∀n i i',Q n i->Q n i'->¬i<i':=by intro n i i' h h' hlt;rcases h.2.2 with h1|h1;have:=aiq (i+1) i' hlt;have:=h'.2.1;omega;exact h'.1 i hlt h1
 let τs:Nat->Question->Nat:=λn q=>if h:∃i,Q n i then(sq (Classical.choose h)).2.tape (dd (sq (Classical.choose h))+(n-e (Classical.choose h))) q else 0
 have hτ:∀n i q,Q n i->τs n q=(sq i).2.tape (dd (sq i)+(n-e i)) q:=by
  intro n i q h;have hx:∃i,Q n i:=⟨i,h⟩;have hc:=vD hx;have:Classical.choose hx=i:=by rcases Nat.lt_trichotomy (Classical.choose hx) i with h1|h1|h1;exact absurd h1 (Qlt _ _ _ hc h);exact h1;exact absurd h1 (Qlt _ _ _ h hc)
  simp only[τs,dif_pos hx,this]
 have ado:∀i,(∀j,j<i->nx (sq j)≠none)->runN P i (solo g (w.re τs 0))=.next (solo (sq i).1 ((sq i).2.re τs (e i))):=by
  intro i;induction i with
  |zero=>intro _;rfl
  |succ i ih=>
   intro h;have hr:=ih λj hj=>h j ab;obtain⟨h1,h2,h3,h4⟩:=inv i λj hj=>h j ab;obtain⟨s',HX⟩:=Dg.1 (h i ab);have hsq:sq (i+1)=s':=by rw[sqs,HX];rfl
   obtain⟨ops,e1,e2,e3⟩:=Bs _ _ HX;have hm:=Yo hP h3 h1 e1 e2 e3;have J5:dd (sq i)<=s'.2.drawn:=hm;have Ut:e (i+1)=e i+(s'.2.drawn-dd (sq i)):=by rw[es,hsq]
   obtain⟨W',⟨d,rfl,pV,-⟩,hrun,-⟩:=rz (hz:=⟨s'.2.drawn,τs,dd (sq i),e i⟩) (sl:=none) hP h3 h1 (L:=(sq i).2.at (dd (sq i))) (W:=(sq i).2.re τs (e i))
    ⟨e i,rfl,by show e i+dd (sq i)=dd (sq i)+e i;omega,λk q hk=>by have oT:dd (sq i)+k<s'.2.drawn:=hk;have:Q (e i+k) i:=⟨λj hj=>h j ab,ab,.inl (by rw[Ut];omega)⟩;show(sq i).2.tape (dd (sq i)+k) q=τs (e i+k) q;rw[hτ _ _ q this];congr 1;omega⟩ e1 e2 e3 (ai _) (gs:=#[(sq i).1]) rfl mY
   simp only at pV;have hd:d=e (i+1):=by rw[Ut];omega
   rw[runN_add,hr];have hstep:step P (solo (sq i).1 ((sq i).2.re τs (e i)))=.next (solo s'.1 (s'.2.re τs d)):=by unfold step;rw[stepT_solo h2,solo_eq_crowd,hrun,yH];rfl
   simp only[runN,hstep,hsq,hd]
 obtain⟨n,gt,wt,Dj,uY,hl3,hl4⟩:=lone τs;have split:∀m,(∀j,j<m->nx (sq j)≠none)\/∃s,s<m/\nx (sq s)=none/\∀j,j<s->nx (sq j)≠none:=by
  intro m;induction m with
  |zero=>exact .inl λj hj=>ab
  |succ m ih=>
   rcases ih with h|⟨s,h1,h2,h3⟩;by_cases hm:nx (sq m)=none;exact .inr ⟨m,ab,hm,h⟩;refine .inl λj hj=>?_;rcases qw j m with h1|h1;exact h j h1;have:j=m:=ab
   rw[this];exact hm
   exact .inr ⟨s,ab,h2,h3⟩
 rcases split n with h|⟨s,hsn,dU,h⟩;have:=ado n h;rw[Dj]at this;simp[solo]at this;obtain⟨h1,rfl⟩:=this;have hk:=hl4 (sq n).2.tape (sq n).2.drawn;rw[h1,agW,Qq]at hk;exact(inv n h).2.2.2 hk;have hc:=ado s h;obtain⟨h1,h2,h3,h4⟩:=inv s h;have hn:n=s+(n-s):=ab
 rw[hn,runN_add,hc]at Dj;simp only at Dj;obtain⟨-,-,hz|⟨k,g1,w1,ops,-,hrun,UU,HW,mz⟩⟩:=xG hP h1 (λt ht=>by rw[h2]at ht;cases ht) Dj uY hl3;omega;have hl:=xG hP UU HW mz uY hl3;obtain⟨W',-,ac3,-⟩:=rz (hz:=⟨w1.drawn,(sq s).2.tape,e s,dd (sq s)⟩) (sl:=none) hP h3 h1 (L:=(sq s).2.re τs (e s)) (W:=(sq s).2.at (dd (sq s)))
  ⟨dd (sq s),rfl,by show dd (sq s)+e s=e s+dd (sq s);omega,λi q hi=>by have:Q (e s+i) s:=⟨h,ab,.inr dU⟩;show τs (e s+i) q=(sq s).2.tape (dd (sq s)+i) q;rw[hτ _ _ q this];congr 1;omega⟩ hrun hl.1 hl.2.1 (ai _) (gs:=#[(sq s).1]) rfl mY
 rw[<-solo_eq_crowd,yH]at ac3;exact UN _ dU (g1,W') ⟨ops,ac3,hl.1,hl.2.1⟩
end Go.Co
