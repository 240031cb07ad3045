import Derived.Test.YtadeehilamokkaaGreatDoorPk00
import Derived.Calls
import Derived.Laws.Sem
import GoSem.ClaimLeaving
namespace Go.Co
open Go
def _root_.Go.World.re (w:World)(τ:Nat->Question->Nat)(d:Nat):World:={w with tape:=τ,drawn:=d}
@[simp] theorem aiF (w:World)(τ:Nat->Question->Nat)(d:Nat):(w.re τ d).heap=w.heap:=rfl
@[simp] theorem aj7 (w:World)(τ:Nat->Question->Nat)(d:Nat):(w.re τ d).os=w.os:=rfl
@[simp] theorem afY (w:World)(τ:Nat->Question->Nat)(d:Nat):(w.re τ d).output=w.output:=rfl
@[simp] theorem aiD (w:World)(τ:Nat->Question->Nat)(d:Nat):(w.re τ d).tape=τ:=rfl
@[simp] theorem aiC (w:World)(τ:Nat->Question->Nat)(d:Nat):(w.re τ d).drawn=d:=rfl
@[simp] theorem agW (w:World)(τ τ':Nat->Question->Nat)(d d':Nat):(w.re τ d).re τ' d'=w.re τ' d':=rfl
theorem Qq(w:World):w.re w.tape w.drawn=w:=rfl
@[simp] theorem LW (w:World)(τ:Nat->Question->Nat)(d:Nat)(a:Addr):(w.re τ d).cell? a=w.cell? a:=rfl
@[simp] theorem O0 (w:World)(τ:Nat->Question->Nat)(d:Nat)(a:Addr):(w.re τ d).frozen? a=w.frozen? a:=rfl
@[simp] theorem afX (w:World)(τ:Nat->Question->Nat)(d:Nat)(r:Nat):(w.re τ d).shape? r=w.shape? r:=rfl
theorem afU(w:World)(τ:Nat->Question->Nat)(d:Nat)(a:Addr)(v:Value):(w.re τ d).setCell a v=(w.setCell a v).re τ d:=rfl
theorem T5(w:World)(τ:Nat->Question->Nat)(d:Nat)(a:Addr)(n:Nat):(w.re τ d).freeze a n=(w.freeze a n).re τ d:=by unfold World.freeze;split<;>rfl
theorem O1(p:Program)(w:World)(τ:Nat->Question->Nat)(d:Nat)(a:Addr)(b:Bool):(w.re τ d).farLoad p a b=w.farLoad p a b:=rfl
theorem Js(p:Program)(w:World)(τ:Nat->Question->Nat)(d:Nat)(x:Addr)(u:TypeId)(k:Addr)(v:Value)(b:Bool):
  (w.re τ d).viewStore p x u k v b=(w.viewStore p x u k v b).map λr=>(r.1.re τ d,r.2):=by
 unfold World.viewStore;rw[show(w.re τ d).seen p x u k b=w.seen p x u k b from rfl];cases tight p p.depth u with
 |false=>rfl
 |true=>
  cases w.seen p x u k b with
  |error e=>rfl
  |ok r=>
   obtain⟨c,e,fr,first,like,cells⟩:=r;simp only[bind,Except.bind,pure,Except.pure,fR,aJ,if_false];cases v.bytes? with
   |none=>rfl
   |some bytes=>simp only;split;rfl;split<;>simp_all [Except.map,World.re]<;>rfl
theorem Cc(p:Program)(w:World)(τ:Nat->Question->Nat)(d:Nat)(a:Addr)(v:Value)(b:Bool):
  (w.re τ d).farStore p a v b=match w.farStore p a v b with|.ok r=>.ok (r.1.re τ d,r.2)|.error e=>.error e:=by
 unfold World.farStore;rw[show(w.re τ d).heap=w.heap from rfl,show(w.re τ d).noCell a=w.noCell a from rfl];split;rename_i at_ u' _;rw[Js];cases w.viewStore p at_ u' a v b<;>rfl;rfl
theorem wZ{p:Program}{w w':World}{a:Addr}{v:Value}{b:Bool}{l:List Addr}(h:w.farStore p a v b=.ok (w',l)):w'.tape=w.tape/\w'.drawn=w.drawn:=by have e:=Cc p w w.tape w.drawn a v b;rw[Qq,h]at e;simp only[Except.ok.injEq,az]at e;rw[e.1];exact⟨rfl,rfl⟩
@[simp] theorem ZB (w:World)(a:Addr)(v:Value):(w.setCell a v).drawn=w.drawn:=rfl
theorem B7(w:World)(a:Addr)(n:Nat):(w.freeze a n).tape=w.tape/\(w.freeze a n).drawn=w.drawn:=by unfold World.freeze;split<;>exact⟨rfl,rfl⟩
theorem vU{α:Type}:∀(a:Ask α)(w:World),w.drawn<=(w.ask a).2.drawn
 |.done _,_=>ai _
 |.ask what range k,w=>by unfold World.ask;dsimp only;split;exact vU (k 0) w;exact bt (Nat.le_succ _) (vU (k _) {w with drawn:=w.drawn+1})
theorem Ss(c:Sys)(w:World):w.drawn<=(w.sys c).2.drawn:=by have ha:=vU (Kernel.perform c w.os) w;unfold World.sys;generalize w.ask (Kernel.perform c w.os)=x at ha;obtain⟨⟨r,o⟩,l⟩:=x;cases r<;>first|exact ai _|exact ha
def _root_.Go.Result.wld {α:Type}:Result α->World
 |.ok _ w|.halt _ w=>w
theorem jo {α:Type} (P:Program) (s:Sem α):∀ (w:World) (es:Array Event),w.drawn≤(s.runT P w es).1.wld.drawn:=by
  induction s with
  | pure a=>intro w es; exact ai _
  | load m a k ih =>
    intro w es
    simp only[Sem.runT]
    split
    · grind
    · split
      · grind
      · exact ai _
  | store m a v k ih =>
    intro w es
    cases v<;>simp only[Sem.runT]<;>first
        | exact ai _
        | (split
           · by_cases hz:w.frozen? a=true
             · simp only[hz,if_true]; exact ai _
             · simp only[hz,if_false,aJ]; exact ih (w.setCell a _) _
           · generalize hf:w.farStore P a _ _=r
             cases r with
             | error e=>exact ai _
             | ok r =>
               obtain⟨w',l⟩:=r
               have hk:=wZ hf
               exact hk.2▸ih w' _)
  | new o k ih=>intro w es; exact ih w.heap.size { w with heap:=w.heap.push o } _
  | shape r k ih=>intro w es; exact ih _ _ _
  | freeze a n k ih=>intro w es; exact(B7 w a n).2▸ih (w.freeze a n) es
  | frozen a k ih=>intro w es; exact ih _ _ _
  | getObj r k ih =>
    intro w es
    simp only[Sem.runT]
    split
    · exact ai _
    · grind
    · exact ai _
  | setObj r o k ih =>
    intro w es
    simp only[Sem.runT]
    split
    · exact ai _
    · grind
    · exact ai _
  | choose q k ih =>
    intro w es
    simp only[Sem.runT]
    split
    · grind
    · grind
  | sys c k ih =>
    intro w es
    exact bt (Ss c w) (ih _ _ _)
  | program k ih=>intro w es; exact ih _ _ _
  | mark m k ih=>intro w es; exact ih _ _
  | halt x=>intro w es; exact ai _
structure Hz where
 h:Nat
 τ:Nat->Question->Nat
 a:Nat
 b:Nat
def Sync(hz:Hz)(L W:World):Prop:=∃d,W=L.re hz.τ d/\d+hz.a=L.drawn+hz.b/\∀i q,L.drawn+i<hz.h->L.tape (L.drawn+i) q=hz.τ (d+i) q
variable {hz:Hz}
theorem Sync.heap {L W:World}(h:Sync hz L W):W.heap=L.heap:=by obtain⟨_,rfl,_,_⟩:=h;rfl
theorem Sync.os {L W:World}(h:Sync hz L W):W.os=L.os:=by obtain⟨_,rfl,_,_⟩:=h;rfl
theorem Sync.output {L W:World}(h:Sync hz L W):W.output=L.output:=by obtain⟨_,rfl,_,_⟩:=h;rfl
theorem Sync.eq {L W:World}(h:Sync hz L W):W=L.re W.tape W.drawn:=by obtain⟨_,rfl,_,_⟩:=h;rfl
theorem Sync.answer {L W:World}(h:Sync hz L W)(hd:L.drawn<hz.h)(q:Question):W.tape W.drawn q=L.tape L.drawn q:=by obtain⟨d,rfl,_,ht⟩:=h;exact(ht 0 q hd).symm
theorem Sync.drew {L W:World}(h:Sync hz L W):Sync hz {L with drawn:=L.drawn+1} {W with drawn:=W.drawn+1}:=by obtain⟨d,rfl,hd,ht⟩:=h;refine⟨d+1,rfl,by simp only;omega,λi q hi=>?_⟩;have:=ht (1+i) q (by simp only at hi;omega);simpa [fS]using this
theorem Sync.rq {L W:World}(h:Sync hz L W)(H:Array Obj):Sync hz {L with heap:=H} {W with heap:=H}:=by obtain⟨d,rfl,hd,ht⟩:=h;exact⟨d,rfl,hd,ht⟩
theorem Sync.setCell {L W:World}(h:Sync hz L W)(a:Addr)(v:Value):Sync hz (L.setCell a v) (W.setCell a v):=by obtain⟨d,rfl,hd,ht⟩:=h;exact⟨d,rfl,hd,ht⟩
theorem Sync.freeze {L W:World}(h:Sync hz L W)(a:Addr)(n:Nat):Sync hz (L.freeze a n) (W.freeze a n):=by
 obtain⟨d,rfl,hd,ht⟩:=h;have:=B7 L a n;refine⟨d,T5 _ _ _ _ _,?_,?_⟩
 grind
 grind
theorem zJ{α:Type}:∀(a:Ask α){L W:World},Sync hz L W->hz.h<(L.ask a).2.drawn\/((L.ask a).1=(W.ask a).1/\Sync hz (L.ask a).2 (W.ask a).2)
 |.done _,_,_,h=>.inr ⟨rfl,h⟩
 |.ask what range k,L,W,h=>by by_cases hd:L.drawn<hz.h;unfold World.ask;dsimp only;split;exact zJ (k 0) h;rw[h.answer hd];exact zJ _ h.drew;unfold World.ask;dsimp only;split;exact zJ (k 0) h;refine .inl (cK ?_ (vU _ _));simp only;omega
theorem KU(c:Sys){L W:World}(h:Sync hz L W):(L.sys c).1=.wouldBlock\/hz.h<(L.sys c).2.drawn\/((L.sys c).1=(W.sys c).1/\Sync hz (L.sys c).2 (W.sys c).2):=by
 have ha:=zJ (Kernel.perform c L.os) h;unfold World.sys;rw[h.os];generalize L.ask (Kernel.perform c L.os)=x at ha;generalize W.ask (Kernel.perform c L.os)=y at ha;obtain⟨⟨r,o⟩,l⟩:=x;obtain⟨⟨r',o'⟩,l'⟩:=y;rcases ha with ha|⟨h1,h2⟩
 grind
 simp only[az]at h1;obtain⟨rfl,rfl⟩:=h1;obtain⟨d,h3,hd,ht⟩:=h2;simp only at h3;subst h3;cases r<;>first|exact .inl rfl|exact .inr (.inr ⟨rfl,d,rfl,hd,ht⟩)
inductive KE {α:Type} (hz:Hz):Result α->Result α->Prop
 |ok (a:α) {L W:World} (h:Sync hz L W):KE hz (.ok a L) (.ok a W)
 |halt (x:Halt) {L W:World} (h:Sync hz L W):KE hz (.halt x L) (.halt x W)
def Over{α:Type}(hz:Hz)(r:Result α):Prop:=hz.h<r.wld.drawn\/∃m w,r=.halt (.unsupported (.noEntry m)) w
def Sim{α:Type}(hz:Hz)(x y:Result α×Array Event):Prop:=Over hz x.1\/(KE hz x.1 y.1/\x.2=y.2)
def Pf(P:Program){α:Type}(s:Sem α):Prop:=∀(hz:Hz)(L W:World)(es:Array Event),Sync hz L W->Sim hz (s.runT P L es) (s.runT P W es)
def NS(P:Program){α:Type}:Sem α->Prop
 |.pure _|.halt _=>True
 |.load _ _ k=>∀v,NS P (k v)
 |.store _ _ _ k=>NS P k
 |.new _ k=>∀r,NS P (k r)
 |.shape _ k=>∀r,NS P (k r)
 |.freeze _ _ k=>NS P k
 |.frozen _ k=>∀r,NS P (k r)
 |.getObj _ k=>∀r,NS P (k r)
 |.setObj _ _ k=>NS P k
 |.choose _ k=>∀r,NS P (k r)
 |.sys _ _=>False
 |.program k=>NS P (k P)
 |.mark _ k=>NS P k
theorem ji {α:Type} (P:Program) (s:Sem α):NS P s→Pf P s:=by
  intro hn hz
  induction s with
  | pure a=>intro L W es h; exact .inr ⟨.ok a h,rfl⟩
  | load m a k ih =>
    intro L W es h
    obtain⟨d,rfl,hd,ht⟩:=h
    simp only[Sem.runT,LW,O1]
    split
    · exact ih _ (hn _) _ _ _ ⟨d,rfl,hd,ht⟩
    · split
      · exact ih _ (hn _) _ _ _ ⟨d,rfl,hd,ht⟩
      · exact .inr ⟨.halt _ ⟨d,rfl,hd,ht⟩,rfl⟩
  | store m a v k ih =>
    intro L W es h
    obtain⟨d,rfl,hd,ht⟩:=h
    have hs:Sync hz L (L.re hz.τ d):=⟨d,rfl,hd,ht⟩
    cases v<;>simp only[Sem.runT,LW,O0,Cc] <;>
      first
        | exact .inr ⟨.halt _ hs,rfl⟩
        | (split
           · by_cases CJ:L.frozen? a=true
             · simp only[CJ,if_true]; exact .inr ⟨.halt _ hs,rfl⟩
             · simp only[CJ,if_false,aJ]; exact ih hn _ _ _ (hs.setCell _ _)
           · generalize hf:L.farStore P a _ _=r
             cases r with
             | error e=>exact .inr ⟨.halt _ hs,rfl⟩
             | ok r =>
               obtain⟨w',l⟩:=r
               have hk:=wZ hf
               exact ih hn _ _ _ ⟨d,rfl,by rw[hk.2]; exact hd,by rw[hk.1,hk.2]; exact ht⟩)
  | new o k ih =>
    intro L W es h
    simp only[Sem.runT]
    rw[h.heap]
    exact ih _ (hn _) _ _ _ (h.rq _)
  | shape r k ih =>
    intro L W es h
    obtain⟨d,rfl,hd,ht⟩:=h
    exact ih _ (hn _) _ _ _ ⟨d,rfl,hd,ht⟩
  | freeze a n k ih=>intro L W es h; exact ih hn _ _ _ (h.freeze a n)
  | frozen a k ih =>
    intro L W es h
    obtain⟨d,rfl,hd,ht⟩:=h
    exact ih _ (hn _) _ _ _ ⟨d,rfl,hd,ht⟩
  | getObj r k ih =>
    intro L W es h
    simp only[Sem.runT]
    rw[h.heap]
    split
    · exact .inr ⟨.halt _ h,rfl⟩
    · exact ih _ (hn _) _ _ _ h
    · exact .inr ⟨.halt _ h,rfl⟩
  | setObj r o k ih =>
    intro L W es h
    simp only[Sem.runT]
    rw[h.heap]
    split
    · exact .inr ⟨.halt _ h,rfl⟩
    · exact ih hn _ _ _ (h.rq _)
    · exact .inr ⟨.halt _ h,rfl⟩
  | choose q k ih =>
    intro L W es h
    simp only[Sem.runT]
    by_cases hd:L.drawn<hz.h
    · rw[h.answer hd]
      split
      · exact ih _ (hn _) _ _ _ h
      · exact ih _ (hn _) _ _ _ h.drew
    · split
      · exact ih _ (hn _) _ _ _ h
      · refine .inl (.inl (cK ?_ (jo P _ _ _)))
        simp only; omega
  | sys c k ih=>exact hn.elim
  | program k ih=>intro L W es h; exact ih _ hn _ _ _ h
  | mark m k ih=>intro L W es h; exact ih hn _ _ _ h
  | halt x=>intro L W es h; exact .inr ⟨.halt x h,rfl⟩
theorem runT_bind' {α β:Type} (P:Program) (s:Sem α) (f:α→Sem β):∀ (w:World) (es:Array Event),(s >>= f).runT P w es=match s.runT P w es with
    | (.ok a w',es')=>(f a).runT P w' es'
    | (.halt h w',es')=>(.halt h w',es'):=by
  induction s with
  | pure a=>intro w es; rfl
  | load m a k ih =>
    intro w es
    show (Sem.load m a fun v=>(k v).bind f).runT P w es=_
    simp only[Sem.runT]
    split
    · exact ih _ _ _
    · split
      · exact ih _ _ _
      · rfl
  | store m a v k ih =>
    intro w es
    show (Sem.store m a v (k.bind f)).runT P w es=_
    cases v<;>simp only[Sem.runT]<;>first
      | rfl
      | (split
         · by_cases hz:w.frozen? a=true
           · grind
           · simp only[hz,if_false,aJ]; exact ih _ _
         · generalize w.farStore P a _ _=r
           cases r with
           | ok r=>exact ih _ _
           | error e=>rfl)
  | new o k ih=>intro w es; exact ih _ _ _
  | shape r k ih=>intro w es; exact ih _ _ _
  | freeze a n k ih=>intro w es; exact ih _ _
  | frozen a k ih=>intro w es; exact ih _ _ _
  | getObj r k ih =>
    intro w es
    show (Sem.getObj r fun o=>(k o).bind f).runT P w es=_
    simp only[Sem.runT]
    split
    · rfl
    · exact ih _ _ _
    · rfl
  | setObj r o k ih =>
    intro w es
    show (Sem.setObj r o (k.bind f)).runT P w es=_
    simp only[Sem.runT]
    split
    · rfl
    · exact ih _ _
    · rfl
  | choose q k ih =>
    intro w es
    show (Sem.choose q fun n=>(k n).bind f).runT P w es=_
    simp only[Sem.runT]
    split
    · exact ih _ _ _
    · exact ih _ _ _
  | sys c k ih=>intro w es; exact ih _ _ _
  | program k ih=>intro w es; exact ih _ _ _
  | mark m k ih=>intro w es; exact ih _ _
  | halt h=>intro w es; rfl
theorem Yn{P:Program}{α β:Type}{s:Sem α}{f:α->Sem β}{R:α->Prop}(h:Pf P s)(hR:∀w es a w' es',s.runT P w es=(.ok a w',es')->R a)(hf:∀a,R a->Pf P (f a)):Pf P (s>>=f):=by
 intro hz L W es hs;have j3:=hR L es;have h1:=h hz L W es hs;rw[runT_bind',runT_bind'];generalize s.runT P L es=x at h1 j3;generalize s.runT P W es=y at h1;obtain⟨r,es1⟩:=x;obtain⟨r',es2⟩:=y;rcases h1 with ho|⟨hr,he⟩;cases r with
 |ok a w'=>rcases ho with ho|⟨u,w,e⟩;exact .inl (.inl (cK ho (jo P _ _ _)));cases e
 |halt x w'=>rcases ho with ho|⟨u,w,e⟩;exact .inl (.inl ho);cases e;exact .inl (.inr ⟨_,_,rfl⟩)
 simp only at hr he;subst he;cases hr with
 |ok a h'=>exact hf a (j3 _ _ _ rfl) hz _ _ _ h'
 |halt x h'=>exact .inr ⟨.halt x h',rfl⟩
theorem Jc{P:Program}{α β:Type}{s:Sem α}{f:α->Sem β}(h:Pf P s)(hf:∀a,Pf P (f a)):Pf P (s>>=f):=Yn (R:=λ_=>True) h (λ_ _ _ _ _ _=>trivial) λa _=>hf a
theorem C4{P:Program}{α:Type}(a:α):Pf P (pure a:Sem α):=λ_ _ _ _ h=>.inr ⟨.ok a h,rfl⟩
theorem vo{P:Program}{α:Type}(x:Halt):Pf P (Sem.halt x:Sem α):=λ_ _ _ _ h=>.inr ⟨.halt x h,rfl⟩
theorem ae7{P:Program}{α:Type}(c:Sys)(k:SysRet->Sem α)(hw:∃m,k .wouldBlock=.halt (.unsupported (.noEntry m)))(hk:∀r,Pf P (k r)):Pf P (Sem.sys c k):=by intro hz L W es hs;have h:=KU c hs;simp only[Sem.runT];rcases h with h|h|⟨h1,h2⟩;rw[h];obtain⟨u,hu⟩:=hw;rw[hu];exact .inl (.inr ⟨u,_,rfl⟩);exact .inl (.inl (cK h (jo P _ _ _)));rw[<-h1];exact hk _ hz _ _ _ h2
end Go.Co
namespace Go.Co
open Go
def Gf(es:Array Event):Prop:=deafBehind 0 es=0
theorem di:Gf #[]:=rfl
theorem dI(d:Nat)(es:Array Event)(e:Event):deafBehind d (es.push e)=(match e.loc with|.mark .disable=>deafBehind d es+1|.mark .enable=>deafBehind d es-1|_=>deafBehind d es):=by simp only[deafBehind,Array.foldl_push];rfl
theorem mb{es:Array Event}{e:Event}(h:Gf es)(he:e.loc≠.mark .disable):Gf (es.push e):=by
 unfold Gf at*;rw[dI];split
 grind
 omega;exact h
theorem gC(d:Nat)(es es':Array Event):deafBehind d (es++es')=deafBehind (deafBehind d es) es':=by simp only[deafBehind,Array.foldl_append]
theorem sO{es es':Array Event}(h:Gf es)(h':Gf es'):Gf (es++es'):=by unfold Gf at*;rw[gC,h,h']
theorem Jo{es:Array Event}(h:∀e∈es,e.loc≠.mark .disable):Gf es:=by
 obtain⟨l⟩:=es;induction l with
 |nil=>rfl
 |cons e l ih=>
  have e1:(⟨e::l⟩:Array Event)=#[e]++⟨l⟩:=ae
  rw[e1];refine sO ?_ (ih λx hx=>h x (by simp at hx⊢;exact .inr hx));exact mb di (h e ae)
def RY:Halt->Prop
 |.panic _|.goexit|.fatal _|.throw _=>True
 |_=>False
def Tb(P:Program){α:Type}(R:α->Prop)(s:Sem α):Prop:=
 ∀(w:World)(es:Array Event),Gf es->match s.runT P w es with
  |(.ok a _,es')=>R a/\Gf es'
  |(.halt h _,es')=>RY h->Gf es'
structure Tm (P:Program) {α:Type} (R:α->Prop) (s:Sem α):Prop where
 tb:Tb P R s
 pf:Pf P s
abbrev T1(P:Program){α:Type}(s:Sem α):Prop:=Tm P (λ_=>True) s
section
variable {P:Program} {α β:Type} {R:α->Prop} {R':β->Prop}
theorem aX{a:α}(h:R a):Tm P R (pure a):=⟨λ_ _ he=>⟨h,he⟩,C4 a⟩
theorem aa6{s:Sem α}{f:α->Sem β}(h:Tb P R s)(hf:∀a,R a->Tb P R' (f a)):Tb P R' (s>>=f):=by
 intro w es he;rw[runT_bind'];have:=h w es he
 revert this
 cases s.runT P w es with
 |mk r es'=>
  cases r with
  |ok a w'=>exactλ⟨ha,hb⟩=>hf a ha w' es' hb
  |halt x w'=>exact id
theorem aA{s:Sem α}{f:α->Sem β}(h:T1 P s)(hf:∀a,Tm P R' (f a)):Tm P R' (s>>=f):=⟨aa6 h.tb λa _=>(hf a).tb,Jc h.pf λa=>(hf a).pf⟩
theorem Ob{f:Program->Sem β}(hf:Tm P R' (f P)):Tm P R' (program>>=f):=⟨λw es he=>hf.tb w es he,λhz L W es hs=>hf.pf hz L W es hs⟩
theorem ve{s:Sem α}{f:α->β}(h:T1 P s)(hf:∀a,R' (f a)):Tm P R' (f<$>s):=by rw[<-bind_pure_comp];exact aA h λa=>aX (hf a)
theorem mW(x:Halt):Tm P R (Sem.halt x):=⟨λ_ _ he _=>he,vo x⟩
theorem ja{c:Prop}[Decidable c]{s t:Sem α}(h:Tm P R s)(h':Tm P R t):Tm P R (if c then s else t):=by split<;>assumption
class TC (P:Program) {α:Type} (s:Sem α):Prop where
 out:T1 P s
instance (m:String):TC P (stuck m:Sem α):=⟨mW _⟩
instance (u:Unsupported):TC P (unsupported u:Sem α):=⟨mW _⟩
instance (v:Value):TC P (goPanic v:Sem α):=⟨mW _⟩
instance (m:String):TC P (fatal m:Sem α):=⟨mW _⟩
instance (m:String):TC P (throw m:Sem α):=⟨mW _⟩
instance:TC P (blocked:Sem α):=⟨mW _⟩
instance (h:Halt):TC P (Sem.halt h:Sem α):=⟨mW _⟩
instance (a:α):TC P (pure a:Sem α):=⟨aX trivial⟩
theorem t_program1:T1 P program:=⟨λ_ _ he=>⟨trivial,he⟩,ji P _ (show NS P (Sem.program Sem.pure)from trivial)⟩
instance:TC P program:=⟨t_program1⟩
theorem ak(m:String):Tm P R (stuck m):=mW _
theorem fO(u:Unsupported):Tm P R (unsupported u):=mW _
theorem EJ(v:Value):Tm P R (goPanic v):=mW _
theorem t_load(a:Addr)(m:Mode):T1 P (load a m):=by
 refine⟨?_,ji P _ (λ_=>trivial)⟩;intro w es he;unfold load;simp only[Sem.runT];split;rename_i h1;split at h1
 simp only[az]at h1;obtain⟨_,rfl⟩:=h1;exact⟨trivial,mb he ae⟩
 split at h1;simp only[az]at h1;obtain⟨_,rfl⟩:=h1;exact⟨trivial,sO he (Jo ae)⟩
 simp at h1
 grind
theorem t_store(a:Addr)(v:Value)(m:Mode):T1 P (store a v m):=by
 refine⟨?_,ji P _ trivial⟩;intro w es he;unfold store;cases v<;>simp only[Sem.runT]<;>first
  |exactλ_=>he
  |(cases w.cell? a with
   |some _=>
    by_cases hz:w.frozen? a=true
    grind
    simp only[hz,if_false,aJ];exact⟨trivial,mb he ae⟩
   |none=>
    generalize w.farStore P a _ _=r;cases r with
    |ok r=>exact⟨trivial,sO he (Jo ae)⟩
    |error e=>exactλ_=>he)
theorem t_newObj(o:Obj):T1 P (newObj o):=⟨λ_ _ he=>⟨trivial,he⟩,ji P _ (λ_=>trivial)⟩
theorem t_shape(r:Nat):T1 P (shape r):=⟨λ_ _ he=>⟨trivial,he⟩,ji P _ (λ_=>trivial)⟩
theorem t_freeze(a:Addr)(n:Nat):T1 P (freeze a n):=⟨λ_ _ he=>⟨trivial,he⟩,ji P _ trivial⟩
theorem t_frozen(a:Addr):T1 P (frozen a):=⟨λ_ _ he=>⟨trivial,he⟩,ji P _ (λ_=>trivial)⟩
theorem t_choose(q:Question):T1 P (choose q):=by
 refine⟨?_,ji P _ (λ_=>trivial)⟩;intro w es he;unfold choose;simp only[Sem.runT];by_cases h:q.forced=true
 grind
 grind
theorem Qv(m:Mark):Pf P (mark m):=ji P _ trivial
theorem t_mark{m:Mark}(h:m≠.disable):T1 P (mark m):=⟨λ_ _ he=>⟨trivial,mb he (by simpa using h)⟩,Qv m⟩
theorem t_getObj(r:Nat):T1 P (getObj r):=by
 refine⟨?_,ji P _ (λ_=>trivial)⟩;intro w es he;unfold getObj;simp only[Sem.runT];cases w.heap[r]? with
 |none=>exactλ_=>he
 |some o=>cases o<;>first|exactλ_=>he|exact⟨trivial,mb he ae⟩
theorem t_setObj(r:Nat)(o:Obj):T1 P (setObj r o):=by
 refine⟨?_,ji P _ trivial⟩;intro w es he;unfold setObj;simp only[Sem.runT];cases w.heap[r]? with
 |none=>exactλ_=>he
 |some o=>cases o<;>first|exactλ_=>he|exact⟨trivial,mb he ae⟩
instance (a:Addr) (m:Mode):TC P (load a m):=⟨t_load a m⟩
instance (a:Addr) (v:Value) (m:Mode):TC P (store a v m):=⟨t_store a v m⟩
instance (o:Obj):TC P (newObj o):=⟨t_newObj o⟩
instance (r:Nat):TC P (shape r):=⟨t_shape r⟩
instance (a:Addr) (n:Nat):TC P (freeze a n):=⟨t_freeze a n⟩
instance (a:Addr):TC P (frozen a):=⟨t_frozen a⟩
instance (q:Question):TC P (choose q):=⟨t_choose q⟩
instance (r:Nat):TC P (getObj r):=⟨t_getObj r⟩
instance (r:Nat) (o:Obj):TC P (setObj r o):=⟨t_setObj r o⟩
instance:TC P (mark .noRoom):=⟨t_mark (by decide)⟩
instance:TC P (mark .enable):=⟨t_mark (by decide)⟩
theorem t_forInList{γ σ:Type}(f:γ->σ->Sem (ForInStep σ))(h:∀c s,T1 P (f c s)):∀(l:List γ)(s:σ),T1 P (forIn l s f)
 |[],s=>by rw[List.forIn_nil];exact aX trivial
 |c::l,s=>by
  rw[List.forIn_cons];refine aA (h c s) λx=>?_;cases x with
  |done s=>exact aX trivial
  |yield s=>exact t_forInList f h l s
theorem t_forInArray{γ σ:Type}(f:γ->σ->Sem (ForInStep σ))(h:∀c s,T1 P (f c s))(l:Array γ)(s:σ):T1 P (forIn l s f):=by rw[<-Array.forIn_toList];exact t_forInList f h _ _
theorem t_forInRange{σ:Type}(f:Nat->σ->Sem (ForInStep σ))(h:∀c s,T1 P (f c s))(n:Nat)(s:σ):T1 P (forIn [0:n] s f):=by rw[Std.Legacy.Range.forIn_eq_forIn_range'];exact t_forInList f h _ _
theorem t_mapMList{γ δ:Type}(f:γ->Sem δ)(h:∀c,T1 P (f c)):∀(l:List γ),T1 P (l.mapM f)
 |[]=>by rw[List.mapM_nil];exact aX trivial
 |c::l=>by rw[List.mapM_cons];exact aA (h c) λx=>aA (t_mapMList f h l) λ_=>aX trivial
theorem t_mapMArray{γ δ:Type}(f:γ->Sem δ)(h:∀c,T1 P (f c))(l:Array γ):T1 P (l.mapM f):=by rw[Array.mapM_eq_mapM_toList];exact ve (t_mapMList f h _) λ_=>trivial
theorem t_foldlM{γ σ:Type}(f:σ->γ->Sem σ)(h:∀s c,T1 P (f s c)):∀(l:List γ)(s:σ),T1 P (l.foldlM f s)
 |[],s=>by rw[List.foldlM_nil];exact aX trivial
 |c::l,s=>by rw[List.foldlM_cons];exact aA (h s c) λx=>t_foldlM f h l x
end
section
variable {P:Program}
theorem t_writeFd(fd:Nat)(b:ByteArray):T1 P (writeFd fd b):=by
 refine⟨?_,?_⟩;intro w es he;unfold writeFd;simp only[Sem.runT];generalize(w.sys (.write fd b)).1=r;cases r<;>first|exactλ_=>mb he ae|exact⟨trivial,mb he ae⟩
 refine ae7 _ _ ⟨_,rfl⟩ λr=>?_;cases r<;>first|exact vo _|exact C4 _
theorem O2(w:World):(w.sys .env).1≠.wouldBlock:=by
 have:(w.ask (Kernel.perform .env w.os)).1.1=.strings w.os.env:=by simp only[Kernel.perform,Kernel.lengthOf,Kernel.named,Kernel.ofKernel,Kernel.stamps];rfl
 unfold World.sys;generalize w.ask (Kernel.perform .env w.os)=x at this;obtain⟨⟨r,o⟩,l⟩:=x;simp only at this;subst this;simp
instance:TC P (sys .env):=⟨⟨λ_ _ he=>⟨trivial,mb he (by simp)⟩,λhz L W es hs=>by
 have h:=KU .env hs
 unfold sys
 simp only[Sem.runT]
 rcases h with h|h|⟨h1,h2⟩
 .exact absurd h (O2 L)
 .exact .inl (.inl h)
 .rw[<-h1]
  exact .inr ⟨.ok _ h2,rfl⟩⟩⟩
instance (fd:Nat) (b:ByteArray):TC P (writeFd fd b):=⟨t_writeFd fd b⟩
theorem bW{p:Prop}(h:p:=by
 try dsimp only
 (repeat' first|exact TC.out|exact ih _|exact ih _ _|exact ih _ _ _|(with_reducible refine aA ?_ (λ_=>?_))|(with_reducible refine ve ?_ (λ_=>trivial))|(with_reducible refine t_forInArray _ (λ_ _=>?_) _ _)|(with_reducible refine t_forInList _ (λ_ _=>?_) _ _)|(with_reducible refine t_forInRange _ (λ_ _=>?_) _ _)|(with_reducible refine t_mapMArray _ (λ_=>?_) _)|(with_reducible refine t_mapMList _ (λ_=>?_) _)|(with_reducible refine t_foldlM _ (λ_ _=>?_) _ _)|(with_reducible refine ja ?_ ?_)|split|dsimp only)):p:=h
instance (n:Nat):TC P (askRoom n):=⟨by
 unfold askRoom
 exact bW⟩
instance (r:Nat):TC P (viewAt r):=⟨by
 unfold viewAt
 exact bW⟩
instance (r:Nat):TC P (numberAt r):=⟨by
 unfold numberAt
 exact bW⟩
instance (r:Nat):TC P (cellsIn r):=⟨by
 unfold cellsIn
 exact bW⟩
instance (a:Addr) (b:Bool):TC P (asNumber a b):=⟨by
 unfold asNumber
 exact bW⟩
instance (a:Addr):TC P (behindNumber a):=⟨by
 unfold behindNumber
 exact bW⟩
instance (a:Addr):TC P (backFromNumber a):=⟨by
 unfold backFromNumber
 exact bW⟩
instance (a:Addr):TC P (noView a):=⟨by
 unfold noView
 exact bW⟩
instance (a:Addr):TC P (markStringish a):=⟨by
 unfold markStringish
 exact bW⟩
instance (a:Addr):TC P (stringish a):=⟨by
 unfold stringish
 exact bW⟩
instance (a b:Addr):TC P (mayBeOne a b):=⟨by
 unfold mayBeOne
 exact bW⟩
instance (a b:Addr):TC P (sameAddr a b):=⟨by
 unfold sameAddr
 exact bW⟩
instance (a b:Option Addr):TC P (samePointer a b):=⟨by
 unfold samePointer
 exact bW⟩
instance (t:TypeId):TC P (typeInfo t):=⟨by
 unfold typeInfo
 exact bW⟩
instance (t:TypeId):TC P (underlying t):=⟨by
 unfold underlying
 exact bW⟩
instance (s:String):TC P (cutType s):=⟨by
 unfold cutType
 exact bW⟩
instance (s:String):TC P (globalAddr s):=⟨by
 unfold globalAddr
 exact bW⟩
instance (t:TypeId):TC P (typeStr t):=⟨by
 unfold typeStr
 exact bW⟩
instance (t:TypeId):TC P (zeroValue t):=⟨by
 unfold zeroValue
 exact bW⟩
instance (t:TypeId):TC P (sizeOf t):=⟨by
 unfold sizeOf
 exact bW⟩
instance (t:TypeId):TC P (isAgg t):=⟨by
 unfold isAgg
 exact bW⟩
theorem t_loadCellsFrom(a:Addr):∀(n i:Nat)(acc:Array Value),T1 P (loadCellsFrom a i n acc)
 |0,_,_=>aX trivial
 |_+1,_,_=>aA (t_load _ _) λ_=>t_loadCellsFrom a _ _ _
instance (a:Addr) (n i:Nat) (acc:Array Value):TC P (loadCellsFrom a i n acc):=⟨t_loadCellsFrom a n i acc⟩
instance (a:Addr) (n:Nat):TC P (loadCells a n):=⟨by
 unfold loadCells
 exact bW⟩
theorem t_storeCells(a:Addr):∀(vs:List Value)(i:Nat),T1 P (storeCells a vs i)
 |[],_=>aX trivial
 |_::rest,_=>aA (t_store _ _ _) λ_=>t_storeCells a rest _
instance (a:Addr) (vs:List Value) (i:Nat):TC P (storeCells a vs i):=⟨t_storeCells a vs i⟩
instance (t:TypeId) (a:Addr):TC P (loadVar t a):=⟨by
 unfold loadVar
 exact bW⟩
instance (t:TypeId) (a:Addr) (v:Value):TC P (storeVar t a v):=⟨by
 unfold storeVar
 exact bW⟩
instance (t:TypeId) (c:Array Value):TC P (newRow t c):=⟨by
 unfold newRow
 exact bW⟩
instance (t:TypeId) (v:Value):TC P (newVar t v):=⟨by
 unfold newVar
 exact bW⟩
instance (t:TypeId):TC P (elemOf t):=⟨by
 unfold elemOf
 exact bW⟩
instance (t:TypeId) (c:Array Value) (o:Nat):TC P (part t c o):=⟨by
 unfold part
 exact bW⟩
theorem t_panicString{α:Type}(m:String):T1 P (panicString m:Sem α):=by unfold panicString;exact bW
instance {α:Type} (m:String):TC P (panicString m:Sem α):=⟨t_panicString m⟩
instance (s:String):TC P (externState s):=⟨by
 unfold externState
 exact bW⟩
theorem t_runtimePanic{α:Type}(e:RuntimeError):T1 P (runtimePanic e:Sem α):=by unfold runtimePanic;dsimp only;exact bW
instance {α:Type} (e:RuntimeError):TC P (runtimePanic e:Sem α):=⟨t_runtimePanic e⟩
theorem t_boundsPanic{α:Type}(k:IntKind)(x y:Int)(c:BoundsCode):T1 P (boundsPanic k x y c:Sem α):=by unfold boundsPanic;exact bW
instance {α:Type} (k:IntKind) (x y:Int) (c:BoundsCode):TC P (boundsPanic k x y c:Sem α):=⟨t_boundsPanic k x y c⟩
instance (v:Value):TC P (asIntOf v):=⟨by
 unfold asIntOf
 exact bW⟩
instance (v:Value):TC P (asInt v):=⟨by
 unfold asInt
 exact bW⟩
instance (v:Value):TC P (asBool v):=⟨by
 unfold asBool
 exact bW⟩
instance (v:Value):TC P (asString v):=⟨by
 unfold asString
 exact bW⟩
instance (v:Value):TC P (asAgg v):=⟨by
 unfold asAgg
 exact bW⟩
instance (v:Value):TC P (asAddr v):=⟨by
 unfold asAddr
 exact bW⟩
theorem t_loadBytes(a:Addr):∀(n:Nat)(acc:ByteArray),T1 P (loadBytes a acc n)
 |0,_=>aX trivial
 |n+1,acc=>by unfold loadBytes;refine aA (t_load _ _) λv=>?_;split;exact t_loadBytes _ n _;exact ak _
instance (a:Addr) (n:Nat) (acc:ByteArray):TC P (loadBytes a acc n):=⟨t_loadBytes a n acc⟩
instance (a:Addr) (b:ByteArray):TC P (storeBytes a b):=⟨by
 unfold storeBytes
 exact bW⟩
instance (a:Addr):TC P (byteOf a):=⟨by
 unfold byteOf
 exact bW⟩
instance (a:Addr) (c b:Nat):TC P (partAt a c b):=⟨by
 unfold partAt
 exact bW⟩
instance (a:Addr) (f:Field):TC P (fieldPlace a f):=⟨by
 unfold fieldPlace
 exact bW⟩
instance (a:Addr) (u:TypeId) (n:Nat):TC P (variablesAt a u n):=⟨by
 unfold variablesAt
 exact bW⟩
end
end Go.Co
namespace Go.Co
open Go
section
variable {P:Program}
instance (t:TypeId) (h:Bool) (v:Value):TC P (Instr.alloc t h v):=⟨by
 unfold Instr.alloc
 exact bW⟩
instance (v:Value):TC P (Instr.sureAddr v):=⟨by
 unfold Instr.sureAddr
 exact bW⟩
instance (t:TypeId) (v:Value):TC P (Instr.loadAt t v):=⟨by
 unfold Instr.loadAt
 exact bW⟩
instance (t:TypeId) (v u:Value):TC P (Instr.storeAt t v u):=⟨by
 unfold Instr.storeAt
 exact bW⟩
instance (t:TypeId) (v:Value) (n:Nat):TC P (Instr.fieldAt t v n):=⟨by
 unfold Instr.fieldAt
 exact bW⟩
instance (t:TypeId) (v u:Value):TC P (Instr.indexAt t v u):=⟨by
 unfold Instr.indexAt
 exact bW⟩
instance (v:Value) (n:Nat) (c:BoundsCode):TC P (Instr.sliceBound v n c):=⟨by
 unfold Instr.sliceBound
 exact bW⟩
instance (b:Bool) (n m:Nat) (x y z:Option Value):TC P (Instr.sliceBounds b n m x y z):=⟨by
 unfold Instr.sliceBounds
 exact bW⟩
instance (t:TypeId) (v:Value) (x y z:Option Value):TC P (Instr.slice t v x y z):=⟨by
 unfold Instr.slice
 exact bW⟩
instance (t:TypeId) (v:Value) (x y z:Option Value):TC P (Instr.sliceAt t v x y z):=⟨by
 unfold Instr.sliceAt
 exact bW⟩
instance (t:TypeId) (v:Value):TC P (Instr.arrayAt t v):=⟨by
 unfold Instr.arrayAt
 exact bW⟩
instance (t:TypeId) (v:Value):TC P (Instr.box t v):=⟨by
 unfold Instr.box
 exact bW⟩
instance (t:TypeId) (p:Array (Nat×Value)):TC P (Instr.build t p):=⟨by
 unfold Instr.build
 exact bW⟩
instance (t:TypeId) (n:Nat) (p:Array (Nat×Value)):TC P (Instr.buildSlice t n p):=⟨by
 unfold Instr.buildSlice
 exact bW⟩
instance (g:Nat):TC P (Instr.waits g):=⟨by
 unfold Instr.waits
 exact bW⟩
instance (g:Nat):TC P (Instr.ready g):=⟨by
 unfold Instr.ready
 exact bW⟩
instance (t:TypeId) (v:Value):TC P (Instr.makeInterface t v):=⟨by
 unfold Instr.makeInterface
 exact bW⟩
instance (f:Fn) (a b:Array Value):TC P (Instr.makeFunc f a b):=⟨by
 unfold Instr.makeFunc
 exact bW⟩
instance (t:TypeId) (r:Option Value):TC P (Instr.makeMap t r):=⟨by
 unfold Instr.makeMap
 exact bW⟩
instance (t:TypeId) (v:Value):TC P (Instr.makeChan t v):=⟨by
 unfold Instr.makeChan
 exact bW⟩
instance (t:TypeId) (v u:Value):TC P (Instr.makeSlice t v u):=⟨by
 unfold Instr.makeSlice
 exact bW⟩
instance (t:TypeId) (v:Value) (n:Nat):TC P (Instr.field t v n):=⟨by
 unfold Instr.field
 exact bW⟩
instance (t:TypeId) (v u:Value):TC P (Instr.index t v u):=⟨by
 unfold Instr.index
 exact bW⟩
instance (v:Value) (n:Nat):TC P (Instr.extract v n):=⟨by
 unfold Instr.extract
 exact bW⟩
instance (a b:Addr):TC P (Op.twoPlaces a b):=⟨by
 unfold Op.twoPlaces
 exact bW⟩
instance (k:IntKind) (a b:Addr):TC P (Op.addrSub k a b):=⟨by
 unfold Op.addrSub
 exact bW⟩
instance (o:BinOp) (a b:Addr):TC P (Op.addrCmp o a b):=⟨by
 unfold Op.addrCmp
 exact bW⟩
instance (k:IntKind) (a:Addr) (n:Int):TC P (Op.addrMod k a n):=⟨by
 unfold Op.addrMod
 exact bW⟩
instance (o:BinOp) (a b:ByteArray):TC P (Op.stringOp o a b):=⟨by
 unfold Op.stringOp
 exact bW⟩
instance (o:BinOp) (k:IntKind) (x:Int) (l:IntKind) (y:Int):TC P (Op.shift o k x l y):=⟨by
 unfold Op.shift
 exact bW⟩
instance (o:BinOp) (k:IntKind) (x y:Int):TC P (Op.intDiv o k x y):=⟨by
 unfold Op.intDiv
 exact bW⟩
instance (o:BinOp) (k:IntKind) (x y:Int):TC P (Op.intArith o k x y):=⟨by
 unfold Op.intArith
 exact bW⟩
instance (o:BinOp) (k:IntKind) (x y:Int):TC P (Op.intBits o k x y):=⟨by
 unfold Op.intBits
 exact bW⟩
instance (o:BinOp) (x y:Int):TC P (Op.intCmp o x y):=⟨by
 unfold Op.intCmp
 exact bW⟩
instance (o:BinOp) (k:FloatKind) (x y:Nat):TC P (Op.floatArith o k x y):=⟨by
 unfold Op.floatArith
 exact bW⟩
instance (o:BinOp) (k:FloatKind) (x y:Nat):TC P (Op.floatCmp o k x y):=⟨by
 unfold Op.floatCmp
 exact bW⟩
instance (o:UnOp) (v:Value):TC P (Op.unary o v):=⟨by
 unfold Op.unary
 exact bW⟩
instance (k:FloatKind) (n:Nat) (l:FloatKind):TC P (Conv.floatToFloat k n l):=⟨by
 unfold Conv.floatToFloat
 exact bW⟩
instance (o:BinOp) (k:FloatKind) (x y:Nat):TC P (Op.Complex.arith o k x y):=⟨by
 unfold Op.Complex.arith
 exact bW⟩
instance (o:BinOp) (k:FloatKind) (x y:Nat):TC P (Op.Complex.cmp o k x y):=⟨by
 unfold Op.Complex.cmp
 exact bW⟩
instance (k:FloatKind) (n:Nat) (l:FloatKind):TC P (Op.Complex.conv k n l):=⟨by
 unfold Op.Complex.conv
 exact bW⟩
instance (x y:Nat):TC P (Op.Complex.add x y):=⟨by
 unfold Op.Complex.add
 exact bW⟩
instance (x y:Nat):TC P (Op.Complex.sub x y):=⟨by
 unfold Op.Complex.sub
 exact bW⟩
instance (x y:Nat):TC P (Op.Complex.mul x y):=⟨by
 unfold Op.Complex.mul
 exact bW⟩
instance (x y:Nat):TC P (Op.Complex.quo x y):=⟨by
 unfold Op.Complex.quo
 exact bW⟩
instance (a b c d:Nat):TC P (Op.Complex.product a b c d):=⟨by
 unfold Op.Complex.product
 exact bW⟩
instance (s a b c d:Nat):TC P (Op.Complex.corrected s a b c d):=⟨by
 unfold Op.Complex.corrected
 exact bW⟩
instance (a b c d:Nat):TC P (Op.Complex.quotient a b c d):=⟨by
 unfold Op.Complex.quotient
 exact bW⟩
instance (o:BinOp) (k:FloatKind) (a b c d:Nat):TC P (Op.complexOp o k a b c d):=⟨by
 unfold Op.complexOp
 exact bW⟩
theorem t_equalIn:∀(d:Nat)(t:TypeId)(x y:Value),T1 P (Op.equalIn d t x y)
 |0,_,_,_=>fO _
 |d+1,t,x,y=>by have ih:=t_equalIn d;unfold Op.equalIn;exact bW
instance (d:Nat) (t:TypeId) (x y:Value):TC P (Op.equalIn d t x y):=⟨t_equalIn d t x y⟩
instance (t:TypeId) (x y:Value):TC P (Op.equal t x y):=⟨by
 unfold Op.equal
 exact bW⟩
theorem t_eqGuardIn:∀(d:Nat)(t:TypeId)(x y:Value),T1 P (Op.eqGuardIn d t x y)
 |0,_,_,_=>fO _
 |d+1,t,x,y=>by have ih:=t_eqGuardIn d;unfold Op.eqGuardIn;exact bW
instance (d:Nat) (t:TypeId) (x y:Value):TC P (Op.eqGuardIn d t x y):=⟨t_eqGuardIn d t x y⟩
theorem t_checkKey(b:Bool):∀(d:Nat)(t:TypeId)(x:Value),T1 P (Instr.checkKey b d t x)
 |0,_,_=>fO _
 |d+1,t,x=>by have ih:=t_checkKey b d;unfold Instr.checkKey;exact bW
instance (b:Bool) (d:Nat) (t:TypeId) (x:Value):TC P (Instr.checkKey b d t x):=⟨t_checkKey b d t x⟩
theorem t_findAsking(t:TypeId)(k:Value):∀(l:List MapEntry)(i:Nat),T1 P (Instr.findAsking t k l i)
 |[],_=>aX trivial
 |e::es,i=>by have ih:=t_findAsking t k es;unfold Instr.findAsking;exact bW
instance (t:TypeId) (k:Value) (l:List MapEntry) (i:Nat):TC P (Instr.findAsking t k l i):=⟨t_findAsking t k l i⟩
instance (t:TypeId) (k:Value) (l:List MapEntry):TC P (Instr.findKey t k l):=⟨by
 unfold Instr.findKey
 exact bW⟩
instance (t:TypeId) (x y:Value) (b:Bool):TC P (Instr.lookup t x y b):=⟨by
 unfold Instr.lookup
 exact bW⟩
instance (x y:Value):TC P (Instr.keyThatStays x y):=⟨by
 unfold Instr.keyThatStays
 exact bW⟩
instance (t:TypeId) (x y z:Value):TC P (Instr.mapUpdate t x y z):=⟨by
 unfold Instr.mapUpdate
 exact bW⟩
instance (t:TypeId) (x y:Value):TC P (Instr.mapEntry t x y):=⟨by
 unfold Instr.mapEntry
 exact bW⟩
instance (t:TypeId) (x y z:Value):TC P (Instr.entryStore t x y z):=⟨by
 unfold Instr.entryStore
 exact bW⟩
instance (t:TypeId) (x:Value):TC P (Instr.range t x):=⟨by
 unfold Instr.range
 exact bW⟩
instance (x:Value) (b:Bool) (t:TypeId):TC P (Instr.next x b t):=⟨by
 unfold Instr.next
 exact bW⟩
instance (x:Value):TC P (Instr.entry x):=⟨by
 unfold Instr.entry
 exact bW⟩
instance (x:Value) (t u:TypeId) (b:Bool):TC P (Instr.typeAssert x t u b):=⟨by
 unfold Instr.typeAssert
 exact bW⟩
instance:TC P (Instr.panicnil):=⟨by
 unfold Instr.panicnil
 exact bW⟩
instance (x:Value):TC P (Instr.panic x):=⟨by
 unfold Instr.panic
 exact bW⟩
instance (l:Nat):TC P (Instr.getLoop l):=⟨by
 unfold Instr.getLoop
 exact bW⟩
instance (f:FuncId) (t:Array Value) (p:Array Tmp) (a b:Code) (r:Option Nat):TC P (Instr.enterLoop f t p a b r):=⟨by
 unfold Instr.enterLoop
 exact bW⟩
instance (l:Nat):TC P (Instr.beginRound l):=⟨by
 unfold Instr.beginRound
 exact bW⟩
instance (l:Nat) (j:Option Code):TC P (Instr.endRound l j):=⟨by
 unfold Instr.endRound
 exact bW⟩
instance (l:Nat):TC P (Instr.endLoop l):=⟨by
 unfold Instr.endLoop
 exact bW⟩
instance (l:Nat) (d:Deferred):TC P (Instr.deferInRound l d):=⟨by
 unfold Instr.deferInRound
 exact bW⟩
instance (b:Nat):TC P (Instr.takeDeferred b):=⟨by
 unfold Instr.takeDeferred
 exact bW⟩
instance (a:Addr) (n:Nat):TC P (Builtin.holdsCells a n):=⟨by
 unfold Builtin.holdsCells
 exact bW⟩
instance (s l n:Nat) (b:Option Addr) (x:Value):TC P (Builtin.mayShare s l n b x):=⟨by
 unfold Builtin.mayShare
 exact bW⟩
instance (x:Value):TC P (Builtin.lenOf x):=⟨by
 unfold Builtin.lenOf
 exact bW⟩
instance (s n:Nat) (x:Value):TC P (Builtin.firstCells s n x):=⟨by
 unfold Builtin.firstCells
 exact bW⟩
instance (a:Array TypeId) (t:TypeId) (x:Array Value):TC P (Builtin.append_ a t x):=⟨by
 unfold Builtin.append_
 exact bW⟩
instance (a:Array TypeId) (t:TypeId) (x:Array Value):TC P (Builtin.cap_ a t x):=⟨by
 unfold Builtin.cap_
 exact bW⟩
instance (a:Array TypeId) (t:TypeId) (x:Array Value):TC P (Builtin.clear_ a t x):=⟨by
 unfold Builtin.clear_
 exact bW⟩
instance (a:Array TypeId) (t:TypeId) (x:Array Value):TC P (Builtin.close_ a t x):=⟨by
 unfold Builtin.close_
 obtain⟨l⟩:=x
 rcases l with _|⟨z,_|⟨y,l⟩⟩
 .exact ak _
 .cases z<;>first|exact ak _|skip
  rename_i r
  cases r with
  |none=>exact TC.out (s:=runtimePanic _)
  |some r=>show T1 P (_>>=_);exact bW
 .cases z<;>exact ak _⟩
instance (a:Array TypeId) (t:TypeId) (x:Array Value):TC P (Builtin.complex_ a t x):=⟨by
 unfold Builtin.complex_
 obtain⟨l⟩:=x
 rcases l with _|⟨z,_|⟨y,_|⟨x,l⟩⟩⟩
 .exact ak _
 .cases z<;>exact ak _
 .cases z<;>first|exact ak _|(cases y<;>first|exact ak _|exact ja (aX trivial) (ak _))
 .cases z<;>first|exact ak _|(cases y<;>exact ak _)⟩
instance (a:Array TypeId) (t:TypeId) (x:Array Value):TC P (Builtin.copy_ a t x):=⟨by
 unfold Builtin.copy_
 exact bW⟩
instance (a:Array TypeId) (t:TypeId) (x:Array Value):TC P (Builtin.delete_ a t x):=⟨by
 unfold Builtin.delete_
 exact bW⟩
instance (a:Array TypeId) (t:TypeId) (x:Array Value):TC P (Builtin.imag_ a t x):=⟨by
 unfold Builtin.imag_
 obtain⟨l⟩:=x
 rcases l with _|⟨z,_|⟨y,l⟩⟩
 .exact ak _
 .cases z<;>first|exact aX trivial|exact ak _
 .cases z<;>exact ak _⟩
instance (a:Array TypeId) (t:TypeId) (x:Array Value):TC P (Builtin.len_ a t x):=⟨by
 unfold Builtin.len_
 exact bW⟩
instance (x y:Value):TC P (Builtin.max2 x y):=⟨by
 unfold Builtin.max2
 exact bW⟩
instance (a:Array TypeId) (t:TypeId) (x:Array Value):TC P (Builtin.max_ a t x):=⟨by
 unfold Builtin.max_
 exact bW⟩
instance (x y:Value):TC P (Builtin.min2 x y):=⟨by
 unfold Builtin.min2
 exact bW⟩
instance (a:Array TypeId) (t:TypeId) (x:Array Value):TC P (Builtin.min_ a t x):=⟨by
 unfold Builtin.min_
 exact bW⟩
instance (a:Array TypeId) (t:TypeId) (x:Array Value):TC P (Builtin.real_ a t x):=⟨by
 unfold Builtin.real_
 obtain⟨l⟩:=x
 rcases l with _|⟨z,_|⟨y,l⟩⟩
 .exact ak _
 .cases z<;>first|exact aX trivial|exact ak _
 .cases z<;>exact ak _⟩
instance (a:Array TypeId) (t:TypeId) (x:Array Value):TC P (Builtin.ssaWrapNilChk_ a t x):=⟨by
 unfold Builtin.ssaWrapNilChk_
 obtain⟨l⟩:=x
 rcases l with _|⟨z,_|⟨y,_|⟨x,_|⟨v,l⟩⟩⟩⟩
 .exact ak _
 .exact ak _
 .cases y<;>exact ak _
 .cases y<;>first|exact ak _|skip
  cases x<;>first|exact ak _|skip
  cases z<;>first|exact ak _|skip
  rename_i p
  cases p with
  |some p=>exact aX trivial
  |none=>show T1 P (_>>=_);exact bW
 .cases y<;>first|exact ak _|(cases x<;>exact ak _)⟩
instance (a:Array TypeId) (t:TypeId) (x:Array Value):TC P (Builtin.unsafeAdd_ a t x):=⟨by
 unfold Builtin.unsafeAdd_
 obtain⟨l⟩:=x
 rcases l with _|⟨z,_|⟨y,_|⟨x,l⟩⟩⟩
 .exact ak _
 .cases z<;>exact ak _
 .cases z<;>first|exact ak _|skip
  show T1 P (_>>=_);exact bW
 .cases z<;>exact ak _⟩
instance (a:Array TypeId) (t:TypeId) (x:Array Value):TC P (Builtin.unsafeSlice_ a t x):=⟨by
 unfold Builtin.unsafeSlice_
 obtain⟨l⟩:=x
 rcases l with _|⟨z,_|⟨y,_|⟨x,l⟩⟩⟩
 .exact ak _
 .cases z<;>exact ak _
 .cases z<;>first|exact ak _|skip
  show T1 P (_>>=_);exact bW
 .cases z<;>exact ak _⟩
instance (a:Array TypeId) (t:TypeId) (x:Array Value):TC P (Builtin.unsafeSliceData_ a t x):=⟨by
 unfold Builtin.unsafeSliceData_
 obtain⟨l⟩:=x
 rcases l with _|⟨z,_|⟨y,l⟩⟩
 .exact ak _
 .cases z<;>first|exact ak _|skip
  rename_i r n c
  cases r with
  |none=>exact aX trivial
  |some r=>show T1 P (if c≠0 then _ else _);exact bW
 .cases z<;>exact ak _⟩
instance (a:Array TypeId) (t:TypeId) (x:Array Value):TC P (Builtin.unsafeString_ a t x):=⟨by
 unfold Builtin.unsafeString_
 obtain⟨l⟩:=x
 rcases l with _|⟨z,_|⟨y,_|⟨x,l⟩⟩⟩
 .exact ak _
 .cases z<;>exact ak _
 .cases z<;>first|exact ak _|skip
  show T1 P (_>>=_);exact bW
 .cases z<;>exact ak _⟩
instance (a:Array TypeId) (t:TypeId) (x:Array Value):TC P (Builtin.unsafeStringData_ a t x):=⟨by
 unfold Builtin.unsafeStringData_
 obtain⟨l⟩:=x
 rcases l with _|⟨z,_|⟨y,l⟩⟩
 .exact ak _
 .cases z<;>first|exact ak _|skip
  rename_i s
  show T1 P (if s.size=0 then _ else _);exact bW
 .cases z<;>exact ak _⟩
instance (k:IntKind) (n:Int):TC P (Conv.intToInt k n):=⟨by
 unfold Conv.intToInt
 exact bW⟩
instance (k:FloatKind) (n:Int):TC P (Conv.intToFloat k n):=⟨by
 unfold Conv.intToFloat
 exact bW⟩
instance (k:FloatKind) (n:Nat) (l:IntKind):TC P (Conv.floatToInt k n l):=⟨by
 unfold Conv.floatToInt
 exact bW⟩
instance (k:FloatKind) (m n:Nat) (l:FloatKind):TC P (Conv.complexToComplex k m n l):=⟨by
 unfold Conv.complexToComplex
 exact bW⟩
instance (n:Int):TC P (Conv.intToString n):=⟨by
 unfold Conv.intToString
 exact bW⟩
instance (t:TypeId) (s:ByteArray):TC P (Conv.stringToBytes t s):=⟨by
 unfold Conv.stringToBytes
 exact bW⟩
instance (t:TypeId) (s:ByteArray):TC P (Conv.stringToRunes t s):=⟨by
 unfold Conv.stringToRunes
 exact bW⟩
instance (x:Value):TC P (Conv.bytesToString x):=⟨by
 unfold Conv.bytesToString
 exact bW⟩
instance (x:Value):TC P (Conv.runesToString x):=⟨by
 unfold Conv.runesToString
 exact bW⟩
instance (a:Addr):TC P (Conv.seenAt a):=⟨by
 unfold Conv.seenAt
 exact bW⟩
instance (s d:TypeId) (x:Value):TC P (Conv.unsafePointer s d x):=⟨by
 unfold Conv.unsafePointer
 exact bW⟩
instance (t:TypeId) (x y:Value):TC P (movedNumber t x y):=⟨by
 unfold movedNumber
 exact bW⟩
instance (t:TypeId) (x y:Value):TC P (movedPointer t x y):=⟨by
 unfold movedPointer
 exact bW⟩
instance (o:BinOp) (t:TypeId) (x y:Operand) (a b:Value):TC P (eqGuard o t x y a b):=⟨by
 unfold eqGuard
 exact bW⟩
instance (o:BinOp) (t:TypeId) (x y:Value):TC P (binOp o t x y):=⟨by
 unfold binOp
 exact bW⟩
instance (s d:TypeId) (x:Value):TC P (convert s d x):=⟨by
 unfold convert
 exact bW⟩
end
end Go.Co
