import Derived.Test.YtadeehilamokkaaGreatDoorPk22
import Derived.Conc.Neutral
import Derived.Conc.TokenWalk
import Derived.Conc.Script
import Derived.Conc.CompanyWords
import Derived.Conc.Own2
namespace Go.Co
open Go Go.Conc
inductive Tr where
 |leaf
 |node (f:World->Tr)
inductive TLt:Tr->Tr->Prop
 |mk (f:World->Tr) (w:World):TLt (f w) (.node f)
theorem P4:∀r:Tr,Acc TLt r
 |.leaf=>⟨_,λ_ h=>nomatch h⟩
 |.node f=>⟨_,λ_ h=>by cases h with|mk _ w=>exact P4 (f w)⟩
def Tr.nat:Nat->Tr
 |0=>.leaf
 |n+1=>.node λ_=>Tr.nat n
theorem aa4(n:Nat):TLt (Tr.nat n) (Tr.nat (n+1)):=.mk (λ_=>Tr.nat n) default
def Tr.up:Tr->Tr
 |.leaf=>.node λ_=>.leaf
 |.node f=>.node λw=>(f w).up
theorem aeL(f:World->Tr)(w:World):TLt (f w).up (Tr.node f).up:=.mk (λw=>(f w).up) w
theorem KQ:TLt .leaf (Tr.leaf).up:=.mk (λ_=>.leaf) default
inductive LLt:List Tr->List Tr->Prop
 |mk (l:List Tr) (i:Nat) (r r':Tr):l[i]? =some r->TLt r' r->LLt (l.set i r') l
theorem QO:∀l:List Tr,Acc LLt l
 |[]=>⟨_,λ_ h=>by cases h with|mk _ i r r' h=>simp at h⟩
 |x::xs=>by
  have hx:=P4 x;have Rv:=QO xs;induction hx generalizing xs with
  |intro x _ ihx=>
   induction Rv with
   |intro xs ajG ai0=>
    refine⟨_,λy h=>?_⟩;cases h with
    |mk _ i r r' h hlt=>
     cases i with
     |zero=>simp at h;subst h;exact ihx r' hlt xs (Acc.intro xs ajG)
     |succ i=>have:LLt (xs.set i r') xs:=.mk xs i r r' (by simpa using h) hlt;exact ai0 _ this
variable {P:Program} {main:Bool} {Γ:Type} {Rl:Γ->World->World->Prop} {St:Γ->World->Γ->World->Array Event->Prop} {Stop:Γ->Goroutine->World->Prop}
def Z5(P:Program)(main:Bool)(Rl:Γ->World->World->Prop)(St:Γ->World->Γ->World->Array Event->Prop)(Stop:Γ->Goroutine->World->Prop):Tr->Γ->Goroutine->World->Prop
 |.leaf,γ,g,w=>∀w1,Rl γ w w1->Stop γ g w1
 |.node f,γ,g,w=>g.status=.running/\∀w1,Rl γ w w1->∃g' w' es γ',stepG P main g w1=.go g' w' es/\St γ w1 γ' w' es/\Z5 P main Rl St Stop (f w1) γ' g' w'
def Gt(P:Program)(main:Bool)(Rl:Γ->World->World->Prop)(St:Γ->World->Γ->World->Array Event->Prop)(Stop:Γ->Goroutine->World->Prop)(γ:Γ)(g:Goroutine)(w:World):Prop:=∃r,Z5 P main Rl St Stop r γ g w
structure Tms (Rl:Γ->World->World->Prop) (St:Γ->World->Γ->World->Array Event->Prop):Prop where
 trans:∀γ a b c,Rl γ a b->Rl γ b c->Rl γ a c
 idle:∀γ w,St γ w γ w #[]
theorem Ew(T:Tms Rl St){r:Tr}{γ:Γ}{g:Goroutine}{w w1:World}(h:Z5 P main Rl St Stop r γ g w)(hr:Rl γ w w1):Z5 P main Rl St Stop r γ g w1:=by
 cases r with
 |leaf=>exactλw2 h2=>h w2 (T.trans _ _ _ _ hr h2)
 |node f=>exact⟨h.1,λw2 h2=>h.2 w2 (T.trans _ _ _ _ hr h2)⟩
open Classical in
theorem ab1{γ:Γ}{g:Goroutine}{w:World}(hs:g.status=.running)(h:∀w1,Rl γ w w1->∃g' w' es γ',stepG P main g w1=.go g' w' es/\St γ w1 γ' w' es/\Gt P main Rl St Stop γ' g' w'):Gt P main Rl St Stop γ g w:=by
 have hr:∀w1,∃r,Rl γ w w1->∃g' w' es γ',stepG P main g w1=.go g' w' es/\St γ w1 γ' w' es/\Z5 P main Rl St Stop r γ' g' w':=by intro w1;by_cases hw:Rl γ w w1;obtain⟨g',w',es,γ',h1,h2,r,h3⟩:=h w1 hw;exact⟨r,λ_=>⟨g',w',es,γ',h1,h2,h3⟩⟩;exact⟨.leaf,λh=>absurd h hw⟩
 exact⟨.node λw1=>Classical.choose (hr w1),hs,λw1 hw=>vD (hr w1) hw⟩
theorem yS{γ:Γ}{g:Goroutine}{w:World}(h:∀w1,Rl γ w w1->Stop γ g w1):Gt P main Rl St Stop γ g w:=⟨.leaf,h⟩
theorem C8(T:Tms Rl St){γ:Γ}{g:Goroutine}{w w1:World}(h:Gt P main Rl St Stop γ g w)(hr:Rl γ w w1):Gt P main Rl St Stop γ g w1:=by obtain⟨r,h⟩:=h;exact⟨r,Ew T h hr⟩
def Rlo(S O:Nat->Prop)(w w1:World):Prop:=
 w.heap.size<=w1.heap.size/\(∀b,S b\/O b->w1.heap[b]? =w.heap[b]?)/\w1.tape=w.tape/\w1.os=w.os/\w1.output=w.output
def Z6(S O:Nat->Prop)(e:Event):Prop:=(∃a wr sy,e=⟨.cell a,wr,sy⟩/\(wr=true->O a.block)/\(S a.block\/O a.block))\/∃m,e=⟨.mark m,false,true⟩/\Neutral m
def Sto(S O:Nat->Prop)(w:World)(O':Nat->Prop)(w':World)(es:Array Event):Prop:=
 (∀b,O' b↔(O b\/(w.heap.size<=b/\b<w'.heap.size)))/\w.heap.size<=w'.heap.size/\(∀b,b<w.heap.size->¬O b->w'.heap[b]? =w.heap[b]?)/\w'.tape=w.tape/\w'.os=w.os/\w'.output=w.output/\∀e∈es,Z6 S O' e
theorem X0(S O:Nat->Prop)(w:World):Rlo S O w w:=⟨ai _,λ_ _=>rfl,rfl,rfl,rfl⟩
theorem gU{S O:Nat->Prop}{a b c:World}(h:Rlo S O a b)(k:Rlo S O b c):Rlo S O a c:=
 ⟨bt h.1 k.1,λx hx=>(k.2.1 x hx).trans (h.2.1 x hx),k.2.2.1.trans h.2.2.1,k.2.2.2.1.trans h.2.2.2.1,k.2.2.2.2.trans h.2.2.2.2⟩
theorem KY(S O:Nat->Prop)(w:World):Sto S O w O w #[]:=⟨λb=>⟨.inl,λh=>h.elim id λh=>absurd h.2 ab⟩,ai _,λ_ _ _=>rfl,rfl,rfl,rfl,ae⟩
theorem KX{S O:Nat->Prop}{w:World}{es:Array Event}(h:∀e∈es,Z6 S O e):Sto S O w O w es:=⟨λb=>⟨.inl,λh=>h.elim id λh=>absurd h.2 ab⟩,ai _,λ_ _ _=>rfl,rfl,rfl,rfl,h⟩
end Go.Co
namespace Go.Co
open Go Go.Conc
inductive Pc where
 |stop
 |ret
 |bad
 |send (c:Nat) (v:Value) (k:Pc)
 |recv (c:Nat) (ok:Bool) (z:Value) (k:Option Value->Pc)
 |close (c:Nat) (k:Pc)
 |go (child k:Pc)
variable {P:Program} {aa:Machine->Trace->Prop} {main:Bool}
abbrev So:=(Nat->Prop)×(Nat->Prop)
def So.all (γ:So):Nat->Prop:=λb=>γ.1 b\/γ.2 b
def So.give (γ:So):So:=(γ.all,λ_=>False)
def iV(γ:So)(w w1:World):Prop:=Rlo γ.1 γ.2 w w1
def JY(γ:So)(w:World)(γ':So)(w':World)(es:Array Event):Prop:=γ'.1=γ.1/\Sto γ.1 γ.2 w γ'.2 w' es
theorem Gh:Tms iV JY:=⟨λ_ _ _ _ h k=>gU h k,λγ w=>⟨rfl,KY γ.1 γ.2 w⟩⟩
def AtSend(P:Program)(main:Bool)(c:Nat)(v:Value)(g:Goroutine)(w:World):Prop:=g.status=.running/\∃z,stepG P main g w=.comm (core g) #[scase c v z] true .send w
def AtRecv(P:Program)(main:Bool)(c:Nat)(ok:Bool)(z:Value)(g:Goroutine)(w:World):Prop:=g.status=.running/\stepG P main g w=.comm (core g) #[rcase c z] true (.recv ok) w
def Pr(P:Program)(aa:Machine->Trace->Prop)(main:Bool):Pc->So->Goroutine->World->Prop
 |.stop,_,g,_=>∃n,QuitsD P n 0 g
 |.ret,_,g,w=>g.dying=none/\iI P aa () g w
 |.bad,_,_,_=>True
 |.send c v k,γ,g,w=>Gt P main iV JY (λγ g w=>AtSend P main c v g w/\∀w1,iV γ w w1->Pr P aa main k γ (Conc.served g undef) w1) γ g w
 |.recv c ok z k,γ,g,w=>Gt P main iV JY (λγ g w=>AtRecv P main c ok z g w/\∀x w1,iV γ w w1->Pr P aa main (k x) γ (Conc.served g (recvd ok (x.getD z) x.isSome)) w1) γ g w
 |.close c k,γ,g,w=>Gt P main iV JY (λγ g w=>g.status=.running/\mayWake P g=true/\∃g',g'.status=.running/\(∀s r tm,w.heap[c]? =some (.chan 0 #[] false s r tm)->stepG P main g w=.go g' (w.setChan c 0 #[] true s r tm) (closeEvents c))/\∀w1,iV γ w w1->Pr P aa main k γ g' w1) γ g w
 |.go child k,γ,g,w=>Gt P main iV JY (λγ g w=>g.status=.running/\∃g' ch,g'.status=.running/\stepG P main g w=.spawn g' ch w/\ch.status=.running/\(∀w1,iV γ.give w w1->Pr P aa false child γ.give ch w1)/\∀w1,iV γ.give w w1->Pr P aa main k γ.give g' w1) γ g w
theorem abx{p:Pc}(hp:p≠.ret){γ:So}{g:Goroutine}{w w1:World}(h:Pr P aa main p γ g w)(r:iV γ w w1):Pr P aa main p γ g w1:=by
 cases p with
 |stop=>exact h
 |ret=>exact absurd rfl hp
 |bad=>trivial
 |send c v k=>exact C8 Gh h r
 |recv c ok z k=>exact C8 Gh h r
 |close c k=>exact C8 Gh h r
 |go ch k=>exact C8 Gh h r
abbrev Gm:=Pc×So
def CQ(γ:Gm)(w w1:World):Prop:=match γ.1 with|.ret=>∃d,w1=w.at d|_=>iV γ.2 w w1
def H7(γ:Gm)(w:World)(γ':Gm)(w':World)(es:Array Event):Prop:=γ'.1=γ.1/\match γ.1 with|.ret=>True|_=>JY γ.2 w γ'.2 w' es
def KG(P:Program)(aa:Machine->Trace->Prop)(main:Bool)(γ:Gm)(g:Goroutine)(w:World):Prop:=(main=false->γ.1≠.ret)->γ.1≠.stop->Pr P aa main γ.1 γ.2 g w
theorem BA(hP:Plain P):KC P main (KG P aa main) CQ H7 where
 step:=λγ fr cs w h hm hne=>by
  obtain⟨p,γ⟩:=γ;have key:∀{Stop:So->Goroutine->World->Prop},(∀γ g w,Pr P aa main p γ g w↔Gt P main iV JY Stop γ g w)->p≠.ret->p≠.stop->Pr P aa main p γ (G fr cs) w:=by
   intro Stop hs hr hst;rw[hs];refine ab1 rfl λw1 h1=>?_;have M7:CQ (p,γ) w w1:=by unfold CQ;cases p<;>first|exact h1|exact absurd rfl hr
   obtain⟨fr',iB,w',es,γ',e,aal,hk⟩:=h w1 M7;obtain⟨p',γ'⟩:=γ';obtain⟨sY,aal⟩:=aal;simp only at sY;subst sY;have Cv:JY γ w1 γ' w' es:=by grind
   exact⟨_,_,_,γ',e,Cv,(hs _ _ _).1 (hk (λ_=>hr) hst)⟩
  cases p with
  |stop=>exact absurd rfl hne
  |ret=>
   cases main with
   |false=>exact absurd rfl (hm rfl)
   |true=>refine⟨rfl,(yQ hP).step () fr cs w λw1 h1=>?_⟩;obtain⟨fr',iB,w',es,γ',e,⟨sY,-⟩,hk⟩:=h w1 h1;obtain⟨p',γ'⟩:=γ';simp only at sY;subst sY;exact⟨fr',iB,w',es,(),e,trivial,(hk hm hne).2⟩
  |bad=>trivial
  |send c v k=>exact key (λ_ _ _=>Iff.rfl) ae ae
  |recv c ok z k=>exact key (λ_ _ _=>Iff.rfl) ae ae
  |close c k=>exact key (λ_ _ _=>Iff.rfl) ae ae
  |go ch k=>exact key (λ_ _ _=>Iff.rfl) ae ae
 idle:=λγ w=>by obtain⟨p,γ⟩:=γ;refine⟨rfl,?_⟩;cases p<;>first|exact trivial|exact⟨rfl,KY γ.1 γ.2 w⟩
 rely:=λγ g w w1 r h hm hne=>by obtain⟨p,γ⟩:=γ;by_cases hp:p=.ret;subst hp;obtain⟨d,rfl⟩:=r;exact⟨(h hm hne).1,λd'=>(h hm hne).2 d'⟩;refine abx hp (h hm hne) ?_;unfold CQ at r;cases p<;>first|exact r|exact absurd rfl hp
end Go.Co
namespace Go.Co
open Go Go.Conc
variable {P:Program} {aa:Machine->Trace->Prop} {main:Bool} {fn:FuncId} {γ:So} {ops:Array Oper} {i:Nat} {rest:cy} {o:Oper} {Q:Gm->Exit->Act->World->Prop} {a:Act} {w:World}
theorem AQ(ho:ops[i]? =some o)(b:Frame)(k:List Item)(cs:List Frame)(v:Value):
  Conc.served (G (b.at a (.inRegion ops (i::rest)::k)) cs) v=G (b.at (a.put o.dst v) (.inRegion ops rest::k)) cs:=by
 have:(b.at a (.inRegion ops (i::rest)::k)).finish v=b.at (a.put o.dst v) (.inRegion ops rest::k):=by rw[Frame.finish_at,ho];rfl
 simp[Conc.served,G,this]
theorem abR{c:Nat}{v:Value}{p:Pc}{ch x:Operand}
  (ho:ops[i]? =some o) (hw:Region.wanted o (yielded ops a.tmps)=true) (hop:o.op=.send ch x) (hch:a.eval ch=.chan (some c)) (hx:a.eval x=v) (hs:p≠.stop) (hr:p≠.ret)
  (h:∀w1,iV γ w w1->KO (KG P aa main) fn (p,γ) ops rest Q (a.put o.dst undef) w1):KO (KG P aa main) fn (.send c v p,γ) ops (i::rest) Q a w:=by
 intro b k cs hb hk hc _ _;refine yS λw1 h1=>?_;have hrun:(execOp a.eval o).run P w1=.ok (.comm #[scase c v (.tuple #[])] true .send) w1:=by simp only[execOp,hop,hch,hx];rfl
 have hl:listed P b.fn a o w1=#[]:=by refine listed_nil ?_;simp only[execOp,hop];rfl
 have hst:=stepG_comm (P:=P) (main:=main) (b:=b) (k:=k) (cs:=cs) (rest:=rest) ho hw hk hrun;rw[hl]at hst;refine⟨⟨rfl,.tuple #[],hst⟩,λw2 h2=>?_⟩;rw[AQ ho];exact h w2 (gU h1 h2) b k cs hb hk hc (λ_=>hr) hs
theorem JJ{c:Nat}{v:Value}{ch x:Operand}{b:Frame}{k:List Item}{cs:List Frame}
  (ho:ops[i]? =some o) (hw:Region.wanted o (yielded ops a.tmps)=true) (hop:o.op=.send ch x) (hch:a.eval ch=.chan (some c)) (hx:a.eval x=v) (hk:b.kind≠.early)
  (h:∃n,QuitsD P n 0 (G (b.at (a.put o.dst undef) (.inRegion ops rest::k)) cs)):KG P aa main (.send c v .stop,γ) (G (b.at a (.inRegion ops (i::rest)::k)) cs) w:=by
 intro _ _;refine yS λw1 h1=>?_;have hrun:(execOp a.eval o).run P w1=.ok (.comm #[scase c v (.tuple #[])] true .send) w1:=by simp only[execOp,hop,hch,hx];rfl
 have hl:listed P b.fn a o w1=#[]:=by refine listed_nil ?_;simp only[execOp,hop];rfl
 have hst:=stepG_comm (P:=P) (main:=main) (b:=b) (k:=k) (cs:=cs) (rest:=rest) ho hw hk hrun;rw[hl]at hst;refine⟨⟨rfl,.tuple #[],hst⟩,λw2 h2=>?_⟩;rw[AQ ho];exact h
theorem Jj{c:Nat}{ok:Bool}{z:Value}{p:Option Value->Pc}
  (ho:ops[i]? =some o) (hw:Region.wanted o (yielded ops a.tmps)=true)
  (hrun:∀w,(execOp a.eval o).run P w=.ok (.comm #[rcase c z] true (.recv ok)) w) (wu:∀w,(execOp a.eval o).events P w #[]=#[])
  (hs:∀x,p x≠.stop) (hr:main=false->∀x,p x≠.ret)
  (h:∀x w1,iV γ w w1->KO (KG P aa main) fn (p x,γ) ops rest Q (a.put o.dst (recvd ok (x.getD z) x.isSome)) w1):KO (KG P aa main) fn (.recv c ok z p,γ) ops (i::rest) Q a w:=by
 intro b k cs hb hk hc _ _;refine yS λw1 h1=>?_;have hl:listed P b.fn a o w1=#[]:=listed_nil (wu w1);have hst:=stepG_comm (P:=P) (main:=main) (b:=b) (k:=k) (cs:=cs) (rest:=rest) ho hw hk (hrun w1);rw[hl]at hst;refine⟨⟨rfl,hst⟩,λx w2 h2=>?_⟩;rw[AQ ho];exact h x w2 (gU h1 h2) b k cs hb hk hc (λhm=>hr hm x) (hs x)
theorem ac0{child p:Pc}{d:Deferred}{f:Fn}{cap:Array Value}
  (ho:ops[i]? =some o) (hw:Region.wanted o (yielded ops a.tmps)=true) (hrun:∀w,(execOp a.eval o).run P w=.ok (.spawn d) w) (wu:∀w,(execOp a.eval o).events P w #[]=#[]) (hd:d.target=.fn f cap)
  (hs:p≠.stop) (hr:main=false->p≠.ret)
  (hch:∀w1,iV γ w w1->∀w2,iV γ.give w1 w2->Pr P aa false child γ.give (born P d) w2)
  (h:∀w1,iV γ w w1->∀w2,iV γ.give w1 w2->KO (KG P aa main) fn (p,γ.give) ops rest Q (a.put o.dst undef) w2):KO (KG P aa main) fn (.go child p,γ) ops (i::rest) Q a w:=by
 intro b k cs hb hk hc _ _;refine yS λw1 h1=>?_;have hl:listed P b.fn a o w1=#[]:=listed_nil (wu w1);have hst:=stepG_spawn (P:=P) (main:=main) (b:=b) (k:=k) (cs:=cs) (rest:=rest) ho hw hk (hrun w1) hd;rw[hl]at hst;exact⟨rfl,_,_,rfl,hst,rfl,λw2 h2=>hch w1 h1 w2 h2,λw2 h2=>h w1 h1 w2 h2 b k cs hb hk hc hr hs⟩
theorem F3{c:Nat}{x:Operand}{ats:Array TypeId}{b:Frame}{k:List Item}{cs:List Frame}(hq:∀f:FuncId,(P.funcs[f]?).any (·.norace)=false)
  (ho:ops[i]? =some o) (hw:Region.wanted o (yielded ops a.tmps)=true) (hop:o.op=.call {callee:=.builtin .close,args:=#[x],argTypes:=ats}) (hx:a.eval x=.chan (some c)) (hk:b.kind≠.early)
  (h:∃n,QuitsD P n 0 (G (b.at (a.put o.dst (.tuple #[])) (.inRegion ops rest::k)) cs)):KG P aa main (.close c .stop,γ) (G (b.at a (.inRegion ops (i::rest)::k)) cs) w:=by
 intro _ _;refine yS λw1 h1=>⟨rfl,?_,_,rfl,λs r tm hc=>stepG_close ho hw hk hop hx hc (hq _),λw2 _=>h⟩;simp[mayWake,G,Frame.at,ho,hop]
end Go.Co
namespace Go.Co
open Go Go.Conc
open Go.ConcN (upd upd_same upd_ne)
structure Net where
 n:Nat
 pr:Nat->Pc
 D:Nat->Nat->Prop
 cl:Nat->Option (Nat->Prop)
def Pc.over (p:Pc):Prop:=p=.stop
namespace Net
variable (N:Net)
def meet(i j:Nat)(k k':Pc):Net:=
 {N with
  pr:=upd (upd N.pr i k) j k'
  D:=λx y=>if x=i\/x=j then N.D i y\/N.D j y\/(y=i/\k=.stop)\/(y=j/\k'=.stop)else N.D x y}
def shut(i c:Nat)(k:Pc):Net:=
 {N with pr:=upd N.pr i k,cl:=upd N.cl c (some λy=>N.D i y\/(y=i/\k=.stop))}
def hear(j:Nat)(k:Pc)(E:Nat->Prop):Net:=
 {N with pr:=upd N.pr j k,D:=λx y=>if x=j then N.D j y\/E y else N.D x y}
def start(i:Nat)(ch k:Pc):Net:=
 {N with n:=N.n+1,pr:=upd (upd N.pr i k) N.n ch,D:=λx y=>if x=N.n then N.D i y else N.D x y}
end Net
inductive Dp (Cs:Nat->Prop):Net->Prop
 |done (N:Net):N.pr 0=.ret->(∀j,0<j->j<N.n->N.pr j=.stop/\N.D 0 j)->Dp Cs N
 |step (N:Net):
  (∀j,j<N.n->N.pr j≠.ret/\N.pr j≠.bad)->N.pr 0≠.stop->
  (∀i c v k,i<N.n->N.pr i=.send c v k->N.cl c=none/\Cs c)->
  (∀j c ok z k,j<N.n->N.pr j=.recv c ok z k->Cs c)->
  ((∃i j c v k ok z k',i<N.n/\j<N.n/\N.pr i=.send c v k/\N.pr j=.recv c ok z k')\/(∃i c k,i<N.n/\N.pr i=.close c k)\/(∃j c ok z k E,j<N.n/\N.pr j=.recv c ok z k/\N.cl c=some E)\/(∃i ch k,i<N.n/\N.pr i=.go ch k))->
  (∀i j c v k ok z k',i<N.n->j<N.n->N.pr i=.send c v k->N.pr j=.recv c ok z k'->Dp Cs (N.meet i j k (k' (some v))))->
  (∀i c k,i<N.n->N.pr i=.close c k->N.cl c=none/\Cs c)->
  (∀i c k,i<N.n->N.pr i=.close c k->Dp Cs (N.shut i c k))->
  (∀j c ok z k E,j<N.n->N.pr j=.recv c ok z k->N.cl c=some E->Dp Cs (N.hear j (k none) E))->
  (∀i ch k,i<N.n->N.pr i=.go ch k->Dp Cs (N.start i ch k))->Dp Cs N
structure TI (N:Net) (γ:Nat->So) (sz:Nat) (tp:Nat) (t:Trace):Prop where
 clean:∀said,¬Race said t
 hears:∀j,(N.pr j≠.stop\/N.n<=j)->Deaf t j=0
 pre:∀i a j,i<tp->touchAt t i=some a->a.loc.isMemory=true->N.pr j≠.stop->j<N.n->Knows t j i
 own:∀i a b j,tp<=i->touchAt t i=some a->a.loc=.cell b->(γ j).2 b.block->t.g? i=some j
 shr:∀i a b j,tp<=i->touchAt t i=some a->a.loc=.cell b->a.write=true->(γ j).1 b.block->N.pr j≠.stop->j<N.n->Knows t j i
 low:∀i a b,tp<=i->touchAt t i=some a->a.loc=.cell b->b.block<sz
 obj:∀i a,tp<=i->touchAt t i=some a->(∃b,a.loc=.cell b)\/(a.write=false/\a.kind=.atomic)
 num:∀i j,tp<=i->t.g? i=some j->j<N.n
 kn:∀i a j x,tp<=i->touchAt t i=some a->t.g? i=some j->N.pr j=.stop->N.D x j->(x=0\/N.pr x≠.stop)->x<N.n->Knows t x i
 kc:∀c E,N.cl c=some E->∃q z,t[q]? =some z/\z.act=.close c/\t.heard q/\∀i a j,tp<=i->touchAt t i=some a->t.g? i=some j->E j->Before t i q
 yh:∀j j' b,(γ j).2 b->¬(γ j').1 b/\(j≠j'->¬(γ j').2 b)
 H6:∀j b,(γ j).1 b\/(γ j).2 b->b<sz
 Px:∀c E j,N.cl c=some E->E j->j<N.n/\N.pr j=.stop
 dst:∀x j,N.D x j->j<N.n/\N.pr j=.stop
 tpl:tp<=t.size
theorem AE{t:Trace}{i j:Nat}(h:t.g? i=some j):Knows t j i:=by unfold Trace.g? at h;obtain⟨z,hz,rfl⟩:=af.1 h;exact knows_own hz
theorem TI.step {N:Net}{γ:Nat->So}{sz sz' tp:Nat}{t:Trace}(h:TI N γ sz tp t){j:Nat}(hj:j<N.n)(hl:N.pr j≠.stop){O':Nat->Prop}{es:Array Event}(fn:FuncId)(pos:String)
  (hsz:sz<=sz') (hO:∀b,O' b↔((γ j).2 b\/(sz<=b/\b<sz'))) (hes:∀e∈es,Z6 (γ j).1 O' e):
  TI N (upd γ j ((γ j).1,O')) sz' tp (t++MemOp.ofEvents j fn pos es):=by
 have hu:∀op∈MemOp.ofEvents j fn pos es,op.g=j:=λop hop=>by rw[ofEvents_eq]at hop;obtain⟨e,_,rfl⟩:=gp.1 hop;rfl
 have hut:∀op∈MemOp.ofEvents j fn pos es,∀b,op.act.touch?=some b->∃ad wr kd,b=⟨.cell ad,wr,kd⟩/\(wr=true->O' ad.block)/\((γ j).1 ad.block\/O' ad.block):=by intro op hop b hb;rw[ofEvents_eq]at hop;obtain⟨e,he,rfl⟩:=gp.1 hop;rcases hes e he with ⟨ad,wr,sy,rfl,h1,h2⟩|⟨m,rfl,hm⟩;simp[MemAct.ofEvent,MemAct.touch?]at hb;subst hb;exact⟨ad,wr,_,rfl,h1,h2⟩;have:=hm.touch;simp[MemAct.ofEvent,this]at hb
 have cG:∀i a,touchAt (t++MemOp.ofEvents j fn pos es) i=some a->(i<t.size/\touchAt t i=some a/\(t++MemOp.ofEvents j fn pos es).g? i=t.g? i)\/(t.size<=i/\(t++MemOp.ofEvents j fn pos es).g? i=some j/\∃ad wr kd,a=⟨.cell ad,wr,kd⟩/\(wr=true->O' ad.block)/\((γ j).1 ad.block\/O' ad.block)):=by intro i a ha;obtain⟨x,hx,Um⟩:=touch_of ha;rcases getElem?_append_cases hx with ⟨hlt,jY⟩|⟨JS,ZN⟩;exact .inl ⟨hlt,by rw[touchAt_of jY];exact Um,g?_old hlt⟩;exact .inr ⟨JS,by simp[Trace.g?,hx,hu x ZN],hut x ZN a Um⟩
 have lF:∀j' b,(upd γ j ((γ j).1,O') j').1 b↔(γ j').1 b:=by
  intro j' b;by_cases FE:j'=j;subst FE;rw[upd_same]
  rw[upd_ne _ _ FE]
 have dW:∀j' b,(upd γ j ((γ j).1,O') j').2 b->(γ j').2 b\/(j'=j/\sz<=b/\b<sz'):=by intro j' b hb;by_cases FE:j'=j;subst FE;rw[upd_same]at hb;exact((hO b).1 hb).imp id λh=>⟨rfl,h⟩;rw[upd_ne _ _ FE]at hb;exact .inl hb
 have hOb:∀b,O' b->b<sz':=λb hb=>((hO b).1 hb).elim (λh'=>cK (h.H6 j b (.inr h')) hsz) (·.2);refine⟨λsaid=>?_,λk nH=>?_,?_,?_,?_,?_,?_,?_,?_,?_,?_,?_,h.Px,h.dst,?_⟩;refine noRace_append (h.clean said) hu λi a ha op hop b hb hc=>?_;rcases qw i tp with hi|hi;exact h.pre i a j hi ha hc.2.1 hl hj;obtain⟨ad,wr,kd,rfl,h1,h2⟩:=hut op hop b hb;have kQ:a.loc=.cell ad:=hc.1;by_cases hS:(γ j).1 ad.block;have hw:wr=false:=by
  cases wr with
  |false=>rfl
  |true=>rcases(hO _).1 (h1 rfl)with h3|h3;exact absurd hS (h.yh j j _ h3).1;have:=h.H6 j _ (.inl hS);omega
 subst hw;have Uw:a.write=true:=by rcases hc.2.2.1 with h3|h3;exact h3;cases h3
 exact h.shr i a ad j hi ha kQ Uw hS hl hj;have hO':=h2.resolve_left hS;rcases(hO _).1 hO' with h3|h3;exact AE (h.own i a ad j hi ha kQ h3);have:=h.low i a ad hi ha kQ;omega;by_cases hk:k=j;subst hk;rw[Deaf_own,h.hears k (.inl hl)];refine Jo λe he=>?_;rcases hes e he with ⟨ad,wr,sy,rfl,-,-⟩|⟨m,rfl,hm⟩;simp;have h1:=hm.ne_disable;simp[h1];rw[Deaf_other t (Ne.symm hk) _ hu,h.hears k nH];intro i a k hi ha hm hlk hk;rcases cG i a ha with ⟨_,ha',_⟩|⟨JS,_,_⟩;exact(h.pre i a k hi ha' hm hlk hk).app _;have:=h.tpl;omega
 intro i a b k hi ha kQ hb;rcases cG i a ha with ⟨_,ha',hg⟩|⟨_,hg,ad,wr,kd,rfl,h1,h2⟩;rw[hg];rcases dW k _ hb with h3|⟨_,h3,_⟩;exact h.own i a b k hi ha' kQ h3;have:=h.low i a b hi ha' kQ;omega;rw[hg];cases kQ;by_cases hkj:k=j;rw[hkj];exfalso;rw[upd_ne _ _ hkj]at hb;have hd:=h.yh k j _ hb;rcases h2 with h3|h3
 grind
 rcases(hO _).1 h3 with h4|h4
 grind
 have:=h.H6 k _ (.inr hb);omega;intro i a b k hi ha kQ Uw hb hlk hk;rw[lF]at hb;rcases cG i a ha with ⟨_,ha',hg⟩|⟨_,hg,ad,wr,kd,rfl,h1,h2⟩;exact(h.shr i a b k hi ha' kQ Uw hb hlk hk).app _;cases kQ;exfalso;rcases(hO _).1 (h1 Uw)with h4|h4;exact(h.yh j k _ h4).1 hb;have:=h.H6 k _ (.inl hb);omega;intro i a b hi ha kQ;rcases cG i a ha with ⟨_,ha',_⟩|⟨_,_,ad,wr,kd,rfl,h1,h2⟩;exact cK (h.low i a b hi ha' kQ) hsz;cases kQ;rcases h2 with h3|h3;exact cK (h.H6 j _ (.inl h3)) hsz
 grind
 intro i a hi ha;rcases cG i a ha with ⟨_,ha',_⟩|⟨_,_,ad,wr,kd,rfl,h1,h2⟩;exact h.obj i a hi ha'
 grind
 intro i k hi hg;unfold Trace.g? at hg;obtain⟨z,hz,rfl⟩:=af.1 hg;rcases getElem?_append_cases hz with ⟨hlt,CJ⟩|⟨_,hzu⟩;exact h.num i z.g hi (by simp[Trace.g?,CJ])
 grind
 intro i a k x hi ha hg hs hD hx JP;rcases cG i a ha with ⟨_,ha',rT⟩|⟨_,rT,_⟩;rw[rT]at hg;exact(h.kn i a k x hi ha' hg hs hD hx JP).app _
 grind
 intro c E hE;obtain⟨q,z,hq,hz,hh,hk⟩:=h.kc c E hE;refine⟨q,z,by rw[getElem?_append_old (lt_size_of_getElem? hq)];exact hq,hz,(heard_old (lt_size_of_getElem? hq)).2 hh,λi a k hi ha hg hEk=>?_⟩;rcases cG i a ha with ⟨_,ha',rT⟩|⟨_,rT,_⟩;rw[rT]at hg;exact(hk i a k hi ha' hg hEk).app _;rw[rT]at hg;cases hg;exact absurd (h.Px c E j hE hEk).2 hl;intro k k' b hb;rw[lF];rcases dW k b hb with h3|⟨rfl,h3,h3'⟩;have:=h.yh k k' b h3;refine⟨this.1,λhne rQ=>?_⟩;rcases dW k' b rQ with h4|⟨_,h4,_⟩
 grind
 have:=h.H6 k b (.inr h3);omega;refine⟨λhS=>?_,λhne rQ=>?_⟩;have:=h.H6 k' b (.inl hS);omega;rcases dW k' b rQ with h4|⟨h4,_,_⟩;have:=h.H6 k' b (.inr h4);omega
 grind
 intro k b hb;rw[lF]at hb;rcases hb with hb|hb;exact cK (h.H6 k b (.inl hb)) hsz;rcases dW k b hb with h3|⟨_,_,h3⟩;exact cK (h.H6 k b (.inr h3)) hsz;exact h3;have:=h.tpl;simp;omega
theorem TI.move {N N':Net}{γ γ':Nat->So}{sz tp:Nat}{t u:Trace}(h:TI N γ sz tp t)
  (hu:∀op∈u,op.act.touch?=none) (hears:∀j,(N'.pr j≠.stop\/N'.n<=j)->Deaf (t++u) j=0) (hn:N.n<=N'.n) (Kb:∀op∈u,op.g<N'.n)
  (inh:∀j,N'.pr j≠.stop->j<N'.n->∃j0,j0<N.n/\N.pr j0≠.stop/\(∀x,Knows t j0 x->Knows (t++u) j x)/\∀b,(γ' j).1 b->(γ j0).1 b\/(γ j0).2 b)
  (dW:∀j b,(γ' j).2 b->(γ j).2 b)
  (ya:∀x y,N'.D x y->N'.pr y=.stop->(x=0\/N'.pr x≠.stop)->x<N'.n->∀i a,tp<=i->touchAt t i=some a->t.g? i=some y->Knows (t++u) x i)
  (hkc:∀c E,N'.cl c=some E->∃q z,(t++u)[q]? =some z/\z.act=.close c/\(t++u).heard q/\∀i a j,tp<=i->touchAt t i=some a->t.g? i=some j->E j->Before (t++u) i q)
  (ahu:∀j j' b,(γ' j).2 b->¬(γ' j').1 b/\(j≠j'->¬(γ' j').2 b)) (RU:∀j b,(γ' j).1 b\/(γ' j).2 b->b<sz)
  (ajz:∀c E j,N'.cl c=some E->E j->j<N'.n/\N'.pr j=.stop) (ajv:∀x j,N'.D x j->j<N'.n/\N'.pr j=.stop):TI N' γ' sz tp (t++u):=by
 have hold:∀i a,touchAt (t++u) i=some a->touchAt t i=some a/\i<t.size/\(t++u).g? i=t.g? i:=by
  intro i a ha;obtain⟨x,hx,Um⟩:=touch_of ha;rcases getElem?_append_cases hx with ⟨hlt,jY⟩|⟨_,ZN⟩;exact⟨by rw[touchAt_of jY];exact Um,hlt,g?_old hlt⟩
  grind
 refine⟨λsaid=>?_,hears,?_,?_,?_,?_,?_,?_,?_,?_,ahu,RU,ajz,ajv,?_⟩;rintro⟨i,j,Rz,⟨a,b,ha,hb,hc⟩,h1,h2⟩;obtain⟨ha',hia,-⟩:=hold i a ha;obtain⟨rQ,hjb,-⟩:=hold j b hb;exact h.clean said ⟨i,j,Rz,⟨a,b,ha',rQ,hc⟩,λx=>h1 (hb_app u x),λx=>h2 (hb_app u x)⟩;intro i a j hi ha hm hl hj;obtain⟨ha',-,-⟩:=hold i a ha;obtain⟨j0,h1,h2,h3,-⟩:=inh j hl hj;exact h3 i (h.pre i a j0 hi ha' hm h2 h1);intro i a b j hi ha kQ hb;obtain⟨ha',-,hg⟩:=hold i a ha;rw[hg];exact h.own i a b j hi ha' kQ (dW j _ hb);intro i a b j hi ha kQ hw hb hl hj;obtain⟨ha',-,-⟩:=hold i a ha;obtain⟨j0,h1,h2,h3,h4⟩:=inh j hl hj;rcases h4 _ hb with h5|h5;exact h3 i (h.shr i a b j0 hi ha' kQ hw h5 h2 h1);exact h3 i (AE (h.own i a b j0 hi ha' kQ h5));intro i a b hi ha kQ;exact h.low i a b hi (hold i a ha).1 kQ;intro i a hi ha;exact h.obj i a hi (hold i a ha).1;intro i k hi hg;unfold Trace.g? at hg;obtain⟨z,hz,rfl⟩:=af.1 hg;rcases getElem?_append_cases hz with ⟨hlt,CJ⟩|⟨_,hzu⟩;exact cK (h.num i z.g hi (by simp[Trace.g?,CJ])) hn
 grind
 grind
 grind
 have:=h.tpl;simp;omega
end Go.Co
namespace Go.Co
open Go Go.Conc
open Go.ConcN (upd upd_same upd_ne)
def nu(u:Trace):Prop:=∀op∈u,∀m,op.act≠.mark m
theorem sW{t u:Trace}(hu:nu u)(g:Nat):∀k,k<=u.size->(t++u).deaf g (t.size+k)=Deaf t g
 |0,_=>deaf_old (ai _)
 |k+1,hk=>by
  have ih:=sW (t:=t) hu g k ab;have hz:(t++u)[t.size+k]? =some u[k]:=by grind
  have:=deaf_succ (g:=g) hz;rw[<-fS,this,ih];have hm:=hu u[k] (Array.getElem_mem _);unfold deafStep;split
  grind
  grind
  rfl
theorem dw{t u:Trace}(hu:nu u)(g:Nat):Deaf (t++u) g=Deaf t g:=by have:=sW (t:=t) hu g u.size (ai _);unfold Deaf at*;rw[Array.size_append];exact this
theorem nw{t u:Trace}(hu:nu u){k:Nat}{z:MemOp}(hz:u[k]? =some z)(hd:Deaf t z.g=0):(t++u).heard (t.size+k):=by
 have hk:k<u.size:=(aG.1 hz).1;have CJ:(t++u)[t.size+k]? =some z:=by grind
 exact⟨z.g,by simp[Trace.g?,CJ],by rw[sW hu _ k ab,hd]⟩
theorem dn{t u:Trace}{k:Nat}{z:MemOp}(hz:u[k]? =some z):(t++u)[t.size+k]? =some z:=by grind
theorem Be{t u:Trace}(hu:nu u){i j x p q:Nat}{zp zq:MemOp}(hk:Knows t i x)(hp:u[p]? =some zp)(hq:u[q]? =some zq)(hpg:zp.g=i)(hqg:zq.g=j)
  (hn:Notices (t++u) (t.size+p) (t.size+q)) (M4:Deaf t i=0) (Uu:Deaf t j=0):Knows (t++u) j x:=by
 have h1:=hk.hb_new (u:=u) (Nat.le_add_right t.size p) (dn hp) hpg;have h2:HappensBefore (t++u) (t.size+p) (t.size+q):=.single (.inr ⟨hn,nw hu hp (hpg▸M4),nw hu hq (hqg▸Uu)⟩);exact⟨t.size+q,zq,dn hq,hqg,.inr (h1.trans h2)⟩
def eX(i j c s:Nat)(f f':FuncId)(p p':String):Trace:=
 #[{g:=i,fn:=f,pos:=p,act:=.send c s},{g:=j,fn:=f',pos:=p',act:=.recv c s 0},{g:=i,fn:=f,pos:=p,act:=.sendDone c s},{g:=j,fn:=f',pos:=p',act:=.recvDone c s}]
theorem jS(i j c s:Nat)(f f':FuncId)(p p':String):nu (eX i j c s f f' p p'):=by intro op hop m;simp only[eX,eC,aV,ek,or_false]at hop;rcases hop with rfl|rfl|rfl|rfl<;>simp
theorem OE(i j c s:Nat)(f f':FuncId)(p p':String):∀op∈eX i j c s f f' p p',op.act.touch?=none:=by intro op hop;simp only[eX,eC,aV,ek,or_false]at hop;rcases hop with rfl|rfl|rfl|rfl<;>rfl
theorem abB{t:Trace}{i j c s x:Nat}{f f':FuncId}{p p':String}(hk:Knows t i x)(M4:Deaf t i=0)(Uu:Deaf t j=0):Knows (t++eX i j c s f f' p p') j x:=
 Be (jS i j c s f f' p p') (p:=0) (q:=3) hk rfl rfl rfl rfl
  (.handOver (c:=c) (k:=s) (by rw[act?_of (dn (t:=t) (u:=eX i j c s f f' p p') (k:=0) rfl)];rfl) (by rw[act?_of (dn (t:=t) (u:=eX i j c s f f' p p') (k:=3) rfl)];rfl)) M4 Uu
theorem Ti{t:Trace}{i j c s x:Nat}{f f':FuncId}{p p':String}(hk:Knows t j x)(M4:Deaf t i=0)(Uu:Deaf t j=0):Knows (t++eX i j c s f f' p p') i x:=
 Be (jS i j c s f f' p p') (p:=1) (q:=2) hk rfl rfl rfl rfl
  (.room (c:=c) (k:=s) (cap:=0) (by rw[act?_of (dn (t:=t) (u:=eX i j c s f f' p p') (k:=1) rfl)];rfl) (by rw[act?_of (dn (t:=t) (u:=eX i j c s f f' p p') (k:=2) rfl)];rfl)) Uu M4
theorem TI.meet {N:Net}{γ:Nat->So}{sz tp:Nat}{t:Trace}(h:TI N γ sz tp t){i j c s:Nat}{v:Value}{k:Pc}{ok:Bool}{z:Value}{k':Pc}{kr:Option Value->Pc}(hi:i<N.n)(hj:j<N.n)(Rz:i≠j)
  (hs:N.pr i=.send c v k) (hr:N.pr j=.recv c ok z kr) (f f':FuncId) (p p':String):TI (N.meet i j k k') γ sz tp (t++eX i j c s f f' p p'):=by
 have CK:N.pr i≠.stop:=by rw[hs];simp
 have ZU:N.pr j≠.stop:=by rw[hr];simp
 have M4:=h.hears i (.inl CK);have Uu:=h.hears j (.inl ZU);have tj:∀y,y≠i->y≠j->(N.meet i j k k').pr y=N.pr y:=λy h1 h2=>by show upd (upd N.pr i k) j k' y=_;rw[upd_ne _ _ h2,upd_ne _ _ h1]
 have J4:(N.meet i j k k').pr j=k':=upd_same _ _ _;have F8:(N.meet i j k k').pr i=k:=by show upd (upd N.pr i k) j k' i=_;rw[upd_ne _ _ Rz,upd_same]
 have live:∀y,(N.meet i j k k').pr y≠.stop->N.pr y≠.stop:=λy hy=>by
  by_cases h1:y=i
  grind
  grind
 have gJ:∀y,N.pr y=.stop->(N.meet i j k k').pr y=.stop:=λy hy=>by have h1:y≠i:=λe=>CK (e▸hy);have h2:y≠j:=λe=>ZU (e▸hy);rw[tj y h1 h2,hy]
 have Nl:∀y x,y<N.n->Knows t y x->Knows (t++eX i j c s f f' p p') y x:=λy x _ hk=>hk.app _;refine h.move (OE _ _ _ _ _ _ _ _) (λy hy=>?_) (ai _) ?_ (λy hy MV=>⟨y,MV,live y hy,λx hx=>hx.app _,λb hb=>.inl hb⟩) (λ_ _ hb=>hb) ?_ ?_ h.yh h.H6 ?_ ?_;rw[dw (jS _ _ _ _ _ _ _ _)];exact h.hears y (hy.imp (live y) id);intro op hop;simp only[eX,eC,aV,ek,or_false]at hop;rcases hop with rfl|rfl|rfl|rfl;exact hi;exact hj;exact hi;exact hj;intro x y hD hy hx JP q a hq ha hg;have jY:x=0\/N.pr x≠.stop:=hx.imp id (live x);have adl:Knows t i q->Knows (t++eX i j c s f f' p p') i q/\Knows (t++eX i j c s f f' p p') j q:=λhk=>⟨hk.app _,abB hk M4 Uu⟩;have adk:Knows t j q->Knows (t++eX i j c s f f' p p') i q/\Knows (t++eX i j c s f f' p p') j q:=λhk=>⟨Ti hk M4 Uu,hk.app _⟩;by_cases RQ:x=i\/x=j;have Z4:N.D i y\/N.D j y\/(y=i/\k=.stop)\/(y=j/\k'=.stop):=by
  have:(if x=i\/x=j then N.D i y\/N.D j y\/(y=i/\k=.stop)\/(y=j/\k'=.stop)else N.D x y):=hD
  rwa [if_pos RQ]at this
 have both:Knows (t++eX i j c s f f' p p') i q/\Knows (t++eX i j c s f f' p p') j q:=by rcases Z4 with h1|h1|⟨rfl,_⟩|⟨rfl,_⟩;exact adl (h.kn q a y i hq ha hg (h.dst i y h1).2 h1 (.inr CK) hi);exact adk (h.kn q a y j hq ha hg (h.dst j y h1).2 h1 (.inr ZU) hj);exact adl (AE hg);exact adk (AE hg)
 rcases RQ with rfl|rfl
 grind
 grind
 have Z4:N.D x y:=by
  have:(if x=i\/x=j then N.D i y\/N.D j y\/(y=i/\k=.stop)\/(y=j/\k'=.stop)else N.D x y):=hD
  rwa [if_neg RQ]at this
 exact(h.kn q a y x hq ha hg (h.dst x y Z4).2 Z4 jY JP).app _;intro c' E hE;obtain⟨q,z,hq,hz,hh,hk⟩:=h.kc c' E hE;exact⟨q,z,by rw[getElem?_append_old (lt_size_of_getElem? hq)];exact hq,hz,(heard_old (lt_size_of_getElem? hq)).2 hh,λx a y hx ha hg UZ=>(hk x a y hx ha hg UZ).app _⟩;intro c' E y hE hy;exact⟨(h.Px c' E y hE hy).1,gJ y (h.Px c' E y hE hy).2⟩;intro x y hD;by_cases RQ:x=i\/x=j;have Z4:N.D i y\/N.D j y\/(y=i/\k=.stop)\/(y=j/\k'=.stop):=by
  have:(if x=i\/x=j then N.D i y\/N.D j y\/(y=i/\k=.stop)\/(y=j/\k'=.stop)else N.D x y):=hD
  rwa [if_pos RQ]at this
 rcases Z4 with h1|h1|⟨rfl,h1⟩|⟨rfl,h1⟩;exact⟨(h.dst i y h1).1,gJ y (h.dst i y h1).2⟩;exact⟨(h.dst j y h1).1,gJ y (h.dst j y h1).2⟩;exact⟨hi,by rw[F8];exact h1⟩;exact⟨hj,by rw[J4];exact h1⟩;have Z4:N.D x y:=by
  have:(if x=i\/x=j then N.D i y\/N.D j y\/(y=i/\k=.stop)\/(y=j/\k'=.stop)else N.D x y):=hD
  rwa [if_neg RQ]at this
 exact⟨(h.dst x y Z4).1,gJ y (h.dst x y Z4).2⟩
def tZ(i n:Nat)(f f':FuncId)(p p':String):Trace:=#[{g:=i,fn:=f,pos:=p,act:=.go n},{g:=n,fn:=f',pos:=p',act:=.start}]
theorem xV(i n:Nat)(f f':FuncId)(p p':String):nu (tZ i n f f' p p'):=by intro op hop m;simp only[tZ,eC,aV,ek,or_false]at hop;rcases hop with rfl|rfl<;>simp
theorem YU(i n:Nat)(f f':FuncId)(p p':String):∀op∈tZ i n f f' p p',op.act.touch?=none:=by intro op hop;simp only[tZ,eC,aV,ek,or_false]at hop;rcases hop with rfl|rfl<;>rfl
theorem adh{t:Trace}{i n x:Nat}{f f':FuncId}{p p':String}(hk:Knows t i x)(M4:Deaf t i=0)(hdn:Deaf t n=0):Knows (t++tZ i n f f' p p') n x:=
 Be (xV i n f f' p p') (p:=0) (q:=1) hk rfl rfl rfl rfl
  (.spawn (child:=n) (by rw[act?_of (dn (t:=t) (u:=tZ i n f f' p p') (k:=0) rfl)];rfl) (by rw[act?_of (dn (t:=t) (u:=tZ i n f f' p p') (k:=1) rfl)];rfl)
   (by simp only[Trace.g?];rw[dn (t:=t) (u:=tZ i n f f' p p') (k:=1) rfl];rfl)) M4 hdn
theorem TI.start {N:Net}{γ:Nat->So}{sz tp:Nat}{t:Trace}(h:TI N γ sz tp t){i:Nat}{ch k:Pc}(hi:i<N.n)(hg:N.pr i=.go ch k)(f f':FuncId)(p p':String):
  TI (N.start i ch k) (upd (upd γ i (γ i).give) N.n (γ i).give) sz tp (t++tZ i N.n f f' p p'):=by
 have CK:N.pr i≠.stop:=by rw[hg];simp
 have M4:=h.hears i (.inl CK);have hdn:=h.hears N.n (.inr (ai _));have nQ:i≠N.n:=ab
 have tj:∀y,y≠i->y≠N.n->(N.start i ch k).pr y=N.pr y:=λy h1 h2=>by show upd (upd N.pr i k) N.n ch y=_;rw[upd_ne _ _ h2,upd_ne _ _ h1]
 have hγ:∀y,y≠i->y≠N.n->upd (upd γ i (γ i).give) N.n (γ i).give y=γ y:=λy h1 h2=>by rw[upd_ne _ _ h2,upd_ne _ _ h1]
 have hγn:upd (upd γ i (γ i).give) N.n (γ i).give N.n=(γ i).give:=upd_same _ _ _;have hγi:upd (upd γ i (γ i).give) N.n (γ i).give i=(γ i).give:=by rw[upd_ne _ _ nQ,upd_same]
 have own:∀y b,(upd (upd γ i (γ i).give) N.n (γ i).give y).2 b->(γ y).2 b/\y≠i/\y≠N.n:=by
  intro y b hb;by_cases h1:y=i;rw[h1,hγi]at hb;exact hb.elim
  by_cases h2:y=N.n;rw[h2,hγn]at hb;exact hb.elim
  grind
 have sh:∀y b,(upd (upd γ i (γ i).give) N.n (γ i).give y).1 b->(γ y).1 b\/(γ i).1 b\/(γ i).2 b:=by
  intro y b hb;by_cases h1:y=i;rw[h1,hγi]at hb;exact .inr hb
  by_cases h2:y=N.n;rw[h2,hγn]at hb;exact .inr hb
  grind
 have gJ:∀y,y<N.n->N.pr y=.stop->(N.start i ch k).pr y=.stop:=λy MV hy=>by
  have h1:y≠i:=λe=>CK (e▸hy);have h2:y≠N.n:=ab
  rw[tj y h1 h2,hy]
 refine h.move (N':=N.start i ch k) (YU _ _ _ _ _ _) (λy hy=>?_) (Nat.le_succ _) ?_ (λy hy MV=>?_) (λy b hb=>(own y b hb).1) ?_ ?_ ?_ ?_ ?_ ?_;rw[dw (xV _ _ _ _ _ _)];by_cases h1:y=i
 grind
 by_cases h2:y=N.n
 grind
 refine h.hears y (hy.imp (λh3=>by rwa [tj y h1 h2]at h3) λh3=>?_);have h3:N.n+1<=y:=h3;omega;intro op hop;simp only[tZ,eC,aV,ek,or_false]at hop;rcases hop with rfl|rfl;exact qz hi;exact vB _;by_cases h2:y=N.n;subst h2;exact⟨i,hi,CK,λx hx=>adh hx M4 hdn,λb hb=>by rw[hγn]at hb;exact hb⟩;have ako:y<N.n+1:=MV;by_cases h1:y=i;subst h1;exact⟨y,hi,CK,λx hx=>hx.app _,λb hb=>by rw[hγi]at hb;exact hb⟩;exact⟨y,ab,by rwa [tj y h1 h2]at hy,λx hx=>hx.app _,λb hb=>by rw[hγ y h1 h2]at hb;exact .inl hb⟩;intro x y hD hy hx JP q a hq ha hgq;have FH:(if x=N.n then N.D i y else N.D x y):=hD;by_cases adQ:x=N.n;rw[if_pos adQ]at FH;subst adQ;exact adh (h.kn q a y i hq ha hgq (h.dst i y FH).2 FH (.inr CK) hi) M4 hdn;rw[if_neg adQ]at FH;have akp:x<N.n+1:=JP;refine(h.kn q a y x hq ha hgq (h.dst x y FH).2 FH ?_ ab).app _;rcases hx with h1|h1
 grind
 grind
 intro c' E hE;obtain⟨q,z,hq,hz,hh,hk⟩:=h.kc c' E hE;exact⟨q,z,by rw[getElem?_append_old (lt_size_of_getElem? hq)];exact hq,hz,(heard_old (lt_size_of_getElem? hq)).2 hh,λx a y hx ha hgx UZ=>(hk x a y hx ha hgx UZ).app _⟩;intro y y' b hb;obtain⟨h1,h2,h3⟩:=own y b hb;refine⟨λhS=>?_,λhne rQ=>(h.yh y y' b h1).2 hne (own y' b rQ).1⟩;rcases sh y' b hS with h4|h4|h4;exact(h.yh y y' b h1).1 h4;exact(h.yh y i b h1).1 h4;exact(h.yh y i b h1).2 h2 h4;intro y b hb;rcases hb with hb|hb;rcases sh y b hb with h4|h4;exact h.H6 y b (.inl h4);exact h.H6 i b h4;exact h.H6 y b (.inr (own y b hb).1);intro c' E y hE hy;have:=h.Px c' E y hE hy;exact⟨qz this.1,gJ y this.1 this.2⟩;intro x y hD;have FH:(if x=N.n then N.D i y else N.D x y):=hD;have:=if hx:x=N.n then h.dst i y (by rwa [if_pos hx]at FH)else h.dst x y (by rwa [if_neg hx]at FH);exact⟨qz this.1,gJ y this.1 this.2⟩
theorem TI.look {N:Net}{γ:Nat->So}{sz tp:Nat}{t:Trace}(h:TI N γ sz tp t){j:Nat}(hj:j<N.n)(hl:N.pr j≠.stop)(c:Nat)(fn:FuncId)(pos:String):
  TI N γ sz tp (t++#[{g:=j,fn,pos,act:=.access ⟨.obj c,false,true⟩}]):=by
 have Ck:nu #[({g:=j,fn,pos,act:=.access ⟨.obj c,false,true⟩}:MemOp)]:=by intro op hop m;simp only[eC,bX]at hop;subst hop;simp
 have cG:∀i a,touchAt (t++#[({g:=j,fn,pos,act:=.access ⟨.obj c,false,true⟩}:MemOp)]) i=some a->(touchAt t i=some a/\(t++#[({g:=j,fn,pos,act:=.access ⟨.obj c,false,true⟩}:MemOp)]).g? i=t.g? i)\/(t.size<=i/\(t++#[({g:=j,fn,pos,act:=.access ⟨.obj c,false,true⟩}:MemOp)]).g? i=some j/\a=⟨.obj c,false,.atomic⟩):=by intro i a ha;obtain⟨x,hx,Um⟩:=touch_of ha;rcases getElem?_append_cases hx with ⟨hlt,jY⟩|⟨JS,ZN⟩;exact .inl ⟨by rw[touchAt_of jY];exact Um,g?_old hlt⟩;simp only[eC,bX]at ZN;subst ZN;simp[MemAct.touch?]at Um;exact .inr ⟨JS,by unfold Trace.g?;rw[hx];rfl,Um.symm⟩
 refine⟨λsaid=>?_,λk hk=>by rw[dw Ck];exact h.hears k hk,?_,?_,?_,?_,?_,?_,?_,?_,h.yh,h.H6,h.Px,h.dst,?_⟩;refine noRace_append (h.clean said) (g:=j) (λop hop=>by simp only[eC,bX]at hop;subst hop;rfl) λi a ha op hop b hb hc=>?_;simp only[eC,bX]at hop;subst hop;simp[MemAct.touch?]at hb;subst hb;rcases qw i tp with hi|hi;exact h.pre i a j hi ha hc.2.1 hl hj;exfalso;rcases h.obj i a hi ha with ⟨b,hb⟩|⟨hw,_⟩;rw[hc.1]at hb;cases hb
 rcases hc.2.2.1 with h1|h1
 grind
 cases h1;intro i a k hi ha hm hlk hk;rcases cG i a ha with ⟨ha',_⟩|⟨JS,_,_⟩;exact(h.pre i a k hi ha' hm hlk hk).app _;have:=h.tpl;omega
 intro i a b k hi ha kQ hb;rcases cG i a ha with ⟨ha',hg⟩|⟨_,_,rfl⟩;rw[hg];exact h.own i a b k hi ha' kQ hb
 cases kQ;intro i a b k hi ha kQ Uw hb hlk hk;rcases cG i a ha with ⟨ha',hg⟩|⟨_,_,rfl⟩;exact(h.shr i a b k hi ha' kQ Uw hb hlk hk).app _;cases kQ;intro i a b hi ha kQ;rcases cG i a ha with ⟨ha',hg⟩|⟨_,_,rfl⟩;exact h.low i a b hi ha' kQ;cases kQ;intro i a hi ha;rcases cG i a ha with ⟨ha',hg⟩|⟨_,_,rfl⟩;exact h.obj i a hi ha'
 grind
 intro i k hi hg;unfold Trace.g? at hg;obtain⟨z,hz,rfl⟩:=af.1 hg;rcases getElem?_append_cases hz with ⟨hlt,CJ⟩|⟨_,hzu⟩;exact h.num i z.g hi (by simp[Trace.g?,CJ])
 grind
 intro i a k x hi ha hg hs hD hx JP;rcases cG i a ha with ⟨ha',rT⟩|⟨_,rT,_⟩;rw[rT]at hg;exact(h.kn i a k x hi ha' hg hs hD hx JP).app _
 grind
 intro c E hE;obtain⟨q,z,hq,hz,hh,hk⟩:=h.kc c E hE;refine⟨q,z,by rw[getElem?_append_old (lt_size_of_getElem? hq)];exact hq,hz,(heard_old (lt_size_of_getElem? hq)).2 hh,λi a k hi ha hg hEk=>?_⟩;rcases cG i a ha with ⟨ha',rT⟩|⟨_,rT,_⟩;rw[rT]at hg;exact(hk i a k hi ha' hg hEk).app _;rw[rT]at hg;cases hg;exact absurd (h.Px c E j hE hEk).2 hl;have:=h.tpl;simp;omega
theorem TI.shut {N:Net}{γ:Nat->So}{sz tp:Nat}{t:Trace}(h0:TI N γ sz tp t){i c:Nat}{k:Pc}(hi:i<N.n)(hg:N.pr i=.close c k)(fn:FuncId)(pos:String):
  TI (N.shut i c k) γ sz tp (t++MemOp.ofEvents i fn pos (closeEvents c)):=by
 have CK:N.pr i≠.stop:=by rw[hg];simp
 have h:=h0.look hi CK c fn pos;have e:t++MemOp.ofEvents i fn pos (closeEvents c)=(t++#[{g:=i,fn,pos,act:=.access ⟨.obj c,false,true⟩}])++#[{g:=i,fn,pos,act:=.close c}]:=by rw[ofEvents_eq,Array.append_assoc];congr 1;simp[closeEvents,MemAct.ofEvent]
 rw[e];generalize t++#[{g:=i,fn,pos,act:=.access ⟨.obj c,false,true⟩}]=t at h;have Ck:nu #[({g:=i,fn,pos,act:=.close c}:MemOp)]:=by intro op hop m;simp only[eC,bX]at hop;subst hop;simp
 have M4:=h.hears i (.inl CK);have tj:∀y,y≠i->(N.shut i c k).pr y=N.pr y:=λy h1=>upd_ne _ _ h1;have F8:(N.shut i c k).pr i=k:=upd_same _ _ _;have live:∀y,(N.shut i c k).pr y≠.stop->N.pr y≠.stop:=λy hy=>by
  by_cases h1:y=i
  grind
  grind
 have gJ:∀y,N.pr y=.stop->(N.shut i c k).pr y=.stop:=λy hy=>by have h1:y≠i:=λe=>CK (e▸hy);rw[tj y h1,hy]
 refine h.move (N':=N.shut i c k) (λop hop=>by simp only[eC,bX]at hop;subst hop;rfl) (λy hy=>?_) (ai _) (λop hop=>by simp only[eC,bX]at hop;subst hop;exact hi) (λy hy MV=>⟨y,MV,live y hy,λx hx=>hx.app _,λb hb=>.inl hb⟩) (λ_ _ hb=>hb) ?_ ?_ h.yh h.H6 ?_ ?_;rw[dw Ck];exact h.hears y (hy.imp (live y) id);intro x y hD hy hx JP q a hq ha hgq;exact(h.kn q a y x hq ha hgq (h.dst x y hD).2 hD (hx.imp id (live x)) JP).app _;intro c' E hE;by_cases hc:c'=c;subst hc;have Cp:(λy=>N.D i y\/(y=i/\k=.stop))=E:=by have:upd N.cl c' (some λy=>N.D i y\/(y=i/\k=.stop)) c'=some E:=hE;rw[upd_same]at this;exact bG this
 subst Cp;refine⟨t.size+0,_,dn rfl,rfl,nw Ck (k:=0) rfl M4,λx a y hx ha hgx UZ=>?_⟩;have hk:Knows t i x:=by rcases UZ with h1|⟨rfl,_⟩;exact h.kn x a y i hx ha hgx (h.dst i y h1).2 h1 (.inr CK) hi;exact AE hgx
 exact .inr (hk.hb_new (ai _) (dn (k:=0) rfl) rfl);have Cp:N.cl c'=some E:=by
  have:upd N.cl c (some λy=>N.D i y\/(y=i/\k=.stop)) c'=some E:=hE
  rwa [upd_ne _ _ hc]at this
 obtain⟨q,z,hq,hz,hh,hk⟩:=h.kc c' E Cp;exact⟨q,z,by rw[getElem?_append_old (lt_size_of_getElem? hq)];exact hq,hz,(heard_old (lt_size_of_getElem? hq)).2 hh,λx a y hx ha hgx UZ=>(hk x a y hx ha hgx UZ).app _⟩;intro c' E y hE hy;by_cases hc:c'=c;subst hc;have Cp:(λy=>N.D i y\/(y=i/\k=.stop))=E:=by have:upd N.cl c' (some λy=>N.D i y\/(y=i/\k=.stop)) c'=some E:=hE;rw[upd_same]at this;exact bG this
 subst Cp;rcases hy with h1|⟨rfl,h1⟩;exact⟨(h.dst i y h1).1,gJ y (h.dst i y h1).2⟩;exact⟨hi,by rw[F8];exact h1⟩;have Cp:N.cl c'=some E:=by
  have:upd N.cl c (some λy=>N.D i y\/(y=i/\k=.stop)) c'=some E:=hE
  rwa [upd_ne _ _ hc]at this
 exact⟨(h.Px c' E y Cp hy).1,gJ y (h.Px c' E y Cp hy).2⟩;intro x y hD;exact⟨(h.dst x y hD).1,gJ y (h.dst x y hD).2⟩
theorem TI.hear {N:Net}{γ:Nat->So}{sz tp:Nat}{t:Trace}(h:TI N γ sz tp t){j c:Nat}{ok:Bool}{z:Value}{kr:Option Value->Pc}{k:Pc}{E:Nat->Prop}(hj:j<N.n)(hg:N.pr j=.recv c ok z kr)(hE:N.cl c=some E)(fn:FuncId)(pos:String):
  TI (N.hear j k E) γ sz tp (t++#[{g:=j,fn,pos,act:=.recvClosed c}]):=by
 have ZU:N.pr j≠.stop:=by rw[hg];simp
 have Ck:nu #[({g:=j,fn,pos,act:=.recvClosed c}:MemOp)]:=by intro op hop m;simp only[eC,bX]at hop;subst hop;simp
 have Uu:=h.hears j (.inl ZU);have tj:∀y,y≠j->(N.hear j k E).pr y=N.pr y:=λy h1=>upd_ne _ _ h1;have live:∀y,(N.hear j k E).pr y≠.stop->N.pr y≠.stop:=λy hy=>by
  by_cases h1:y=j
  grind
  grind
 have gJ:∀y,N.pr y=.stop->(N.hear j k E).pr y=.stop:=λy hy=>by have h1:y≠j:=λe=>ZU (e▸hy);rw[tj y h1,hy]
 refine h.move (N':=N.hear j k E) (λop hop=>by simp only[eC,bX]at hop;subst hop;rfl) (λy hy=>?_) (ai _) (λop hop=>by simp only[eC,bX]at hop;subst hop;exact hj) (λy hy MV=>⟨y,MV,live y hy,λx hx=>hx.app _,λb hb=>.inl hb⟩) (λ_ _ hb=>hb) ?_ ?_ h.yh h.H6 ?_ ?_;rw[dw Ck];exact h.hears y (hy.imp (live y) id);intro x y hD hy hx JP q a hq ha hgq;have FH:(if x=j then N.D j y\/E y else N.D x y):=hD;by_cases UL:x=j;rw[if_pos UL]at FH;subst UL;rcases FH with h1|h1;exact(h.kn q a y x hq ha hgq (h.dst x y h1).2 h1 (.inr ZU) JP).app _;obtain⟨p,zp,hp,hzp,hh,hk⟩:=h.kc c E hE;have hb:=hk q a y hq ha hgq h1;have hps:=lt_size_of_getElem? hp;refine⟨t.size+0,_,dn rfl,rfl,.inr (hb.app _|>.hb (.single (.inr ⟨?_,(heard_old hps).2 hh,nw Ck (k:=0) rfl Uu⟩)))⟩;refine .closed (c:=c) ?_ (by rw[act?_of (dn (t:=t) (k:=0) rfl)];rfl);rw[act?_old hps,act?_of hp,hzp];rw[if_neg UL]at FH;exact(h.kn q a y x hq ha hgq (h.dst x y FH).2 FH (hx.imp id (live x)) JP).app _;intro c' E' Cp;obtain⟨q,z,hq,hz,hh,hk⟩:=h.kc c' E' Cp;exact⟨q,z,by rw[getElem?_append_old (lt_size_of_getElem? hq)];exact hq,hz,(heard_old (lt_size_of_getElem? hq)).2 hh,λx a y hx ha hgx UZ=>(hk x a y hx ha hgx UZ).app _⟩;intro c' E' y Cp hy;exact⟨(h.Px c' E' y Cp hy).1,gJ y (h.Px c' E' y Cp hy).2⟩;intro x y hD;have FH:(if x=j then N.D j y\/E y else N.D x y):=hD;by_cases UL:x=j;rw[if_pos UL]at FH;rcases FH with h1|h1;exact⟨(h.dst j y h1).1,gJ y (h.dst j y h1).2⟩;exact⟨(h.Px c E y hE h1).1,gJ y (h.Px c E y hE h1).2⟩;rw[if_neg UL]at FH;exact⟨(h.dst x y FH).1,gJ y (h.dst x y FH).2⟩
end Go.Co
