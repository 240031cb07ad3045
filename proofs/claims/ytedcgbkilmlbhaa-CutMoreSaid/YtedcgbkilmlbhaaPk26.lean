import Derived.Test.YtedcgbkilmlbhaaPk25
import Derived.Conc.Neutral
import Derived.Conc.TokenWalk
import Derived.Conc.Script
import Derived.Conc.CompanyWords
import Derived.Conc.Own2
namespace Go.Co
open Go Go.Conc
inductive Tr where
 |leaf
 |node (f:World->Tr)
inductive TLt:Tr->Tr->Prop
 |mk (f:World->Tr) (w:World):TLt (f w) (.node f)
theorem O0:∀r:Tr,Acc TLt r
 |.leaf=>⟨_,λ_ h=>nomatch h⟩
 |.node f=>⟨_,λ_ h=>by cases h with|mk _ w=>exact O0 (f w)⟩
def Tr.nat:Nat->Tr
 |0=>.leaf
 |n+1=>.node λ_=>Tr.nat n
theorem ZK(n:Nat):TLt (Tr.nat n) (Tr.nat (n+1)):=.mk (λ_=>Tr.nat n) default
def Tr.up:Tr->Tr
 |.leaf=>.node λ_=>.leaf
 |.node f=>.node λw=>(f w).up
theorem adX(f:World->Tr)(w:World):TLt (f w).up (Tr.node f).up:=.mk (λw=>(f w).up) w
theorem Kr:TLt .leaf (Tr.leaf).up:=.mk (λ_=>.leaf) default
inductive LLt:List Tr->List Tr->Prop
 |mk (l:List Tr) (i:Nat) (r r':Tr):l[i]? =some r->TLt r' r->LLt (l.set i r') l
theorem PW:∀l:List Tr,Acc LLt l
 |[]=>⟨_,λ_ h=>by cases h with|mk _ i r r' h=>simp at h⟩
 |x::xs=>by
  have hx:=O0 x;have Qy:=PW xs;induction hx generalizing xs with
  |intro x _ ihx=>
   induction Qy with
   |intro xs ah3 ahw=>
    refine⟨_,λy h=>?_⟩;cases h with
    |mk _ i r r' h hlt=>
     cases i with
     |zero=>simp at h;subst h;exact ihx r' hlt xs (Acc.intro xs ah3)
     |succ i=>have:LLt (xs.set i r') xs:=.mk xs i r r' (by simpa using h) hlt;exact ahw _ this
variable {P:Program} {main:Bool} {Γ:Type} {Rl:Γ->World->World->Prop} {St:Γ->World->Γ->World->Array Event->Prop} {Stop:Γ->Goroutine->World->Prop}
def YM(P:Program)(main:Bool)(Rl:Γ->World->World->Prop)(St:Γ->World->Γ->World->Array Event->Prop)(Stop:Γ->Goroutine->World->Prop):Tr->Γ->Goroutine->World->Prop
 |.leaf,γ,g,w=>∀w1,Rl γ w w1->Stop γ g w1
 |.node f,γ,g,w=>g.status=.running/\∀w1,Rl γ w w1->∃g' w' es γ',stepG P main g w1=.go g' w' es/\St γ w1 γ' w' es/\YM P main Rl St Stop (f w1) γ' g' w'
def Gt(P:Program)(main:Bool)(Rl:Γ->World->World->Prop)(St:Γ->World->Γ->World->Array Event->Prop)(Stop:Γ->Goroutine->World->Prop)(γ:Γ)(g:Goroutine)(w:World):Prop:=∃r,YM P main Rl St Stop r γ g w
structure Tms (Rl:Γ->World->World->Prop) (St:Γ->World->Γ->World->Array Event->Prop):Prop where
 trans:∀γ a b c,Rl γ a b->Rl γ b c->Rl γ a c
 idle:∀γ w,St γ w γ w #[]
theorem Ek(T:Tms Rl St){r:Tr}{γ:Γ}{g:Goroutine}{w w1:World}(h:YM P main Rl St Stop r γ g w)(hr:Rl γ w w1):YM P main Rl St Stop r γ g w1:=by
 cases r with
 |leaf=>exactλw2 h2=>h w2 (T.trans _ _ _ _ hr h2)
 |node f=>exact⟨h.1,λw2 h2=>h.2 w2 (T.trans _ _ _ _ hr h2)⟩
open Classical in
theorem aaO{γ:Γ}{g:Goroutine}{w:World}(hs:g.status=.running)(h:∀w1,Rl γ w w1->∃g' w' es γ',stepG P main g w1=.go g' w' es/\St γ w1 γ' w' es/\Gt P main Rl St Stop γ' g' w'):Gt P main Rl St Stop γ g w:=by
 have hr:∀w1,∃r,Rl γ w w1->∃g' w' es γ',stepG P main g w1=.go g' w' es/\St γ w1 γ' w' es/\YM P main Rl St Stop r γ' g' w':=by
  intro w1;by_cases hw:Rl γ w w1;.obtain⟨g',w',es,γ',h1,h2,r,h3⟩:=h w1 hw;exact⟨r,λ_=>⟨g',w',es,γ',h1,h2,h3⟩⟩
  exact⟨.leaf,λh=>absurd h hw⟩
 exact⟨.node λw1=>Classical.choose (hr w1),hs,λw1 hw=>vO (hr w1) hw⟩
theorem yX{γ:Γ}{g:Goroutine}{w:World}(h:∀w1,Rl γ w w1->Stop γ g w1):Gt P main Rl St Stop γ g w:=⟨.leaf,h⟩
theorem CW(T:Tms Rl St){γ:Γ}{g:Goroutine}{w w1:World}(h:Gt P main Rl St Stop γ g w)(hr:Rl γ w w1):Gt P main Rl St Stop γ g w1:=by obtain⟨r,h⟩:=h;exact⟨r,Ek T h hr⟩
def Rlo(S O:Nat->Prop)(w w1:World):Prop:=
 w.heap.size<=w1.heap.size/\(∀b,S b\/O b->w1.heap[b]? =w.heap[b]?)/\w1.tape=w.tape/\w1.os=w.os/\w1.output=w.output
def YN(S O:Nat->Prop)(e:Event):Prop:=(∃a wr sy,e=⟨.cell a,wr,sy⟩/\(wr=true->O a.block)/\(S a.block\/O a.block))\/∃m,e=⟨.mark m,false,true⟩/\Neutral m
def Sto(S O:Nat->Prop)(w:World)(O':Nat->Prop)(w':World)(es:Array Event):Prop:=
 (∀b,O' b↔(O b\/(w.heap.size<=b/\b<w'.heap.size)))/\w.heap.size<=w'.heap.size/\(∀b,b<w.heap.size->¬O b->w'.heap[b]? =w.heap[b]?)/\w'.tape=w.tape/\w'.os=w.os/\w'.output=w.output/\∀e∈es,YN S O' e
theorem Ww(S O:Nat->Prop)(w:World):Rlo S O w w:=⟨ak _,λ_ _=>rfl,rfl,rfl,rfl⟩
theorem iw{S O:Nat->Prop}{a b c:World}(h:Rlo S O a b)(k:Rlo S O b c):Rlo S O a c:=
 ⟨bD h.1 k.1,λx hx=>(k.2.1 x hx).trans (h.2.1 x hx),k.2.2.1.trans h.2.2.1,k.2.2.2.1.trans h.2.2.2.1,k.2.2.2.2.trans h.2.2.2.2⟩
theorem Kz(S O:Nat->Prop)(w:World):Sto S O w O w #[]:=⟨λb=>⟨.inl,λh=>h.elim id λh=>absurd h.2 (by omega)⟩,ak _,λ_ _ _=>rfl,rfl,rfl,rfl,by simp⟩
theorem Ky{S O:Nat->Prop}{w:World}{es:Array Event}(h:∀e∈es,YN S O e):Sto S O w O w es:=⟨λb=>⟨.inl,λh=>h.elim id λh=>absurd h.2 (by omega)⟩,ak _,λ_ _ _=>rfl,rfl,rfl,rfl,h⟩
end Go.Co
namespace Go.Co
open Go Go.Conc
inductive Pc where
 |stop
 |ret
 |bad
 |send (c:Nat) (v:Value) (k:Pc)
 |recv (c:Nat) (ok:Bool) (z:Value) (k:Option Value->Pc)
 |close (c:Nat) (k:Pc)
 |go (child k:Pc)
variable {P:Program} {aa:Machine->Trace->Prop} {main:Bool}
abbrev So:=(Nat->Prop)×(Nat->Prop)
def So.all (γ:So):Nat->Prop:=λb=>γ.1 b\/γ.2 b
def So.give (γ:So):So:=(γ.all,λ_=>False)
def jo(γ:So)(w w1:World):Prop:=Rlo γ.1 γ.2 w w1
def JF(γ:So)(w:World)(γ':So)(w':World)(es:Array Event):Prop:=γ'.1=γ.1/\Sto γ.1 γ.2 w γ'.2 w' es
theorem F6:Tms jo JF:=⟨λ_ _ _ _ h k=>iw h k,λγ w=>⟨rfl,Kz γ.1 γ.2 w⟩⟩
def AtSend(P:Program)(main:Bool)(c:Nat)(v:Value)(g:Goroutine)(w:World):Prop:=g.status=.running/\∃z,stepG P main g w=.comm (core g) #[scase c v z] true .send w
def AtRecv(P:Program)(main:Bool)(c:Nat)(ok:Bool)(z:Value)(g:Goroutine)(w:World):Prop:=g.status=.running/\stepG P main g w=.comm (core g) #[rcase c z] true (.recv ok) w
def Pr(P:Program)(aa:Machine->Trace->Prop)(main:Bool):Pc->So->Goroutine->World->Prop
 |.stop,_,g,_=>∃n,QuitsD P n 0 g
 |.ret,_,g,w=>g.dying=none/\jf P aa () g w
 |.bad,_,_,_=>True
 |.send c v k,γ,g,w=>Gt P main jo JF (λγ g w=>AtSend P main c v g w/\∀w1,jo γ w w1->Pr P aa main k γ (Conc.served g undef) w1) γ g w
 |.recv c ok z k,γ,g,w=>Gt P main jo JF (λγ g w=>AtRecv P main c ok z g w/\∀x w1,jo γ w w1->Pr P aa main (k x) γ (Conc.served g (recvd ok (x.getD z) x.isSome)) w1) γ g w
 |.close c k,γ,g,w=>Gt P main jo JF (λγ g w=>g.status=.running/\mayWake P g=true/\∃g',g'.status=.running/\(∀s r tm,w.heap[c]? =some (.chan 0 #[] false s r tm)->stepG P main g w=.go g' (w.setChan c 0 #[] true s r tm) (closeEvents c))/\∀w1,jo γ w w1->Pr P aa main k γ g' w1) γ g w
 |.go child k,γ,g,w=>Gt P main jo JF (λγ g w=>g.status=.running/\∃g' ch,g'.status=.running/\stepG P main g w=.spawn g' ch w/\ch.status=.running/\(∀w1,jo γ.give w w1->Pr P aa false child γ.give ch w1)/\∀w1,jo γ.give w w1->Pr P aa main k γ.give g' w1) γ g w
theorem aaf{p:Pc}(hp:p≠.ret){γ:So}{g:Goroutine}{w w1:World}(h:Pr P aa main p γ g w)(r:jo γ w w1):Pr P aa main p γ g w1:=by
 cases p with
 |stop=>exact h
 |ret=>exact absurd rfl hp
 |bad=>trivial
 |send c v k=>exact CW F6 h r
 |recv c ok z k=>exact CW F6 h r
 |close c k=>exact CW F6 h r
 |go ch k=>exact CW F6 h r
abbrev Gm:=Pc×So
def CM(γ:Gm)(w w1:World):Prop:=match γ.1 with|.ret=>∃d,w1=w.at d|_=>jo γ.2 w w1
def HL(γ:Gm)(w:World)(γ':Gm)(w':World)(es:Array Event):Prop:=γ'.1=γ.1/\match γ.1 with|.ret=>True|_=>JF γ.2 w γ'.2 w' es
def KG(P:Program)(aa:Machine->Trace->Prop)(main:Bool)(γ:Gm)(g:Goroutine)(w:World):Prop:=(main=false->γ.1≠.ret)->γ.1≠.stop->Pr P aa main γ.1 γ.2 g w
theorem Bw(hP:Plain P):KC P main (KG P aa main) CM HL where
 step:=λγ fr cs w h hm hne=>by
  obtain⟨p,γ⟩:=γ;have key:∀{Stop:So->Goroutine->World->Prop},(∀γ g w,Pr P aa main p γ g w↔Gt P main jo JF Stop γ g w)->p≠.ret->p≠.stop->Pr P aa main p γ (G fr cs) w:=by
   intro Stop hs hr hst;rw[hs];refine aaO rfl λw1 h1=>?_;have HJ:CM (p,γ) w w1:=by unfold CM;cases p<;>first|exact h1|exact absurd rfl hr
   obtain⟨fr',lC,w',es,γ',e,TG,hk⟩:=h w1 HJ;obtain⟨p',γ'⟩:=γ';obtain⟨tA,TG⟩:=TG;simp only at tA;subst tA;have Cr:JF γ w1 γ' w' es:=by cases p'<;>first|exact TG|exact absurd rfl hr
   exact⟨_,_,_,γ',e,Cr,(hs _ _ _).1 (hk (λ_=>hr) hst)⟩
  cases p with
  |stop=>exact absurd rfl hne
  |ret=>
   cases main with
   |false=>exact absurd rfl (hm rfl)
   |true=>refine⟨rfl,(yU hP).step () fr cs w λw1 h1=>?_⟩;obtain⟨fr',lC,w',es,γ',e,⟨tA,-⟩,hk⟩:=h w1 h1;obtain⟨p',γ'⟩:=γ';simp only at tA;subst tA;exact⟨fr',lC,w',es,(),e,trivial,(hk hm hne).2⟩
  |bad=>trivial
  |send c v k=>exact key (λ_ _ _=>Iff.rfl) (by simp) (by simp)
  |recv c ok z k=>exact key (λ_ _ _=>Iff.rfl) (by simp) (by simp)
  |close c k=>exact key (λ_ _ _=>Iff.rfl) (by simp) (by simp)
  |go ch k=>exact key (λ_ _ _=>Iff.rfl) (by simp) (by simp)
 idle:=λγ w=>by obtain⟨p,γ⟩:=γ;refine⟨rfl,?_⟩;cases p<;>first|exact trivial|exact⟨rfl,Kz γ.1 γ.2 w⟩
 rely:=λγ g w w1 r h hm hne=>by
  obtain⟨p,γ⟩:=γ;by_cases hp:p=.ret;.subst hp;obtain⟨d,rfl⟩:=r;exact⟨(h hm hne).1,λd'=>(h hm hne).2 d'⟩
  refine aaf hp (h hm hne) ?_;unfold CM at r;cases p<;>first|exact r|exact absurd rfl hp
end Go.Co
namespace Go.Co
open Go Go.Conc
variable {P:Program} {aa:Machine->Trace->Prop} {main:Bool} {fn:FuncId} {γ:So} {ops:Array Oper} {i:Nat} {rest:List Nat} {o:Oper} {Q:Gm->Exit->Act->World->Prop} {a:Act} {w:World}
theorem AO(ho:ops[i]? =some o)(b:Frame)(k:List Item)(cs:List Frame)(v:Value):
  Conc.served (G (b.at a (.inRegion ops (i::rest)::k)) cs) v=G (b.at (a.put o.dst v) (.inRegion ops rest::k)) cs:=by
 have:(b.at a (.inRegion ops (i::rest)::k)).finish v=b.at (a.put o.dst v) (.inRegion ops rest::k):=by rw[Frame.finish_at,ho];rfl
 simp[Conc.served,G,this]
theorem aaF{c:Nat}{v:Value}{p:Pc}{ch x:Operand}
  (ho:ops[i]? =some o) (hw:Region.wanted o (yielded ops a.tmps)=true) (hop:o.op=.send ch x) (hch:a.eval ch=.chan (some c)) (hx:a.eval x=v) (hs:p≠.stop) (hr:p≠.ret)
  (h:∀w1,jo γ w w1->KO (KG P aa main) fn (p,γ) ops rest Q (a.put o.dst undef) w1):KO (KG P aa main) fn (.send c v p,γ) ops (i::rest) Q a w:=by
 intro b k cs hb hk hc _ _;refine yX λw1 h1=>?_;have hrun:(execOp a.eval o).run P w1=.ok (.comm #[scase c v (.tuple #[])] true .send) w1:=by simp only[execOp,hop,hch,hx];rfl
 have hl:listed P b.fn a o w1=#[]:=by refine listed_nil ?_;simp only[execOp,hop];rfl
 have hst:=stepG_comm (P:=P) (main:=main) (b:=b) (k:=k) (cs:=cs) (rest:=rest) ho hw hk hrun;rw[hl]at hst;refine⟨⟨rfl,.tuple #[],hst⟩,λw2 h2=>?_⟩;rw[AO ho];exact h w2 (iw h1 h2) b k cs hb hk hc (λ_=>hr) hs
theorem Jw{c:Nat}{v:Value}{ch x:Operand}{b:Frame}{k:List Item}{cs:List Frame}
  (ho:ops[i]? =some o) (hw:Region.wanted o (yielded ops a.tmps)=true) (hop:o.op=.send ch x) (hch:a.eval ch=.chan (some c)) (hx:a.eval x=v) (hk:b.kind≠.early)
  (h:∃n,QuitsD P n 0 (G (b.at (a.put o.dst undef) (.inRegion ops rest::k)) cs)):KG P aa main (.send c v .stop,γ) (G (b.at a (.inRegion ops (i::rest)::k)) cs) w:=by
 intro _ _;refine yX λw1 h1=>?_;have hrun:(execOp a.eval o).run P w1=.ok (.comm #[scase c v (.tuple #[])] true .send) w1:=by simp only[execOp,hop,hch,hx];rfl
 have hl:listed P b.fn a o w1=#[]:=by refine listed_nil ?_;simp only[execOp,hop];rfl
 have hst:=stepG_comm (P:=P) (main:=main) (b:=b) (k:=k) (cs:=cs) (rest:=rest) ho hw hk hrun;rw[hl]at hst;refine⟨⟨rfl,.tuple #[],hst⟩,λw2 h2=>?_⟩;rw[AO ho];exact h
theorem I7{c:Nat}{ok:Bool}{z:Value}{p:Option Value->Pc}
  (ho:ops[i]? =some o) (hw:Region.wanted o (yielded ops a.tmps)=true)
  (hrun:∀w,(execOp a.eval o).run P w=.ok (.comm #[rcase c z] true (.recv ok)) w) (wE:∀w,(execOp a.eval o).events P w #[]=#[])
  (hs:∀x,p x≠.stop) (hr:main=false->∀x,p x≠.ret)
  (h:∀x w1,jo γ w w1->KO (KG P aa main) fn (p x,γ) ops rest Q (a.put o.dst (recvd ok (x.getD z) x.isSome)) w1):KO (KG P aa main) fn (.recv c ok z p,γ) ops (i::rest) Q a w:=by
 intro b k cs hb hk hc _ _;refine yX λw1 h1=>?_;have hl:listed P b.fn a o w1=#[]:=listed_nil (wE w1);have hst:=stepG_comm (P:=P) (main:=main) (b:=b) (k:=k) (cs:=cs) (rest:=rest) ho hw hk (hrun w1);rw[hl]at hst;refine⟨⟨rfl,hst⟩,λx w2 h2=>?_⟩;rw[AO ho];exact h x w2 (iw h1 h2) b k cs hb hk hc (λhm=>hr hm x) (hs x)
theorem abP{child p:Pc}{d:Deferred}{f:Fn}{cap:Array Value}
  (ho:ops[i]? =some o) (hw:Region.wanted o (yielded ops a.tmps)=true) (hrun:∀w,(execOp a.eval o).run P w=.ok (.spawn d) w) (wE:∀w,(execOp a.eval o).events P w #[]=#[]) (hd:d.target=.fn f cap)
  (hs:p≠.stop) (hr:main=false->p≠.ret)
  (hch:∀w1,jo γ w w1->∀w2,jo γ.give w1 w2->Pr P aa false child γ.give (born P d) w2)
  (h:∀w1,jo γ w w1->∀w2,jo γ.give w1 w2->KO (KG P aa main) fn (p,γ.give) ops rest Q (a.put o.dst undef) w2):KO (KG P aa main) fn (.go child p,γ) ops (i::rest) Q a w:=by
 intro b k cs hb hk hc _ _;refine yX λw1 h1=>?_;have hl:listed P b.fn a o w1=#[]:=listed_nil (wE w1);have hst:=stepG_spawn (P:=P) (main:=main) (b:=b) (k:=k) (cs:=cs) (rest:=rest) ho hw hk (hrun w1) hd;rw[hl]at hst;exact⟨rfl,_,_,rfl,hst,rfl,λw2 h2=>hch w1 h1 w2 h2,λw2 h2=>h w1 h1 w2 h2 b k cs hb hk hc hr hs⟩
theorem FR{c:Nat}{x:Operand}{ats:Array TypeId}{b:Frame}{k:List Item}{cs:List Frame}(hq:∀f:FuncId,(P.funcs[f]?).any (·.norace)=false)
  (ho:ops[i]? =some o) (hw:Region.wanted o (yielded ops a.tmps)=true) (hop:o.op=.call {callee:=.builtin .close,args:=#[x],argTypes:=ats}) (hx:a.eval x=.chan (some c)) (hk:b.kind≠.early)
  (h:∃n,QuitsD P n 0 (G (b.at (a.put o.dst (.tuple #[])) (.inRegion ops rest::k)) cs)):KG P aa main (.close c .stop,γ) (G (b.at a (.inRegion ops (i::rest)::k)) cs) w:=by
 intro _ _;refine yX λw1 h1=>⟨rfl,?_,_,rfl,λs r tm hc=>stepG_close ho hw hk hop hx hc (hq _),λw2 _=>h⟩;simp[mayWake,G,Frame.at,ho,hop]
end Go.Co
namespace Go.Co
open Go Go.Conc
open Go.ConcN (upd upd_same upd_ne)
structure Net where
 n:Nat
 pr:Nat->Pc
 D:Nat->Nat->Prop
 cl:Nat->Option (Nat->Prop)
def Pc.over (p:Pc):Prop:=p=.stop
namespace Net
variable (N:Net)
def meet(i j:Nat)(k k':Pc):Net:=
 {N with
  pr:=upd (upd N.pr i k) j k'
  D:=λx y=>if x=i\/x=j then N.D i y\/N.D j y\/(y=i/\k=.stop)\/(y=j/\k'=.stop)else N.D x y}
def shut(i c:Nat)(k:Pc):Net:=
 {N with pr:=upd N.pr i k,cl:=upd N.cl c (some λy=>N.D i y\/(y=i/\k=.stop))}
def hear(j:Nat)(k:Pc)(E:Nat->Prop):Net:=
 {N with pr:=upd N.pr j k,D:=λx y=>if x=j then N.D j y\/E y else N.D x y}
def start(i:Nat)(ch k:Pc):Net:=
 {N with n:=N.n+1,pr:=upd (upd N.pr i k) N.n ch,D:=λx y=>if x=N.n then N.D i y else N.D x y}
end Net
inductive Dd (Cs:Nat->Prop):Net->Prop
 |done (N:Net):N.pr 0=.ret->(∀j,0<j->j<N.n->N.pr j=.stop/\N.D 0 j)->Dd Cs N
 |step (N:Net):
  (∀j,j<N.n->N.pr j≠.ret/\N.pr j≠.bad)->N.pr 0≠.stop->
  (∀i c v k,i<N.n->N.pr i=.send c v k->N.cl c=none/\Cs c)->
  (∀j c ok z k,j<N.n->N.pr j=.recv c ok z k->Cs c)->
  ((∃i j c v k ok z k',i<N.n/\j<N.n/\N.pr i=.send c v k/\N.pr j=.recv c ok z k')\/(∃i c k,i<N.n/\N.pr i=.close c k)\/(∃j c ok z k E,j<N.n/\N.pr j=.recv c ok z k/\N.cl c=some E)\/(∃i ch k,i<N.n/\N.pr i=.go ch k))->
  (∀i j c v k ok z k',i<N.n->j<N.n->N.pr i=.send c v k->N.pr j=.recv c ok z k'->Dd Cs (N.meet i j k (k' (some v))))->
  (∀i c k,i<N.n->N.pr i=.close c k->N.cl c=none/\Cs c)->
  (∀i c k,i<N.n->N.pr i=.close c k->Dd Cs (N.shut i c k))->
  (∀j c ok z k E,j<N.n->N.pr j=.recv c ok z k->N.cl c=some E->Dd Cs (N.hear j (k none) E))->
  (∀i ch k,i<N.n->N.pr i=.go ch k->Dd Cs (N.start i ch k))->Dd Cs N
structure TI (N:Net) (γ:Nat->So) (sz:Nat) (tp:Nat) (t:Trace):Prop where
 clean:∀said,¬Race said t
 hears:∀j,(N.pr j≠.stop\/N.n<=j)->Deaf t j=0
 pre:∀i a j,i<tp->touchAt t i=some a->a.loc.isMemory=true->N.pr j≠.stop->j<N.n->Knows t j i
 own:∀i a b j,tp<=i->touchAt t i=some a->a.loc=.cell b->(γ j).2 b.block->t.g? i=some j
 shr:∀i a b j,tp<=i->touchAt t i=some a->a.loc=.cell b->a.write=true->(γ j).1 b.block->N.pr j≠.stop->j<N.n->Knows t j i
 low:∀i a b,tp<=i->touchAt t i=some a->a.loc=.cell b->b.block<sz
 obj:∀i a,tp<=i->touchAt t i=some a->(∃b,a.loc=.cell b)\/(a.write=false/\a.kind=.atomic)
 num:∀i j,tp<=i->t.g? i=some j->j<N.n
 kn:∀i a j x,tp<=i->touchAt t i=some a->t.g? i=some j->N.pr j=.stop->N.D x j->(x=0\/N.pr x≠.stop)->x<N.n->Knows t x i
 kc:∀c E,N.cl c=some E->∃q z,t[q]? =some z/\z.act=.close c/\t.heard q/\∀i a j,tp<=i->touchAt t i=some a->t.g? i=some j->E j->Before t i q
 yu:∀j j' b,(γ j).2 b->¬(γ j').1 b/\(j≠j'->¬(γ j').2 b)
 HK:∀j b,(γ j).1 b\/(γ j).2 b->b<sz
 Oz:∀c E j,N.cl c=some E->E j->j<N.n/\N.pr j=.stop
 dst:∀x j,N.D x j->j<N.n/\N.pr j=.stop
 tpl:tp<=t.size
theorem AB{t:Trace}{i j:Nat}(h:t.g? i=some j):Knows t j i:=by unfold Trace.g? at h;obtain⟨z,hz,rfl⟩:=af.1 h;exact knows_own hz
theorem TI.step {N:Net}{γ:Nat->So}{sz sz' tp:Nat}{t:Trace}(h:TI N γ sz tp t){j:Nat}(hj:j<N.n)(hl:N.pr j≠.stop){O':Nat->Prop}{es:Array Event}(fn:FuncId)(pos:String)
  (hsz:sz<=sz') (hO:∀b,O' b↔((γ j).2 b\/(sz<=b/\b<sz'))) (hes:∀e∈es,YN (γ j).1 O' e):
  TI N (upd γ j ((γ j).1,O')) sz' tp (t++MemOp.ofEvents j fn pos es):=by
 have hu:∀op∈MemOp.ofEvents j fn pos es,op.g=j:=λop hop=>by rw[ofEvents_eq]at hop;obtain⟨e,_,rfl⟩:=gH.1 hop;rfl
 have hut:∀op∈MemOp.ofEvents j fn pos es,∀b,op.act.touch?=some b->∃ad wr kd,b=⟨.cell ad,wr,kd⟩/\(wr=true->O' ad.block)/\((γ j).1 ad.block\/O' ad.block):=by
  intro op hop b hb;rw[ofEvents_eq]at hop;obtain⟨e,he,rfl⟩:=gH.1 hop;rcases hes e he with ⟨ad,wr,sy,rfl,h1,h2⟩|⟨m,rfl,hm⟩;.simp[MemAct.ofEvent,MemAct.touch?]at hb;subst hb;exact⟨ad,wr,_,rfl,h1,h2⟩
  have:=hm.touch;simp[MemAct.ofEvent,this]at hb
 have cQ:∀i a,touchAt (t++MemOp.ofEvents j fn pos es) i=some a->(i<t.size/\touchAt t i=some a/\(t++MemOp.ofEvents j fn pos es).g? i=t.g? i)\/(t.size<=i/\(t++MemOp.ofEvents j fn pos es).g? i=some j/\∃ad wr kd,a=⟨.cell ad,wr,kd⟩/\(wr=true->O' ad.block)/\((γ j).1 ad.block\/O' ad.block)):=by
  intro i a ha;obtain⟨x,hx,Md⟩:=touch_of ha;rcases getElem?_append_cases hx with ⟨hlt,jR⟩|⟨JK,S6⟩;.exact .inl ⟨hlt,by rw[touchAt_of jR];exact Md,g?_old hlt⟩
  exact .inr ⟨JK,by simp[Trace.g?,hx,hu x S6],hut x S6 a Md⟩
 have mO:∀j' b,(upd γ j ((γ j).1,O') j').1 b↔(γ j').1 b:=by
  intro j' b;by_cases Fp:j'=j;.subst Fp;rw[upd_same]
  rw[upd_ne _ _ Fp]
 have fN:∀j' b,(upd γ j ((γ j).1,O') j').2 b->(γ j').2 b\/(j'=j/\sz<=b/\b<sz'):=by
  intro j' b hb;by_cases Fp:j'=j;.subst Fp;rw[upd_same]at hb;exact((hO b).1 hb).imp id λh=>⟨rfl,h⟩
  rw[upd_ne _ _ Fp]at hb;exact .inl hb
 have hOb:∀b,O' b->b<sz':=λb hb=>((hO b).1 hb).elim (λh'=>dH (h.HK j b (.inr h')) hsz) (·.2);refine⟨λsaid=>?_,λk kK=>?_,?_,?_,?_,?_,?_,?_,?_,?_,?_,?_,h.Oz,h.dst,?_⟩
 .refine noRace_append (h.clean said) hu λi a ha op hop b hb hc=>?_;rcases oT i tp with hi|hi;.exact h.pre i a j hi ha hc.2.1 hl hj
  obtain⟨ad,wr,kd,rfl,h1,h2⟩:=hut op hop b hb;have kZ:a.loc=.cell ad:=hc.1;by_cases hS:(γ j).1 ad.block
  .have hw:wr=false:=by
    cases wr with
    |false=>rfl
    |true=>
     rcases(hO _).1 (h1 rfl)with h3|h3;.exact absurd hS (h.yu j j _ h3).1
     have:=h.HK j _ (.inl hS);omega
   subst hw;have SN:a.write=true:=by
    rcases hc.2.2.1 with h3|h3;.exact h3
    cases h3
   exact h.shr i a ad j hi ha kZ SN hS hl hj
  have hO':=h2.resolve_left hS;rcases(hO _).1 hO' with h3|h3;.exact AB (h.own i a ad j hi ha kZ h3)
  have:=h.low i a ad hi ha kZ;omega
 .by_cases hk:k=j
  .subst hk;rw[Deaf_own,h.hears k (.inl hl)];refine Jf λe he=>?_;rcases hes e he with ⟨ad,wr,sy,rfl,-,-⟩|⟨m,rfl,hm⟩;.simp
   have h1:=hm.ne_disable;simp[h1]
  rw[Deaf_other t (Ne.symm hk) _ hu,h.hears k kK]
 .intro i a k hi ha hm hlk hk;rcases cQ i a ha with ⟨_,ha',_⟩|⟨JK,_,_⟩;.exact(h.pre i a k hi ha' hm hlk hk).app _
  have:=h.tpl;omega
 .intro i a b k hi ha kZ hb;rcases cQ i a ha with ⟨_,ha',hg⟩|⟨_,hg,ad,wr,kd,rfl,h1,h2⟩
  .rw[hg];rcases fN k _ hb with h3|⟨_,h3,_⟩;.exact h.own i a b k hi ha' kZ h3
   have:=h.low i a b hi ha' kZ;omega
  rw[hg];cases kZ;by_cases hkj:k=j;.rw[hkj]
  exfalso;rw[upd_ne _ _ hkj]at hb;have hd:=h.yu k j _ hb;rcases h2 with h3|h3;.exact hd.1 h3
  rcases(hO _).1 h3 with h4|h4;.exact hd.2 hkj h4
  have:=h.HK k _ (.inr hb);omega
 .intro i a b k hi ha kZ SN hb hlk hk;rw[mO]at hb;rcases cQ i a ha with ⟨_,ha',hg⟩|⟨_,hg,ad,wr,kd,rfl,h1,h2⟩;.exact(h.shr i a b k hi ha' kZ SN hb hlk hk).app _
  cases kZ;exfalso;rcases(hO _).1 (h1 SN)with h4|h4;.exact(h.yu j k _ h4).1 hb
  have:=h.HK k _ (.inl hb);omega
 .intro i a b hi ha kZ;rcases cQ i a ha with ⟨_,ha',_⟩|⟨_,_,ad,wr,kd,rfl,h1,h2⟩;.exact dH (h.low i a b hi ha' kZ) hsz
  cases kZ;rcases h2 with h3|h3;.exact dH (h.HK j _ (.inl h3)) hsz
  exact hOb _ h3
 .intro i a hi ha;rcases cQ i a ha with ⟨_,ha',_⟩|⟨_,_,ad,wr,kd,rfl,h1,h2⟩;.exact h.obj i a hi ha'
  exact .inl ⟨ad,rfl⟩
 .intro i k hi hg;unfold Trace.g? at hg;obtain⟨z,hz,rfl⟩:=af.1 hg;rcases getElem?_append_cases hz with ⟨hlt,CH⟩|⟨_,hzu⟩;.exact h.num i z.g hi (by simp[Trace.g?,CH])
  rw[hu z hzu];exact hj
 .intro i a k x hi ha hg hs hD hx FW;rcases cQ i a ha with ⟨_,ha',og⟩|⟨_,og,_⟩;.rw[og]at hg;exact(h.kn i a k x hi ha' hg hs hD hx FW).app _
  rw[og]at hg;cases hg;exact absurd hs hl
 .intro c E hE;obtain⟨q,z,hq,hz,hh,hk⟩:=h.kc c E hE;refine⟨q,z,by rw[getElem?_append_old (lt_size_of_getElem? hq)];exact hq,hz,(heard_old (lt_size_of_getElem? hq)).2 hh,λi a k hi ha hg hEk=>?_⟩;rcases cQ i a ha with ⟨_,ha',og⟩|⟨_,og,_⟩;.rw[og]at hg;exact(hk i a k hi ha' hg hEk).app _
  rw[og]at hg;cases hg;exact absurd (h.Oz c E j hE hEk).2 hl
 .intro k k' b hb;rw[mO];rcases fN k b hb with h3|⟨rfl,h3,h3'⟩
  .have:=h.yu k k' b h3;refine⟨this.1,λhne o8=>?_⟩;rcases fN k' b o8 with h4|⟨_,h4,_⟩;.exact this.2 hne h4
   have:=h.HK k b (.inr h3);omega
  refine⟨λhS=>?_,λhne o8=>?_⟩;.have:=h.HK k' b (.inl hS);omega
  rcases fN k' b o8 with h4|⟨h4,_,_⟩;.have:=h.HK k' b (.inr h4);omega
  exact hne h4.symm
 .intro k b hb;rw[mO]at hb;rcases hb with hb|hb;.exact dH (h.HK k b (.inl hb)) hsz
  rcases fN k b hb with h3|⟨_,_,h3⟩;.exact dH (h.HK k b (.inr h3)) hsz
  exact h3
 have:=h.tpl;simp;omega
theorem TI.move {N N':Net}{γ γ':Nat->So}{sz tp:Nat}{t u:Trace}(h:TI N γ sz tp t)
  (hu:∀op∈u,op.act.touch?=none) (hears:∀j,(N'.pr j≠.stop\/N'.n<=j)->Deaf (t++u) j=0) (hn:N.n<=N'.n) (ac2:∀op∈u,op.g<N'.n)
  (inh:∀j,N'.pr j≠.stop->j<N'.n->∃j0,j0<N.n/\N.pr j0≠.stop/\(∀x,Knows t j0 x->Knows (t++u) j x)/\∀b,(γ' j).1 b->(γ j0).1 b\/(γ j0).2 b)
  (fN:∀j b,(γ' j).2 b->(γ j).2 b)
  (hkn:∀x y,N'.D x y->N'.pr y=.stop->(x=0\/N'.pr x≠.stop)->x<N'.n->∀i a,tp<=i->touchAt t i=some a->t.g? i=some y->Knows (t++u) x i)
  (hkc:∀c E,N'.cl c=some E->∃q z,(t++u)[q]? =some z/\z.act=.close c/\(t++u).heard q/\∀i a j,tp<=i->touchAt t i=some a->t.g? i=some j->E j->Before (t++u) i q)
  (agC:∀j j' b,(γ' j).2 b->¬(γ' j').1 b/\(j≠j'->¬(γ' j').2 b)) (QW:∀j b,(γ' j).1 b\/(γ' j).2 b->b<sz)
  (ahX:∀c E j,N'.cl c=some E->E j->j<N'.n/\N'.pr j=.stop) (ahU:∀x j,N'.D x j->j<N'.n/\N'.pr j=.stop):TI N' γ' sz tp (t++u):=by
 have hold:∀i a,touchAt (t++u) i=some a->touchAt t i=some a/\i<t.size/\(t++u).g? i=t.g? i:=by
  intro i a ha;obtain⟨x,hx,Md⟩:=touch_of ha;rcases getElem?_append_cases hx with ⟨hlt,jR⟩|⟨_,S6⟩;.exact⟨by rw[touchAt_of jR];exact Md,hlt,g?_old hlt⟩
  rw[hu x S6]at Md;cases Md
 refine⟨λsaid=>?_,hears,?_,?_,?_,?_,?_,?_,?_,?_,agC,QW,ahX,ahU,?_⟩;.rintro⟨i,j,Ou,⟨a,b,ha,hb,hc⟩,h1,h2⟩;obtain⟨ha',hia,-⟩:=hold i a ha;obtain⟨o8,hjb,-⟩:=hold j b hb;exact h.clean said ⟨i,j,Ou,⟨a,b,ha',o8,hc⟩,λx=>h1 (hb_app u x),λx=>h2 (hb_app u x)⟩
 .intro i a j hi ha hm hl hj;obtain⟨ha',-,-⟩:=hold i a ha;obtain⟨j0,h1,h2,h3,-⟩:=inh j hl hj;exact h3 i (h.pre i a j0 hi ha' hm h2 h1)
 .intro i a b j hi ha kZ hb;obtain⟨ha',-,hg⟩:=hold i a ha;rw[hg];exact h.own i a b j hi ha' kZ (fN j _ hb)
 .intro i a b j hi ha kZ hw hb hl hj;obtain⟨ha',-,-⟩:=hold i a ha;obtain⟨j0,h1,h2,h3,h4⟩:=inh j hl hj;rcases h4 _ hb with h5|h5;.exact h3 i (h.shr i a b j0 hi ha' kZ hw h5 h2 h1)
  exact h3 i (AB (h.own i a b j0 hi ha' kZ h5))
 .intro i a b hi ha kZ;exact h.low i a b hi (hold i a ha).1 kZ
 .intro i a hi ha;exact h.obj i a hi (hold i a ha).1
 .intro i k hi hg;unfold Trace.g? at hg;obtain⟨z,hz,rfl⟩:=af.1 hg;rcases getElem?_append_cases hz with ⟨hlt,CH⟩|⟨_,hzu⟩;.exact dH (h.num i z.g hi (by simp[Trace.g?,CH])) hn
  exact ac2 z hzu
 .intro i a y x hi ha hg hs hD hx FW;obtain⟨ha',-,og⟩:=hold i a ha;rw[og]at hg;exact hkn x y hD hs hx FW i a hi ha' hg
 .intro c E hE;obtain⟨q,z,hq,hz,hh,hk⟩:=hkc c E hE;refine⟨q,z,hq,hz,hh,λi a j hi ha hg hEj=>?_⟩;obtain⟨ha',-,og⟩:=hold i a ha;rw[og]at hg;exact hk i a j hi ha' hg hEj
 have:=h.tpl;simp;omega
end Go.Co
namespace Go.Co
open Go Go.Conc
open Go.ConcN (upd upd_same upd_ne)
def nL(u:Trace):Prop:=∀op∈u,∀m,op.act≠.mark m
theorem tq{t u:Trace}(hu:nL u)(g:Nat):∀k,k<=u.size->(t++u).deaf g (t.size+k)=Deaf t g
 |0,_=>deaf_old (ak _)
 |k+1,hk=>by
  have ih:=tq (t:=t) hu g k (by omega);have hz:(t++u)[t.size+k]? =some u[k]:=by rw[zi (by omega)];simp[ct (show k<u.size by omega)]
  have:=deaf_succ (g:=g) hz;rw[<-eE,this,ih];have hm:=hu u[k] (Array.getElem_mem _);unfold deafStep;split;.rename_i h;exact absurd h (hm _)
  .rename_i h;exact absurd h (hm _)
  rfl
theorem dK{t u:Trace}(hu:nL u)(g:Nat):Deaf (t++u) g=Deaf t g:=by have:=tq (t:=t) hu g u.size (ak _);unfold Deaf at*;rw[Array.size_append];exact this
theorem nN{t u:Trace}(hu:nL u){k:Nat}{z:MemOp}(hz:u[k]? =some z)(hd:Deaf t z.g=0):(t++u).heard (t.size+k):=by
 have hk:k<u.size:=(aN.1 hz).1;have CH:(t++u)[t.size+k]? =some z:=by rw[zi (by omega)];simpa using hz
 exact⟨z.g,by simp[Trace.g?,CH],by rw[tq hu _ k (by omega),hd]⟩
theorem dI{t u:Trace}{k:Nat}{z:MemOp}(hz:u[k]? =some z):(t++u)[t.size+k]? =some z:=by rw[zi (by omega)];simpa using hz
theorem A7{t u:Trace}(hu:nL u){i j x p q:Nat}{zp zq:MemOp}(hk:Knows t i x)(hp:u[p]? =some zp)(hq:u[q]? =some zq)(hpg:zp.g=i)(hqg:zq.g=j)
  (hn:Notices (t++u) (t.size+p) (t.size+q)) (Mg:Deaf t i=0) (SL:Deaf t j=0):Knows (t++u) j x:=by
 have h1:=hk.hb_new (u:=u) (Nat.le_add_right t.size p) (dI hp) hpg;have h2:HappensBefore (t++u) (t.size+p) (t.size+q):=.single (.inr ⟨hn,nN hu hp (hpg▸Mg),nN hu hq (hqg▸SL)⟩);exact⟨t.size+q,zq,dI hq,hqg,.inr (h1.trans h2)⟩
def fD(i j c s:Nat)(f f':FuncId)(p p':String):Trace:=
 #[{g:=i,fn:=f,pos:=p,act:=.send c s},{g:=j,fn:=f',pos:=p',act:=.recv c s 0},{g:=i,fn:=f,pos:=p,act:=.sendDone c s},{g:=j,fn:=f',pos:=p',act:=.recvDone c s}]
theorem j6(i j c s:Nat)(f f':FuncId)(p p':String):nL (fD i j c s f f' p p'):=by intro op hop m;simp only[fD,eG,bw,eB,or_false]at hop;rcases hop with rfl|rfl|rfl|rfl<;>simp
theorem NR(i j c s:Nat)(f f':FuncId)(p p':String):∀op∈fD i j c s f f' p p',op.act.touch?=none:=by intro op hop;simp only[fD,eG,bw,eB,or_false]at hop;rcases hop with rfl|rfl|rfl|rfl<;>rfl
theorem aai{t:Trace}{i j c s x:Nat}{f f':FuncId}{p p':String}(hk:Knows t i x)(Mg:Deaf t i=0)(SL:Deaf t j=0):Knows (t++fD i j c s f f' p p') j x:=
 A7 (j6 i j c s f f' p p') (p:=0) (q:=3) hk rfl rfl rfl rfl
  (.handOver (c:=c) (k:=s) (by rw[act?_of (dI (t:=t) (u:=fD i j c s f f' p p') (k:=0) rfl)];rfl) (by rw[act?_of (dI (t:=t) (u:=fD i j c s f f' p p') (k:=3) rfl)];rfl)) Mg SL
theorem RO{t:Trace}{i j c s x:Nat}{f f':FuncId}{p p':String}(hk:Knows t j x)(Mg:Deaf t i=0)(SL:Deaf t j=0):Knows (t++fD i j c s f f' p p') i x:=
 A7 (j6 i j c s f f' p p') (p:=1) (q:=2) hk rfl rfl rfl rfl
  (.room (c:=c) (k:=s) (cap:=0) (by rw[act?_of (dI (t:=t) (u:=fD i j c s f f' p p') (k:=1) rfl)];rfl) (by rw[act?_of (dI (t:=t) (u:=fD i j c s f f' p p') (k:=2) rfl)];rfl)) SL Mg
theorem TI.meet {N:Net}{γ:Nat->So}{sz tp:Nat}{t:Trace}(h:TI N γ sz tp t){i j c s:Nat}{v:Value}{k:Pc}{ok:Bool}{z:Value}{k':Pc}{kr:Option Value->Pc}(hi:i<N.n)(hj:j<N.n)(Ou:i≠j)
  (hs:N.pr i=.send c v k) (hr:N.pr j=.recv c ok z kr) (f f':FuncId) (p p':String):TI (N.meet i j k k') γ sz tp (t++fD i j c s f f' p p'):=by
 have Ag:N.pr i≠.stop:=by rw[hs];simp
 have Tf:N.pr j≠.stop:=by rw[hr];simp
 have Mg:=h.hears i (.inl Ag);have SL:=h.hears j (.inl Tf);have rC:∀y,y≠i->y≠j->(N.meet i j k k').pr y=N.pr y:=λy h1 h2=>by show upd (upd N.pr i k) j k' y=_;rw[upd_ne _ _ h2,upd_ne _ _ h1]
 have yg:(N.meet i j k k').pr j=k':=upd_same _ _ _;have C7:(N.meet i j k k').pr i=k:=by show upd (upd N.pr i k) j k' i=_;rw[upd_ne _ _ Ou,upd_same]
 have live:∀y,(N.meet i j k k').pr y≠.stop->N.pr y≠.stop:=λy hy=>by
  by_cases h1:y=i;.rw[h1];exact Ag
  by_cases h2:y=j;.rw[h2];exact Tf
  rwa [rC y h1 h2]at hy
 have gV:∀y,N.pr y=.stop->(N.meet i j k k').pr y=.stop:=λy hy=>by have h1:y≠i:=λe=>Ag (e▸hy);have h2:y≠j:=λe=>Tf (e▸hy);rw[rC y h1 h2,hy]
 have MG:∀y x,y<N.n->Knows t y x->Knows (t++fD i j c s f f' p p') y x:=λy x _ hk=>hk.app _;refine h.move (NR _ _ _ _ _ _ _ _) (λy hy=>?_) (ak _) ?_ (λy hy Mo=>⟨y,Mo,live y hy,λx hx=>hx.app _,λb hb=>.inl hb⟩) (λ_ _ hb=>hb) ?_ ?_ h.yu h.HK ?_ ?_;.rw[dK (j6 _ _ _ _ _ _ _ _)];exact h.hears y (hy.imp (live y) id)
 .intro op hop;simp only[fD,eG,bw,eB,or_false]at hop;rcases hop with rfl|rfl|rfl|rfl;.exact hi
  .exact hj
  .exact hi
  exact hj
 .intro x y hD hy hx FW q a hq ha hg;have jR:x=0\/N.pr x≠.stop:=hx.imp id (live x);have acd:Knows t i q->Knows (t++fD i j c s f f' p p') i q/\Knows (t++fD i j c s f f' p p') j q:=λhk=>⟨hk.app _,aai hk Mg SL⟩;have ab9:Knows t j q->Knows (t++fD i j c s f f' p p') i q/\Knows (t++fD i j c s f f' p p') j q:=λhk=>⟨RO hk Mg SL,hk.app _⟩;by_cases QT:x=i\/x=j
  .have YL:N.D i y\/N.D j y\/(y=i/\k=.stop)\/(y=j/\k'=.stop):=by
    have:(if x=i\/x=j then N.D i y\/N.D j y\/(y=i/\k=.stop)\/(y=j/\k'=.stop)else N.D x y):=hD
    rwa [if_pos QT]at this
   have both:Knows (t++fD i j c s f f' p p') i q/\Knows (t++fD i j c s f f' p p') j q:=by
    rcases YL with h1|h1|⟨rfl,_⟩|⟨rfl,_⟩;.exact acd (h.kn q a y i hq ha hg (h.dst i y h1).2 h1 (.inr Ag) hi)
    .exact ab9 (h.kn q a y j hq ha hg (h.dst j y h1).2 h1 (.inr Tf) hj)
    .exact acd (AB hg)
    exact ab9 (AB hg)
   rcases QT with rfl|rfl;.exact both.1
   exact both.2
  have YL:N.D x y:=by
   have:(if x=i\/x=j then N.D i y\/N.D j y\/(y=i/\k=.stop)\/(y=j/\k'=.stop)else N.D x y):=hD
   rwa [if_neg QT]at this
  exact(h.kn q a y x hq ha hg (h.dst x y YL).2 YL jR FW).app _
 .intro c' E hE;obtain⟨q,z,hq,hz,hh,hk⟩:=h.kc c' E hE;exact⟨q,z,by rw[getElem?_append_old (lt_size_of_getElem? hq)];exact hq,hz,(heard_old (lt_size_of_getElem? hq)).2 hh,λx a y hx ha hg Tu=>(hk x a y hx ha hg Tu).app _⟩
 .intro c' E y hE hy;exact⟨(h.Oz c' E y hE hy).1,gV y (h.Oz c' E y hE hy).2⟩
 intro x y hD;by_cases QT:x=i\/x=j
 .have YL:N.D i y\/N.D j y\/(y=i/\k=.stop)\/(y=j/\k'=.stop):=by
   have:(if x=i\/x=j then N.D i y\/N.D j y\/(y=i/\k=.stop)\/(y=j/\k'=.stop)else N.D x y):=hD
   rwa [if_pos QT]at this
  rcases YL with h1|h1|⟨rfl,h1⟩|⟨rfl,h1⟩;.exact⟨(h.dst i y h1).1,gV y (h.dst i y h1).2⟩
  .exact⟨(h.dst j y h1).1,gV y (h.dst j y h1).2⟩
  .exact⟨hi,by rw[C7];exact h1⟩
  exact⟨hj,by rw[yg];exact h1⟩
 have YL:N.D x y:=by
  have:(if x=i\/x=j then N.D i y\/N.D j y\/(y=i/\k=.stop)\/(y=j/\k'=.stop)else N.D x y):=hD
  rwa [if_neg QT]at this
 exact⟨(h.dst x y YL).1,gV y (h.dst x y YL).2⟩
def uA(i n:Nat)(f f':FuncId)(p p':String):Trace:=#[{g:=i,fn:=f,pos:=p,act:=.go n},{g:=n,fn:=f',pos:=p',act:=.start}]
theorem xX(i n:Nat)(f f':FuncId)(p p':String):nL (uA i n f f' p p'):=by intro op hop m;simp only[uA,eG,bw,eB,or_false]at hop;rcases hop with rfl|rfl<;>simp
theorem XB(i n:Nat)(f f':FuncId)(p p':String):∀op∈uA i n f f' p p',op.act.touch?=none:=by intro op hop;simp only[uA,eG,bw,eB,or_false]at hop;rcases hop with rfl|rfl<;>rfl
theorem ab5{t:Trace}{i n x:Nat}{f f':FuncId}{p p':String}(hk:Knows t i x)(Mg:Deaf t i=0)(hdn:Deaf t n=0):Knows (t++uA i n f f' p p') n x:=
 A7 (xX i n f f' p p') (p:=0) (q:=1) hk rfl rfl rfl rfl
  (.spawn (child:=n) (by rw[act?_of (dI (t:=t) (u:=uA i n f f' p p') (k:=0) rfl)];rfl) (by rw[act?_of (dI (t:=t) (u:=uA i n f f' p p') (k:=1) rfl)];rfl)
   (by simp only[Trace.g?];rw[dI (t:=t) (u:=uA i n f f' p p') (k:=1) rfl];rfl)) Mg hdn
theorem TI.start {N:Net}{γ:Nat->So}{sz tp:Nat}{t:Trace}(h:TI N γ sz tp t){i:Nat}{ch k:Pc}(hi:i<N.n)(hg:N.pr i=.go ch k)(f f':FuncId)(p p':String):
  TI (N.start i ch k) (upd (upd γ i (γ i).give) N.n (γ i).give) sz tp (t++uA i N.n f f' p p'):=by
 have Ag:N.pr i≠.stop:=by rw[hg];simp
 have Mg:=h.hears i (.inl Ag);have hdn:=h.hears N.n (.inr (ak _));have o7:i≠N.n:=by omega
 have rC:∀y,y≠i->y≠N.n->(N.start i ch k).pr y=N.pr y:=λy h1 h2=>by show upd (upd N.pr i k) N.n ch y=_;rw[upd_ne _ _ h2,upd_ne _ _ h1]
 have hγ:∀y,y≠i->y≠N.n->upd (upd γ i (γ i).give) N.n (γ i).give y=γ y:=λy h1 h2=>by rw[upd_ne _ _ h2,upd_ne _ _ h1]
 have hγn:upd (upd γ i (γ i).give) N.n (γ i).give N.n=(γ i).give:=upd_same _ _ _;have hγi:upd (upd γ i (γ i).give) N.n (γ i).give i=(γ i).give:=by rw[upd_ne _ _ o7,upd_same]
 have own:∀y b,(upd (upd γ i (γ i).give) N.n (γ i).give y).2 b->(γ y).2 b/\y≠i/\y≠N.n:=by
  intro y b hb;by_cases h1:y=i;.rw[h1,hγi]at hb;exact hb.elim
  by_cases h2:y=N.n;.rw[h2,hγn]at hb;exact hb.elim
  rw[hγ y h1 h2]at hb;exact⟨hb,h1,h2⟩
 have sh:∀y b,(upd (upd γ i (γ i).give) N.n (γ i).give y).1 b->(γ y).1 b\/(γ i).1 b\/(γ i).2 b:=by
  intro y b hb;by_cases h1:y=i;.rw[h1,hγi]at hb;exact .inr hb
  by_cases h2:y=N.n;.rw[h2,hγn]at hb;exact .inr hb
  rw[hγ y h1 h2]at hb;exact .inl hb
 have gV:∀y,y<N.n->N.pr y=.stop->(N.start i ch k).pr y=.stop:=λy Mo hy=>by
  have h1:y≠i:=λe=>Ag (e▸hy);have h2:y≠N.n:=by omega
  rw[rC y h1 h2,hy]
 refine h.move (N':=N.start i ch k) (XB _ _ _ _ _ _) (λy hy=>?_) (Nat.le_succ _) ?_ (λy hy Mo=>?_) (λy b hb=>(own y b hb).1) ?_ ?_ ?_ ?_ ?_ ?_
 .rw[dK (xX _ _ _ _ _ _)];by_cases h1:y=i;.rw[h1];exact Mg
  by_cases h2:y=N.n;.rw[h2];exact hdn
  refine h.hears y (hy.imp (λh3=>by rwa [rC y h1 h2]at h3) λh3=>?_);have h3:N.n+1<=y:=h3;omega
 .intro op hop;simp only[uA,eG,bw,eB,or_false]at hop;rcases hop with rfl|rfl;.exact qI hi
  exact vM _
 .by_cases h2:y=N.n;.subst h2;exact⟨i,hi,Ag,λx hx=>ab5 hx Mg hdn,λb hb=>by rw[hγn]at hb;exact hb⟩
  have aiM:y<N.n+1:=Mo;by_cases h1:y=i;.subst h1;exact⟨y,hi,Ag,λx hx=>hx.app _,λb hb=>by rw[hγi]at hb;exact hb⟩
  exact⟨y,by omega,by rwa [rC y h1 h2]at hy,λx hx=>hx.app _,λb hb=>by rw[hγ y h1 h2]at hb;exact .inl hb⟩
 .intro x y hD hy hx FW q a hq ha hgq;have Ft:(if x=N.n then N.D i y else N.D x y):=hD;by_cases Y4:x=N.n;.rw[if_pos Y4]at Ft;subst Y4;exact ab5 (h.kn q a y i hq ha hgq (h.dst i y Ft).2 Ft (.inr Ag) hi) Mg hdn
  rw[if_neg Y4]at Ft;have aiN:x<N.n+1:=FW;refine(h.kn q a y x hq ha hgq (h.dst x y Ft).2 Ft ?_ (by omega)).app _;rcases hx with h1|h1;.exact .inl h1
  by_cases h2:x=i;.rw[h2];exact .inr Ag
  rw[rC x h2 Y4]at h1;exact .inr h1
 .intro c' E hE;obtain⟨q,z,hq,hz,hh,hk⟩:=h.kc c' E hE;exact⟨q,z,by rw[getElem?_append_old (lt_size_of_getElem? hq)];exact hq,hz,(heard_old (lt_size_of_getElem? hq)).2 hh,λx a y hx ha hgx Tu=>(hk x a y hx ha hgx Tu).app _⟩
 .intro y y' b hb;obtain⟨h1,h2,h3⟩:=own y b hb;refine⟨λhS=>?_,λhne o8=>(h.yu y y' b h1).2 hne (own y' b o8).1⟩;rcases sh y' b hS with h4|h4|h4;.exact(h.yu y y' b h1).1 h4
  .exact(h.yu y i b h1).1 h4
  exact(h.yu y i b h1).2 h2 h4
 .intro y b hb;rcases hb with hb|hb
  .rcases sh y b hb with h4|h4;.exact h.HK y b (.inl h4)
   exact h.HK i b h4
  exact h.HK y b (.inr (own y b hb).1)
 .intro c' E y hE hy;have:=h.Oz c' E y hE hy;exact⟨qI this.1,gV y this.1 this.2⟩
 intro x y hD;have Ft:(if x=N.n then N.D i y else N.D x y):=hD;have:=if hx:x=N.n then h.dst i y (by rwa [if_pos hx]at Ft)else h.dst x y (by rwa [if_neg hx]at Ft);exact⟨qI this.1,gV y this.1 this.2⟩
theorem TI.look {N:Net}{γ:Nat->So}{sz tp:Nat}{t:Trace}(h:TI N γ sz tp t){j:Nat}(hj:j<N.n)(hl:N.pr j≠.stop)(c:Nat)(fn:FuncId)(pos:String):
  TI N γ sz tp (t++#[{g:=j,fn,pos,act:=.access ⟨.obj c,false,true⟩}]):=by
 have Bn:nL #[({g:=j,fn,pos,act:=.access ⟨.obj c,false,true⟩}:MemOp)]:=by intro op hop m;simp only[eG,bI]at hop;subst hop;simp
 have cQ:∀i a,touchAt (t++#[({g:=j,fn,pos,act:=.access ⟨.obj c,false,true⟩}:MemOp)]) i=some a->(touchAt t i=some a/\(t++#[({g:=j,fn,pos,act:=.access ⟨.obj c,false,true⟩}:MemOp)]).g? i=t.g? i)\/(t.size<=i/\(t++#[({g:=j,fn,pos,act:=.access ⟨.obj c,false,true⟩}:MemOp)]).g? i=some j/\a=⟨.obj c,false,.atomic⟩):=by
  intro i a ha;obtain⟨x,hx,Md⟩:=touch_of ha;rcases getElem?_append_cases hx with ⟨hlt,jR⟩|⟨JK,S6⟩;.exact .inl ⟨by rw[touchAt_of jR];exact Md,g?_old hlt⟩
  simp only[eG,bI]at S6;subst S6;simp[MemAct.touch?]at Md;exact .inr ⟨JK,by unfold Trace.g?;rw[hx];rfl,Md.symm⟩
 refine⟨λsaid=>?_,λk hk=>by rw[dK Bn];exact h.hears k hk,?_,?_,?_,?_,?_,?_,?_,?_,h.yu,h.HK,h.Oz,h.dst,?_⟩
 .refine noRace_append (h.clean said) (g:=j) (λop hop=>by simp only[eG,bI]at hop;subst hop;rfl) λi a ha op hop b hb hc=>?_;simp only[eG,bI]at hop;subst hop;simp[MemAct.touch?]at hb;subst hb;rcases oT i tp with hi|hi;.exact h.pre i a j hi ha hc.2.1 hl hj
  exfalso;rcases h.obj i a hi ha with ⟨b,hb⟩|⟨hw,_⟩;.rw[hc.1]at hb;cases hb
  rcases hc.2.2.1 with h1|h1;.rw[hw]at h1;cases h1
  cases h1
 .intro i a k hi ha hm hlk hk;rcases cQ i a ha with ⟨ha',_⟩|⟨JK,_,_⟩;.exact(h.pre i a k hi ha' hm hlk hk).app _
  have:=h.tpl;omega
 .intro i a b k hi ha kZ hb;rcases cQ i a ha with ⟨ha',hg⟩|⟨_,_,rfl⟩;.rw[hg];exact h.own i a b k hi ha' kZ hb
  cases kZ
 .intro i a b k hi ha kZ SN hb hlk hk;rcases cQ i a ha with ⟨ha',hg⟩|⟨_,_,rfl⟩;.exact(h.shr i a b k hi ha' kZ SN hb hlk hk).app _
  cases kZ
 .intro i a b hi ha kZ;rcases cQ i a ha with ⟨ha',hg⟩|⟨_,_,rfl⟩;.exact h.low i a b hi ha' kZ
  cases kZ
 .intro i a hi ha;rcases cQ i a ha with ⟨ha',hg⟩|⟨_,_,rfl⟩;.exact h.obj i a hi ha'
  exact .inr ⟨rfl,rfl⟩
 .intro i k hi hg;unfold Trace.g? at hg;obtain⟨z,hz,rfl⟩:=af.1 hg;rcases getElem?_append_cases hz with ⟨hlt,CH⟩|⟨_,hzu⟩;.exact h.num i z.g hi (by simp[Trace.g?,CH])
  simp only[eG,bI]at hzu;subst hzu;exact hj
 .intro i a k x hi ha hg hs hD hx FW;rcases cQ i a ha with ⟨ha',og⟩|⟨_,og,_⟩;.rw[og]at hg;exact(h.kn i a k x hi ha' hg hs hD hx FW).app _
  rw[og]at hg;cases hg;exact absurd hs hl
 .intro c E hE;obtain⟨q,z,hq,hz,hh,hk⟩:=h.kc c E hE;refine⟨q,z,by rw[getElem?_append_old (lt_size_of_getElem? hq)];exact hq,hz,(heard_old (lt_size_of_getElem? hq)).2 hh,λi a k hi ha hg hEk=>?_⟩;rcases cQ i a ha with ⟨ha',og⟩|⟨_,og,_⟩;.rw[og]at hg;exact(hk i a k hi ha' hg hEk).app _
  rw[og]at hg;cases hg;exact absurd (h.Oz c E j hE hEk).2 hl
 have:=h.tpl;simp;omega
theorem TI.shut {N:Net}{γ:Nat->So}{sz tp:Nat}{t:Trace}(h0:TI N γ sz tp t){i c:Nat}{k:Pc}(hi:i<N.n)(hg:N.pr i=.close c k)(fn:FuncId)(pos:String):
  TI (N.shut i c k) γ sz tp (t++MemOp.ofEvents i fn pos (closeEvents c)):=by
 have Ag:N.pr i≠.stop:=by rw[hg];simp
 have h:=h0.look hi Ag c fn pos;have e:t++MemOp.ofEvents i fn pos (closeEvents c)=(t++#[{g:=i,fn,pos,act:=.access ⟨.obj c,false,true⟩}])++#[{g:=i,fn,pos,act:=.close c}]:=by rw[ofEvents_eq,Array.append_assoc];congr 1;simp[closeEvents,MemAct.ofEvent]
 rw[e];generalize t++#[{g:=i,fn,pos,act:=.access ⟨.obj c,false,true⟩}]=t at h;have Bn:nL #[({g:=i,fn,pos,act:=.close c}:MemOp)]:=by intro op hop m;simp only[eG,bI]at hop;subst hop;simp
 have Mg:=h.hears i (.inl Ag);have rC:∀y,y≠i->(N.shut i c k).pr y=N.pr y:=λy h1=>upd_ne _ _ h1;have C7:(N.shut i c k).pr i=k:=upd_same _ _ _;have live:∀y,(N.shut i c k).pr y≠.stop->N.pr y≠.stop:=λy hy=>by
  by_cases h1:y=i;.rw[h1];exact Ag
  rwa [rC y h1]at hy
 have gV:∀y,N.pr y=.stop->(N.shut i c k).pr y=.stop:=λy hy=>by have h1:y≠i:=λe=>Ag (e▸hy);rw[rC y h1,hy]
 refine h.move (N':=N.shut i c k) (λop hop=>by simp only[eG,bI]at hop;subst hop;rfl) (λy hy=>?_) (ak _) (λop hop=>by simp only[eG,bI]at hop;subst hop;exact hi) (λy hy Mo=>⟨y,Mo,live y hy,λx hx=>hx.app _,λb hb=>.inl hb⟩) (λ_ _ hb=>hb) ?_ ?_ h.yu h.HK ?_ ?_;.rw[dK Bn];exact h.hears y (hy.imp (live y) id)
 .intro x y hD hy hx FW q a hq ha hgq;exact(h.kn q a y x hq ha hgq (h.dst x y hD).2 hD (hx.imp id (live x)) FW).app _
 .intro c' E hE;by_cases hc:c'=c
  .subst hc;have Cj:(λy=>N.D i y\/(y=i/\k=.stop))=E:=by have:upd N.cl c' (some λy=>N.D i y\/(y=i/\k=.stop)) c'=some E:=hE;rw[upd_same]at this;exact cA this
   subst Cj;refine⟨t.size+0,_,dI rfl,rfl,nN Bn (k:=0) rfl Mg,λx a y hx ha hgx Tu=>?_⟩;have hk:Knows t i x:=by
    rcases Tu with h1|⟨rfl,_⟩;.exact h.kn x a y i hx ha hgx (h.dst i y h1).2 h1 (.inr Ag) hi
    exact AB hgx
   exact .inr (hk.hb_new (ak _) (dI (k:=0) rfl) rfl)
  have Cj:N.cl c'=some E:=by
   have:upd N.cl c (some λy=>N.D i y\/(y=i/\k=.stop)) c'=some E:=hE
   rwa [upd_ne _ _ hc]at this
  obtain⟨q,z,hq,hz,hh,hk⟩:=h.kc c' E Cj;exact⟨q,z,by rw[getElem?_append_old (lt_size_of_getElem? hq)];exact hq,hz,(heard_old (lt_size_of_getElem? hq)).2 hh,λx a y hx ha hgx Tu=>(hk x a y hx ha hgx Tu).app _⟩
 .intro c' E y hE hy;by_cases hc:c'=c
  .subst hc;have Cj:(λy=>N.D i y\/(y=i/\k=.stop))=E:=by have:upd N.cl c' (some λy=>N.D i y\/(y=i/\k=.stop)) c'=some E:=hE;rw[upd_same]at this;exact cA this
   subst Cj;rcases hy with h1|⟨rfl,h1⟩;.exact⟨(h.dst i y h1).1,gV y (h.dst i y h1).2⟩
   exact⟨hi,by rw[C7];exact h1⟩
  have Cj:N.cl c'=some E:=by
   have:upd N.cl c (some λy=>N.D i y\/(y=i/\k=.stop)) c'=some E:=hE
   rwa [upd_ne _ _ hc]at this
  exact⟨(h.Oz c' E y Cj hy).1,gV y (h.Oz c' E y Cj hy).2⟩
 intro x y hD;exact⟨(h.dst x y hD).1,gV y (h.dst x y hD).2⟩
theorem TI.hear {N:Net}{γ:Nat->So}{sz tp:Nat}{t:Trace}(h:TI N γ sz tp t){j c:Nat}{ok:Bool}{z:Value}{kr:Option Value->Pc}{k:Pc}{E:Nat->Prop}(hj:j<N.n)(hg:N.pr j=.recv c ok z kr)(hE:N.cl c=some E)(fn:FuncId)(pos:String):
  TI (N.hear j k E) γ sz tp (t++#[{g:=j,fn,pos,act:=.recvClosed c}]):=by
 have Tf:N.pr j≠.stop:=by rw[hg];simp
 have Bn:nL #[({g:=j,fn,pos,act:=.recvClosed c}:MemOp)]:=by intro op hop m;simp only[eG,bI]at hop;subst hop;simp
 have SL:=h.hears j (.inl Tf);have rC:∀y,y≠j->(N.hear j k E).pr y=N.pr y:=λy h1=>upd_ne _ _ h1;have live:∀y,(N.hear j k E).pr y≠.stop->N.pr y≠.stop:=λy hy=>by
  by_cases h1:y=j;.rw[h1];exact Tf
  rwa [rC y h1]at hy
 have gV:∀y,N.pr y=.stop->(N.hear j k E).pr y=.stop:=λy hy=>by have h1:y≠j:=λe=>Tf (e▸hy);rw[rC y h1,hy]
 refine h.move (N':=N.hear j k E) (λop hop=>by simp only[eG,bI]at hop;subst hop;rfl) (λy hy=>?_) (ak _) (λop hop=>by simp only[eG,bI]at hop;subst hop;exact hj) (λy hy Mo=>⟨y,Mo,live y hy,λx hx=>hx.app _,λb hb=>.inl hb⟩) (λ_ _ hb=>hb) ?_ ?_ h.yu h.HK ?_ ?_;.rw[dK Bn];exact h.hears y (hy.imp (live y) id)
 .intro x y hD hy hx FW q a hq ha hgq;have Ft:(if x=j then N.D j y\/E y else N.D x y):=hD;by_cases S7:x=j
  .rw[if_pos S7]at Ft;subst S7;rcases Ft with h1|h1;.exact(h.kn q a y x hq ha hgq (h.dst x y h1).2 h1 (.inr Tf) FW).app _
   obtain⟨p,zp,hp,hzp,hh,hk⟩:=h.kc c E hE;have hb:=hk q a y hq ha hgq h1;have Ta:=lt_size_of_getElem? hp;refine⟨t.size+0,_,dI rfl,rfl,.inr (hb.app _|>.hb (.single (.inr ⟨?_,(heard_old Ta).2 hh,nN Bn (k:=0) rfl SL⟩)))⟩;refine .closed (c:=c) ?_ (by rw[act?_of (dI (t:=t) (k:=0) rfl)];rfl);rw[act?_old Ta,act?_of hp,hzp]
  rw[if_neg S7]at Ft;exact(h.kn q a y x hq ha hgq (h.dst x y Ft).2 Ft (hx.imp id (live x)) FW).app _
 .intro c' E' Cj;obtain⟨q,z,hq,hz,hh,hk⟩:=h.kc c' E' Cj;exact⟨q,z,by rw[getElem?_append_old (lt_size_of_getElem? hq)];exact hq,hz,(heard_old (lt_size_of_getElem? hq)).2 hh,λx a y hx ha hgx Tu=>(hk x a y hx ha hgx Tu).app _⟩
 .intro c' E' y Cj hy;exact⟨(h.Oz c' E' y Cj hy).1,gV y (h.Oz c' E' y Cj hy).2⟩
 intro x y hD;have Ft:(if x=j then N.D j y\/E y else N.D x y):=hD;by_cases S7:x=j
 .rw[if_pos S7]at Ft;rcases Ft with h1|h1;.exact⟨(h.dst j y h1).1,gV y (h.dst j y h1).2⟩
  exact⟨(h.Oz c E y hE h1).1,gV y (h.Oz c E y hE h1).2⟩
 rw[if_neg S7]at Ft;exact⟨(h.dst x y Ft).1,gV y (h.dst x y Ft).2⟩
end Go.Co
