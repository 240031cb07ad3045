import Derived.Test.YtedcgbkilmlbhaaPk29
import Derived.RangeFuncIn
set_option maxHeartbeats 1000000
namespace Go.Di
open Go Go.Conc Go.Co
variable {P:Program} {aa:Machine->Trace->Prop} {ty:fP} {x:Cx} {aI:bS} {call:bt} {yf:ew}
def yT(P:Program)(aa:Machine->Trace->Prop)(ty:fP)(aI:bS)(call:bt)(yf:ew)(id:Nat)(ops:Array Oper)(draw:Bool):Prop:=
 ∀{env aK:List DV}{S':ai}{x:Cx}{a:Act}{b:Frame}{k:List Item}{cs:List Frame},qJ P ty aI call yf ops draw env x.S=some (aK,S')->b.kind≠.early->Rel x->iw x env a.tmps->
  (∀y a',y.S=S'->Rel y->bU x y->iw y aK a'.tmps->a'.defers=a.defers->jk P aa () (G (b.atR a' k) cs) y.w)->jk P aa () (G (b.atR a (.code (.region id ops draw)::k)) cs) x.w
def D8(P:Program)(aa:Machine->Trace->Prop)(ty:fP)(aI:bS)(call:bt)(yf:ew):Code->Prop
 |.region id ops draw=>yT P aa ty aI call yf id ops draw
 |.seq a b|.cond _ a b=>D8 P aa ty aI call yf a/\D8 P aa ty aI call yf b
 |.block _ c|.loop c|.scope c=>D8 P aa ty aI call yf c
 |_=>True
theorem RP(hP:Plain P)(fG:kG P ty)(hc:iC P aa call)(hi:B2 P aa aI)(lX:BZ P aa yf)(id:Nat)(ops:Array Oper):yT P aa ty aI call yf id ops false:=by intro env aK S' x a b k cs h hk hR he hn;simp only[qJ,aG,if_false]at h;refine gl hP (λw=>⟨_,RS⟩) ?_;have:=IZ hP fG hc hi lX hk ops.toList [] rfl h hR he hn;rw[List.range_eq_range'];simpa using this
def Kb(P:Program)(aa:Machine->Trace->Prop)(b:Frame)(k:List Item)(cs:List Frame):DX->Act->World->Prop
 |.normal,a,w=>jk P aa () (G (b.atR a k) cs) w
 |.exit id,a,w=>∀k',exitTo id k'=exitTo id k->jk P aa () (G (b.atR a (.code (.exit id)::k')) cs) w
 |.ret,a,w=>∀k',jk P aa () (G (b.atR a (.code .ret::k')) cs) w
theorem Kb.push {b:Frame}{k:List Item}{cs:List Frame}{e:DX}{a:Act}{w:World}{i:Item}(hi:∀id,exitTo id (i::k)=exitTo id k)(he:e≠.normal)(h:Kb P aa b k cs e a w):Kb P aa b (i::k) cs e a w:=by
 cases e with
 |normal=>exact absurd rfl he
 |exit id=>exactλk' rq=>h k' (rq.trans (hi id))
 |ret=>exact h
def uN(n0:Nat)(x:Cx)(ds:List Nat)(l:List Deferred):Prop:=l=ds.map (λid=>{target:=.collected (x.μ id),args:=#[]})/\ds.Nodup/\∀id∈ds,n0<=id/\x.S[id]? =some .defer/\x.w.heap[x.μ id]? =some (.deferred (some []))
theorem uN.mono {n0:Nat}{y:Cx}(M:bU x y){ds:List Nat}{l:List Deferred}(h:uN n0 x ds l):uN n0 y ds l:=by
 obtain⟨h1,h2,h3⟩:=h;have hμ:∀id∈ds,y.μ id=x.μ id:=λid hid=>(M.eF id _ (h3 id hid).2.1 rfl).1;refine⟨?_,h2,λid hid=>?_⟩;.rw[h1];exact List.map_congr_left λid hid=>by rw[hμ id hid]
 obtain⟨q1,q2,q3⟩:=h3 id hid;obtain⟨r1,⟨b',r2,r3⟩,r4⟩:=M.eF id _ q2 rfl;have:b'=.defer:=by cases b'<;>first|rfl|exact r3.elim
 subst this;exact⟨q1,r2,by rw[hμ id hid,r4 rfl];exact q3⟩
theorem Bw(n0:Nat)(x:Cx):uN n0 x [] []:=⟨rfl,List.nodup_nil,by simp⟩
theorem JB{b:Frame}{a:Act}{k:List Item}{cs:List Frame}{w:World}{g:Operand}{ps:Array Tmp}{assign body:Code}{f:FuncId}{fs vs:Array Value}{fn:Func}{c:Code}(hk:b.kind≠.early)(hr:b.roundOf=none)(hg:a.eval g=.func (.func f) fs vs)(hf:P.funcs[f]? =some fn)(hb:fn.body=some c)(yN:(fn.name=="runtime.NumGoroutine")=false):
  ∃es,stepG P true (G (b.atR a (.code (.rangeFunc g ps assign body)::k)) cs) w=
   .go (G (Frame.enter P f (fs++#[.func (.yield (w.heap.size+1)) #[] #[]]++vs) .normal) (b.atR {a with defers:={target:=.collected w.heap.size,args:=#[]}::a.defers} (.inRangeFunc (w.heap.size+1)::k)::cs))
    ((w.alloc (.deferred (some []))).alloc (.loop {state:=.ready,pending:=none,fn:=b.fn,tmps:=a.tmps,params:=ps,assign,body,defers:=w.heap.size})) es:=by
 have rq:(b.kind==CallKind.early)=false:=by simpa using hk
 have wU:=Frame.eval_atR b {a with defers:={target:=.collected w.heap.size,args:=#[]}::a.defers} (.inRangeFunc (w.heap.size+1)::k);simp only[Frame.atR,hr]at wU;have ah9:({tmps:=a.tmps,defers:={target:=.collected w.heap.size,args:=#[]}::a.defers}:Act).eval g=.func (.func f) fs vs:=by rw[<-hg];cases g<;>rfl
 have TD:∀(w2:World),(do let d<-resolve ({tmps:=a.tmps,defers:={target:=.collected w.heap.size,args:=#[]}::a.defers}:Act).eval {callee:=.value g,args:=#[.const (.func (.yield (w.heap.size+1)) #[] #[])],argTypes:=#[]} 0;invoke d.target d.args:Sem Next).run P w2=.ok (.enter f (fs++#[.func (.yield (w.heap.size+1)) #[] #[]]++vs)) w2:=by
  intro w2;have ah3:∀(a:Act)(v:Value),a.eval (.const v)=v:=λ_ _=>rfl;have hn2:¬fn.name="runtime.NumGoroutine":=by simpa using yN
  simp[resolve,ah9,ah3,Deferred.ofValue,invoke,callFunc,hf,hn2,hb]
 have NA:(Instr.enterLoop b.fn a.tmps ps assign body none).run P w=.ok (w.heap.size+1,[{target:=.collected w.heap.size,args:=#[]}])
   ((w.alloc (.deferred (some []))).alloc (.loop {state:=.ready,pending:=none,fn:=b.fn,tmps:=a.tmps,params:=ps,assign,body,defers:=w.heap.size})):=by
  simp[Instr.enterLoop]
 simp only[G,stepG,stepG.exec,Frame.atR,hr,Sem.runT_eq,NA,stepG.apply,wU,if_true,TD,rq,List.singleton_append,GStep.after,aG,if_false];exact⟨_,rfl⟩
end Go.Di
namespace Go.Di
open Go Go.Conc Go.Co
variable {P:Program} {aa:Machine->Trace->Prop} {ty:fP} {x:Cx} {aI:bS} {call:bt} {yf:ew}
theorem Mh{b:Frame}{a:Act}{k:List Item}{cs:List Frame}{w w':World}{l:Nat}{jump:Option Code}(h:(Instr.endLoop l).run P w=.ok jump w'):
  ∃es,stepG P true (G (b.atR a (.endRangeFunc l::k)) cs) w=.go (G (b.atR a ((jump.map Item.code).toList++k)) cs) w' es:=by
 simp only[G,stepG,stepG.exec,Frame.atR,Sem.runT_eq,h,GStep.after];exact⟨_,rfl⟩
theorem u6(hR:Rel x){id:Nat}{r:Gz}(h:x.S[id]? =some (.loop r)):∃lo,x.w.heap[x.μ id]? =some (.loop lo)/\lo.state=r.st/\lo.pending=r.kD/\lo.fn=r.fn/\iw x r.env lo.tmps/\lo.params=r.params.toArray/\lo.assign=r.assign/\lo.body=r.body/\lo.defers=x.μ r.BI/\x.S[r.BI]? =some .defer:=by obtain⟨o,h1,h2⟩:=hR.eF id _ h rfl;cases o<;>simp only[uL]at h2;exact⟨_,h1,h2⟩
theorem Eb(hR:Rel x){id:Nat}{r:Gz}(h:x.S[id]? =some (.loop r)){lo:Loop}(SY:x.w.heap[x.μ id]? =some (.loop lo))(st:LoopState)(pd:Option Code):
  Rel (x.xI id (.loop {lo with state:=st,pending:=pd}) (.loop {r with st:=st,kD:=pd}))/\bU x (x.xI id (.loop {lo with state:=st,pending:=pd}) (.loop {r with st:=st,kD:=pd})):=by
 obtain⟨lo',h1,h2,h3,h4,h5,h6,h7,h8,h9,wO⟩:=u6 hR h;rw[SY]at h1;cases h1;have M:=Bj (x:=x) (o:=.loop {lo with state:=st,pending:=pd}) (b:=.loop {r with st:=st,kD:=pd}) hR h rfl (by simp);refine⟨K6 hR h rfl (by simp) ⟨rfl,rfl,h4,h5.mono M,h6,h7,h8,h9,?_⟩,M⟩;show(x.S.set _ _)[_]? =_;rw[ij h,if_neg (by rintro e;rw[e,h]at wO;cases wO)];exact wO
theorem P5(S:ai):Fy S S.length:=.inl rfl
theorem B8(S:ai)(b:DB):eW S S.length b=S++[b]:=by unfold eW;rw[if_neg (by omega)]
theorem zU(hP:Plain P)(hc:iC P aa call){L:Nat}{fn:FuncId}{jj:Bool}{n0:Nat}{b:Frame}{cs:List Frame}(hk:b.kind≠.early)(Tw:b.fn=fn)(hrd:jj=false->b.roundOf=none):
  ∀(c:Code),D8 P aa ty aI call yf c->∀{k:List Item}{env aK:List DV}{S':ai}{e:DX}{a:Act}{x:Cx}{ds:List Nat},cW P ty aI call yf L fn jj c env x.S=some (e,aK,S')->Rel x->iw x env a.tmps->uN n0 x ds a.defers->n0<=x.S.length->
   (∀y a' iJ,y.S=S'->Rel y->bU x y->iw y aK a'.tmps->uN n0 y iJ a'.defers->Kb P aa b k cs e a' y.w)->jk P aa () (G (b.atR a (.code c::k)) cs) x.w:=by
 intro c;induction c with
 |skip=>intro _ k env aK S' e a x ds h hR he hd yy hn;simp only[cW,aB,ay]at h;obtain⟨rfl,rfl,rfl⟩:=h;exact gl hP (λw=>⟨_,aai⟩) (hn x a ds rfl hR (bU.refl x) he hd)
 |label l=>intro _ k env aK S' e a x ds h hR he hd yy hn;simp only[cW,aB,ay]at h;obtain⟨rfl,rfl,rfl⟩:=h;exact gl hP (λw=>⟨_,W7⟩) (hn x a ds rfl hR (bU.refl x) he hd)
 |region id ops draw=>intro mR k env aK S' e a x ds h hR he hd yy hn;simp only[cW,af,ay]at h;obtain⟨⟨qz,S1⟩,h1,rfl,rfl,rfl⟩:=h;exact mR h1 hk hR he λy a' q1 q2 q3 q4 q5=>hn y a' ds q1 q2 q3 q4 (by rw[q5];exact hd.mono q3)
 |seq c1 c2 QN SR=>
  intro mR k env aK S' e a x ds h hR he hd yy hn;simp only[cW]at h;refine gl hP (λw=>⟨_,aen⟩) ?_;split at h;.rename_i qz S1 h1;refine QN mR.1 h1 hR he hd yy λy a' iJ q1 q2 q3 q4 q5=>?_;subst q1;exact SR mR.2 h q2 q4 q5 (bp yy q3.len) λz a'' adq r1 r2 r3 r4 r5=>hn z a'' adq r1 r2 (q3.trans r3) r4 r5
  rename_i r hne;refine QN mR.1 h hR he hd yy λy a' iJ q1 q2 q3 q4 q5=>Kb.push (λ_=>rfl) ?_ (hn y a' iJ q1 q2 q3 q4 q5);rintro rfl;exact hne _ _ h
 |cond o c1 c2 QN SR=>
  intro mR k env aK S' e a x ds h hR he hd yy hn;simp only[cW]at h;split at h;.rename_i ho;have hv:=xN (xR he _ _ ho);refine gl hP (λw=>⟨_,PL hv⟩) ?_;rw[if_pos rfl];exact QN mR.1 h hR he hd yy hn
  .rename_i ho;have hv:=xN (xR he _ _ ho);refine gl hP (λw=>⟨_,PL hv⟩) ?_;rw[if_neg (by simp)];exact SR mR.2 h hR he hd yy hn
  cases h
 |block id c ih=>
  intro mR k env aK S' e a x ds h hR he hd yy hn;simp only[cW]at h;refine gl hP (λw=>⟨_,W9⟩) ?_;split at h
  .rename_i jd qz S1 h1;cases h;refine ih mR h1 hR he hd yy λy a' iJ q1 q2 q3 q4 q5=>?_;have hf:=hn y a' iJ q1 q2 q3 q4 q5;intro k' rq;simp only[exitTo]at rq;by_cases hid:jd=id;.subst hid;simp only[vV,if_true]at rq hf;exact gl hP (λw=>⟨_,aak rq⟩) hf
   rw[if_neg hid]at hf;have:(id==jd)=false:=by simpa usingλe=>hid e.symm
   rw[this]at rq;exact hf k' rq
  rename_i r hne;refine ih mR h hR he hd yy λy a' iJ q1 q2 q3 q4 q5=>?_;have hf:=hn y a' iJ q1 q2 q3 q4 q5;cases e with
  |normal=>exact gl hP (λw=>⟨_,N3⟩) hf
  |exit jd=>exact absurd h (hne _ _ _)
  |ret=>exact hf
 |loop c ih=>
  intro mR k env aK S' e a x ds h hR he hd yy hn;simp only[cW]at h;refine gl hP (λw=>⟨_,aaj⟩) ?_;have key:∀n {env:List DV}{a:Act}{x:Cx}{ds:List Nat},oH (cW P ty aI call yf L fn jj c) n env x.S=some (e,aK,S')->Rel x->iw x env a.tmps->uN n0 x ds a.defers->n0<=x.S.length->
    (∀y a' iJ,y.S=S'->Rel y->bU x y->iw y aK a'.tmps->uN n0 y iJ a'.defers->Kb P aa b k cs e a' y.w)->jk P aa () (G (b.atR a (.code c::.inLoop c::k)) cs) x.w:=by
   intro n;induction n with
   |zero=>intro env a x ds h;simp[oH]at h
   |succ n ihn=>
    intro env a x ds h hR he hd yy hn;unfold oH at h;split at h;.rename_i qz S1 h1;refine ih mR h1 hR he hd yy λy a' iJ q1 q2 q3 q4 q5=>?_;subst q1;exact gl hP (λw=>⟨_,RU⟩) (ihn h q2 q4 q5 (bp yy q3.len) λz a'' adq r1 r2 r3 r4 r5=>hn z a'' adq r1 r2 (q3.trans r3) r4 r5)
    rename_i r hne;refine ih mR h hR he hd yy λy a' iJ q1 q2 q3 q4 q5=>Kb.push (λ_=>rfl) ?_ (hn y a' iJ q1 q2 q3 q4 q5);rintro rfl;exact hne _ _ h
  exact key L h hR he hd yy hn
 |scope c ih=>
  intro mR k env aK S' e a x ds h hR he hd yy hn;simp only[cW]at h;refine gl hP (λw=>⟨_,W5⟩) ?_;refine ih mR h hR he hd yy λy a' iJ q1 q2 q3 q4 q5=>?_;have hf:=hn y a' iJ q1 q2 q3 q4 q5;cases e with
  |normal=>exact gl hP (λw=>⟨_,N2⟩) hf
  |exit jd=>exact Kb.push (λ_=>rfl) (by simp) hf
  |ret=>exact hf
 |exit id=>intro _ k env aK S' e a x ds h hR he hd yy hn;simp only[cW,aB,ay]at h;obtain⟨rfl,rfl,rfl⟩:=h;exact hn x a ds rfl hR (bU.refl x) he hd k rfl
 |ret=>intro _ k env aK S' e a x ds h hR he hd yy hn;simp only[cW,aB,ay]at h;obtain⟨rfl,rfl,rfl⟩:=h;exact hn x a ds rfl hR (bU.refl x) he hd k
 |goto l=>intro _ k env aK S' e a x ds h;simp[cW]at h
 |refuse why=>intro _ k env aK S' e a x ds h;simp[cW]at h
 |rangeFunc f ps oJ body _ _=>
  intro _ k env aK S' e a x ds h hR he hd yy hn;simp only[cW]at h;split at h;.cases h
  rename_i ahI;have hro:=hrd (by simpa using ahI);split at h
  .rename_i g fs vs hf;have hfv:=xR he _ _ hf;generalize hv:a.eval f=vf at hfv;cases hfv with
   |@fn _ _ _ vfs vcs k1 k2 k3 k4=>
    split at h
    .rename_i u S1 h1;refine jq hP λn=>?_;have hRn:=hR.dr n;have Mn:=fJ x n;have hp1:pP (x.w.at n) ((x.w.at n).alloc (.deferred (some []))) (.deferred (some [])):=gZ _ _;have My:=nk (x:=x.dr n) (k:=0) (F:=λ_=>False) (b:=.defer) hRn (P5 x.S) hp1 (by simp) (.inr (.inr (.inl ⟨rfl,by simp,trivial⟩)));have M1:=jS (x:=x.dr n) (k:=0) (F:=λ_=>False) (b:=.defer) hRn (P5 x.S) hp1;generalize JV:(x.dr n).fresh ((x.w.at n).alloc (.deferred (some []))) x.S.length 0 (λ_=>False) .defer=x1 at My M1;have hS1:x1.S=x.S++[.defer]:=by rw[<-JV];exact B8 x.S _
     have OG:x1.w=(x.w.at n).alloc (.deferred (some [])):=by rw[<-JV];rfl
     have hμ1:x1.μ x.S.length=x.w.heap.size:=by rw[<-JV];exact if_pos rfl
     have O2:x1.S.length=x.S.length+1:=by rw[hS1];simp
     have hp2:pP x1.w (((x.w.at n).alloc (.deferred (some []))).alloc (.loop {state:=.ready,pending:=none,fn:=b.fn,tmps:=a.tmps,params:=ps,assign:=oJ,body,defers:=x.w.heap.size})) (.loop {state:=.ready,pending:=none,fn:=b.fn,tmps:=a.tmps,params:=ps,assign:=oJ,body,defers:=x.w.heap.size}):=by rw[OG];exact gZ _ _
     have ab0:Fy x1.S (x.S.length+1):=.inl O2.symm;have M2:=jS (x:=x1) (k:=0) (F:=λ_=>False) (b:=.loop ⟨.ready,none,fn,env,ps.toList,oJ,body,x.S.length⟩) My ab0 hp2;generalize Ft:x1.fresh (((x.w.at n).alloc (.deferred (some []))).alloc (.loop {state:=.ready,pending:=none,fn:=b.fn,tmps:=a.tmps,params:=ps,assign:=oJ,body,defers:=x.w.heap.size})) (x.S.length+1) 0 (λ_=>False) (.loop ⟨.ready,none,fn,env,ps.toList,oJ,body,x.S.length⟩)=x2 at M2;have JP:x2.S=x.S++[.defer,.loop ⟨.ready,none,fn,env,ps.toList,oJ,body,x.S.length⟩]:=by rw[<-Ft];show eW x1.S (x.S.length+1) _=_;rw[<-O2,B8,hS1];simp
     have hw2:x2.w=((x.w.at n).alloc (.deferred (some []))).alloc (.loop {state:=.ready,pending:=none,fn:=b.fn,tmps:=a.tmps,params:=ps,assign:=oJ,body,defers:=x.w.heap.size}):=by rw[<-Ft];rfl
     have hμ2:x2.μ (x.S.length+1)=x.w.heap.size+1:=by rw[<-Ft];show(if _ then x1.w.heap.size else _)=_;rw[if_pos rfl,OG];simp[World.at]
     have hμ2':x2.μ x.S.length=x.w.heap.size:=by rw[<-Ft];show(if _ then _ else x1.μ x.S.length)=_;rw[if_neg (by omega),hμ1]
     have MM:=(Mn.trans M1).trans M2;have hR2:Rel x2:=by
      have:=nk (x:=x1) (k:=0) (F:=λ_=>False) (b:=.loop ⟨.ready,none,fn,env,ps.toList,oJ,body,x.S.length⟩) My ab0 hp2 (by simp) (.inr (.inr (.inl ⟨rfl,by simp,?_⟩)));.rw[Ft]at this;exact this
      rw[Ft];refine⟨rfl,rfl,Tw,he.mono MM,by simp,rfl,rfl,hμ2'.symm,?_⟩;rw[JP];simp
     have UU:uN n0 x2 (x.S.length::ds) ({target:=.collected x.w.heap.size,args:=#[]}::a.defers):=by
      obtain⟨q1,q2,q3⟩:=hd.mono MM;refine⟨by rw[aV,hμ2',q1],List.nodup_cons.2 ⟨λhm=>?_,q2⟩,λid hid=>?_⟩;.have:=(az.1 (hd.2.2 _ hm).2.1).1;omega
      rcases bz.1 hid with rfl|hid
      .refine⟨yy,by rw[JP];simp,?_⟩;rw[hμ2',hw2];have:((x.w.at n).alloc (.deferred (some []))).heap.size=x.w.heap.size+1:=by simp[World.at]
       rw[(gZ _ _).lt (by omega)];exact(gZ (x.w.at n) _).new
      exact q3 id hid
     have mY:iw x2 (fs++[.oq (x.S.length+1)]++vs) (vfs++#[.func (.yield (x.w.heap.size+1)) #[] #[]]++vcs):=by
      have e1:iw x2 fs vfs:=iw.mono MM ⟨k1,k3⟩;have e2:iw x2 vs vcs:=iw.mono MM ⟨k2,k4⟩;refine ny (ny e1 ⟨rfl,λj c hj=>?_⟩) e2;cases j with
      |zero=>simp only[cg,aB]at hj;subst hj;show RV x2 _ (.func (.yield (x.w.heap.size+1)) #[] #[]);rw[<-hμ2];exact .oq (r:=⟨.ready,none,fn,env,ps.toList,oJ,body,x.S.length⟩) (by rw[JP];simp)
      |succ j=>simp at hj
     obtain⟨⟨vB,cd,MG,Tx⟩,ahZ⟩:=hc _ _ _ _ _ h1 x2 _ hR2 JP mY;obtain⟨es,hstep⟩:=JB (P:=P) (b:=b) (a:=a) (k:=k) (cs:=cs) (w:=x.w.at n) (g:=f) (ps:=ps) (assign:=oJ) (body:=body) hk hro hv MG Tx (hP.count g vB MG);refine⟨_,_,_,es,hstep,?_⟩;have ab5:=ahZ (b.atR {a with defers:={target:=.collected x.w.heap.size,args:=#[]}::a.defers} (.inRangeFunc (x.w.heap.size+1)::k)) cs λy u hp=>?_;.rw[hw2]at ab5;exact ab5
     obtain⟨hyS,hyR,hyM,-⟩:=hp;subst hyS;rw[finish_atR_inRangeFunc];have MY:=MM.trans hyM;split at h
     .rename_i r hr;split at h;.cases h
      rename_i agF;have hμy:y.μ (x.S.length+1)=x.w.heap.size+1:=by rw[(hyM.eF _ _ (show x2.S[x.S.length+1]? =some (.loop ⟨.ready,none,fn,env,ps.toList,oJ,body,x.S.length⟩)by rw[JP];simp) rfl).1,hμ2]
      obtain⟨lo,l1,l2,l3,-⟩:=u6 hyR hr;rw[hμy]at l1;obtain⟨z1,z2⟩:=Eb hyR hr (by rw[hμy];exact l1) .exhausted r.kD;have hwz:(y.xI (x.S.length+1) (.loop {lo with state:=.exhausted,pending:=r.kD}) (.loop {r with st:=.exhausted,kD:=r.kD})).w=cK y.w (x.w.heap.size+1) (.loop {lo with state:=.exhausted,pending:=r.kD}):=by show cK y.w (y.μ _) _=_;rw[hμy]
      have hSz:(y.xI (x.S.length+1) (.loop {lo with state:=.exhausted,pending:=r.kD}) (.loop {r with st:=.exhausted,kD:=r.kD})).S=y.S.set (x.S.length+1) (.loop {r with st:=.exhausted}):=rfl;generalize y.xI (x.S.length+1) (.loop {lo with state:=.exhausted,pending:=r.kD}) (.loop {r with st:=.exhausted,kD:=r.kD})=z at z1 z2 hwz hSz;have MZ:=MY.trans z2;refine jq hP λn2=>?_;have agB:(Instr.endLoop (x.w.heap.size+1)).run P (y.w.at n2)=.ok r.kD (z.w.at n2):=by
       have hg:=jO (P:=P) (w:=y.w.at n2) (show(y.w.at n2).heap[x.w.heap.size+1]? =_ from l1) (by simp);have hs:=lF (P:=P) (w:=y.w.at n2) (o:=.loop {lo with state:=.exhausted,pending:=r.kD}) (show(y.w.at n2).heap[x.w.heap.size+1]? =_ from l1) (by simp);have hb:(lo.state==LoopState.busy)=false:=by rw[l2];simpa using agF
       simp only[Instr.endLoop,Instr.getLoop,Sem.run_bind,hg,Result.andThen_ok,Sem.run_pure,hb,aG,if_false,hs,l3];rw[hwz];rfl
      obtain⟨es2,CH⟩:=Mh (P:=P) (b:=b) (a:={a with defers:={target:=.collected x.w.heap.size,args:=#[]}::a.defers}) (k:=k) (cs:=cs) agB;refine⟨_,_,_,es2,CH,Kj ?_ n2⟩;have xL:=hn z {a with defers:={target:=.collected x.w.heap.size,args:=#[]}::a.defers} (x.S.length::ds);split at h;.rename_i hpd;simp only[aB,ay]at h;obtain⟨rfl,rfl,rfl⟩:=h;rw[hpd];exact xL hSz z1 MZ (he.mono MZ) ((UU.mono hyM).mono z2)
      .rename_i hpd;simp only[aB,ay]at h;obtain⟨rfl,rfl,rfl⟩:=h;rw[hpd];exact xL hSz z1 MZ (he.mono MZ) ((UU.mono hyM).mono z2) k
      .rename_i e' hpd;simp only[aB,ay]at h;obtain⟨rfl,rfl,rfl⟩:=h;rw[hpd];exact xL hSz z1 MZ (he.mono MZ) ((UU.mono hyM).mono z2) k rfl
      cases h
     cases h
    cases h
  cases h
end Go.Di
namespace Go.Di
open Go Go.Conc Go.Co
variable {P:Program} {aa:Machine->Trace->Prop} {ty:fP} {x:Cx} {aI:bS} {call:bt} {yf:ew}
theorem zH(h:∀id ops draw,yT P aa ty aI call yf id ops draw):∀c,D8 P aa ty aI call yf c:=by
 intro c;induction c with
 |region id ops draw=>exact h id ops draw
 |seq a b iha ihb=>exact⟨iha,ihb⟩
 |cond o a b iha ihb=>exact⟨iha,ihb⟩
 |block id c ih=>exact ih
 |loop c ih=>exact ih
 |scope c ih=>exact ih
 |_=>trivial
def Q3(tmps:Array Value):ResultVar->Sem Value
 |.tmp t=>pure (tmps.getD t undef)
 |.cell a t=>do loadVar t (<-asAddr (tmps.getD a undef))
theorem NY(fn:Func)(tmps:Array Value):results fn tmps=(do let vs<-fn.results.mapM (Q3 tmps);pure (if h:vs.size=1 then vs[0]else .tuple vs)):=by
 have:(λ|.tmp t=>pure (tmps.getD t undef)|.cell a t=>do loadVar t (<-asAddr (tmps.getD a undef)):ResultVar->Sem Value)=Q3 tmps:=by funext r;cases r<;>rfl
 rw[<-this];rfl
theorem I3(fG:kG P ty){env:List DV}{tmps:Array Value}(hR:Rel x)(he:iw x env tmps):∀{rs:List ResultVar}{l:List DV},uw ty env x.S rs=some l->
  ∃vs:List Value,(rs.mapM (Q3 tmps)).run P x.w=.ok vs x.w/\iw x l vs.toArray
 |[],l,h=>by simp only[uw,aB]at h;subst h;exact⟨[],rfl,rfl,by simp⟩
 |.tmp t::rs,l,h=>by
  simp only[uw,af]at h;obtain⟨l',h1,rfl⟩:=h;obtain⟨vs,h2,h3,h4⟩:=I3 fG hR he h1;have hv:RV x (env.getD t bE) (tmps.getD t undef):=xR (a:=⟨tmps,[]⟩) he (.tmp t) _ rfl;refine⟨tmps.getD t undef::vs,by simp only[List.mapM_cons,Q3,Sem.run_bind,Sem.run_pure,Result.andThen_ok,h2],by simpa using h3,λj c hc=>?_⟩;cases j with
  |zero=>simp only[cg,aB]at hc;subst hc;exact hv
  |succ j=>simpa [bq]using h4 j c (by simpa using hc)
 |.cell a t::rs,l,h=>by
  unfold uw at h;split at h
  .rename_i d l' h0 h1;cases h;obtain⟨vs,h2,h3,h4⟩:=I3 fG hR he h1;have hv:RV x (env.getD a bE) (tmps.getD a undef):=xR (a:=⟨tmps,[]⟩) he (.tmp a) _ rfl;obtain⟨v,h5,h6⟩:=Lz fG hR hv h0;have hrun:(Q3 tmps (.cell a t)).run P x.w=.ok v x.w:=by
    show(do loadVar t (<-asAddr (tmps.getD a undef)):Sem Value).run P x.w=_;generalize tmps.getD a undef=u at hv h5;unfold lH at h0;generalize env.getD a bE=da at hv h0;split at h0;.cases hv;simpa [Instr.loadAt,Instr.sureAddr,asAddr]using h5
    .cases hv;simpa [Instr.loadAt,Instr.sureAddr,asAddr]using h5
    .split at h0
     .rename_i hop;obtain⟨hS,HP⟩:=mJ hop;cases hv with
      |gD CV _ hA=>rw[hS]at CV;cases CV;rw[hA HP]at h5⊢;simpa [Instr.loadAt,Instr.sureAddr,asAddr]using h5
     cases h0
    cases h0
   refine⟨v::vs,by simp only[List.mapM_cons,Sem.run_bind,hrun,Result.andThen_ok,h2,Sem.run_pure],by simpa using h3,λj c hc=>?_⟩;cases j with
   |zero=>simp only[cg,aB]at hc;subst hc;exact h6
   |succ j=>simpa [bq]using h4 j c (by simpa using hc)
  cases h
theorem EZ(fG:kG P ty){fn:Func}{env:List DV}{tmps:Array Value}(hR:Rel x)(he:iw x env tmps){l:List DV}(h:uw ty env x.S fn.results.toList=some l):
  ∃v,(results fn tmps).run P x.w=.ok v x.w/\RV x (oneOf l) v:=by
 obtain⟨vs,h1,h2,h3⟩:=I3 fG hR he h;have hm:(fn.results.mapM (Q3 tmps)).run P x.w=.ok vs.toArray x.w:=by rw[Array.mapM_eq_mapM_toList];simp only[Sem.run_map,h1,Result.andThen_ok]
 refine⟨if h:vs.toArray.size=1 then vs.toArray[0]else .tuple vs.toArray,?_,?_⟩;.rw[NY];simp only[Sem.run_bind,hm,Result.andThen_ok,Sem.run_pure]
 match l,vs,h2,h3 with
 |[],[],_,_=>exact .tup rfl (by simp)
 |[d],[v],_,h3=>exact h3 0 d rfl
 |d::e::l,v::u::vs,h2,h3=>exact .tup (by simpa using h2) h3
 |[],_::_,h2,_=>simp at h2
 |[_],[],h2,_=>simp at h2
 |[_],_::_::_,h2,_=>simp at h2
 |_::_::_,[],h2,_=>simp at h2
 |_::_::_,[_],h2,_=>simp at h2
theorem W6{b:Frame}{a:Act}{todo:List Item}{c:Frame}{cs:List Frame}{w:World}{fn:Func}{v:Value}(hn:b.kind=.normal)(hd:a.defers=[])(hf:P.funcs[b.fn]? =some fn)(hr:(results fn a.tmps).run P w=.ok v w):
  ∃es,stepG P true (G {b.at a todo with mode:=.returning} (c::cs)) w=.go (G (c.finish v) cs) w es:=by
 simp only[G,stepG,unwind,doReturn,Frame.at,hn,hd,hf,Sem.runT_eq,hr,GStep.after];exact⟨_,rfl⟩
theorem PK{b:Frame}{a:Act}{todo:List Item}{cs:List Frame}{w w':World}{r:Nat}{ds:List Deferred}(hd:a.defers={target:=.collected r,args:=#[]}::ds)(hr:(Instr.takeDeferred r).run P w=.ok [] w'):
  ∃es,stepG P true (G {b.at a todo with mode:=.returning} cs) w=.go (G {b.at {a with defers:=ds} todo with mode:=.returning} cs) w' es:=by
 simp only[G,stepG,unwind,Frame.at,hd,Sem.runT_eq,hr,GStep.after,gQ];exact⟨_,rfl⟩
theorem Pn{x0:Cx}(M:bU x0 x)(hR:Rel x){id:Nat}(hid:x0.S.length<=id)(hS:x.S[id]? =some .defer):
  Rel {x with w:=cK x.w (x.μ id) (.deferred none)}/\bU x0 {x with w:=cK x.w (x.μ id) (.deferred none)}/\∀d v,RV x d v->RV {x with w:=cK x.w (x.μ id) (.deferred none)} d v:=by
 have kP:=bn hS (show DB.defer≠.none by simp);have aft:∀i,Live x0.S i->i≠id:=by rintro i ⟨c,hc,-⟩ rfl;have:=(az.1 hc).1;omega
 have VJ:x0.w.heap.size<=x.μ id:=by
  rcases M.live id kP with ⟨h,-⟩|h;.exact absurd rfl (aft id h)
  exact h
 have rF:∀b,b≠x.μ id->(cK x.w (x.μ id) (.deferred none)).heap[b]? =x.w.heap[b]? :=λb hb=>ia _ _ _ hb;have MF:∀b o,x.Fz b o->(cK x.w (x.μ id) (.deferred none)).cell? ⟨b,o,none⟩=x.w.cell? ⟨b,o,none⟩:=λb o h=>cell_of_block (rF b (by rintro rfl;exact hR.VP hS rfl o h)) o;have SV:∀d v,RV x d v->RV {x with w:=cK x.w (x.μ id) (.deferred none)} d v:=by
  intro d v h;induction h with
  |val h=>exact .val h
  |agg h _ ih=>exact .agg h ih
  |tup h _ ih=>exact .tup h ih
  |sl hv _ h1 h2 h3 hsp h4 ih=>exact .sl (View.mono (x:=x) (y:={x with w:=cK x.w (x.μ id) (.deferred none)}) (λb o h=>⟨h,MF b o h⟩) hv) ih h1 h2 h3 hsp h4
  |ptr h=>exact .ptr h
  |fF hv _ ih=>exact .fF (View.mono (x:=x) (y:={x with w:=cK x.w (x.μ id) (.deferred none)}) (λb o h=>⟨h,MF b o h⟩) hv) ih
  |fn h1 h2 _ _ QN SR=>exact .fn h1 h2 QN SR
  |map h=>exact .map h
  |oq h=>exact .oq h
  |jx h h1 h2=>exact .jx h h1 h2
  |gD h h1 h2=>exact .gD h h1 h2
 have hne:∀i b,x.S[i]? =some b->b≠.none->i≠id->x.μ i≠x.μ id:=λi b hi hb h e=>h (hR.inj i id (bn hi hb) kP e);obtain⟨ob,hob,-⟩:=hR.eF id _ hS rfl;refine⟨⟨λi l hl=>?_,λi e s n hl=>?_,λi b hb T9=>?_,hR.inj,λb o h=>?_,hR.sep,hR.pL,λi e s l z hl=>?_⟩,⟨?_,M.env,λb o h=>⟨(M.fz b o h).1,?_⟩,M.JM,λb hb hn=>?_,M.len,M.cells,λi b hb T9=>?_,M.dZ,M.live,M.ops⟩,SV⟩;.obtain⟨arr,e,h1,h2,h3⟩:=hR.cells i l hl;exact⟨arr,e,(rF _ (hne i _ hl (by simp) (by rintro rfl;rw[hS]at hl;cases hl))).trans h1,h2,λj c hc=>SV _ _ (h3 j c hc)⟩
 .obtain⟨arr,h1,h2⟩:=hR.dZ i e s n hl;exact⟨arr,(rF _ (hne i _ hl (by simp) (by rintro rfl;rw[hS]at hl;cases hl))).trans h1,h2⟩
 .by_cases h:i=id;.subst h;rw[hS]at hb;cases hb;exact⟨_,Ac _ _ _ _ hob,trivial⟩
  obtain⟨o,h1,h2⟩:=hR.eF i b hb T9;refine⟨o,(rF _ (hne i _ hb (fE T9) h)).trans h1,?_⟩;cases b<;>cases o<;>simp only[uL]at h2⊢<;>first|exact h2|trivial|(obtain⟨q1,q2,q3,q4,q5⟩:=h2;exact⟨q1,q2,q3,⟨q4.1,λj c hc=>SV _ _ (q4.2 j c hc)⟩,q5⟩)
 .obtain⟨v,hv⟩:=hR.As b o h;exact⟨v,(MF b o h).trans hv⟩
 .obtain⟨arr,h1,h2,h3,h4,h5,h6⟩:=hR.ops i e s l z hl;exact⟨arr,(rF _ (hne i _ hl (by simp) (by rintro rfl;rw[hS]at hl;cases hl))).trans h1,h2,h3,h4,λj c hc=>⟨(h5 j c hc).1,SV _ _ (h5 j c hc).2⟩,h6⟩
 .show _<=(cK x.w _ _).heap.size;simp only[cK,wh];exact M.size
 .exact(MF b o (M.fz b o h).1).trans (M.fz b o h).2
 .exact(rF b (by omega)).trans (M.old b hb hn)
 obtain⟨q1,q2,q3⟩:=M.eF i b hb T9;refine⟨q1,q2,λhd=>(rF _ ?_).trans (q3 hd)⟩;rw[<-q1];obtain⟨b',q4,q5⟩:=q2;exact hne i b' q4 (fE (u9 q5).2) (aft i (bn hb (fE T9)))
theorem Ln(hP:Plain P)(fG:kG P ty){x0:Cx}{b:Frame}{todo:List Item}{c:Frame}{cs:List Frame}{fn:Func}{env:List DV}{l:List DV}(hb:b.kind=.normal)(hf:P.funcs[b.fn]? =some fn){Sr:ai}:
  ∀(ds:List Nat){a:Act}{x:Cx},x.S=Sr->Rel x->bU x0 x->iw x env a.tmps->uN x0.S.length x ds a.defers->uw ty env Sr fn.results.toList=some l->
   (∀y v,y.S=Sr->Rel y->bU x0 y->RV y (oneOf l) v->jk P aa () (G (c.finish v) cs) y.w)->jk P aa () (G {b.at a todo with mode:=.returning} (c::cs)) x.w
 |[],a,x,hS,hR,hM,he,hd,hr,hn=>by refine jq hP λn=>?_;have MI:a.defers=[]:=hd.1;obtain⟨v,h1,h2⟩:=EZ (x:=x.dr n) fG (hR.dr n) (he.mono (fJ x n)) (l:=l) (by show uw ty env x.S _=_;rw[hS];exact hr);obtain⟨es,hst⟩:=W6 (P:=P) (b:=b) (a:=a) (todo:=todo) (c:=c) (cs:=cs) hb MI hf h1;exact⟨_,_,_,es,hst,hn (x.dr n) v hS (hR.dr n) (hM.trans (fJ x n)) h2⟩
 |id::ds,a,x,hS,hR,hM,he,hd,hr,hn=>by
  obtain⟨q1,q2,q3⟩:=hd;obtain⟨r1,r2,r3⟩:=q3 id (by simp);refine jq hP λn=>?_;have mS:=hR.dr n;have hM':=hM.trans (fJ x n);obtain⟨t1,t2,t3⟩:=Pn (x:=x.dr n) hM' mS r1 r2;have hg:=jO (P:=P) (w:=x.w.at n) (show(x.w.at n).heap[x.μ id]? =_ from r3) (by simp);have hs:=lF (P:=P) (w:=x.w.at n) (o:=.deferred none) (show(x.w.at n).heap[x.μ id]? =_ from r3) (by simp);have O1:(Instr.takeDeferred (x.μ id)).run P (x.w.at n)=.ok [] (cK (x.w.at n) (x.μ id) (.deferred none)):=by simp only[Instr.takeDeferred,Sem.run_bind,hg,Result.andThen_ok,hs,Sem.run_pure]
  obtain⟨es,hst⟩:=PK (P:=P) (b:=b) (a:=a) (todo:=todo) (cs:=c::cs) (ds:=ds.map λid=>{target:=.collected (x.μ id),args:=#[]}) (by rw[q1];rfl) O1;refine⟨_,_,_,es,hst,?_⟩;have Fu:=List.nodup_cons.1 q2;exact Ln hP fG hb hf ds (x:={x.dr n with w:=cK (x.w.at n) (x.μ id) (.deferred none)}) (a:={a with defers:=ds.map λid=>{target:=.collected (x.μ id),args:=#[]}}) hS t1 t2 ⟨he.1,λj c hc=>t3 _ _ (RV.mono (fJ x n) (he.2 j c hc))⟩
   ⟨rfl,Fu.2,λi hi=>by obtain⟨u1,u2,u3⟩:=q3 i (by simp[hi]);have hne:x.μ i≠x.μ id:=λe=>Fu.1 (hR.inj i id (bn u2 (by simp)) (bn r2 (by simp)) e▸hi);exact⟨u1,u2,(ia _ _ _ hne).trans u3⟩⟩ hr hn
theorem Yb(hP:Plain P)(fG:kG P ty)(hc:iC P aa call)(mR:∀id ops draw,yT P aa ty aI call yf id ops draw){L:Nat}{f:FuncId}{fn:Func}(hf:P.funcs[f]? =some fn){args:List DV}{S S':ai}{v:DV}(h:uH P ty aI call yf L f fn args S=some (v,S'))
  {vals:Array Value} (hR:Rel x) (hS:x.S=S) (ha:iw x args vals):fL P aa x f vals λy u=>y.S=S'/\Rel y/\bU x y/\RV y v u:=by
 subst hS;unfold uH at h;split at h
 .rename_i c hb;refine⟨⟨fn,c,hf,hb⟩,λfr cs hn=>?_⟩;rw[enter_at vals hf hb,<-Frame.atR_of_none (b:=base f) rfl];have he:iw x (args++List.replicate (fn.ntmps-args.length) bE) (vals++Array.replicate (fn.ntmps-vals.size) undef):=by
   refine ny ha ⟨by simp[ha.1],λj c hc=>?_⟩;rw[qW]at hc;split at hc
   .rename_i hj;cases hc;have:j<fn.ntmps-vals.size:=by rw[ha.1];exact hj
    have e:(Array.replicate (fn.ntmps-vals.size) undef).getD j undef=undef:=by simp[bq,this]
    rw[e];exact .val rfl
   cases hc
  have key:∀e aK S1,cW P ty aI call yf L f false c (args++List.replicate (fn.ntmps-args.length) bE) x.S=some (e,aK,S1)->(e=.normal\/e=.ret)->(uw ty aK S1 fn.results.toList).map (λl=>(oneOf l,S1))=some (v,S')->
    jk P aa () (G ((base f).atR {tmps:=vals++Array.replicate (fn.ntmps-vals.size) undef,defers:=[]} [.code c]) (fr::cs)) x.w:=by
   intro e aK S1 h1 he1 h2;simp only[af,ay]at h2;obtain⟨l,h3,rfl,rfl⟩:=h2;refine zU (n0:=x.S.length) (ds:=[]) (b:=base f) (cs:=fr::cs) (jj:=false) hP hc (by simp[base]) rfl (λ_=>rfl) c (zH mR c) h1 hR he (Bw _ _) (aj _) λy a' iJ q1 q2 q3 q4 q5=>?_;have lE:∀todo,jk P aa () (G {(base f).at a' todo with mode:=.returning} (fr::cs)) y.w:=λtodo=>
    Ln hP fG (x0:=x) (b:=base f) (env:=aK) (l:=l) (Sr:=S1) rfl hf iJ q1 q2 q3 q4 q5 h3 λz u r1 r2 r3 r4=>hn z u ⟨r1,r2,r3,r4⟩
   rcases he1 with rfl|rfl;.show jk P aa () (G ((base f).atR a' []) (fr::cs)) y.w;rw[Frame.atR_of_none (b:=base f) rfl];exact gl hP (λw=>⟨_,stepG_end⟩) (lE _)
   intro k';rw[Frame.atR_of_none (b:=base f) rfl];exact gl hP (λw=>⟨_,stepG_ret'⟩) (lE _)
  split at h;.rename_i aK S1 h1;exact key _ _ _ h1 (.inl rfl) h
  .rename_i aK S1 h1;exact key _ _ _ h1 (.inr rfl) h
  cases h
 cases h
theorem Pv:∀{ts:List Tmp}{ds:List DV}{vs:List Value}{env:List DV}{tmps:Array Value},iw x env tmps->vs.length=ds.length->(∀(j:Nat)(c:DV),ds[j]? =some c->RV x c (vs.getD j undef))->
  iw x (tK env (ts.zip ds)) ((ts.zip vs).foldl (λtmps (p:Tmp×Value)=>tmps.setIfInBounds p.1 p.2) tmps)
 |[],ds,vs,env,tmps,h,_,_=>by simpa [tK]using h
 |t::ts,[],[],env,tmps,h,_,_=>by simpa [tK]using h
 |t::ts,[],_::_,env,tmps,h,hl,_=>by simp at hl
 |t::ts,_::_,[],env,tmps,h,hl,_=>by simp at hl
 |t::ts,d::ds,v::vs,env,tmps,h,hl,hv=>by simp only[List.zip_cons_cons,tK,gu];exact Pv (Px h (by simpa using hv 0 d rfl)) (by simpa using hl) λj c hc=>by simpa using hv (j+1) c (by simpa using hc)
theorem Xa{b:Frame}{a:Act}{k:List Item}{cs:List Frame}{w w':World}{l:Nat}(hk:b.kind≠.early)(hr:b.roundOf=some l)(h:(Instr.beginRound l).run P w=.ok () w'):
  ∃es,stepG P true (G (b.atR a (.beginRound::k)) cs) w=.go (G (b.atR a k) cs) w' es:=by
 have rq:(b.kind==CallKind.early)=false:=by simpa using hk
 simp only[G,stepG,stepG.exec,Frame.atR,hr,stepG.apply,Option.elim_some,if_true,Sem.runT_eq,Sem.run_bind,h,Result.andThen_ok,Sem.run_pure,rq,GStep.after,Frame.finish];exact⟨_,rfl⟩
theorem JA{b:Frame}{a:Act}{c:Frame}{cs:List Frame}{w w':World}{l:Nat}{v:Value}(hn:b.kind=.normal)(hr:b.roundOf=some l)(h:(Instr.endRound l none).run P w=.ok v w'):
  ∃es,stepG P true (G (b.atR a []) (c::cs)) w=.go (G (c.finish v) cs) w' es:=by
 simp only[G,stepG,stepG.exec,Frame.atR,hr,Sem.runT_eq,h,GStep.after,doReturn,hn];exact⟨_,rfl⟩
theorem Jz{b:Frame}{a:Act}{k:List Item}{c:Frame}{cs:List Frame}{w w':World}{l:Nat}{v:Value}(hn:b.kind=.normal)(hr:b.roundOf=some l)(h:(Instr.endRound l (some .ret)).run P w=.ok v w'):
  ∃es,stepG P true (G (b.atR a (.code .ret::k)) (c::cs)) w=.go (G (c.finish v) cs) w' es:=by
 simp only[G,stepG,stepG.exec,Frame.atR,hr,Sem.runT_eq,h,GStep.after,doReturn,hn];exact⟨_,rfl⟩
theorem FY{b:Frame}{a:Act}{k:List Item}{c:Frame}{cs:List Frame}{w w':World}{l id:Nat}{v:Value}(hn:b.kind=.normal)(hr:b.roundOf=some l)(he:exitTo id k=none)(h:(Instr.endRound l (some (.exit id))).run P w=.ok v w'):
  ∃es,stepG P true (G (b.atR a (.code (.exit id)::k)) (c::cs)) w=.go (G (c.finish v) cs) w' es:=by
 simp only[G,stepG,stepG.exec,Frame.atR,hr,he,Option.elim_none,Sem.runT_eq,h,GStep.after,doReturn,hn];exact⟨_,rfl⟩
theorem RH(hP:Plain P)(hc:iC P aa call)(mR:∀id ops draw,yT P aa ty aI call yf id ops draw){L:Nat}:BZ P aa (uQ P ty aI call yf L):=by
 intro id args S v S' h x vals hR hS ha;subst hS;unfold uQ at h;split at h
 .rename_i r hr;split at h
  .rename_i hlen;obtain⟨lo,l1,l2,l3,l4,l5,l6,l7,l8,-⟩:=u6 hR hr;refine⟨lo,l1,by rw[l6];simpa [ha.1]using hlen,λfr cs hn=>?_⟩;have J1:∀tmps,Frame.round (x.μ id) lo.fn tmps lo.assign lo.body .normal=({(default:Frame)with fn:=r.fn,kind:=.normal,roundOf:=some (x.μ id)}:Frame).atR {tmps:=tmps,defers:=[]} [.code r.assign,.beginRound,.code r.body]:=by intro tmps;simp[Frame.round,Frame.atR,l4,l7,l8]
   rw[J1];generalize hB:({(default:Frame)with fn:=r.fn,kind:=.normal,roundOf:=some (x.μ id)}:Frame)=B;have QX:B.kind=.normal:=by rw[<-hB]
   have hBf:B.fn=r.fn:=by rw[<-hB]
   have hBr:B.roundOf=some (x.μ id):=by rw[<-hB]
   have hBe:B.kind≠.early:=by rw[QX];simp
   have he:iw x (tK r.env (r.params.zip args)) ((lo.params.zip vals).foldl (λtmps (t,a)=>tmps.setIfInBounds t a) lo.tmps):=by
    have:=Pv (ts:=r.params) (ds:=args) (vs:=vals.toList) l5 (by simpa using ha.1) λj c hc=>by simpa [bq,aR]using ha.2 j c hc
    rw[l6,<-zo];simpa using this
   split at h
   .rename_i adn S1 h1;split at h
    .rename_i r1 wM;split at h
     .rename_i hst;split at h
      .rename_i e aiY S2 h2;split at h
       .rename_i r2 MD;refine zU (n0:=0) (ds:=[]) (b:=B) (cs:=fr::cs) (jj:=true) hP hc hBe hBf (by simp) r.assign (zH mR _) h1 hR he (Bw _ _) (mw _) λy a1 ds1 q1 q2 q3 q4 q5=>?_;subst q1;obtain⟨lo1,m1,m2,m3,-⟩:=u6 q2 wM;have hμy:y.μ id=x.μ id:=(q3.eF id _ hr rfl).1;refine jq hP λn=>?_;obtain⟨z1,z2⟩:=Eb (q2.dr n) (id:=id) wM (lo:=lo1) m1 .busy r1.kD;have ahP:({lo1 with state:=.busy,pending:=r1.kD}:Loop)={lo1 with state:=.busy}:=by rw[<-m3]
        rw[ahP]at z1 z2;have ah6:(Instr.beginRound (x.μ id)).run P (y.w.at n)=.ok () (cK (y.w.at n) (x.μ id) (.loop {lo1 with state:=.busy})):=by
         have hg:=jO (P:=P) (w:=y.w.at n) (show(y.w.at n).heap[x.μ id]? =_ from(by rw[<-hμy];exact m1)) (by simp);have hs:=lF (P:=P) (w:=y.w.at n) (o:=.loop {lo1 with state:=.busy}) (show(y.w.at n).heap[x.μ id]? =_ from(by rw[<-hμy];exact m1)) (by simp);have hrd:lo1.state=.ready:=by rw[m2];exact hst
         simp only[Instr.beginRound,Instr.getLoop,Sem.run_bind,hg,Result.andThen_ok,Sem.run_pure,hs,hrd]
        obtain⟨es,hstep⟩:=Xa (P:=P) (a:=a1) (k:=[.code r.body]) (cs:=fr::cs) hBe hBr ah6;refine⟨_,_,_,es,hstep,?_⟩;generalize hz:(y.dr n).xI id (.loop {lo1 with state:=.busy}) (.loop {r1 with st:=.busy,kD:=r1.kD})=z at z1 z2;have hzS:z.S=y.S.set id (.loop {r1 with st:=.busy}):=by rw[<-hz];rfl
        have hzw:z.w=cK (y.w.at n) (x.μ id) (.loop {lo1 with state:=.busy}):=by rw[<-hz];show cK (y.w.at n) (y.μ id) _=_;rw[hμy]
        rw[<-hzw];have MYZ:=(fJ y n).trans z2;rw[<-hzS]at h2;refine zU (n0:=0) (ds:=ds1) (b:=B) (cs:=fr::cs) (k:=[]) (jj:=true) hP hc hBe hBf (by simp) r.body (zH mR _) h2 z1 (q4.mono MYZ) (q5.mono MYZ) (mw _) λu a2 ds2 p1 p2 p3 p4 p5=>?_;subst p1;obtain⟨lo2,n1,-⟩:=u6 p2 MD;have hμu:u.μ id=x.μ id:=by have:=(p3.eF id _ (show z.S[id]? =some (.loop {r1 with st:=.busy})by rw[hzS,ij wM,if_pos rfl]) rfl).1;rw[this,<-hz];exact hμy
        have MXU:=(q3.trans MYZ).trans p3;have fin:∀st pd,∀n2,(Instr.endRound (x.μ id) pd).run P (u.w.at n2)=.ok (.bool pd.isNone) (cK (u.w.at n2) (x.μ id) (.loop {lo2 with state:=if pd.isNone then .ready else .done,pending:=pd}))->st=(if pd.isNone then LoopState.ready else .done)->S'=u.S.set id (.loop {r2 with st:=st,kD:=pd})->v=.val (.bool pd.isNone)->
          jk P aa () (G (fr.finish (.bool pd.isNone)) cs) (cK (u.w.at n2) (x.μ id) (.loop {lo2 with state:=if pd.isNone then .ready else .done,pending:=pd})):=by
         intro st pd n2 _ TZ CV hv;obtain⟨y1,y2⟩:=Eb (p2.dr n2) (id:=id) MD (lo:=lo2) n1 st pd;have:=hn ((u.dr n2).xI id (.loop {lo2 with state:=st,pending:=pd}) (.loop {r2 with st:=st,kD:=pd})) (.bool pd.isNone) ⟨CV.symm,y1,(MXU.trans (fJ u n2)).trans y2,by rw[hv];exact .val rfl⟩;have e:((u.dr n2).xI id (.loop {lo2 with state:=st,pending:=pd}) (.loop {r2 with st:=st,kD:=pd})).w=cK (u.w.at n2) (x.μ id) (.loop {lo2 with state:=if pd.isNone then .ready else .done,pending:=pd}):=by show cK (u.w.at n2) (u.μ id) _=_;rw[hμu,TZ]
         rw[e]at this;exact this
        have uz:∀pd n2,(Instr.endRound (x.μ id) pd).run P (u.w.at n2)=.ok (.bool pd.isNone) (cK (u.w.at n2) (x.μ id) (.loop {lo2 with state:=if pd.isNone then .ready else .done,pending:=pd})):=by intro pd n2;have hg:=jO (P:=P) (w:=u.w.at n2) (show(u.w.at n2).heap[x.μ id]? =_ from(by rw[<-hμu];exact n1)) (by simp);have hs:=λo=>lF (P:=P) (w:=u.w.at n2) (o:=o) (show(u.w.at n2).heap[x.μ id]? =_ from(by rw[<-hμu];exact n1)) (by simp);simp only[Instr.endRound,Instr.getLoop,Sem.run_bind,hg,Result.andThen_ok,Sem.run_pure,hs]
        cases e with
        |normal=>simp only[aB,ay]at h;refine jq hP λn2=>?_;obtain⟨es2,CH⟩:=JA (P:=P) (a:=a2) (c:=fr) (cs:=cs) QX hBr (uz none n2);exact⟨_,_,_,es2,CH,fin .ready none n2 (uz none n2) rfl h.2.symm h.1.symm⟩
        |ret=>simp only[aB,ay]at h;intro k';refine jq hP λn2=>?_;obtain⟨es2,CH⟩:=Jz (P:=P) (a:=a2) (k:=k') (c:=fr) (cs:=cs) QX hBr (uz (some .ret) n2);exact⟨_,_,_,es2,CH,fin .done (some .ret) n2 (uz (some .ret) n2) rfl h.2.symm h.1.symm⟩
        |exit i=>simp only[aB,ay]at h;intro k' rq;refine jq hP λn2=>?_;obtain⟨es2,CH⟩:=FY (P:=P) (a:=a2) (k:=k') (c:=fr) (cs:=cs) QX hBr rq (uz (some (.exit i)) n2);exact⟨_,_,_,es2,CH,fin .done (some (.exit i)) n2 (uz (some (.exit i)) n2) rfl h.2.symm h.1.symm⟩
       cases h
      cases h
     cases h
    cases h
   cases h
  cases h
 cases h
end Go.Di
