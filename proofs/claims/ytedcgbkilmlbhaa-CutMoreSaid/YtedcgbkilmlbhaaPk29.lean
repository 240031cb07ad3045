import Derived.Test.YtedcgbkilmlbhaaPk28
import Derived.RangeFuncIn
set_option maxHeartbeats 1000000
namespace Go.Di
open Go Go.Conc Go.Co
variable {P:Program} {aa:Machine->Trace->Prop} {ty:fR} {x:Cx} {aK:bR} {call:bt} {yf:ej}
def yJ(P:Program)(aa:Machine->Trace->Prop)(ty:fR)(aK:bR)(call:bt)(yf:ej)(id:Nat)(ops:Array Oper)(draw:Bool):Prop:=
 ∀{env aL:List DV}{S':ai}{x:Cx}{a:Act}{b:Frame}{k:List Item}{cs:List Frame},qC P ty aK call yf ops draw env x.S=some (aL,S')->b.kind≠.early->Rel x->ia x env a.tmps->
  (∀y a',y.S=S'->Rel y->bV x y->ia y aL a'.tmps->a'.defers=a.defers->jf P aa () (G (b.atR a' k) cs) y.w)->jf P aa () (G (b.atR a (.code (.region id ops draw)::k)) cs) x.w
def DN(P:Program)(aa:Machine->Trace->Prop)(ty:fR)(aK:bR)(call:bt)(yf:ej):Code->Prop
 |.region id ops draw=>yJ P aa ty aK call yf id ops draw
 |.seq a b|.cond _ a b=>DN P aa ty aK call yf a/\DN P aa ty aK call yf b
 |.block _ c|.loop c|.scope c=>DN P aa ty aK call yf c
 |_=>True
theorem Ry(hP:Plain P)(fu:kC P ty)(hc:ir P aa call)(hi:BJ P aa aK)(CI:BH P aa yf)(id:Nat)(ops:Array Oper):yJ P aa ty aK call yf id ops false:=by intro env aL S' x a b k cs h hk hR he hn;simp only[qC,aI,if_false]at h;refine gd hP (λw=>⟨_,RB⟩) ?_;have:=IJ hP fu hc hi CI hk ops.toList [] rfl h hR he hn;rw[List.range_eq_range'];simpa using this
def JW(P:Program)(aa:Machine->Trace->Prop)(b:Frame)(k:List Item)(cs:List Frame):DX->Act->World->Prop
 |.normal,a,w=>jf P aa () (G (b.atR a k) cs) w
 |.exit id,a,w=>∀k',exitTo id k'=exitTo id k->jf P aa () (G (b.atR a (.code (.exit id)::k')) cs) w
 |.ret,a,w=>∀k',jf P aa () (G (b.atR a (.code .ret::k')) cs) w
theorem JW.push {b:Frame}{k:List Item}{cs:List Frame}{e:DX}{a:Act}{w:World}{i:Item}(hi:∀id,exitTo id (i::k)=exitTo id k)(he:e≠.normal)(h:JW P aa b k cs e a w):JW P aa b (i::k) cs e a w:=by
 cases e with
 |normal=>exact absurd rfl he
 |exit id=>exactλk' pG=>h k' (pG.trans (hi id))
 |ret=>exact h
def uH(n0:Nat)(x:Cx)(ds:List Nat)(l:List Deferred):Prop:=l=ds.map (λid=>{target:=.collected (x.μ id),args:=#[]})/\ds.Nodup/\∀id∈ds,n0<=id/\x.S[id]? =some .defer/\x.w.heap[x.μ id]? =some (.deferred (some []))
theorem uH.mono {n0:Nat}{y:Cx}(M:bV x y){ds:List Nat}{l:List Deferred}(h:uH n0 x ds l):uH n0 y ds l:=by
 obtain⟨h1,h2,h3⟩:=h;have hμ:∀id∈ds,y.μ id=x.μ id:=λid hid=>(M.eC id _ (h3 id hid).2.1 rfl).1;refine⟨?_,h2,λid hid=>?_⟩;.rw[h1];exact List.map_congr_left λid hid=>by rw[hμ id hid]
 obtain⟨q1,q2,q3⟩:=h3 id hid;obtain⟨r1,⟨b',r2,r3⟩,r4⟩:=M.eC id _ q2 rfl;have:b'=.defer:=by cases b'<;>first|rfl|exact r3.elim
 subst this;exact⟨q1,r2,by rw[hμ id hid,r4 rfl];exact q3⟩
theorem Be(n0:Nat)(x:Cx):uH n0 x [] []:=⟨rfl,List.nodup_nil,by simp⟩
theorem Jp{b:Frame}{a:Act}{k:List Item}{cs:List Frame}{w:World}{g:Operand}{ps:Array Tmp}{assign body:Code}{f:FuncId}{fs vs:Array Value}{fn:Func}{c:Code}(hk:b.kind≠.early)(hr:b.roundOf=none)(hg:a.eval g=.func (.func f) fs vs)(hf:P.funcs[f]? =some fn)(hb:fn.body=some c)(yD:(fn.name=="runtime.NumGoroutine")=false):
  ∃es,stepG P true (G (b.atR a (.code (.rangeFunc g ps assign body)::k)) cs) w=
   .go (G (Frame.enter P f (fs++#[.func (.yield (w.heap.size+1)) #[] #[]]++vs) .normal) (b.atR {a with defers:={target:=.collected w.heap.size,args:=#[]}::a.defers} (.inRangeFunc (w.heap.size+1)::k)::cs))
    ((w.alloc (.deferred (some []))).alloc (.loop {state:=.ready,pending:=none,fn:=b.fn,tmps:=a.tmps,params:=ps,assign,body,defers:=w.heap.size})) es:=by
 have pG:(b.kind==CallKind.early)=false:=by simpa using hk
 have wE:=Frame.eval_atR b {a with defers:={target:=.collected w.heap.size,args:=#[]}::a.defers} (.inRangeFunc (w.heap.size+1)::k);simp only[Frame.atR,hr]at wE;have ah2:({tmps:=a.tmps,defers:={target:=.collected w.heap.size,args:=#[]}::a.defers}:Act).eval g=.func (.func f) fs vs:=by rw[<-hg];cases g<;>rfl
 have To:∀(w2:World),(do let d<-resolve ({tmps:=a.tmps,defers:={target:=.collected w.heap.size,args:=#[]}::a.defers}:Act).eval {callee:=.value g,args:=#[.const (.func (.yield (w.heap.size+1)) #[] #[])],argTypes:=#[]} 0;invoke d.target d.args:Sem Next).run P w2=.ok (.enter f (fs++#[.func (.yield (w.heap.size+1)) #[] #[]]++vs)) w2:=by
  intro w2;have ahW:∀(a:Act)(v:Value),a.eval (.const v)=v:=λ_ _=>rfl;have hn2:¬fn.name="runtime.NumGoroutine":=by simpa using yD
  simp[resolve,ah2,ahW,Deferred.ofValue,invoke,callFunc,hf,hn2,hb]
 have Nj:(Instr.enterLoop b.fn a.tmps ps assign body none).run P w=.ok (w.heap.size+1,[{target:=.collected w.heap.size,args:=#[]}])
   ((w.alloc (.deferred (some []))).alloc (.loop {state:=.ready,pending:=none,fn:=b.fn,tmps:=a.tmps,params:=ps,assign,body,defers:=w.heap.size})):=by
  simp[Instr.enterLoop]
 simp only[G,stepG,stepG.exec,Frame.atR,hr,Sem.runT_eq,Nj,stepG.apply,wE,if_true,To,pG,List.singleton_append,GStep.after,aI,if_false];exact⟨_,rfl⟩
end Go.Di
namespace Go.Di
open Go Go.Conc Go.Co
variable {P:Program} {aa:Machine->Trace->Prop} {ty:fR} {x:Cx} {aK:bR} {call:bt} {yf:ej}
theorem LU{b:Frame}{a:Act}{k:List Item}{cs:List Frame}{w w':World}{l:Nat}{jump:Option Code}(h:(Instr.endLoop l).run P w=.ok jump w'):
  ∃es,stepG P true (G (b.atR a (.endRangeFunc l::k)) cs) w=.go (G (b.atR a ((jump.map Item.code).toList++k)) cs) w' es:=by
 simp only[G,stepG,stepG.exec,Frame.atR,Sem.runT_eq,h,GStep.after];exact⟨_,rfl⟩
theorem uU(hR:Rel x){id:Nat}{r:Gq}(h:x.S[id]? =some (.loop r)):∃lo,x.w.heap[x.μ id]? =some (.loop lo)/\lo.state=r.st/\lo.pending=r.kz/\lo.fn=r.fn/\ia x r.env lo.tmps/\lo.params=r.params.toArray/\lo.assign=r.assign/\lo.body=r.body/\lo.defers=x.μ r.Bp/\x.S[r.Bp]? =some .defer:=by obtain⟨o,h1,h2⟩:=hR.eC id _ h rfl;cases o<;>simp only[uF]at h2;exact⟨_,h1,h2⟩
theorem DT(hR:Rel x){id:Nat}{r:Gq}(h:x.S[id]? =some (.loop r)){lo:Loop}(SI:x.w.heap[x.μ id]? =some (.loop lo))(st:LoopState)(pd:Option Code):
  Rel (x.xq id (.loop {lo with state:=st,pending:=pd}) (.loop {r with st:=st,kz:=pd}))/\bV x (x.xq id (.loop {lo with state:=st,pending:=pd}) (.loop {r with st:=st,kz:=pd})):=by
 obtain⟨lo',h1,h2,h3,h4,h5,h6,h7,h8,h9,ue⟩:=uU hR h;rw[SI]at h1;cases h1;have M:=A1 (x:=x) (o:=.loop {lo with state:=st,pending:=pd}) (b:=.loop {r with st:=st,kz:=pd}) hR h rfl (by simp);refine⟨KN hR h rfl (by simp) ⟨rfl,rfl,h4,h5.mono M,h6,h7,h8,h9,?_⟩,M⟩;show(x.S.set _ _)[_]? =_;rw[gW h,if_neg (by rintro e;rw[e,h]at ue;cases ue)];exact ue
theorem PI(S:ai):Fi S S.length:=.inl rfl
theorem BQ(S:ai)(b:DB):eU S S.length b=S++[b]:=by unfold eU;rw[if_neg (by omega)]
theorem zH(hP:Plain P)(hc:ir P aa call){L:Nat}{fn:FuncId}{jd:Bool}{n0:Nat}{b:Frame}{cs:List Frame}(hk:b.kind≠.early)(Tj:b.fn=fn)(hrd:jd=false->b.roundOf=none):
  ∀(c:Code),DN P aa ty aK call yf c->∀{k:List Item}{env aL:List DV}{S':ai}{e:DX}{a:Act}{x:Cx}{ds:List Nat},cU P ty aK call yf L fn jd c env x.S=some (e,aL,S')->Rel x->ia x env a.tmps->uH n0 x ds a.defers->n0<=x.S.length->
   (∀y a' iC,y.S=S'->Rel y->bV x y->ia y aL a'.tmps->uH n0 y iC a'.defers->JW P aa b k cs e a' y.w)->jf P aa () (G (b.atR a (.code c::k)) cs) x.w:=by
 intro c;induction c with
 |skip=>intro _ k env aL S' e a x ds h hR he hd yb hn;simp only[cU,aB,az]at h;obtain⟨rfl,rfl,rfl⟩:=h;exact gd hP (λw=>⟨_,Z8⟩) (hn x a ds rfl hR (bV.refl x) he hd)
 |label l=>intro _ k env aL S' e a x ds h hR he hd yb hn;simp only[cU,aB,az]at h;obtain⟨rfl,rfl,rfl⟩:=h;exact gd hP (λw=>⟨_,WK⟩) (hn x a ds rfl hR (bV.refl x) he hd)
 |region id ops draw=>intro mN k env aL S' e a x ds h hR he hd yb hn;simp only[cU,af,az]at h;obtain⟨⟨qo,S1⟩,h1,rfl,rfl,rfl⟩:=h;exact mN h1 hk hR he λy a' q1 q2 q3 q4 q5=>hn y a' ds q1 q2 q3 q4 (by rw[q5];exact hd.mono q3)
 |seq c1 c2 Qx SC=>
  intro mN k env aL S' e a x ds h hR he hd yb hn;simp only[cU]at h;refine gd hP (λw=>⟨_,aeg⟩) ?_;split at h;.rename_i qo S1 h1;refine Qx mN.1 h1 hR he hd yb λy a' iC q1 q2 q3 q4 q5=>?_;subst q1;exact SC mN.2 h q2 q4 q5 (bD yb q3.len) λz a'' adm r1 r2 r3 r4 r5=>hn z a'' adm r1 r2 (q3.trans r3) r4 r5
  rename_i r hne;refine Qx mN.1 h hR he hd yb λy a' iC q1 q2 q3 q4 q5=>JW.push (λ_=>rfl) ?_ (hn y a' iC q1 q2 q3 q4 q5);rintro rfl;exact hne _ _ h
 |cond o c1 c2 Qx SC=>
  intro mN k env aL S' e a x ds h hR he hd yb hn;simp only[cU]at h;split at h;.rename_i ho;have hv:=xz (xC he _ _ ho);refine gd hP (λw=>⟨_,Pt hv⟩) ?_;rw[if_pos rfl];exact Qx mN.1 h hR he hd yb hn
  .rename_i ho;have hv:=xz (xC he _ _ ho);refine gd hP (λw=>⟨_,Pt hv⟩) ?_;rw[if_neg (by simp)];exact SC mN.2 h hR he hd yb hn
  cases h
 |block id c ih=>
  intro mN k env aL S' e a x ds h hR he hd yb hn;simp only[cU]at h;refine gd hP (λw=>⟨_,WM⟩) ?_;split at h
  .rename_i iT qo S1 h1;cases h;refine ih mN h1 hR he hd yb λy a' iC q1 q2 q3 q4 q5=>?_;have hf:=hn y a' iC q1 q2 q3 q4 q5;intro k' pG;simp only[exitTo]at pG;by_cases hid:iT=id;.subst hid;simp only[oW,if_true]at pG hf;exact gd hP (λw=>⟨_,aaa pG⟩) hf
   rw[if_neg hid]at hf;have:(id==iT)=false:=by simpa usingλe=>hid e.symm
   rw[this]at pG;exact hf k' pG
  rename_i r hne;refine ih mN h hR he hd yb λy a' iC q1 q2 q3 q4 q5=>?_;have hf:=hn y a' iC q1 q2 q3 q4 q5;cases e with
  |normal=>exact gd hP (λw=>⟨_,NN⟩) hf
  |exit iT=>exact absurd h (hne _ _ _)
  |ret=>exact hf
 |loop c ih=>
  intro mN k env aL S' e a x ds h hR he hd yb hn;simp only[cU]at h;refine gd hP (λw=>⟨_,Z9⟩) ?_;have key:∀n {env:List DV}{a:Act}{x:Cx}{ds:List Nat},oB (cU P ty aK call yf L fn jd c) n env x.S=some (e,aL,S')->Rel x->ia x env a.tmps->uH n0 x ds a.defers->n0<=x.S.length->
    (∀y a' iC,y.S=S'->Rel y->bV x y->ia y aL a'.tmps->uH n0 y iC a'.defers->JW P aa b k cs e a' y.w)->jf P aa () (G (b.atR a (.code c::.inLoop c::k)) cs) x.w:=by
   intro n;induction n with
   |zero=>intro env a x ds h;simp[oB]at h
   |succ n ihn=>
    intro env a x ds h hR he hd yb hn;unfold oB at h;split at h;.rename_i qo S1 h1;refine ih mN h1 hR he hd yb λy a' iC q1 q2 q3 q4 q5=>?_;subst q1;exact gd hP (λw=>⟨_,RD⟩) (ihn h q2 q4 q5 (bD yb q3.len) λz a'' adm r1 r2 r3 r4 r5=>hn z a'' adm r1 r2 (q3.trans r3) r4 r5)
    rename_i r hne;refine ih mN h hR he hd yb λy a' iC q1 q2 q3 q4 q5=>JW.push (λ_=>rfl) ?_ (hn y a' iC q1 q2 q3 q4 q5);rintro rfl;exact hne _ _ h
  exact key L h hR he hd yb hn
 |scope c ih=>
  intro mN k env aL S' e a x ds h hR he hd yb hn;simp only[cU]at h;refine gd hP (λw=>⟨_,WH⟩) ?_;refine ih mN h hR he hd yb λy a' iC q1 q2 q3 q4 q5=>?_;have hf:=hn y a' iC q1 q2 q3 q4 q5;cases e with
  |normal=>exact gd hP (λw=>⟨_,NM⟩) hf
  |exit iT=>exact JW.push (λ_=>rfl) (by simp) hf
  |ret=>exact hf
 |exit id=>intro _ k env aL S' e a x ds h hR he hd yb hn;simp only[cU,aB,az]at h;obtain⟨rfl,rfl,rfl⟩:=h;exact hn x a ds rfl hR (bV.refl x) he hd k rfl
 |ret=>intro _ k env aL S' e a x ds h hR he hd yb hn;simp only[cU,aB,az]at h;obtain⟨rfl,rfl,rfl⟩:=h;exact hn x a ds rfl hR (bV.refl x) he hd k
 |goto l=>intro _ k env aL S' e a x ds h;simp[cU]at h
 |refuse why=>intro _ k env aL S' e a x ds h;simp[cU]at h
 |rangeFunc f ps oD body _ _=>
  intro _ k env aL S' e a x ds h hR he hd yb hn;simp only[cU]at h;split at h;.cases h
  rename_i ahD;have hro:=hrd (by simpa using ahD);split at h
  .rename_i g fs vs hf;have hfv:=xC he _ _ hf;generalize hv:a.eval f=vf at hfv;cases hfv with
   |@fn _ _ _ vfs vcs k1 k2 k3 k4=>
    split at h
    .rename_i u S1 h1;refine jj hP λn=>?_;have hRn:=hR.dr n;have Mn:=fE x n;have hp1:pK (x.w.at n) ((x.w.at n).alloc (.deferred (some []))) (.deferred (some [])):=gO _ _;have Mi:=mZ (x:=x.dr n) (k:=0) (F:=λ_=>False) (b:=.defer) hRn (PI x.S) hp1 (by simp) (.inr (.inr (.inl ⟨rfl,by simp,trivial⟩)));have M1:=jN (x:=x.dr n) (k:=0) (F:=λ_=>False) (b:=.defer) hRn (PI x.S) hp1;generalize JH:(x.dr n).fresh ((x.w.at n).alloc (.deferred (some []))) x.S.length 0 (λ_=>False) .defer=x1 at Mi M1;have hS1:x1.S=x.S++[.defer]:=by rw[<-JH];exact BQ x.S _
     have Oo:x1.w=(x.w.at n).alloc (.deferred (some [])):=by rw[<-JH];rfl
     have hμ1:x1.μ x.S.length=x.w.heap.size:=by rw[<-JH];exact if_pos rfl
     have OJ:x1.S.length=x.S.length+1:=by rw[hS1];simp
     have hp2:pK x1.w (((x.w.at n).alloc (.deferred (some []))).alloc (.loop {state:=.ready,pending:=none,fn:=b.fn,tmps:=a.tmps,params:=ps,assign:=oD,body,defers:=x.w.heap.size})) (.loop {state:=.ready,pending:=none,fn:=b.fn,tmps:=a.tmps,params:=ps,assign:=oD,body,defers:=x.w.heap.size}):=by rw[Oo];exact gO _ _
     have abZ:Fi x1.S (x.S.length+1):=.inl OJ.symm;have M2:=jN (x:=x1) (k:=0) (F:=λ_=>False) (b:=.loop ⟨.ready,none,fn,env,ps.toList,oD,body,x.S.length⟩) Mi abZ hp2;generalize Fc:x1.fresh (((x.w.at n).alloc (.deferred (some []))).alloc (.loop {state:=.ready,pending:=none,fn:=b.fn,tmps:=a.tmps,params:=ps,assign:=oD,body,defers:=x.w.heap.size})) (x.S.length+1) 0 (λ_=>False) (.loop ⟨.ready,none,fn,env,ps.toList,oD,body,x.S.length⟩)=x2 at M2;have JC:x2.S=x.S++[.defer,.loop ⟨.ready,none,fn,env,ps.toList,oD,body,x.S.length⟩]:=by rw[<-Fc];show eU x1.S (x.S.length+1) _=_;rw[<-OJ,BQ,hS1];simp
     have hw2:x2.w=((x.w.at n).alloc (.deferred (some []))).alloc (.loop {state:=.ready,pending:=none,fn:=b.fn,tmps:=a.tmps,params:=ps,assign:=oD,body,defers:=x.w.heap.size}):=by rw[<-Fc];rfl
     have hμ2:x2.μ (x.S.length+1)=x.w.heap.size+1:=by rw[<-Fc];show(if _ then x1.w.heap.size else _)=_;rw[if_pos rfl,Oo];simp[World.at]
     have hμ2':x2.μ x.S.length=x.w.heap.size:=by rw[<-Fc];show(if _ then _ else x1.μ x.S.length)=_;rw[if_neg (by omega),hμ1]
     have MM:=(Mn.trans M1).trans M2;have hR2:Rel x2:=by
      have:=mZ (x:=x1) (k:=0) (F:=λ_=>False) (b:=.loop ⟨.ready,none,fn,env,ps.toList,oD,body,x.S.length⟩) Mi abZ hp2 (by simp) (.inr (.inr (.inl ⟨rfl,by simp,?_⟩)));.rw[Fc]at this;exact this
      rw[Fc];refine⟨rfl,rfl,Tj,he.mono MM,by simp,rfl,rfl,hμ2'.symm,?_⟩;rw[JC];simp
     have UE:uH n0 x2 (x.S.length::ds) ({target:=.collected x.w.heap.size,args:=#[]}::a.defers):=by
      obtain⟨q1,q2,q3⟩:=hd.mono MM;refine⟨by rw[bn,hμ2',q1],List.nodup_cons.2 ⟨λhm=>?_,q2⟩,λid hid=>?_⟩;.have:=(aA.1 (hd.2.2 _ hm).2.1).1;omega
      rcases bw.1 hid with rfl|hid
      .refine⟨yb,by rw[JC];simp,?_⟩;rw[hμ2',hw2];have:((x.w.at n).alloc (.deferred (some []))).heap.size=x.w.heap.size+1:=by simp[World.at]
       rw[(gO _ _).lt (by omega)];exact(gO (x.w.at n) _).new
      exact q3 id hid
     have mS:ia x2 (fs++[.od (x.S.length+1)]++vs) (vfs++#[.func (.yield (x.w.heap.size+1)) #[] #[]]++vcs):=by
      have e1:ia x2 fs vfs:=ia.mono MM ⟨k1,k3⟩;have e2:ia x2 vs vcs:=ia.mono MM ⟨k2,k4⟩;refine nt (nt e1 ⟨rfl,λj c hj=>?_⟩) e2;cases j with
      |zero=>simp only[bY,aB]at hj;subst hj;show RV x2 _ (.func (.yield (x.w.heap.size+1)) #[] #[]);rw[<-hμ2];exact .od (r:=⟨.ready,none,fn,env,ps.toList,oD,body,x.S.length⟩) (by rw[JC];simp)
      |succ j=>simp at hj
     obtain⟨⟨vr,cd,Ms,Tk⟩,ahS⟩:=hc _ _ _ _ _ h1 x2 _ hR2 JC mS;obtain⟨es,hstep⟩:=Jp (P:=P) (b:=b) (a:=a) (k:=k) (cs:=cs) (w:=x.w.at n) (g:=f) (ps:=ps) (assign:=oD) (body:=body) hk hro hv Ms Tk (hP.count g vr Ms);refine⟨_,_,_,es,hstep,?_⟩;have ab4:=ahS (b.atR {a with defers:={target:=.collected x.w.heap.size,args:=#[]}::a.defers} (.inRangeFunc (x.w.heap.size+1)::k)) cs λy u hp=>?_;.rw[hw2]at ab4;exact ab4
     obtain⟨hyS,hyR,hyM,-⟩:=hp;subst hyS;rw[finish_atR_inRangeFunc];have MY:=MM.trans hyM;split at h
     .rename_i r hr;split at h;.cases h
      rename_i agF;have hμy:y.μ (x.S.length+1)=x.w.heap.size+1:=by rw[(hyM.eC _ _ (show x2.S[x.S.length+1]? =some (.loop ⟨.ready,none,fn,env,ps.toList,oD,body,x.S.length⟩)by rw[JC];simp) rfl).1,hμ2]
      obtain⟨lo,l1,l2,l3,-⟩:=uU hyR hr;rw[hμy]at l1;obtain⟨z1,z2⟩:=DT hyR hr (by rw[hμy];exact l1) .exhausted r.kz;have hwz:(y.xq (x.S.length+1) (.loop {lo with state:=.exhausted,pending:=r.kz}) (.loop {r with st:=.exhausted,kz:=r.kz})).w=cE y.w (x.w.heap.size+1) (.loop {lo with state:=.exhausted,pending:=r.kz}):=by show cE y.w (y.μ _) _=_;rw[hμy]
      have hSz:(y.xq (x.S.length+1) (.loop {lo with state:=.exhausted,pending:=r.kz}) (.loop {r with st:=.exhausted,kz:=r.kz})).S=y.S.set (x.S.length+1) (.loop {r with st:=.exhausted}):=rfl;generalize y.xq (x.S.length+1) (.loop {lo with state:=.exhausted,pending:=r.kz}) (.loop {r with st:=.exhausted,kz:=r.kz})=z at z1 z2 hwz hSz;have MZ:=MY.trans z2;refine jj hP λn2=>?_;have agB:(Instr.endLoop (x.w.heap.size+1)).run P (y.w.at n2)=.ok r.kz (z.w.at n2):=by
       have hg:=jI (P:=P) (w:=y.w.at n2) (show(y.w.at n2).heap[x.w.heap.size+1]? =_ from l1) (by simp);have hs:=lB (P:=P) (w:=y.w.at n2) (o:=.loop {lo with state:=.exhausted,pending:=r.kz}) (show(y.w.at n2).heap[x.w.heap.size+1]? =_ from l1) (by simp);have hb:(lo.state==LoopState.busy)=false:=by rw[l2];simpa using agF
       simp only[Instr.endLoop,Instr.getLoop,Sem.run_bind,hg,Result.andThen_ok,Sem.run_pure,hb,aI,if_false,hs,l3];rw[hwz];rfl
      obtain⟨es2,Cr⟩:=LU (P:=P) (b:=b) (a:={a with defers:={target:=.collected x.w.heap.size,args:=#[]}::a.defers}) (k:=k) (cs:=cs) agB;refine⟨_,_,_,es2,Cr,JZ ?_ n2⟩;have xx:=hn z {a with defers:={target:=.collected x.w.heap.size,args:=#[]}::a.defers} (x.S.length::ds);split at h;.rename_i hpd;simp only[aB,az]at h;obtain⟨rfl,rfl,rfl⟩:=h;rw[hpd];exact xx hSz z1 MZ (he.mono MZ) ((UE.mono hyM).mono z2)
      .rename_i hpd;simp only[aB,az]at h;obtain⟨rfl,rfl,rfl⟩:=h;rw[hpd];exact xx hSz z1 MZ (he.mono MZ) ((UE.mono hyM).mono z2) k
      .rename_i e' hpd;simp only[aB,az]at h;obtain⟨rfl,rfl,rfl⟩:=h;rw[hpd];exact xx hSz z1 MZ (he.mono MZ) ((UE.mono hyM).mono z2) k rfl
      cases h
     cases h
    cases h
  cases h
end Go.Di
namespace Go.Di
open Go Go.Conc Go.Co
variable {P:Program} {aa:Machine->Trace->Prop} {ty:fR} {x:Cx} {aK:bR} {call:bt} {yf:ej}
theorem zx(h:∀id ops draw,yJ P aa ty aK call yf id ops draw):∀c,DN P aa ty aK call yf c:=by
 intro c;induction c with
 |region id ops draw=>exact h id ops draw
 |seq a b iha ihb=>exact⟨iha,ihb⟩
 |cond o a b iha ihb=>exact⟨iha,ihb⟩
 |block id c ih=>exact ih
 |loop c ih=>exact ih
 |scope c ih=>exact ih
 |_=>trivial
def QK(tmps:Array Value):ResultVar->Sem Value
 |.tmp t=>pure (tmps.getD t undef)
 |.cell a t=>do loadVar t (<-asAddr (tmps.getD a undef))
theorem NI(fn:Func)(tmps:Array Value):results fn tmps=(do let vs<-fn.results.mapM (QK tmps);pure (if h:vs.size=1 then vs[0]else .tuple vs)):=by
 have:(λ|.tmp t=>pure (tmps.getD t undef)|.cell a t=>do loadVar t (<-asAddr (tmps.getD a undef)):ResultVar->Sem Value)=QK tmps:=by funext r;cases r<;>rfl
 rw[<-this];rfl
theorem IP(fu:kC P ty){env:List DV}{tmps:Array Value}(hR:Rel x)(he:ia x env tmps):∀{rs:List ResultVar}{l:List DV},tU ty env x.S rs=some l->
  ∃vs:List Value,(rs.mapM (QK tmps)).run P x.w=.ok vs x.w/\ia x l vs.toArray
 |[],l,h=>by simp only[tU,aB]at h;subst h;exact⟨[],rfl,rfl,by simp⟩
 |.tmp t::rs,l,h=>by
  simp only[tU,af]at h;obtain⟨l',h1,rfl⟩:=h;obtain⟨vs,h2,h3,h4⟩:=IP fu hR he h1;have hv:RV x (env.getD t bF) (tmps.getD t undef):=xC (a:=⟨tmps,[]⟩) he (.tmp t) _ rfl;refine⟨tmps.getD t undef::vs,by simp only[List.mapM_cons,QK,Sem.run_bind,Sem.run_pure,Result.andThen_ok,h2],by simpa using h3,λj c hc=>?_⟩;cases j with
  |zero=>simp only[bY,aB]at hc;subst hc;exact hv
  |succ j=>simpa [bz]using h4 j c (by simpa using hc)
 |.cell a t::rs,l,h=>by
  unfold tU at h;split at h
  .rename_i d l' h0 h1;cases h;obtain⟨vs,h2,h3,h4⟩:=IP fu hR he h1;have hv:RV x (env.getD a bF) (tmps.getD a undef):=xC (a:=⟨tmps,[]⟩) he (.tmp a) _ rfl;obtain⟨v,h5,h6⟩:=Le fu hR hv h0;have hrun:(QK tmps (.cell a t)).run P x.w=.ok v x.w:=by
    show(do loadVar t (<-asAddr (tmps.getD a undef)):Sem Value).run P x.w=_;generalize tmps.getD a undef=u at hv h5;unfold lE at h0;generalize env.getD a bF=da at hv h0;split at h0;.cases hv;simpa [Instr.loadAt,Instr.sureAddr,asAddr]using h5
    .cases hv;simpa [Instr.loadAt,Instr.sureAddr,asAddr]using h5
    .split at h0
     .rename_i hop;obtain⟨hS,HD⟩:=mF hop;cases hv with
      |gu CJ _ hA=>rw[hS]at CJ;cases CJ;rw[hA HD]at h5⊢;simpa [Instr.loadAt,Instr.sureAddr,asAddr]using h5
     cases h0
    cases h0
   refine⟨v::vs,by simp only[List.mapM_cons,Sem.run_bind,hrun,Result.andThen_ok,h2,Sem.run_pure],by simpa using h3,λj c hc=>?_⟩;cases j with
   |zero=>simp only[bY,aB]at hc;subst hc;exact h6
   |succ j=>simpa [bz]using h4 j c (by simpa using hc)
  cases h
theorem EK(fu:kC P ty){fn:Func}{env:List DV}{tmps:Array Value}(hR:Rel x)(he:ia x env tmps){l:List DV}(h:tU ty env x.S fn.results.toList=some l):
  ∃v,(results fn tmps).run P x.w=.ok v x.w/\RV x (oneOf l) v:=by
 obtain⟨vs,h1,h2,h3⟩:=IP fu hR he h;have hm:(fn.results.mapM (QK tmps)).run P x.w=.ok vs.toArray x.w:=by rw[Array.mapM_eq_mapM_toList];simp only[Sem.run_map,h1,Result.andThen_ok]
 refine⟨if h:vs.toArray.size=1 then vs.toArray[0]else .tuple vs.toArray,?_,?_⟩;.rw[NI];simp only[Sem.run_bind,hm,Result.andThen_ok,Sem.run_pure]
 match l,vs,h2,h3 with
 |[],[],_,_=>exact .tup rfl (by simp)
 |[d],[v],_,h3=>exact h3 0 d rfl
 |d::e::l,v::u::vs,h2,h3=>exact .tup (by simpa using h2) h3
 |[],_::_,h2,_=>simp at h2
 |[_],[],h2,_=>simp at h2
 |[_],_::_::_,h2,_=>simp at h2
 |_::_::_,[],h2,_=>simp at h2
 |_::_::_,[_],h2,_=>simp at h2
theorem WJ{b:Frame}{a:Act}{todo:List Item}{c:Frame}{cs:List Frame}{w:World}{fn:Func}{v:Value}(hn:b.kind=.normal)(hd:a.defers=[])(hf:P.funcs[b.fn]? =some fn)(hr:(results fn a.tmps).run P w=.ok v w):
  ∃es,stepG P true (G {b.at a todo with mode:=.returning} (c::cs)) w=.go (G (c.finish v) cs) w es:=by
 simp only[G,stepG,unwind,doReturn,Frame.at,hn,hd,hf,Sem.runT_eq,hr,GStep.after];exact⟨_,rfl⟩
theorem Pq{b:Frame}{a:Act}{todo:List Item}{cs:List Frame}{w w':World}{r:Nat}{ds:List Deferred}(hd:a.defers={target:=.collected r,args:=#[]}::ds)(hr:(Instr.takeDeferred r).run P w=.ok [] w'):
  ∃es,stepG P true (G {b.at a todo with mode:=.returning} cs) w=.go (G {b.at {a with defers:=ds} todo with mode:=.returning} cs) w' es:=by
 simp only[G,stepG,unwind,Frame.at,hd,Sem.runT_eq,hr,GStep.after,gZ];exact⟨_,rfl⟩
theorem O2{x0:Cx}(M:bV x0 x)(hR:Rel x){id:Nat}(hid:x0.S.length<=id)(hS:x.S[id]? =some .defer):
  Rel {x with w:=cE x.w (x.μ id) (.deferred none)}/\bV x0 {x with w:=cE x.w (x.μ id) (.deferred none)}/\∀d v,RV x d v->RV {x with w:=cE x.w (x.μ id) (.deferred none)} d v:=by
 have kK:=bk hS (show DB.defer≠.none by simp);have afr:∀i,Live x0.S i->i≠id:=by rintro i ⟨c,hc,-⟩ rfl;have:=(aA.1 hc).1;omega
 have Vu:x0.w.heap.size<=x.μ id:=by
  rcases M.live id kK with ⟨h,-⟩|h;.exact absurd rfl (afr id h)
  exact h
 have rm:∀b,b≠x.μ id->(cE x.w (x.μ id) (.deferred none)).heap[b]? =x.w.heap[b]? :=λb hb=>gQ _ _ _ hb;have Mr:∀b o,x.Fz b o->(cE x.w (x.μ id) (.deferred none)).cell? ⟨b,o,none⟩=x.w.cell? ⟨b,o,none⟩:=λb o h=>cell_of_block (rm b (by rintro rfl;exact hR.Vx hS rfl o h)) o;have SG:∀d v,RV x d v->RV {x with w:=cE x.w (x.μ id) (.deferred none)} d v:=by
  intro d v h;induction h with
  |val h=>exact .val h
  |agg h _ ih=>exact .agg h ih
  |tup h _ ih=>exact .tup h ih
  |sl hv _ h1 h2 h3 hsp h4 ih=>exact .sl (View.mono (x:=x) (y:={x with w:=cE x.w (x.μ id) (.deferred none)}) (λb o h=>⟨h,Mr b o h⟩) hv) ih h1 h2 h3 hsp h4
  |ptr h=>exact .ptr h
  |fq hv _ ih=>exact .fq (View.mono (x:=x) (y:={x with w:=cE x.w (x.μ id) (.deferred none)}) (λb o h=>⟨h,Mr b o h⟩) hv) ih
  |fn h1 h2 _ _ Qx SC=>exact .fn h1 h2 Qx SC
  |map h=>exact .map h
  |od h=>exact .od h
  |jS h h1 h2=>exact .jS h h1 h2
  |gu h h1 h2=>exact .gu h h1 h2
 have hne:∀i b,x.S[i]? =some b->b≠.none->i≠id->x.μ i≠x.μ id:=λi b hi hb h e=>h (hR.inj i id (bk hi hb) kK e);obtain⟨ob,hob,-⟩:=hR.eC id _ hS rfl;refine⟨⟨λi l hl=>?_,λi e s n hl=>?_,λi b hb TH=>?_,hR.inj,λb o h=>?_,hR.sep,hR.oH,λi e s l z hl=>?_⟩,⟨?_,M.env,λb o h=>⟨(M.fz b o h).1,?_⟩,M.JA,λb hb hn=>?_,M.len,M.cells,λi b hb TH=>?_,M.dR,M.live,M.ops⟩,SG⟩;.obtain⟨arr,e,h1,h2,h3⟩:=hR.cells i l hl;exact⟨arr,e,(rm _ (hne i _ hl (by simp) (by rintro rfl;rw[hS]at hl;cases hl))).trans h1,h2,λj c hc=>SG _ _ (h3 j c hc)⟩
 .obtain⟨arr,h1,h2⟩:=hR.dR i e s n hl;exact⟨arr,(rm _ (hne i _ hl (by simp) (by rintro rfl;rw[hS]at hl;cases hl))).trans h1,h2⟩
 .by_cases h:i=id;.subst h;rw[hS]at hb;cases hb;exact⟨_,zU _ _ _ _ hob,trivial⟩
  obtain⟨o,h1,h2⟩:=hR.eC i b hb TH;refine⟨o,(rm _ (hne i _ hb (fo TH) h)).trans h1,?_⟩;cases b<;>cases o<;>simp only[uF]at h2⊢<;>first|exact h2|trivial|(obtain⟨q1,q2,q3,q4,q5⟩:=h2;exact⟨q1,q2,q3,⟨q4.1,λj c hc=>SG _ _ (q4.2 j c hc)⟩,q5⟩)
 .obtain⟨v,hv⟩:=hR.Ae b o h;exact⟨v,(Mr b o h).trans hv⟩
 .obtain⟨arr,h1,h2,h3,h4,h5,h6⟩:=hR.ops i e s l z hl;exact⟨arr,(rm _ (hne i _ hl (by simp) (by rintro rfl;rw[hS]at hl;cases hl))).trans h1,h2,h3,h4,λj c hc=>⟨(h5 j c hc).1,SG _ _ (h5 j c hc).2⟩,h6⟩
 .show _<=(cE x.w _ _).heap.size;simp only[cE,vQ];exact M.size
 .exact(Mr b o (M.fz b o h).1).trans (M.fz b o h).2
 .exact(rm b (by omega)).trans (M.old b hb hn)
 obtain⟨q1,q2,q3⟩:=M.eC i b hb TH;refine⟨q1,q2,λhd=>(rm _ ?_).trans (q3 hd)⟩;rw[<-q1];obtain⟨b',q4,q5⟩:=q2;exact hne i b' q4 (fo (uW q5).2) (afr i (bk hb (fo TH)))
theorem K6(hP:Plain P)(fu:kC P ty){x0:Cx}{b:Frame}{todo:List Item}{c:Frame}{cs:List Frame}{fn:Func}{env:List DV}{l:List DV}(hb:b.kind=.normal)(hf:P.funcs[b.fn]? =some fn){Sr:ai}:
  ∀(ds:List Nat){a:Act}{x:Cx},x.S=Sr->Rel x->bV x0 x->ia x env a.tmps->uH x0.S.length x ds a.defers->tU ty env Sr fn.results.toList=some l->
   (∀y v,y.S=Sr->Rel y->bV x0 y->RV y (oneOf l) v->jf P aa () (G (c.finish v) cs) y.w)->jf P aa () (G {b.at a todo with mode:=.returning} (c::cs)) x.w
 |[],a,x,hS,hR,hM,he,hd,hr,hn=>by refine jj hP λn=>?_;have Mu:a.defers=[]:=hd.1;obtain⟨v,h1,h2⟩:=EK (x:=x.dr n) fu (hR.dr n) (he.mono (fE x n)) (l:=l) (by show tU ty env x.S _=_;rw[hS];exact hr);obtain⟨es,hst⟩:=WJ (P:=P) (b:=b) (a:=a) (todo:=todo) (c:=c) (cs:=cs) hb Mu hf h1;exact⟨_,_,_,es,hst,hn (x.dr n) v hS (hR.dr n) (hM.trans (fE x n)) h2⟩
 |id::ds,a,x,hS,hR,hM,he,hd,hr,hn=>by
  obtain⟨q1,q2,q3⟩:=hd;obtain⟨r1,r2,r3⟩:=q3 id (by simp);refine jj hP λn=>?_;have mP:=hR.dr n;have hM':=hM.trans (fE x n);obtain⟨t1,t2,t3⟩:=O2 (x:=x.dr n) hM' mP r1 r2;have hg:=jI (P:=P) (w:=x.w.at n) (show(x.w.at n).heap[x.μ id]? =_ from r3) (by simp);have hs:=lB (P:=P) (w:=x.w.at n) (o:=.deferred none) (show(x.w.at n).heap[x.μ id]? =_ from r3) (by simp);have OI:(Instr.takeDeferred (x.μ id)).run P (x.w.at n)=.ok [] (cE (x.w.at n) (x.μ id) (.deferred none)):=by simp only[Instr.takeDeferred,Sem.run_bind,hg,Result.andThen_ok,hs,Sem.run_pure]
  obtain⟨es,hst⟩:=Pq (P:=P) (b:=b) (a:=a) (todo:=todo) (cs:=c::cs) (ds:=ds.map λid=>{target:=.collected (x.μ id),args:=#[]}) (by rw[q1];rfl) OI;refine⟨_,_,_,es,hst,?_⟩;have Fe:=List.nodup_cons.1 q2;exact K6 hP fu hb hf ds (x:={x.dr n with w:=cE (x.w.at n) (x.μ id) (.deferred none)}) (a:={a with defers:=ds.map λid=>{target:=.collected (x.μ id),args:=#[]}}) hS t1 t2 ⟨he.1,λj c hc=>t3 _ _ (RV.mono (fE x n) (he.2 j c hc))⟩
   ⟨rfl,Fe.2,λi hi=>by obtain⟨u1,u2,u3⟩:=q3 i (by simp[hi]);have hne:x.μ i≠x.μ id:=λe=>Fe.1 (hR.inj i id (bk u2 (by simp)) (bk r2 (by simp)) e▸hi);exact⟨u1,u2,(gQ _ _ _ hne).trans u3⟩⟩ hr hn
theorem XZ(hP:Plain P)(fu:kC P ty)(hc:ir P aa call)(mN:∀id ops draw,yJ P aa ty aK call yf id ops draw){L:Nat}{f:FuncId}{fn:Func}(hf:P.funcs[f]? =some fn){args:List DV}{S S':ai}{v:DV}(h:tN P ty aK call yf L f fn args S=some (v,S'))
  {vals:Array Value} (hR:Rel x) (hS:x.S=S) (ha:ia x args vals):fJ P aa x f vals λy u=>y.S=S'/\Rel y/\bV x y/\RV y v u:=by
 subst hS;unfold tN at h;split at h
 .rename_i c hb;refine⟨⟨fn,c,hf,hb⟩,λfr cs hn=>?_⟩;rw[enter_at vals hf hb,<-Frame.atR_of_none (b:=base f) rfl];have he:ia x (args++List.replicate (fn.ntmps-args.length) bF) (vals++Array.replicate (fn.ntmps-vals.size) undef):=by
   refine nt ha ⟨by simp[ha.1],λj c hc=>?_⟩;rw[nK]at hc;split at hc
   .rename_i hj;cases hc;have:j<fn.ntmps-vals.size:=by rw[ha.1];exact hj
    have e:(Array.replicate (fn.ntmps-vals.size) undef).getD j undef=undef:=by simp[bz,this]
    rw[e];exact .val rfl
   cases hc
  have key:∀e aL S1,cU P ty aK call yf L f false c (args++List.replicate (fn.ntmps-args.length) bF) x.S=some (e,aL,S1)->(e=.normal\/e=.ret)->(tU ty aL S1 fn.results.toList).map (λl=>(oneOf l,S1))=some (v,S')->
    jf P aa () (G ((base f).atR {tmps:=vals++Array.replicate (fn.ntmps-vals.size) undef,defers:=[]} [.code c]) (fr::cs)) x.w:=by
   intro e aL S1 h1 he1 h2;simp only[af,az]at h2;obtain⟨l,h3,rfl,rfl⟩:=h2;refine zH (n0:=x.S.length) (ds:=[]) (b:=base f) (cs:=fr::cs) (jd:=false) hP hc (by simp[base]) rfl (λ_=>rfl) c (zx mN c) h1 hR he (Be _ _) (ak _) λy a' iC q1 q2 q3 q4 q5=>?_;have lz:∀todo,jf P aa () (G {(base f).at a' todo with mode:=.returning} (fr::cs)) y.w:=λtodo=>
    K6 hP fu (x0:=x) (b:=base f) (env:=aL) (l:=l) (Sr:=S1) rfl hf iC q1 q2 q3 q4 q5 h3 λz u r1 r2 r3 r4=>hn z u ⟨r1,r2,r3,r4⟩
   rcases he1 with rfl|rfl;.show jf P aa () (G ((base f).atR a' []) (fr::cs)) y.w;rw[Frame.atR_of_none (b:=base f) rfl];exact gd hP (λw=>⟨_,stepG_end⟩) (lz _)
   intro k';rw[Frame.atR_of_none (b:=base f) rfl];exact gd hP (λw=>⟨_,stepG_ret'⟩) (lz _)
  split at h;.rename_i aL S1 h1;exact key _ _ _ h1 (.inl rfl) h
  .rename_i aL S1 h1;exact key _ _ _ h1 (.inr rfl) h
  cases h
 cases h
theorem O9:∀{ts:List Tmp}{ds:List DV}{vs:List Value}{env:List DV}{tmps:Array Value},ia x env tmps->vs.length=ds.length->(∀(j:Nat)(c:DV),ds[j]? =some c->RV x c (vs.getD j undef))->
  ia x (tF env (ts.zip ds)) ((ts.zip vs).foldl (λtmps (p:Tmp×Value)=>tmps.setIfInBounds p.1 p.2) tmps)
 |[],ds,vs,env,tmps,h,_,_=>by simpa [tF]using h
 |t::ts,[],[],env,tmps,h,_,_=>by simpa [tF]using h
 |t::ts,[],_::_,env,tmps,h,hl,_=>by simp at hl
 |t::ts,_::_,[],env,tmps,h,hl,_=>by simp at hl
 |t::ts,d::ds,v::vs,env,tmps,h,hl,hv=>by simp only[List.zip_cons_cons,tF,gp];exact O9 (Pb h (by simpa using hv 0 d rfl)) (by simpa using hl) λj c hc=>by simpa using hv (j+1) c (by simpa using hc)
theorem WN{b:Frame}{a:Act}{k:List Item}{cs:List Frame}{w w':World}{l:Nat}(hk:b.kind≠.early)(hr:b.roundOf=some l)(h:(Instr.beginRound l).run P w=.ok () w'):
  ∃es,stepG P true (G (b.atR a (.beginRound::k)) cs) w=.go (G (b.atR a k) cs) w' es:=by
 have pG:(b.kind==CallKind.early)=false:=by simpa using hk
 simp only[G,stepG,stepG.exec,Frame.atR,hr,stepG.apply,Option.elim_some,if_true,Sem.runT_eq,Sem.run_bind,h,Result.andThen_ok,Sem.run_pure,pG,GStep.after,Frame.finish];exact⟨_,rfl⟩
theorem Jo{b:Frame}{a:Act}{c:Frame}{cs:List Frame}{w w':World}{l:Nat}{v:Value}(hn:b.kind=.normal)(hr:b.roundOf=some l)(h:(Instr.endRound l none).run P w=.ok v w'):
  ∃es,stepG P true (G (b.atR a []) (c::cs)) w=.go (G (c.finish v) cs) w' es:=by
 simp only[G,stepG,stepG.exec,Frame.atR,hr,Sem.runT_eq,h,GStep.after,doReturn,hn];exact⟨_,rfl⟩
theorem Jn{b:Frame}{a:Act}{k:List Item}{c:Frame}{cs:List Frame}{w w':World}{l:Nat}{v:Value}(hn:b.kind=.normal)(hr:b.roundOf=some l)(h:(Instr.endRound l (some .ret)).run P w=.ok v w'):
  ∃es,stepG P true (G (b.atR a (.code .ret::k)) (c::cs)) w=.go (G (c.finish v) cs) w' es:=by
 simp only[G,stepG,stepG.exec,Frame.atR,hr,Sem.runT_eq,h,GStep.after,doReturn,hn];exact⟨_,rfl⟩
theorem FO{b:Frame}{a:Act}{k:List Item}{c:Frame}{cs:List Frame}{w w':World}{l id:Nat}{v:Value}(hn:b.kind=.normal)(hr:b.roundOf=some l)(he:exitTo id k=none)(h:(Instr.endRound l (some (.exit id))).run P w=.ok v w'):
  ∃es,stepG P true (G (b.atR a (.code (.exit id)::k)) (c::cs)) w=.go (G (c.finish v) cs) w' es:=by
 simp only[G,stepG,stepG.exec,Frame.atR,hr,he,Option.elim_none,Sem.runT_eq,h,GStep.after,doReturn,hn];exact⟨_,rfl⟩
theorem Rr(hP:Plain P)(hc:ir P aa call)(mN:∀id ops draw,yJ P aa ty aK call yf id ops draw){L:Nat}:BH P aa (uK P ty aK call yf L):=by
 intro id args S v S' h x vals hR hS ha;subst hS;unfold uK at h;split at h
 .rename_i r hr;split at h
  .rename_i hlen;obtain⟨lo,l1,l2,l3,l4,l5,l6,l7,l8,-⟩:=uU hR hr;refine⟨lo,l1,by rw[l6];simpa [ha.1]using hlen,λfr cs hn=>?_⟩;have JL:∀tmps,Frame.round (x.μ id) lo.fn tmps lo.assign lo.body .normal=({(default:Frame)with fn:=r.fn,kind:=.normal,roundOf:=some (x.μ id)}:Frame).atR {tmps:=tmps,defers:=[]} [.code r.assign,.beginRound,.code r.body]:=by intro tmps;simp[Frame.round,Frame.atR,l4,l7,l8]
   rw[JL];generalize hB:({(default:Frame)with fn:=r.fn,kind:=.normal,roundOf:=some (x.μ id)}:Frame)=B;have QE:B.kind=.normal:=by rw[<-hB]
   have hBf:B.fn=r.fn:=by rw[<-hB]
   have hBr:B.roundOf=some (x.μ id):=by rw[<-hB]
   have hBe:B.kind≠.early:=by rw[QE];simp
   have he:ia x (tF r.env (r.params.zip args)) ((lo.params.zip vals).foldl (λtmps (t,a)=>tmps.setIfInBounds t a) lo.tmps):=by
    have:=O9 (ts:=r.params) (ds:=args) (vs:=vals.toList) l5 (by simpa using ha.1) λj c hc=>by simpa [bz,aP]using ha.2 j c hc
    rw[l6,<-y9];simpa using this
   split at h
   .rename_i adk S1 h1;split at h
    .rename_i r1 ye;split at h
     .rename_i hst;split at h
      .rename_i e aiZ S2 h2;split at h
       .rename_i r2 Mp;refine zH (n0:=0) (ds:=[]) (b:=B) (cs:=fr::cs) (jd:=true) hP hc hBe hBf (by simp) r.assign (zx mN _) h1 hR he (Be _ _) (kT _) λy a1 ds1 q1 q2 q3 q4 q5=>?_;subst q1;obtain⟨lo1,m1,m2,m3,-⟩:=uU q2 ye;have hμy:y.μ id=x.μ id:=(q3.eC id _ hr rfl).1;refine jj hP λn=>?_;obtain⟨z1,z2⟩:=DT (q2.dr n) (id:=id) ye (lo:=lo1) m1 .busy r1.kz;have ahI:({lo1 with state:=.busy,pending:=r1.kz}:Loop)={lo1 with state:=.busy}:=by rw[<-m3]
        rw[ahI]at z1 z2;have ahZ:(Instr.beginRound (x.μ id)).run P (y.w.at n)=.ok () (cE (y.w.at n) (x.μ id) (.loop {lo1 with state:=.busy})):=by
         have hg:=jI (P:=P) (w:=y.w.at n) (show(y.w.at n).heap[x.μ id]? =_ from(by rw[<-hμy];exact m1)) (by simp);have hs:=lB (P:=P) (w:=y.w.at n) (o:=.loop {lo1 with state:=.busy}) (show(y.w.at n).heap[x.μ id]? =_ from(by rw[<-hμy];exact m1)) (by simp);have hrd:lo1.state=.ready:=by rw[m2];exact hst
         simp only[Instr.beginRound,Instr.getLoop,Sem.run_bind,hg,Result.andThen_ok,Sem.run_pure,hs,hrd]
        obtain⟨es,hstep⟩:=WN (P:=P) (a:=a1) (k:=[.code r.body]) (cs:=fr::cs) hBe hBr ahZ;refine⟨_,_,_,es,hstep,?_⟩;generalize hz:(y.dr n).xq id (.loop {lo1 with state:=.busy}) (.loop {r1 with st:=.busy,kz:=r1.kz})=z at z1 z2;have hzS:z.S=y.S.set id (.loop {r1 with st:=.busy}):=by rw[<-hz];rfl
        have hzw:z.w=cE (y.w.at n) (x.μ id) (.loop {lo1 with state:=.busy}):=by rw[<-hz];show cE (y.w.at n) (y.μ id) _=_;rw[hμy]
        rw[<-hzw];have MYZ:=(fE y n).trans z2;rw[<-hzS]at h2;refine zH (n0:=0) (ds:=ds1) (b:=B) (cs:=fr::cs) (k:=[]) (jd:=true) hP hc hBe hBf (by simp) r.body (zx mN _) h2 z1 (q4.mono MYZ) (q5.mono MYZ) (kT _) λu a2 ds2 p1 p2 p3 p4 p5=>?_;subst p1;obtain⟨lo2,n1,-⟩:=uU p2 Mp;have hμu:u.μ id=x.μ id:=by have:=(p3.eC id _ (show z.S[id]? =some (.loop {r1 with st:=.busy})by rw[hzS,gW ye,if_pos rfl]) rfl).1;rw[this,<-hz];exact hμy
        have MXU:=(q3.trans MYZ).trans p3;have fin:∀st pd,∀n2,(Instr.endRound (x.μ id) pd).run P (u.w.at n2)=.ok (.bool pd.isNone) (cE (u.w.at n2) (x.μ id) (.loop {lo2 with state:=if pd.isNone then .ready else .done,pending:=pd}))->st=(if pd.isNone then LoopState.ready else .done)->S'=u.S.set id (.loop {r2 with st:=st,kz:=pd})->v=.val (.bool pd.isNone)->
          jf P aa () (G (fr.finish (.bool pd.isNone)) cs) (cE (u.w.at n2) (x.μ id) (.loop {lo2 with state:=if pd.isNone then .ready else .done,pending:=pd})):=by
         intro st pd n2 _ TG CJ hv;obtain⟨y1,y2⟩:=DT (p2.dr n2) (id:=id) Mp (lo:=lo2) n1 st pd;have:=hn ((u.dr n2).xq id (.loop {lo2 with state:=st,pending:=pd}) (.loop {r2 with st:=st,kz:=pd})) (.bool pd.isNone) ⟨CJ.symm,y1,(MXU.trans (fE u n2)).trans y2,by rw[hv];exact .val rfl⟩;have e:((u.dr n2).xq id (.loop {lo2 with state:=st,pending:=pd}) (.loop {r2 with st:=st,kz:=pd})).w=cE (u.w.at n2) (x.μ id) (.loop {lo2 with state:=if pd.isNone then .ready else .done,pending:=pd}):=by show cE (u.w.at n2) (u.μ id) _=_;rw[hμu,TG]
         rw[e]at this;exact this
        have uq:∀pd n2,(Instr.endRound (x.μ id) pd).run P (u.w.at n2)=.ok (.bool pd.isNone) (cE (u.w.at n2) (x.μ id) (.loop {lo2 with state:=if pd.isNone then .ready else .done,pending:=pd})):=by intro pd n2;have hg:=jI (P:=P) (w:=u.w.at n2) (show(u.w.at n2).heap[x.μ id]? =_ from(by rw[<-hμu];exact n1)) (by simp);have hs:=λo=>lB (P:=P) (w:=u.w.at n2) (o:=o) (show(u.w.at n2).heap[x.μ id]? =_ from(by rw[<-hμu];exact n1)) (by simp);simp only[Instr.endRound,Instr.getLoop,Sem.run_bind,hg,Result.andThen_ok,Sem.run_pure,hs]
        cases e with
        |normal=>simp only[aB,az]at h;refine jj hP λn2=>?_;obtain⟨es2,Cr⟩:=Jo (P:=P) (a:=a2) (c:=fr) (cs:=cs) QE hBr (uq none n2);exact⟨_,_,_,es2,Cr,fin .ready none n2 (uq none n2) rfl h.2.symm h.1.symm⟩
        |ret=>simp only[aB,az]at h;intro k';refine jj hP λn2=>?_;obtain⟨es2,Cr⟩:=Jn (P:=P) (a:=a2) (k:=k') (c:=fr) (cs:=cs) QE hBr (uq (some .ret) n2);exact⟨_,_,_,es2,Cr,fin .done (some .ret) n2 (uq (some .ret) n2) rfl h.2.symm h.1.symm⟩
        |exit i=>simp only[aB,az]at h;intro k' pG;refine jj hP λn2=>?_;obtain⟨es2,Cr⟩:=FO (P:=P) (a:=a2) (k:=k') (c:=fr) (cs:=cs) QE hBr pG (uq (some (.exit i)) n2);exact⟨_,_,_,es2,Cr,fin .done (some (.exit i)) n2 (uq (some (.exit i)) n2) rfl h.2.symm h.1.symm⟩
       cases h
      cases h
     cases h
    cases h
   cases h
  cases h
 cases h
end Go.Di
