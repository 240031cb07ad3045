import Derived.Test.YtadeehilamokkaaGreatDoorPk25
import Derived.Orders
set_option maxHeartbeats 1000000
namespace Go.Di
open Go Go.Conc Go.Co
variable {P:Program} {aa:Machine->Trace->Prop} {ty:fo} {x:Cx} {aD:bT} {call:bg} {yf:dx}
theorem Mp{b:Frame}{a:Act}{k:List Item}{cs:List Frame}{w w':World}{l:Nat}{jump:Option Code}(h:(Instr.endLoop l).run P w=.ok jump w'):
  ∃es,stepG P true (G (b.atR a (.endRangeFunc l::k)) cs) w=.go (G (b.atR a ((jump.map Item.code).toList++k)) cs) w' es:=by
 simp only[G,stepG,stepG.exec,Frame.atR,Sem.runT_eq,h,GStep.after];exact⟨_,rfl⟩
theorem uC(hR:Rel x){id:Nat}{r:GA}(h:x.S[id]? =some (.loop r)):∃lo,x.w.heap[x.μ id]? =some (.loop lo)/\lo.state=r.st/\lo.pending=r.j5/\lo.fn=r.fn/\gb x r.env lo.tmps/\lo.params=r.params.toArray/\lo.assign=r.assign/\lo.body=r.body/\lo.defers=x.μ r.Bv/\x.S[r.Bv]? =some .defer:=by obtain⟨o,h1,h2⟩:=hR.dA id _ h rfl;cases o<;>simp only[uf]at h2;exact⟨_,h1,h2⟩
theorem D8(hR:Rel x){id:Nat}{r:GA}(h:x.S[id]? =some (.loop r)){lo:Loop}(Ur:x.w.heap[x.μ id]? =some (.loop lo))(st:LoopState)(pd:Option Code):
  Rel (x.xm id (.loop {lo with state:=st,pending:=pd}) (.loop {r with st:=st,j5:=pd}))/\bE x (x.xm id (.loop {lo with state:=st,pending:=pd}) (.loop {r with st:=st,j5:=pd})):=by
 obtain⟨lo',h1,h2,h3,h4,h5,h6,h7,h8,h9,wz⟩:=uC hR h;rw[Ur]at h1;cases h1;have M:=A8 (x:=x) (o:=.loop {lo with state:=st,pending:=pd}) (b:=.loop {r with st:=st,j5:=pd}) hR h rfl ae;refine⟨K9 hR h rfl ae ⟨rfl,rfl,h4,h5.mono M,h6,h7,h8,h9,?_⟩,M⟩;show(x.S.set _ _)[_]? =_;rw[gK h,if_neg (by rintro e;rw[e,h]at wz;cases wz)];exact wz
theorem QH(S:aj):FD S S.length:=.inl rfl
theorem BS(S:aj)(b:DB):eF S S.length b=S++[b]:=by unfold eF;rw[if_neg ab]
theorem zH(hP:Plain P)(hc:gR P aa call){L:Nat}{fn:FuncId}{iH:Bool}{n0:Nat}{b:Frame}{cs:List Frame}(hk:b.kind≠.early)(UT:b.fn=fn)(JQ:iH=false->b.roundOf=none):
  ∀(c:Code),D5 P aa ty aD call yf c->∀{k:List Item}{env aL:cn}{S':aj}{e:DX}{a:Act}{x:Cx}{ds:cy},cI P ty aD call yf L fn iH c env x.S=some (e,aL,S')->Rel x->gb x env a.tmps->uh n0 x ds a.defers->n0<=x.S.length->
   (∀y a' iu,y.S=S'->Rel y->bE x y->gb y aL a'.tmps->uh n0 y iu a'.defers->Ki P aa b k cs e a' y.w)->iI P aa () (G (b.atR a (.code c::k)) cs) x.w:=by
 intro c;induction c with
 |skip=>intro _ k env aL S' e a x ds h hR he hd wq hn;simp only[cI,aF,az]at h;obtain⟨rfl,rfl,rfl⟩:=h;exact fL hP (λw=>⟨_,abp⟩) (hn x a ds rfl hR (bE.refl x) he hd)
 |label l=>intro _ k env aL S' e a x ds h hR he hd wq hn;simp only[cI,aF,az]at h;obtain⟨rfl,rfl,rfl⟩:=h;exact fL hP (λw=>⟨_,Ye⟩) (hn x a ds rfl hR (bE.refl x) he hd)
 |region id ops draw=>intro mj k env aL S' e a x ds h hR he hd wq hn;simp only[cI,af,az]at h;obtain⟨⟨nW,S1⟩,h1,rfl,rfl,rfl⟩:=h;exact mj h1 hk hR he λy a' q1 q2 q3 q4 q5=>hn y a' ds q1 q2 q3 q4 (by rw[q5];exact hd.mono q3)
 |seq c1 c2 Ru Uk=>intro mj k env aL S' e a x ds h hR he hd wq hn;simp only[cI]at h;refine fL hP (λw=>⟨_,ae2⟩) ?_;split at h;rename_i nW S1 h1;refine Ru mj.1 h1 hR he hd wq λy a' iu q1 q2 q3 q4 q5=>?_;subst q1;exact Uk mj.2 h q2 q4 q5 (bt wq q3.len) λz a'' aei r1 r2 r3 r4 r5=>hn z a'' aei r1 r2 (q3.trans r3) r4 r5;rename_i r hne;refine Ru mj.1 h hR he hd wq λy a' iu q1 q2 q3 q4 q5=>Ki.push (λ_=>rfl) ?_ (hn y a' iu q1 q2 q3 q4 q5);rintro rfl;exact hne _ _ h
 |cond o c1 c2 Ru Uk=>intro mj k env aL S' e a x ds h hR he hd wq hn;simp only[cI]at h;split at h;rename_i ho;have hv:=nX (xA he _ _ ho);refine fL hP (λw=>⟨_,Qt hv⟩) ?_;rw[if_pos rfl];exact Ru mj.1 h hR he hd wq hn;rename_i ho;have hv:=nX (xA he _ _ ho);refine fL hP (λw=>⟨_,Qt hv⟩) ?_;rw[if_neg ae];exact Uk mj.2 h hR he hd wq hn;cases h
 |block id c ih=>
  intro mj k env aL S' e a x ds h hR he hd wq hn;simp only[cI]at h;refine fL hP (λw=>⟨_,Yf⟩) ?_;split at h;rename_i iG nW S1 h1;cases h;refine ih mj h1 hR he hd wq λy a' iu q1 q2 q3 q4 q5=>?_;have hf:=hn y a' iu q1 q2 q3 q4 q5;intro k' oT;simp only[exitTo]at oT;by_cases hid:iG=id;subst hid;simp only[yY,if_true]at oT hf;exact fL hP (λw=>⟨_,abr oT⟩) hf;rw[if_neg hid]at hf;have:(id==iG)=false:=by simpa usingλe=>hid e.symm
  rw[this]at oT;exact hf k' oT;rename_i r hne;refine ih mj h hR he hd wq λy a' iu q1 q2 q3 q4 q5=>?_;have hf:=hn y a' iu q1 q2 q3 q4 q5;cases e with
  |normal=>exact fL hP (λw=>⟨_,Ou⟩) hf
  |exit iG=>exact absurd h (hne _ _ _)
  |ret=>exact hf
 |loop c ih=>
  intro mj k env aL S' e a x ds h hR he hd wq hn;simp only[cI]at h;refine fL hP (λw=>⟨_,abq⟩) ?_;have key:∀n {env:cn}{a:Act}{x:Cx}{ds:cy},oq (cI P ty aD call yf L fn iH c) n env x.S=some (e,aL,S')->Rel x->gb x env a.tmps->uh n0 x ds a.defers->n0<=x.S.length->
    (∀y a' iu,y.S=S'->Rel y->bE x y->gb y aL a'.tmps->uh n0 y iu a'.defers->Ki P aa b k cs e a' y.w)->iI P aa () (G (b.atR a (.code c::.inLoop c::k)) cs) x.w:=by
   intro n;induction n with
   |zero=>intro env a x ds h;simp[oq]at h
   |succ n ihn=>intro env a x ds h hR he hd wq hn;unfold oq at h;split at h;rename_i nW S1 h1;refine ih mj h1 hR he hd wq λy a' iu q1 q2 q3 q4 q5=>?_;subst q1;exact fL hP (λw=>⟨_,SX⟩) (ihn h q2 q4 q5 (bt wq q3.len) λz a'' aei r1 r2 r3 r4 r5=>hn z a'' aei r1 r2 (q3.trans r3) r4 r5);rename_i r hne;refine ih mj h hR he hd wq λy a' iu q1 q2 q3 q4 q5=>Ki.push (λ_=>rfl) ?_ (hn y a' iu q1 q2 q3 q4 q5);rintro rfl;exact hne _ _ h
  exact key L h hR he hd wq hn
 |scope c ih=>
  intro mj k env aL S' e a x ds h hR he hd wq hn;simp only[cI]at h;refine fL hP (λw=>⟨_,Yc⟩) ?_;refine ih mj h hR he hd wq λy a' iu q1 q2 q3 q4 q5=>?_;have hf:=hn y a' iu q1 q2 q3 q4 q5;cases e with
  |normal=>exact fL hP (λw=>⟨_,Ot⟩) hf
  |exit iG=>exact Ki.push (λ_=>rfl) ae hf
  |ret=>exact hf
 |exit id=>intro _ k env aL S' e a x ds h hR he hd wq hn;simp only[cI,aF,az]at h;obtain⟨rfl,rfl,rfl⟩:=h;exact hn x a ds rfl hR (bE.refl x) he hd k rfl
 |ret=>intro _ k env aL S' e a x ds h hR he hd wq hn;simp only[cI,aF,az]at h;obtain⟨rfl,rfl,rfl⟩:=h;exact hn x a ds rfl hR (bE.refl x) he hd k
 |goto l=>intro _ k env aL S' e a x ds h;simp[cI]at h
 |refuse why=>intro _ k env aL S' e a x ds h;simp[cI]at h
 |rangeFunc f ps ox body _ _=>
  intro _ k env aL S' e a x ds h hR he hd wq hn;simp only[cI]at h;split at h;cases h;rename_i ajb;have hro:=JQ (by simpa using ajb);split at h;rename_i g fs vs hf;have hfv:=xA he _ _ hf;generalize hv:a.eval f=vf at hfv;cases hfv with
  |@fn _ _ _ vfs vcs k1 k2 k3 k4=>
   split at h;rename_i u S1 h1;refine iN hP λn=>?_;have hRn:=hR.dr n;have Mn:=eN x n;have hp1:oz (x.w.at n) ((x.w.at n).alloc (.deferred (some []))) (.deferred (some [])):=gG _ _;have MS:=mG (x:=x.dr n) (k:=0) (F:=λ_=>False) (b:=.defer) hRn (QH x.S) hp1 ae (.inr (.inr (.inl ⟨rfl,ae,trivial⟩)));have M1:=jv (x:=x.dr n) (k:=0) (F:=λ_=>False) (b:=.defer) hRn (QH x.S) hp1;generalize MP:(x.dr n).fresh ((x.w.at n).alloc (.deferred (some []))) x.S.length 0 (λ_=>False) .defer=x1 at MS M1;have hS1:x1.S=x.S++[.defer]:=by rw[<-MP];exact BS x.S _
   have MQ:x1.w=(x.w.at n).alloc (.deferred (some [])):=by rw[<-MP];rfl
   have hμ1:x1.μ x.S.length=x.w.heap.size:=by rw[<-MP];exact if_pos rfl
   have PG:x1.S.length=x.S.length+1:=by rw[hS1];simp
   have hp2:oz x1.w (((x.w.at n).alloc (.deferred (some []))).alloc (.loop {state:=.ready,pending:=none,fn:=b.fn,tmps:=a.tmps,params:=ps,assign:=ox,body,defers:=x.w.heap.size})) (.loop {state:=.ready,pending:=none,fn:=b.fn,tmps:=a.tmps,params:=ps,assign:=ox,body,defers:=x.w.heap.size}):=by rw[MQ];exact gG _ _
   have ac9:FD x1.S (x.S.length+1):=.inl PG.symm;have M2:=jv (x:=x1) (k:=0) (F:=λ_=>False) (b:=.loop ⟨.ready,none,fn,env,ps.toList,ox,body,x.S.length⟩) MS ac9 hp2;generalize HV:x1.fresh (((x.w.at n).alloc (.deferred (some []))).alloc (.loop {state:=.ready,pending:=none,fn:=b.fn,tmps:=a.tmps,params:=ps,assign:=ox,body,defers:=x.w.heap.size})) (x.S.length+1) 0 (λ_=>False) (.loop ⟨.ready,none,fn,env,ps.toList,ox,body,x.S.length⟩)=x2 at M2;have JV:x2.S=x.S++[.defer,.loop ⟨.ready,none,fn,env,ps.toList,ox,body,x.S.length⟩]:=by rw[<-HV];show eF x1.S (x.S.length+1) _=_;rw[<-PG,BS,hS1];simp
   have hw2:x2.w=((x.w.at n).alloc (.deferred (some []))).alloc (.loop {state:=.ready,pending:=none,fn:=b.fn,tmps:=a.tmps,params:=ps,assign:=ox,body,defers:=x.w.heap.size}):=by rw[<-HV];rfl
   have hμ2:x2.μ (x.S.length+1)=x.w.heap.size+1:=by rw[<-HV];show(if _ then x1.w.heap.size else _)=_;rw[if_pos rfl,MQ];simp[World.at]
   have hμ2':x2.μ x.S.length=x.w.heap.size:=by rw[<-HV];show(if _ then _ else x1.μ x.S.length)=_;rw[if_neg ab,hμ1]
   have MM:=(Mn.trans M1).trans M2;have hR2:Rel x2:=by
    have:=mG (x:=x1) (k:=0) (F:=λ_=>False) (b:=.loop ⟨.ready,none,fn,env,ps.toList,ox,body,x.S.length⟩) MS ac9 hp2 ae (.inr (.inr (.inl ⟨rfl,ae,?_⟩)))
    grind
    rw[HV];refine⟨rfl,rfl,UT,he.mono MM,ae,rfl,rfl,hμ2'.symm,?_⟩;rw[JV];simp
   have V3:uh n0 x2 (x.S.length::ds) ({target:=.collected x.w.heap.size,args:=#[]}::a.defers):=by
    obtain⟨q1,q2,q3⟩:=hd.mono MM;refine⟨by rw[aZ,hμ2',q1],List.nodup_cons.2 ⟨λhm=>?_,q2⟩,λid hid=>?_⟩;have:=(aI.1 (hd.2.2 _ hm).2.1).1;omega;rcases aV.1 hid with rfl|hid;refine⟨wq,by rw[JV];simp,?_⟩;rw[hμ2',hw2];have:((x.w.at n).alloc (.deferred (some []))).heap.size=x.w.heap.size+1:=by simp[World.at]
    rw[(gG _ _).lt ab];exact(gG (x.w.at n) _).new
    grind
   have qh:gb x2 (fs++[.nN (x.S.length+1)]++vs) (vfs++#[.func (.yield (x.w.heap.size+1)) #[] #[]]++vcs):=by
    have e1:gb x2 fs vfs:=gb.mono MM ⟨k1,k3⟩;have e2:gb x2 vs vcs:=gb.mono MM ⟨k2,k4⟩;refine mN (mN e1 ⟨rfl,λj c hj=>?_⟩) e2;cases j with
    |zero=>simp only[dH,aF]at hj;subst hj;show RV x2 _ (.func (.yield (x.w.heap.size+1)) #[] #[]);rw[<-hμ2];exact .nN (r:=⟨.ready,none,fn,env,ps.toList,ox,body,x.S.length⟩) (by rw[JV];simp)
    |succ j=>simp at hj
   obtain⟨⟨tF,cd,UU,ZX⟩,ajt⟩:=hc _ _ _ _ _ h1 x2 _ hR2 JV qh;obtain⟨es,hstep⟩:=JA (P:=P) (b:=b) (a:=a) (k:=k) (cs:=cs) (w:=x.w.at n) (g:=f) (ps:=ps) (assign:=ox) (body:=body) hk hro hv UU ZX (hP.count g tF UU);refine⟨_,_,_,es,hstep,?_⟩;have adg:=ajt (b.atR {a with defers:={target:=.collected x.w.heap.size,args:=#[]}::a.defers} (.inRangeFunc (x.w.heap.size+1)::k)) cs λy u hp=>?_;rw[hw2]at adg;exact adg;obtain⟨hyS,hyR,hyM,-⟩:=hp;subst hyS;rw[finish_atR_inRangeFunc];have MY:=MM.trans hyM;split at h;rename_i r hr;split at h;cases h;rename_i ahy;have hμy:y.μ (x.S.length+1)=x.w.heap.size+1:=by rw[(hyM.dA _ _ (show x2.S[x.S.length+1]? =some (.loop ⟨.ready,none,fn,env,ps.toList,ox,body,x.S.length⟩)by rw[JV];simp) rfl).1,hμ2]
   obtain⟨lo,l1,l2,l3,-⟩:=uC hyR hr;rw[hμy]at l1;obtain⟨z1,z2⟩:=D8 hyR hr (by rw[hμy];exact l1) .exhausted r.j5;have hwz:(y.xm (x.S.length+1) (.loop {lo with state:=.exhausted,pending:=r.j5}) (.loop {r with st:=.exhausted,j5:=r.j5})).w=cz y.w (x.w.heap.size+1) (.loop {lo with state:=.exhausted,pending:=r.j5}):=by show cz y.w (y.μ _) _=_;rw[hμy]
   have hSz:(y.xm (x.S.length+1) (.loop {lo with state:=.exhausted,pending:=r.j5}) (.loop {r with st:=.exhausted,j5:=r.j5})).S=y.S.set (x.S.length+1) (.loop {r with st:=.exhausted}):=rfl;generalize y.xm (x.S.length+1) (.loop {lo with state:=.exhausted,pending:=r.j5}) (.loop {r with st:=.exhausted,j5:=r.j5})=z at z1 z2 hwz hSz;have MZ:=MY.trans z2;refine iN hP λn2=>?_;have aht:(Instr.endLoop (x.w.heap.size+1)).run P (y.w.at n2)=.ok r.j5 (z.w.at n2):=by
    have hg:=jm (P:=P) (w:=y.w.at n2) (show(y.w.at n2).heap[x.w.heap.size+1]? =_ from l1) ae;have hs:=kV (P:=P) (w:=y.w.at n2) (o:=.loop {lo with state:=.exhausted,pending:=r.j5}) (show(y.w.at n2).heap[x.w.heap.size+1]? =_ from l1) ae;have hb:(lo.state==LoopState.busy)=false:=by rw[l2];simpa using ahy
    simp only[Instr.endLoop,Instr.getLoop,Sem.run_bind,hg,Result.andThen_ok,Sem.run_pure,hb,aJ,if_false,hs,l3];rw[hwz];rfl
   obtain⟨es2,Cv⟩:=Mp (P:=P) (b:=b) (a:={a with defers:={target:=.collected x.w.heap.size,args:=#[]}::a.defers}) (k:=k) (cs:=cs) aht;refine⟨_,_,_,es2,Cv,Ko ?_ n2⟩;have pW:=hn z {a with defers:={target:=.collected x.w.heap.size,args:=#[]}::a.defers} (x.S.length::ds);split at h;rename_i Uq;simp only[aF,az]at h;obtain⟨rfl,rfl,rfl⟩:=h;rw[Uq];exact pW hSz z1 MZ (he.mono MZ) ((V3.mono hyM).mono z2);rename_i Uq;simp only[aF,az]at h;obtain⟨rfl,rfl,rfl⟩:=h;rw[Uq];exact pW hSz z1 MZ (he.mono MZ) ((V3.mono hyM).mono z2) k;rename_i e' Uq;simp only[aF,az]at h;obtain⟨rfl,rfl,rfl⟩:=h;rw[Uq];exact pW hSz z1 MZ (he.mono MZ) ((V3.mono hyM).mono z2) k rfl;cases h;cases h;cases h
  cases h
end Go.Di
namespace Go.Di
open Go Go.Conc Go.Co
variable {P:Program} {aa:Machine->Trace->Prop} {ty:fo} {x:Cx} {aD:bT} {call:bg} {yf:dx}
theorem zn(h:∀id ops draw,yD P aa ty aD call yf id ops draw):∀c,D5 P aa ty aD call yf c:=by
 intro c;induction c with
 |region id ops draw=>exact h id ops draw
 |seq a b iha ihb=>exact⟨iha,ihb⟩
 |cond o a b iha ihb=>exact⟨iha,ihb⟩
 |block id c ih=>exact ih
 |loop c ih=>exact ih
 |scope c ih=>exact ih
 |_=>trivial
def RJ(tmps:Array Value):ResultVar->Sem Value
 |.tmp t=>pure (tmps.getD t undef)
 |.cell a t=>do loadVar t (<-asAddr (tmps.getD a undef))
theorem Ol(fn:Func)(tmps:Array Value):results fn tmps=(do let vs<-fn.results.mapM (RJ tmps);pure (if h:vs.size=1 then vs[0]else .tuple vs)):=by
 have:(λ|.tmp t=>pure (tmps.getD t undef)|.cell a t=>do loadVar t (<-asAddr (tmps.getD a undef)):ResultVar->Sem Value)=RJ tmps:=by funext r;cases r<;>rfl
 rw[<-this];rfl
theorem I7(eV:j6 P ty){env:cn}{tmps:Array Value}(hR:Rel x)(he:gb x env tmps):∀{rs:List ResultVar}{l:cn},tr ty env x.S rs=some l->
  ∃vs:List Value,(rs.mapM (RJ tmps)).run P x.w=.ok vs x.w/\gb x l vs.toArray
 |[],l,h=>by simp only[tr,aF]at h;subst h;exact⟨[],rfl,rfl,ae⟩
 |.tmp t::rs,l,h=>by
  simp only[tr,af]at h;obtain⟨l',h1,rfl⟩:=h;obtain⟨vs,h2,h3,h4⟩:=I7 eV hR he h1;have hv:RV x (env.getD t bD) (tmps.getD t undef):=xA (a:=⟨tmps,[]⟩) he (.tmp t) _ rfl;refine⟨tmps.getD t undef::vs,by simp only[List.mapM_cons,RJ,Sem.run_bind,Sem.run_pure,Result.andThen_ok,h2],by simpa using h3,λj c hc=>?_⟩;cases j with
  |zero=>simp only[dH,aF]at hc;subst hc;exact hv
  |succ j=>simpa [aW]using h4 j c (by simpa using hc)
 |.cell a t::rs,l,h=>by
  unfold tr at h;split at h;rename_i d l' h0 h1;cases h;obtain⟨vs,h2,h3,h4⟩:=I7 eV hR he h1;have hv:RV x (env.getD a bD) (tmps.getD a undef):=xA (a:=⟨tmps,[]⟩) he (.tmp a) _ rfl;obtain⟨v,h5,h6⟩:=LG eV hR hv h0;have hrun:(RJ tmps (.cell a t)).run P x.w=.ok v x.w:=by
   show(do loadVar t (<-asAddr (tmps.getD a undef)):Sem Value).run P x.w=_;generalize tmps.getD a undef=u at hv h5;unfold kX at h0;generalize env.getD a bD=da at hv h0;split at h0;cases hv;simpa [Instr.loadAt,Instr.sureAddr,asAddr]using h5
   cases hv;simpa [Instr.loadAt,Instr.sureAddr,asAddr]using h5
   split at h0;rename_i hop;obtain⟨hS,HY⟩:=lZ hop;cases hv with
   |fV CO _ hA=>rw[hS]at CO;cases CO;rw[hA HY]at h5⊢;simpa [Instr.loadAt,Instr.sureAddr,asAddr]using h5
   cases h0;cases h0
  refine⟨v::vs,by simp only[List.mapM_cons,Sem.run_bind,hrun,Result.andThen_ok,h2,Sem.run_pure],by simpa using h3,λj c hc=>?_⟩;cases j with
  |zero=>simp only[dH,aF]at hc;subst hc;exact h6
  |succ j=>simpa [aW]using h4 j c (by simpa using hc)
  cases h
theorem EX(eV:j6 P ty){fn:Func}{env:cn}{tmps:Array Value}(hR:Rel x)(he:gb x env tmps){l:cn}(h:tr ty env x.S fn.results.toList=some l):
  ∃v,(results fn tmps).run P x.w=.ok v x.w/\RV x (oneOf l) v:=by
 obtain⟨vs,h1,h2,h3⟩:=I7 eV hR he h;have hm:(fn.results.mapM (RJ tmps)).run P x.w=.ok vs.toArray x.w:=by rw[Array.mapM_eq_mapM_toList];simp only[Sem.run_map,h1,Result.andThen_ok]
 refine⟨if h:vs.toArray.size=1 then vs.toArray[0]else .tuple vs.toArray,?_,?_⟩;rw[Ol];simp only[Sem.run_bind,hm,Result.andThen_ok,Sem.run_pure]
 match l,vs,h2,h3 with
 |[],[],_,_=>exact .tup rfl ae
 |[d],[v],_,h3=>exact h3 0 d rfl
 |d::e::l,v::u::vs,h2,h3=>exact .tup (by simpa using h2) h3
 |[],_::_,h2,_=>simp at h2
 |[_],[],h2,_=>simp at h2
 |[_],_::_::_,h2,_=>simp at h2
 |_::_::_,[],h2,_=>simp at h2
 |_::_::_,[_],h2,_=>simp at h2
theorem Yd{b:Frame}{a:Act}{todo:List Item}{c:Frame}{cs:List Frame}{w:World}{fn:Func}{v:Value}(hn:b.kind=.normal)(hd:a.defers=[])(hf:P.funcs[b.fn]? =some fn)(hr:(results fn a.tmps).run P w=.ok v w):
  ∃es,stepG P true (G {b.at a todo with mode:=.returning} (c::cs)) w=.go (G (c.finish v) cs) w es:=by
 simp only[G,stepG,unwind,doReturn,Frame.at,hn,hd,hf,Sem.runT_eq,hr,GStep.after];exact⟨_,rfl⟩
theorem Qs{b:Frame}{a:Act}{todo:List Item}{cs:List Frame}{w w':World}{r:Nat}{ds:List Deferred}(hd:a.defers={target:=.collected r,args:=#[]}::ds)(hr:(Instr.takeDeferred r).run P w=.ok [] w'):
  ∃es,stepG P true (G {b.at a todo with mode:=.returning} cs) w=.go (G {b.at {a with defers:=ds} todo with mode:=.returning} cs) w' es:=by
 simp only[G,stepG,unwind,Frame.at,hd,Sem.runT_eq,hr,GStep.after,gu];exact⟨_,rfl⟩
theorem P8{x0:Cx}(M:bE x0 x)(hR:Rel x){id:Nat}(hid:x0.S.length<=id)(hS:x.S[id]? =some .defer):
  Rel {x with w:=cz x.w (x.μ id) (.deferred none)}/\bE x0 {x with w:=cz x.w (x.μ id) (.deferred none)}/\∀d v,RV x d v->RV {x with w:=cz x.w (x.μ id) (.deferred none)} d v:=by
 have nH:=bh hS (show DB.defer≠.none by simp);have ajg:∀i,Live x0.S i->i≠id:=by rintro i ⟨c,hc,-⟩ rfl;have:=(aI.1 hc).1;omega
 have afs:x0.w.heap.size<=x.μ id:=by
  rcases M.live id nH with ⟨h,-⟩|h
  grind
  exact h
 have qP:∀b,b≠x.μ id->(cz x.w (x.μ id) (.deferred none)).heap[b]? =x.w.heap[b]? :=λb hb=>gH _ _ _ hb;have M3:∀b o,x.Fz b o->(cz x.w (x.μ id) (.deferred none)).cell? ⟨b,o,none⟩=x.w.cell? ⟨b,o,none⟩:=λb o h=>cell_of_block (qP b (by rintro rfl;exact hR.W5 hS rfl o h)) o;have Uo:∀d v,RV x d v->RV {x with w:=cz x.w (x.μ id) (.deferred none)} d v:=by
  intro d v h;induction h with
  |val h=>exact .val h
  |agg h _ ih=>exact .agg h ih
  |tup h _ ih=>exact .tup h ih
  |sl hv _ h1 h2 h3 hsp h4 ih=>exact .sl (View.mono (x:=x) (y:={x with w:=cz x.w (x.μ id) (.deferred none)}) (λb o h=>⟨h,M3 b o h⟩) hv) ih h1 h2 h3 hsp h4
  |ptr h=>exact .ptr h
  |eU hv _ ih=>exact .eU (View.mono (x:=x) (y:={x with w:=cz x.w (x.μ id) (.deferred none)}) (λb o h=>⟨h,M3 b o h⟩) hv) ih
  |fn h1 h2 _ _ Ru Uk=>exact .fn h1 h2 Ru Uk
  |map h=>exact .map h
  |nN h=>exact .nN h
  |jB h h1 h2=>exact .jB h h1 h2
  |fV h h1 h2=>exact .fV h h1 h2
 have hne:∀i b,x.S[i]? =some b->b≠.none->i≠id->x.μ i≠x.μ id:=λi b hi hb h e=>h (hR.inj i id (bh hi hb) nH e);obtain⟨ob,hob,-⟩:=hR.dA id _ hS rfl;refine⟨⟨λi l hl=>?_,λi e s n hl=>?_,λi b hb Vk=>?_,hR.inj,λb o h=>?_,hR.sep,hR.nB,λi e s l z hl=>?_,hR.glob.keep λb o h=>⟨h,M3 b o h⟩⟩,⟨?_,M.env,λb o h=>⟨(M.fz b o h).1,?_⟩,M.HS,λb hb hn=>?_,M.len,M.cells,λi b hb Vk=>?_,M.cU,M.live,M.ops⟩,Uo⟩;obtain⟨arr,e,h1,h2,h3⟩:=hR.cells i l hl;exact⟨arr,e,(qP _ (hne i _ hl ae (by rintro rfl;rw[hS]at hl;cases hl))).trans h1,h2,λj c hc=>Uo _ _ (h3 j c hc)⟩;obtain⟨arr,h1,h2⟩:=hR.cU i e s n hl;exact⟨arr,(qP _ (hne i _ hl ae (by rintro rfl;rw[hS]at hl;cases hl))).trans h1,h2⟩;by_cases h:i=id;subst h;rw[hS]at hb;cases hb;exact⟨_,zU _ _ _ _ hob,trivial⟩;obtain⟨o,h1,h2⟩:=hR.dA i b hb Vk;refine⟨o,(qP _ (hne i _ hb (eT Vk) h)).trans h1,?_⟩;cases b<;>cases o<;>simp only[uf]at h2⊢<;>first|exact h2|trivial|(obtain⟨q1,q2,q3,q4,q5⟩:=h2;exact⟨q1,q2,q3,⟨q4.1,λj c hc=>Uo _ _ (q4.2 j c hc)⟩,q5⟩)
 obtain⟨v,hv⟩:=hR.xg b o h;exact⟨v,(M3 b o h).trans hv⟩;obtain⟨arr,h1,h2,h3,h4,h5,h6⟩:=hR.ops i e s l z hl;exact⟨arr,(qP _ (hne i _ hl ae (by rintro rfl;rw[hS]at hl;cases hl))).trans h1,h2,h3,h4,λj c hc=>⟨(h5 j c hc).1,Uo _ _ (h5 j c hc).2⟩,h6⟩;show _<=(cz x.w _ _).heap.size;simp only[cz,vG];exact M.size;exact(M3 b o (M.fz b o h).1).trans (M.fz b o h).2;exact(qP b ab).trans (M.old b hb hn);obtain⟨q1,q2,q3⟩:=M.dA i b hb Vk;refine⟨q1,q2,λhd=>(qP _ ?_).trans (q3 hd)⟩;rw[<-q1];obtain⟨b',q4,q5⟩:=q2;exact hne i b' q4 (eT (uE q5).2) (ajg i (bh hb (eT Vk)))
theorem Lu(hP:Plain P)(eV:j6 P ty){x0:Cx}{b:Frame}{todo:List Item}{c:Frame}{cs:List Frame}{fn:Func}{env:cn}{l:cn}(hb:b.kind=.normal)(hf:P.funcs[b.fn]? =some fn){Sr:aj}:
  ∀(ds:cy){a:Act}{x:Cx},x.S=Sr->Rel x->bE x0 x->gb x env a.tmps->uh x0.S.length x ds a.defers->tr ty env Sr fn.results.toList=some l->
   (∀y v,y.S=Sr->Rel y->bE x0 y->RV y (oneOf l) v->iI P aa () (G (c.finish v) cs) y.w)->iI P aa () (G {b.at a todo with mode:=.returning} (c::cs)) x.w
 |[],a,x,hS,hR,hM,he,hd,hr,hn=>by refine iN hP λn=>?_;have M6:a.defers=[]:=hd.1;obtain⟨v,h1,h2⟩:=EX (x:=x.dr n) eV (hR.dr n) (he.mono (eN x n)) (l:=l) (by show tr ty env x.S _=_;rw[hS];exact hr);obtain⟨es,hst⟩:=Yd (P:=P) (b:=b) (a:=a) (todo:=todo) (c:=c) (cs:=cs) hb M6 hf h1;exact⟨_,_,_,es,hst,hn (x.dr n) v hS (hR.dr n) (hM.trans (eN x n)) h2⟩
 |id::ds,a,x,hS,hR,hM,he,hd,hr,hn=>by
  obtain⟨q1,q2,q3⟩:=hd;obtain⟨r1,r2,r3⟩:=q3 id ae;refine iN hP λn=>?_;have j3:=hR.dr n;have hM':=hM.trans (eN x n);obtain⟨t1,t2,t3⟩:=P8 (x:=x.dr n) hM' j3 r1 r2;have hg:=jm (P:=P) (w:=x.w.at n) (show(x.w.at n).heap[x.μ id]? =_ from r3) ae;have hs:=kV (P:=P) (w:=x.w.at n) (o:=.deferred none) (show(x.w.at n).heap[x.μ id]? =_ from r3) ae;have PF:(Instr.takeDeferred (x.μ id)).run P (x.w.at n)=.ok [] (cz (x.w.at n) (x.μ id) (.deferred none)):=by simp only[Instr.takeDeferred,Sem.run_bind,hg,Result.andThen_ok,hs,Sem.run_pure]
  obtain⟨es,hst⟩:=Qs (P:=P) (b:=b) (a:=a) (todo:=todo) (cs:=c::cs) (ds:=ds.map λid=>{target:=.collected (x.μ id),args:=#[]}) (by rw[q1];rfl) PF;refine⟨_,_,_,es,hst,?_⟩;have Dh:=List.nodup_cons.1 q2;exact Lu hP eV hb hf ds (x:={x.dr n with w:=cz (x.w.at n) (x.μ id) (.deferred none)}) (a:={a with defers:=ds.map λid=>{target:=.collected (x.μ id),args:=#[]}}) hS t1 t2 ⟨he.1,λj c hc=>t3 _ _ (RV.mono (eN x n) (he.2 j c hc))⟩
   ⟨rfl,Dh.2,λi hi=>by obtain⟨u1,u2,u3⟩:=q3 i (by simp[hi]);have hne:x.μ i≠x.μ id:=λe=>Dh.1 (hR.inj i id (bh u2 ae) (bh r2 ae) e▸hi);exact⟨u1,u2,(gH _ _ _ hne).trans u3⟩⟩ hr hn
theorem Zf(hP:Plain P)(eV:j6 P ty)(hc:gR P aa call)(mj:∀id ops draw,yD P aa ty aD call yf id ops draw){L:Nat}{f:FuncId}{fn:Func}(hf:P.funcs[f]? =some fn){args:cn}{S S':aj}{v:DV}(h:wO P ty aD call yf L f fn args S=some (v,S'))
  {vals:Array Value} (hR:Rel x) (hS:x.S=S) (ha:gb x args vals):eP P aa x f vals λy u=>y.S=S'/\Rel y/\bE x y/\RV y v u:=by
 subst hS;unfold wO at h;split at h;rename_i c hb;refine⟨⟨fn,c,hf,hb⟩,λfr cs hn=>?_⟩;rw[enter_at vals hf hb,<-Frame.atR_of_none (b:=base f) rfl];have he:gb x (args++List.replicate (fn.ntmps-args.length) bD) (vals++Array.replicate (fn.ntmps-vals.size) undef):=by
  refine mN ha ⟨by simp[ha.1],λj c hc=>?_⟩;rw[Df]at hc;split at hc;rename_i hj;cases hc;have:j<fn.ntmps-vals.size:=by rw[ha.1];exact hj
  have e:(Array.replicate (fn.ntmps-vals.size) undef).getD j undef=undef:=by simp[aW,this]
  rw[e];exact .val rfl;cases hc
 have key:∀e aL S1,cI P ty aD call yf L f false c (args++List.replicate (fn.ntmps-args.length) bD) x.S=some (e,aL,S1)->(e=.normal\/e=.ret)->(tr ty aL S1 fn.results.toList).map (λl=>(oneOf l,S1))=some (v,S')->
   iI P aa () (G ((base f).atR {tmps:=vals++Array.replicate (fn.ntmps-vals.size) undef,defers:=[]} [.code c]) (fr::cs)) x.w:=by
  intro e aL S1 h1 he1 h2;simp only[af,az]at h2;obtain⟨l,h3,rfl,rfl⟩:=h2;refine zH (n0:=x.S.length) (ds:=[]) (b:=base f) (cs:=fr::cs) (iH:=false) hP hc (by simp[base]) rfl (λ_=>rfl) c (zn mj c) h1 hR he (Bj _ _) (ai _) λy a' iu q1 q2 q3 q4 q5=>?_;have kU:∀todo,iI P aa () (G {(base f).at a' todo with mode:=.returning} (fr::cs)) y.w:=λtodo=>
   Lu hP eV (x0:=x) (b:=base f) (env:=aL) (l:=l) (Sr:=S1) rfl hf iu q1 q2 q3 q4 q5 h3 λz u r1 r2 r3 r4=>hn z u ⟨r1,r2,r3,r4⟩
  rcases he1 with rfl|rfl;show iI P aa () (G ((base f).atR a' []) (fr::cs)) y.w;rw[Frame.atR_of_none (b:=base f) rfl];exact fL hP (λw=>⟨_,stepG_end⟩) (kU _);intro k';rw[Frame.atR_of_none (b:=base f) rfl];exact fL hP (λw=>⟨_,stepG_ret'⟩) (kU _)
 split at h
 grind
 grind
 cases h;cases h
theorem Qe:∀{ts:List Tmp}{ds:cn}{vs:List Value}{env:cn}{tmps:Array Value},gb x env tmps->vs.length=ds.length->(∀(j:Nat)(c:DV),ds[j]? =some c->RV x c (vs.getD j undef))->
  gb x (s4 env (ts.zip ds)) ((ts.zip vs).foldl (λtmps (p:Tmp×Value)=>tmps.setIfInBounds p.1 p.2) tmps)
 |[],ds,vs,env,tmps,h,_,_=>by simpa [s4]using h
 |t::ts,[],[],env,tmps,h,_,_=>by simpa [s4]using h
 |t::ts,[],_::_,env,tmps,h,hl,_=>by simp at hl
 |t::ts,_::_,[],env,tmps,h,hl,_=>by simp at hl
 |t::ts,d::ds,v::vs,env,tmps,h,hl,hv=>by simp only[List.zip_cons_cons,s4,oG];exact Qe (Qg h (by simpa using hv 0 d rfl)) (by simpa using hl) λj c hc=>by simpa using hv (j+1) c (by simpa using hc)
theorem Yg{b:Frame}{a:Act}{k:List Item}{cs:List Frame}{w w':World}{l:Nat}(hk:b.kind≠.early)(hr:b.roundOf=some l)(h:(Instr.beginRound l).run P w=.ok () w'):
  ∃es,stepG P true (G (b.atR a (.beginRound::k)) cs) w=.go (G (b.atR a k) cs) w' es:=by
 have oT:(b.kind==CallKind.early)=false:=by simpa using hk
 simp only[G,stepG,stepG.exec,Frame.atR,hr,stepG.apply,Option.elim_some,if_true,Sem.runT_eq,Sem.run_bind,h,Result.andThen_ok,Sem.run_pure,oT,GStep.after,Frame.finish];exact⟨_,rfl⟩
theorem Jz{b:Frame}{a:Act}{c:Frame}{cs:List Frame}{w w':World}{l:Nat}{v:Value}(hn:b.kind=.normal)(hr:b.roundOf=some l)(h:(Instr.endRound l none).run P w=.ok v w'):
  ∃es,stepG P true (G (b.atR a []) (c::cs)) w=.go (G (c.finish v) cs) w' es:=by
 simp only[G,stepG,stepG.exec,Frame.atR,hr,Sem.runT_eq,h,GStep.after,doReturn,hn];exact⟨_,rfl⟩
theorem Jy{b:Frame}{a:Act}{k:List Item}{c:Frame}{cs:List Frame}{w w':World}{l:Nat}{v:Value}(hn:b.kind=.normal)(hr:b.roundOf=some l)(h:(Instr.endRound l (some .ret)).run P w=.ok v w'):
  ∃es,stepG P true (G (b.atR a (.code .ret::k)) (c::cs)) w=.go (G (c.finish v) cs) w' es:=by
 simp only[G,stepG,stepG.exec,Frame.atR,hr,Sem.runT_eq,h,GStep.after,doReturn,hn];exact⟨_,rfl⟩
theorem FY{b:Frame}{a:Act}{k:List Item}{c:Frame}{cs:List Frame}{w w':World}{l id:Nat}{v:Value}(hn:b.kind=.normal)(hr:b.roundOf=some l)(he:exitTo id k=none)(h:(Instr.endRound l (some (.exit id))).run P w=.ok v w'):
  ∃es,stepG P true (G (b.atR a (.code (.exit id)::k)) (c::cs)) w=.go (G (c.finish v) cs) w' es:=by
 simp only[G,stepG,stepG.exec,Frame.atR,hr,he,Option.elim_none,Sem.runT_eq,h,GStep.after,doReturn,hn];exact⟨_,rfl⟩
theorem SI(hP:Plain P)(hc:gR P aa call)(mj:∀id ops draw,yD P aa ty aD call yf id ops draw){L:Nat}:BJ P aa (um P ty aD call yf L):=by
 intro id args S v S' h x vals hR hS ha;subst hS;unfold um at h;split at h;rename_i r hr;split at h;rename_i hlen;obtain⟨lo,l1,l2,l3,l4,l5,l6,l7,l8,-⟩:=uC hR hr;refine⟨lo,l1,by rw[l6];simpa [ha.1]using hlen,λfr cs hn=>?_⟩;have Dl:∀tmps,Frame.round (x.μ id) lo.fn tmps lo.assign lo.body .normal=({(default:Frame)with fn:=r.fn,kind:=.normal,roundOf:=some (x.μ id)}:Frame).atR {tmps:=tmps,defers:=[]} [.code r.assign,.beginRound,.code r.body]:=by intro tmps;simp[Frame.round,Frame.atR,l4,l7,l8]
 rw[Dl];generalize hB:({(default:Frame)with fn:=r.fn,kind:=.normal,roundOf:=some (x.μ id)}:Frame)=B;have RE:B.kind=.normal:=by rw[<-hB]
 have hBf:B.fn=r.fn:=by rw[<-hB]
 have hBr:B.roundOf=some (x.μ id):=by rw[<-hB]
 have hBe:B.kind≠.early:=by rw[RE];simp
 have he:gb x (s4 r.env (r.params.zip args)) ((lo.params.zip vals).foldl (λtmps (t,a)=>tmps.setIfInBounds t a) lo.tmps):=by
  have:=Qe (ts:=r.params) (ds:=args) (vs:=vals.toList) l5 (by simpa using ha.1) λj c hc=>by simpa [aW,aK]using ha.2 j c hc
  rw[l6,<-yZ];simpa using this
 split at h;rename_i aeg S1 h1;split at h;rename_i r1 Ad;split at h;rename_i hst;split at h;rename_i e akD S2 h2;split at h;rename_i r2 J3;refine zH (n0:=0) (ds:=[]) (b:=B) (cs:=fr::cs) (iH:=true) hP hc hBe hBf ae r.assign (zn mj _) h1 hR he (Bj _ _) (gm _) λy a1 ds1 q1 q2 q3 q4 q5=>?_;subst q1;obtain⟨lo1,m1,m2,m3,-⟩:=uC q2 Ad;have hμy:y.μ id=x.μ id:=(q3.dA id _ hr rfl).1;refine iN hP λn=>?_;obtain⟨z1,z2⟩:=D8 (q2.dr n) (id:=id) Ad (lo:=lo1) m1 .busy r1.j5;have aji:({lo1 with state:=.busy,pending:=r1.j5}:Loop)={lo1 with state:=.busy}:=by rw[<-m3]
 rw[aji]at z1 z2;have ajC:(Instr.beginRound (x.μ id)).run P (y.w.at n)=.ok () (cz (y.w.at n) (x.μ id) (.loop {lo1 with state:=.busy})):=by
  have hg:=jm (P:=P) (w:=y.w.at n) (show(y.w.at n).heap[x.μ id]? =_ from(by rw[<-hμy];exact m1)) ae;have hs:=kV (P:=P) (w:=y.w.at n) (o:=.loop {lo1 with state:=.busy}) (show(y.w.at n).heap[x.μ id]? =_ from(by rw[<-hμy];exact m1)) ae;have JQ:lo1.state=.ready:=by rw[m2];exact hst
  simp only[Instr.beginRound,Instr.getLoop,Sem.run_bind,hg,Result.andThen_ok,Sem.run_pure,hs,JQ]
 obtain⟨es,hstep⟩:=Yg (P:=P) (a:=a1) (k:=[.code r.body]) (cs:=fr::cs) hBe hBr ajC;refine⟨_,_,_,es,hstep,?_⟩;generalize hz:(y.dr n).xm id (.loop {lo1 with state:=.busy}) (.loop {r1 with st:=.busy,j5:=r1.j5})=z at z1 z2;have hzS:z.S=y.S.set id (.loop {r1 with st:=.busy}):=by rw[<-hz];rfl
 have hzw:z.w=cz (y.w.at n) (x.μ id) (.loop {lo1 with state:=.busy}):=by rw[<-hz];show cz (y.w.at n) (y.μ id) _=_;rw[hμy]
 rw[<-hzw];have MYZ:=(eN y n).trans z2;rw[<-hzS]at h2;refine zH (n0:=0) (ds:=ds1) (b:=B) (cs:=fr::cs) (k:=[]) (iH:=true) hP hc hBe hBf ae r.body (zn mj _) h2 z1 (q4.mono MYZ) (q5.mono MYZ) (gm _) λu a2 ds2 p1 p2 p3 p4 p5=>?_;subst p1;obtain⟨lo2,n1,-⟩:=uC p2 J3;have hμu:u.μ id=x.μ id:=by have:=(p3.dA id _ (show z.S[id]? =some (.loop {r1 with st:=.busy})by rw[hzS,gK Ad,if_pos rfl]) rfl).1;rw[this,<-hz];exact hμy
 have MXU:=(q3.trans MYZ).trans p3;have fin:∀st pd,∀n2,(Instr.endRound (x.μ id) pd).run P (u.w.at n2)=.ok (.bool pd.isNone) (cz (u.w.at n2) (x.μ id) (.loop {lo2 with state:=if pd.isNone then .ready else .done,pending:=pd}))->st=(if pd.isNone then LoopState.ready else .done)->S'=u.S.set id (.loop {r2 with st:=st,j5:=pd})->v=.val (.bool pd.isNone)->
   iI P aa () (G (fr.finish (.bool pd.isNone)) cs) (cz (u.w.at n2) (x.μ id) (.loop {lo2 with state:=if pd.isNone then .ready else .done,pending:=pd})):=by
  intro st pd n2 _ aal CO hv;obtain⟨y1,y2⟩:=D8 (p2.dr n2) (id:=id) J3 (lo:=lo2) n1 st pd;have:=hn ((u.dr n2).xm id (.loop {lo2 with state:=st,pending:=pd}) (.loop {r2 with st:=st,j5:=pd})) (.bool pd.isNone) ⟨CO.symm,y1,(MXU.trans (eN u n2)).trans y2,by rw[hv];exact .val rfl⟩;have e:((u.dr n2).xm id (.loop {lo2 with state:=st,pending:=pd}) (.loop {r2 with st:=st,j5:=pd})).w=cz (u.w.at n2) (x.μ id) (.loop {lo2 with state:=if pd.isNone then .ready else .done,pending:=pd}):=by show cz (u.w.at n2) (u.μ id) _=_;rw[hμu,aal]
  rw[e]at this;exact this
 have tN:∀pd n2,(Instr.endRound (x.μ id) pd).run P (u.w.at n2)=.ok (.bool pd.isNone) (cz (u.w.at n2) (x.μ id) (.loop {lo2 with state:=if pd.isNone then .ready else .done,pending:=pd})):=by intro pd n2;have hg:=jm (P:=P) (w:=u.w.at n2) (show(u.w.at n2).heap[x.μ id]? =_ from(by rw[<-hμu];exact n1)) ae;have hs:=λo=>kV (P:=P) (w:=u.w.at n2) (o:=o) (show(u.w.at n2).heap[x.μ id]? =_ from(by rw[<-hμu];exact n1)) ae;simp only[Instr.endRound,Instr.getLoop,Sem.run_bind,hg,Result.andThen_ok,Sem.run_pure,hs]
 cases e with
 |normal=>simp only[aF,az]at h;refine iN hP λn2=>?_;obtain⟨es2,Cv⟩:=Jz (P:=P) (a:=a2) (c:=fr) (cs:=cs) RE hBr (tN none n2);exact⟨_,_,_,es2,Cv,fin .ready none n2 (tN none n2) rfl h.2.symm h.1.symm⟩
 |ret=>simp only[aF,az]at h;intro k';refine iN hP λn2=>?_;obtain⟨es2,Cv⟩:=Jy (P:=P) (a:=a2) (k:=k') (c:=fr) (cs:=cs) RE hBr (tN (some .ret) n2);exact⟨_,_,_,es2,Cv,fin .done (some .ret) n2 (tN (some .ret) n2) rfl h.2.symm h.1.symm⟩
 |exit i=>simp only[aF,az]at h;intro k' oT;refine iN hP λn2=>?_;obtain⟨es2,Cv⟩:=FY (P:=P) (a:=a2) (k:=k') (c:=fr) (cs:=cs) RE hBr oT (tN (some (.exit i)) n2);exact⟨_,_,_,es2,Cv,fin .done (some (.exit i)) n2 (tN (some (.exit i)) n2) rfl h.2.symm h.1.symm⟩
 cases h;cases h;cases h;cases h;cases h;cases h;cases h
end Go.Di
namespace Go.Di
open Go Go.Conc Go.Co
open Go.ConcN (sumTo sumTo_upd sumTo_congr le_sumTo upd upd_same upd_ne)
variable {P:Program} {aa:Machine->Trace->Prop} {ty:fo} {x:Cx} {aD:bT} {call:bg} {yf:dx}
def Closed(ops:Array Oper)(L:Nat->Bool):Prop:=∀j o,ops[j]? =some o->L j=true->∀e∈o.after,Region.binds .any e=true->L e.on=true
theorem wW{ops:Array Oper}(qV:∀i o,ops[i]? =some o->∀e∈o.after,Region.binds .any e=true->e.on<i){σ:Type}(T:cy->σ->Prop)(J:(Nat->Bool)->σ->Prop)
  (hop:∀L s i o,J L s->Closed ops L->ops[i]? =some o->L i=false->(∀e∈o.after,Region.binds .any e=true->L e.on=true)->∀rest,(∀s',J (upd L i true) s'->T rest s')->T (i::rest) s)
  (tN:∀L s,J L s->(∀i,i<ops.size->L i=true)->T [] s) (t:Nat) (s:σ) (h0:J (λ_=>false) s):T (Region.linearise .any ops t) s:=by
 have key:∀(fuel t:Nat)(listed:Array Bool)(s:σ),listed.size=ops.size->sumTo ops.size (λj=>if listed.getD j true then 0 else 1)=fuel->J (λj=>listed.getD j false) s->Closed ops (λj=>listed.getD j false)->T (Region.linearise.go .any ops fuel t listed []) s:=by
  intro fuel;induction fuel with
  |zero=>
   intro t listed s hsz Np hJ _;refine tN _ s hJ λi hi=>?_;have h1:=le_sumTo (f:=λj=>if listed.getD j true then 0 else 1) hi;rw[Np]at h1;have h2:listed.getD i true=true:=by grind
   simpa [b7 (show i<listed.size by omega)]using h2
  |succ fuel ih=>
   intro t listed s hsz Np hJ pU;simp only[Region.linearise.go];change T (match(Region.ready .any ops listed)[t % (Region.ready .any ops listed).length]? with
    |some i=>Region.linearise.go .any ops fuel (t/(Region.ready .any ops listed).length) (listed.setIfInBounds i true) [i]
    |none=>[].reverse) s
   cases hi:(Region.ready .any ops listed)[t % (Region.ready .any ops listed).length]? with
   |none=>
    have Nr:Region.ready .any ops listed=[]:=by
     cases hr:Region.ready .any ops listed with
     |nil=>rfl
     |cons x xs=>rw[hr]at hi;have hlt:t % (x::xs).length<(x::xs).length:=Nat.mod_lt _ ae;simp at hi;simp at hlt;omega
    refine tN _ s hJ λi hi=>?_;induction i using Nat.strongRecOn with
    |ind i ihi=>
     have UQ:i<listed.size:=ab
     cases hb:listed.getD i false with
     |true=>rfl
     |false=>
      have lF:i∈Region.ready .any ops listed:=by refine mem_ready.2 ⟨by simpa [b7 UQ]using hb,ops[i],b7 hi,λe he hbd=>?_⟩;have hlt:=qV i _ (b7 hi) e he hbd;exact ihi e.on hlt ab
      rw[Nr]at lF;cases lF
   |some i=>
    simp only[];rw[linearise_go_acc,List.reverse_singleton,List.singleton_append];have lF:=bY hi;obtain⟨hun,o,ho,dX⟩:=mem_ready.1 lF;have hio:i<ops.size:=(aG.1 ho).1;have UQ:i<listed.size:=ab
    have h2:(λj=>(listed.setIfInBounds i true).getD j false)=upd (λj=>listed.getD j false) i true:=by funext j;by_cases iW:j=i;subst iW;rw[upd_same];simp[sH UQ];rw[upd_ne _ _ iW,getD_set_ne false (Ne.symm iW)]
    refine hop _ s i o hJ pU ho (by simpa [b7 UQ]using hun) (λe he hb=>dX e he hb) _ λs' hJ'=>ih _ _ s' (by simpa using hsz) ?_ (by rw[h2];exact hJ') ?_;have h1:=sumTo_upd (λj=>listed.getD j true) true (λb=>if b then 0 else 1) hio;rw[hun]at h1;simp only[if_true,aJ,if_false]at h1;have h2:sumTo ops.size (λj=>if(listed.setIfInBounds i true).getD j true then 0 else 1)=sumTo ops.size λj=>if upd (λj=>listed.getD j true) i true j then 0 else 1:=by refine sumTo_congr λj _=>?_;by_cases iW:j=i;subst iW;rw[upd_same];simp[sH UQ];rw[upd_ne _ _ iW,getD_set_ne true (Ne.symm iW)]
    rw[h2];omega;rw[h2];intro j o' nP hj e he hb;by_cases iW:j=i;subst iW;rw[ho]at nP;cases nP;by_cases Ut:e.on=j
    grind
    rw[upd_ne _ _ Ut];exact dX e he hb
    rw[upd_ne _ _ iW]at hj;by_cases Ut:e.on=i;rw[Ut,upd_same];rw[upd_ne _ _ Ut];exact pU j o' nP hj e he hb
 refine key ops.size t (Array.replicate ops.size false) s ae ?_ ?_ ?_;have:∀n,n<=ops.size->sumTo n (λj=>if(Array.replicate ops.size false).getD j true then 0 else 1)=n:=by
  intro n;induction n with
  |zero=>intro _;rfl
  |succ n ih=>intro hn;simp only[sumTo];rw[ih ab];simp[show n<ops.size by omega]
 exact this _ (ai _);have:(λj=>(Array.replicate ops.size false).getD j false)=λ_=>false:=by funext j;simp[aW,Array.getElem?_replicate];split<;>rfl
 rw[this];exact h0;intro j o _ hj;exfalso
 revert hj
 simp[aW,Array.getElem?_replicate];split<;>simp
theorem uU(ops:Array Oper){L:Nat->Bool}(hL:Closed ops L):∀j i,((Region.before ops).getD j 0).testBit i=true->L j=true->L i=true:=by
 have key:∀(l pre:List Oper)(acc:Array Nat),ops.toList=pre++l->acc.size=pre.length->(∀j i,(acc.getD j 0).testBit i=true->L j=true->L i=true)->
   ∀j i,((l.foldl (λacc (o:Oper)=>acc.push (o.after.foldl (λs e=>if Region.binds .any e then s|||2^e.on|||acc.getD e.on 0 else s) 0)) acc).getD j 0).testBit i=true->L j=true->L i=true:=by
  intro l;induction l with
  |nil=>intro pre acc _ _ h;exact h
  |cons o l ih=>
   intro pre acc Il hsz h;simp only[oG];refine ih (pre++[o]) _ (by rw[Il];simp) (by simp[hsz]) λj i ht hj=>?_;have ho:ops[pre.length]? =some o:=by rw[<-jL,Il];simp
   by_cases hjs:j<acc.size;refine h j i ?_ hj;rw[aW,Array.getElem?_push_lt hjs]at ht;rw[aW,b7 hjs];exact ht;by_cases hje:j=acc.size;subst hje;rw[aW,Array.getElem?_push_size,sE]at ht;rw[hsz]at hj;have dX:=hL _ _ ho hj;have fold:∀(es:List Edge)(s:Nat),(∀e∈es,e∈o.after)->(s.testBit i=true->L i=true)->(es.foldl (λs e=>if Region.binds .any e then s|||2^e.on|||acc.getD e.on 0 else s) s).testBit i=true->L i=true:=by
    intro es;induction es with
    |nil=>intro s _ hs ht;exact hs ht
    |cons e es ihe=>grind
   rw[<-yZ]at ht;exact fold o.after.toList 0 ae ae ht
   grind
 intro j i;unfold Region.before;rw[<-yZ];exact key ops.toList [] #[] rfl rfl ae j i
theorem mM{ρ ρ':Operand->Option DV}:∀{l:List Operand},(∀a∈l,ρ a=ρ' a)->evs ρ l=evs ρ' l
 |[],_=>rfl
 |a::l,h=>by unfold evs;rw[h a ae,mM λb hb=>h b (by simp[hb])]
theorem uJ{ρ ρ':Operand->Option DV}:∀{l:List (Nat×Operand)},(∀a∈l.map (·.2),ρ a=ρ' a)->ku ρ l=ku ρ' l
 |[],_=>rfl
 |(i,a)::l,h=>by unfold ku;rw[h a ae,uJ λb hb=>h b (by simp at hb⊢;exact .inr hb)]
theorem uT{ρ ρ':Operand->Option DV}{a:Option Operand}{d m:Nat}(h:∀b∈a.toArray,ρ b=ρ' b):gQ ρ a d m=gQ ρ' a d m:=by
 cases a with
 |none=>rfl
 |some b=>simp only[gQ,intOf,h b ae]
theorem BR{ρ ρ':Operand->Option DV}{a:Option Operand}(h:∀b∈a.toArray,ρ b=ρ' b):wC ρ a=wC ρ' a:=by
 cases a with
 |none=>rfl
 |some b=>simp only[wC,valOf,h b ae]
theorem zT{ρ ρ':Operand->Option DV}{o:Oper}{S:aj}{aB:Nat}(h:∀a∈o.op.operands,ρ a=ρ' a):ah P ty aD call yf ρ o S aB=ah P ty aD call yf ρ' o S aB:=by
 obtain⟨dst,op,type,pos,after,guard⟩:=o;cases op<;>simp only[Op.operands,Call.operands]at h<;>try rfl
 case move a=>simp only[ah,h a ae]
 case assign a=>simp only[ah,h a ae]
 case pick a b c=>simp only[ah,h a ae,h b ae,h c ae]
 case box t a=>simp only[ah,h a ae]
 case build t ps=>
  have:=uJ (ρ:=ρ) (ρ':=ρ') (l:=ps.toList) λa ha=>h a (by simpa using ha);simp only[ah,this]
 case buildSlice t n ps=>
  have:=uJ (ρ:=ρ) (ρ':=ρ') (l:=ps.toList) λa ha=>h a (by simpa using ha);simp only[ah,this]
 case makeSlice t a b=>simp only[ah,intOf,h a ae,h b ae]
 case load t a=>simp only[ah,h a ae]
 case store t a v=>simp only[ah,h a ae,h v ae]
 case nilCheck a=>simp only[ah,h a ae]
 case binOp op t a b u=>simp only[ah,valOf,h a ae,h b ae]
 case unOp op t a=>simp only[ah,valOf,h a ae]
 case convert s d a=>
  have e:valOf ρ a=valOf ρ' a:=by simp only[valOf,h a ae]
  simp only[ah,e,h a ae]
 case makeInterface t a=>
  have e:valOf ρ a=valOf ρ' a:=by simp only[valOf,h a ae]
  simp only[ah,e]
 case makeFunc fn fs cs=>
  cases fn with
  |func f=>simp only[ah,mM (ρ:=ρ) (ρ':=ρ') (l:=fs.toList) λa ha=>h a (by simp at ha⊢;exact .inl ha),mM (ρ:=ρ) (ρ':=ρ') (l:=cs.toList) λa ha=>h a (by simp at ha⊢;exact .inr ha)]
  |_=>rfl
 case makeMap t r=>cases r<;>rfl
 case slice t a lo hi mx=>
  have h1:ρ a=ρ' a:=h a ae;have h2:=λd m=>uT (ρ:=ρ) (ρ':=ρ') (a:=lo) (d:=d) (m:=m) λb hb=>h b (by simp at hb⊢;simp[hb]);have h3:=λd m=>uT (ρ:=ρ) (ρ':=ρ') (a:=hi) (d:=d) (m:=m) λb hb=>h b (by simp at hb⊢;simp[hb]);have h4:=λd m=>uT (ρ:=ρ) (ρ':=ρ') (a:=mx) (d:=d) (m:=m) λb hb=>h b (by simp at hb⊢;simp[hb]);have h5:=BR (ρ:=ρ) (ρ':=ρ') (a:=lo) λb hb=>h b (by simp at hb⊢;simp[hb]);have h6:=BR (ρ:=ρ) (ρ':=ρ') (a:=hi) λb hb=>h b (by simp at hb⊢;simp[hb]);simp only[ah,h1,h2,h3,h4,h5,h6]
 case fieldAddr t a f=>simp only[ah,h a ae]
 case field t a f=>simp only[ah,h a ae]
 case indexAddr t a i=>simp only[ah,intOf,h a ae,h i ae]
 case index t a i=>
  have e:valOf ρ i=valOf ρ' i:=by simp only[valOf,h i ae]
  simp only[ah,intOf,e,h a ae,h i ae]
 case lookup t a i ok=>simp only[ah,valOf,h a ae,h i ae]
 case mapUpdate t m k v=>simp only[ah,valOf,h m ae,h k ae,h v ae]
 case extract a i=>simp only[ah,h a ae]
 case call c=>
  obtain⟨callee,args,ats⟩:=c;cases callee with
  |builtin b=>
   simp only[Array.empty_append]at h;have h1:∀a∈args.toList,ρ a=ρ' a:=λa ha=>h a (by simpa using ha);have h2:=mM h1;simp only[ah];generalize args.toList=l at h1 h2;generalize ats.toList=m;cases b<;>try rfl
   grind
   grind
   grind
   grind
  |value f=>have h1:ρ f=ρ' f:=h f ae;have h2:=mM (ρ:=ρ) (ρ':=ρ') (l:=args.toList) λa ha=>h a (by simp at ha⊢;exact .inr ha);simp only[ah,h1,h2]
  |invoke r m=>rfl
end Go.Di
