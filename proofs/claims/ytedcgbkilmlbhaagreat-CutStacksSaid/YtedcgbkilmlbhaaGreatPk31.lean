import Derived.Test.YtedcgbkilmlbhaaGreatPk30
import Derived.Orders
set_option maxHeartbeats 1000000
namespace Go.Di
open Go Go.Conc Go.Co
variable {P:Program} {aa:Machine->Trace->Prop} {ty:gb} {x:Cx} {aI:b9} {call:bG} {yf:ez}
theorem MT{b:Frame}{a:Act}{k:List Item}{cs:List Frame}{w w':World}{l:Nat}{jump:Option Code}(h:(Instr.endLoop l).run P w=.ok jump w'):
  ∃es,stepG P true (G (b.atR a (.endRangeFunc l::k)) cs) w=.go (G (b.atR a ((jump.map Item.code).toList++k)) cs) w' es:=by
 simp only[G,stepG,stepG.exec,Frame.atR,Sem.runT_eq,h,GStep.after];exact⟨_,rfl⟩
theorem vB(hR:Rel x){id:Nat}{r:GK}(h:x.S[id]? =some (.loop r)):∃lo,x.w.heap[x.μ id]? =some (.loop lo)/\lo.state=r.st/\lo.pending=r.kI/\lo.fn=r.fn/\ig x r.env lo.tmps/\lo.params=r.params.toArray/\lo.assign=r.assign/\lo.body=r.body/\lo.defers=x.μ r.BS/\x.S[r.BS]? =some .defer:=by obtain⟨o,h1,h2⟩:=hR.eH id _ h rfl;cases o<;>simp only[u9]at h2;exact⟨_,h1,h2⟩
theorem Eh(hR:Rel x){id:Nat}{r:GK}(h:x.S[id]? =some (.loop r)){lo:Loop}(Uw:x.w.heap[x.μ id]? =some (.loop lo))(st:LoopState)(pd:Option Code):
  Rel (x.xQ id (.loop {lo with state:=st,pending:=pd}) (.loop {r with st:=st,kI:=pd}))/\cg x (x.xQ id (.loop {lo with state:=st,pending:=pd}) (.loop {r with st:=st,kI:=pd})):=by
 obtain⟨lo',h1,h2,h3,h4,h5,h6,h7,h8,h9,uG⟩:=vB hR h;rw[Uw]at h1;cases h1;have M:=Bv (x:=x) (o:=.loop {lo with state:=st,pending:=pd}) (b:=.loop {r with st:=st,kI:=pd}) hR h rfl ae;refine⟨LC hR h rfl ae ⟨rfl,rfl,h4,h5.mono M,h6,h7,h8,h9,?_⟩,M⟩;show(x.S.set _ _)[_]? =_;rw[iu h,if_neg (by rintro e;rw[e,h]at uG;cases uG)];exact uG
theorem QT(S:ai):FI S S.length:=.inl rfl
theorem Cj(S:ai)(b:DB):fu S S.length b=S++[b]:=by unfold fu;rw[if_neg ab]
theorem Af(hP:Plain P)(hc:iF P aa call){L:Nat}{fn:FuncId}{jg:Bool}{n0:Nat}{b:Frame}{cs:List Frame}(hk:b.kind≠.early)(UU:b.fn=fn)(hrd:jg=false->b.roundOf=none):
  ∀(c:Code),Ee P aa ty aI call yf c->∀{k:List Item}{env aL:cj}{S':ai}{e:DX}{a:Act}{x:Cx}{ds:cy},de P ty aI call yf L fn jg c env x.S=some (e,aL,S')->Rel x->ig x env a.tmps->ve n0 x ds a.defers->n0<=x.S.length->
   (∀y a' iL,y.S=S'->Rel y->cg x y->ig y aL a'.tmps->ve n0 y iL a'.defers->KI P aa b k cs e a' y.w)->jh P aa () (G (b.atR a (.code c::k)) cs) x.w:=by
 intro c;induction c with
 |skip=>intro _ k env aL S' e a x ds h hR he hd yK hn;simp only[de,aG,aA]at h;obtain⟨rfl,rfl,rfl⟩:=h;exact gq hP (λw=>⟨_,abw⟩) (hn x a ds rfl hR (cg.refl x) he hd)
 |label l=>intro _ k env aL S' e a x ds h hR he hd yK hn;simp only[de,aG,aA]at h;obtain⟨rfl,rfl,rfl⟩:=h;exact gq hP (λw=>⟨_,Yb⟩) (hn x a ds rfl hR (cg.refl x) he hd)
 |region id ops draw=>intro mW k env aL S' e a x ds h hR he hd yK hn;simp only[de,ah,aA]at h;obtain⟨⟨qF,S1⟩,h1,rfl,rfl,rfl⟩:=h;exact mW h1 hk hR he λy a' q1 q2 q3 q4 q5=>hn y a' ds q1 q2 q3 q4 (by rw[q5];exact hd.mono q3)
 |seq c1 c2 RR Up=>intro mW k env aL S' e a x ds h hR he hd yK hn;simp only[de]at h;refine gq hP (λw=>⟨_,afI⟩) ?_;split at h;rename_i qF S1 h1;refine RR mW.1 h1 hR he hd yK λy a' iL q1 q2 q3 q4 q5=>?_;subst q1;exact Up mW.2 h q2 q4 q5 (bt yK q3.len) λz a'' aeB r1 r2 r3 r4 r5=>hn z a'' aeB r1 r2 (q3.trans r3) r4 r5;rename_i r hne;refine RR mW.1 h hR he hd yK λy a' iL q1 q2 q3 q4 q5=>KI.push (λ_=>rfl) ?_ (hn y a' iL q1 q2 q3 q4 q5);rintro rfl;exact hne _ _ h
 |cond o c1 c2 RR Up=>intro mW k env aL S' e a x ds h hR he hd yK hn;simp only[de]at h;split at h;rename_i ho;have hv:=xX (x7 he _ _ ho);refine gq hP (λw=>⟨_,Qv hv⟩) ?_;rw[if_pos rfl];exact RR mW.1 h hR he hd yK hn;rename_i ho;have hv:=xX (x7 he _ _ ho);refine gq hP (λw=>⟨_,Qv hv⟩) ?_;rw[if_neg ae];exact Up mW.2 h hR he hd yK hn;cases h
 |block id c ih=>
  intro mW k env aL S' e a x ds h hR he hd yK hn;simp only[de]at h;refine gq hP (λw=>⟨_,Yc⟩) ?_;split at h;rename_i jf qF S1 h1;cases h;refine ih mW h1 hR he hd yK λy a' iL q1 q2 q3 q4 q5=>?_;have hf:=hn y a' iL q1 q2 q3 q4 q5;intro k' rC;simp only[exitTo]at rC;by_cases hid:jf=id;subst hid;simp only[zD,if_true]at rC hf;exact gq hP (λw=>⟨_,aby rC⟩) hf;rw[if_neg hid]at hf;have:(id==jf)=false:=by simpa usingλe=>hid e.symm
  rw[this]at rC;exact hf k' rC;rename_i r hne;refine ih mW h hR he hd yK λy a' iL q1 q2 q3 q4 q5=>?_;have hf:=hn y a' iL q1 q2 q3 q4 q5;cases e with
  |normal=>exact gq hP (λw=>⟨_,OM⟩) hf
  |exit jf=>exact absurd h (hne _ _ _)
  |ret=>exact hf
 |loop c ih=>
  intro mW k env aL S' e a x ds h hR he hd yK hn;simp only[de]at h;refine gq hP (λw=>⟨_,abx⟩) ?_;have key:∀n {env:cj}{a:Act}{x:Cx}{ds:cy},oO (de P ty aI call yf L fn jg c) n env x.S=some (e,aL,S')->Rel x->ig x env a.tmps->ve n0 x ds a.defers->n0<=x.S.length->
    (∀y a' iL,y.S=S'->Rel y->cg x y->ig y aL a'.tmps->ve n0 y iL a'.defers->KI P aa b k cs e a' y.w)->jh P aa () (G (b.atR a (.code c::.inLoop c::k)) cs) x.w:=by
   intro n;induction n with
   |zero=>intro env a x ds h;simp[oO]at h
   |succ n ihn=>intro env a x ds h hR he hd yK hn;unfold oO at h;split at h;rename_i qF S1 h1;refine ih mW h1 hR he hd yK λy a' iL q1 q2 q3 q4 q5=>?_;subst q1;exact gq hP (λw=>⟨_,S7⟩) (ihn h q2 q4 q5 (bt yK q3.len) λz a'' aeB r1 r2 r3 r4 r5=>hn z a'' aeB r1 r2 (q3.trans r3) r4 r5);rename_i r hne;refine ih mW h hR he hd yK λy a' iL q1 q2 q3 q4 q5=>KI.push (λ_=>rfl) ?_ (hn y a' iL q1 q2 q3 q4 q5);rintro rfl;exact hne _ _ h
  exact key L h hR he hd yK hn
 |scope c ih=>
  intro mW k env aL S' e a x ds h hR he hd yK hn;simp only[de]at h;refine gq hP (λw=>⟨_,X9⟩) ?_;refine ih mW h hR he hd yK λy a' iL q1 q2 q3 q4 q5=>?_;have hf:=hn y a' iL q1 q2 q3 q4 q5;cases e with
  |normal=>exact gq hP (λw=>⟨_,OL⟩) hf
  |exit jf=>exact KI.push (λ_=>rfl) ae hf
  |ret=>exact hf
 |exit id=>intro _ k env aL S' e a x ds h hR he hd yK hn;simp only[de,aG,aA]at h;obtain⟨rfl,rfl,rfl⟩:=h;exact hn x a ds rfl hR (cg.refl x) he hd k rfl
 |ret=>intro _ k env aL S' e a x ds h hR he hd yK hn;simp only[de,aG,aA]at h;obtain⟨rfl,rfl,rfl⟩:=h;exact hn x a ds rfl hR (cg.refl x) he hd k
 |goto l=>intro _ k env aL S' e a x ds h;simp[de]at h
 |refuse why=>intro _ k env aL S' e a x ds h;simp[de]at h
 |rangeFunc f ps oS body _ _=>
  intro _ k env aL S' e a x ds h hR he hd yK hn;simp only[de]at h;split at h;cases h;rename_i ajl;have hro:=hrd (by simpa using ajl);split at h;rename_i g fs vs hf;have hfv:=x7 he _ _ hf;generalize hv:a.eval f=vf at hfv;cases hfv with
  |@fn _ _ _ vfs vcs k1 k2 k3 k4=>
   split at h;rename_i u S1 h1;refine jk hP λn=>?_;have hRn:=hR.dr n;have Mn:=fQ x n;have hp1:pS (x.w.at n) ((x.w.at n).alloc (.deferred (some []))) (.deferred (some [])):=hU _ _;have Nf:=nu (x:=x.dr n) (k:=0) (F:=λ_=>False) (b:=.defer) hRn (QT x.S) hp1 ae (.inr (.inr (.inl ⟨rfl,ae,trivial⟩)));have M1:=jS (x:=x.dr n) (k:=0) (F:=λ_=>False) (b:=.defer) hRn (QT x.S) hp1;generalize Gg:(x.dr n).fresh ((x.w.at n).alloc (.deferred (some []))) x.S.length 0 (λ_=>False) .defer=x1 at Nf M1;have hS1:x1.S=x.S++[.defer]:=by rw[<-Gg];exact Cj x.S _
   have Po:x1.w=(x.w.at n).alloc (.deferred (some [])):=by rw[<-Gg];rfl
   have hμ1:x1.μ x.S.length=x.w.heap.size:=by rw[<-Gg];exact if_pos rfl
   have PK:x1.S.length=x.S.length+1:=by rw[hS1];simp
   have hp2:pS x1.w (((x.w.at n).alloc (.deferred (some []))).alloc (.loop {state:=.ready,pending:=none,fn:=b.fn,tmps:=a.tmps,params:=ps,assign:=oS,body,defers:=x.w.heap.size})) (.loop {state:=.ready,pending:=none,fn:=b.fn,tmps:=a.tmps,params:=ps,assign:=oS,body,defers:=x.w.heap.size}):=by rw[Po];exact hU _ _
   have adk:FI x1.S (x.S.length+1):=.inl PK.symm;have M2:=jS (x:=x1) (k:=0) (F:=λ_=>False) (b:=.loop ⟨.ready,none,fn,env,ps.toList,oS,body,x.S.length⟩) Nf adk hp2;generalize H9:x1.fresh (((x.w.at n).alloc (.deferred (some []))).alloc (.loop {state:=.ready,pending:=none,fn:=b.fn,tmps:=a.tmps,params:=ps,assign:=oS,body,defers:=x.w.heap.size})) (x.S.length+1) 0 (λ_=>False) (.loop ⟨.ready,none,fn,env,ps.toList,oS,body,x.S.length⟩)=x2 at M2;have Ki:x2.S=x.S++[.defer,.loop ⟨.ready,none,fn,env,ps.toList,oS,body,x.S.length⟩]:=by rw[<-H9];show fu x1.S (x.S.length+1) _=_;rw[<-PK,Cj,hS1];simp
   have hw2:x2.w=((x.w.at n).alloc (.deferred (some []))).alloc (.loop {state:=.ready,pending:=none,fn:=b.fn,tmps:=a.tmps,params:=ps,assign:=oS,body,defers:=x.w.heap.size}):=by rw[<-H9];rfl
   have hμ2:x2.μ (x.S.length+1)=x.w.heap.size+1:=by rw[<-H9];show(if _ then x1.w.heap.size else _)=_;rw[if_pos rfl,Po];simp[World.at]
   have hμ2':x2.μ x.S.length=x.w.heap.size:=by rw[<-H9];show(if _ then _ else x1.μ x.S.length)=_;rw[if_neg ab,hμ1]
   have MM:=(Mn.trans M1).trans M2;have hR2:Rel x2:=by
    have:=nu (x:=x1) (k:=0) (F:=λ_=>False) (b:=.loop ⟨.ready,none,fn,env,ps.toList,oS,body,x.S.length⟩) Nf adk hp2 ae (.inr (.inr (.inl ⟨rfl,ae,?_⟩)))
    grind
    rw[H9];refine⟨rfl,rfl,UU,he.mono MM,ae,rfl,rfl,hμ2'.symm,?_⟩;rw[Ki];simp
   have V3:ve n0 x2 (x.S.length::ds) ({target:=.collected x.w.heap.size,args:=#[]}::a.defers):=by
    obtain⟨q1,q2,q3⟩:=hd.mono MM;refine⟨by rw[aY,hμ2',q1],List.nodup_cons.2 ⟨λhm=>?_,q2⟩,λid hid=>?_⟩;have:=(aM.1 (hd.2.2 _ hm).2.1).1;omega;rcases bE.1 hid with rfl|hid;refine⟨yK,by rw[Ki];simp,?_⟩;rw[hμ2',hw2];have:((x.w.at n).alloc (.deferred (some []))).heap.size=x.w.heap.size+1:=by simp[World.at]
    rw[(hU _ _).lt ab];exact(hU (x.w.at n) _).new
    grind
   have qN:ig x2 (fs++[.oz (x.S.length+1)]++vs) (vfs++#[.func (.yield (x.w.heap.size+1)) #[] #[]]++vcs):=by
    have e1:ig x2 fs vfs:=ig.mono MM ⟨k1,k3⟩;have e2:ig x2 vs vcs:=ig.mono MM ⟨k2,k4⟩;refine nB (nB e1 ⟨rfl,λj c hj=>?_⟩) e2;cases j with
    |zero=>simp only[eu,aG]at hj;subst hj;show RV x2 _ (.func (.yield (x.w.heap.size+1)) #[] #[]);rw[<-hμ2];exact .oz (r:=⟨.ready,none,fn,env,ps.toList,oS,body,x.S.length⟩) (by rw[Ki];simp)
    |succ j=>simp at hj
   obtain⟨⟨vV,cd,Nr,UW⟩,ajC⟩:=hc _ _ _ _ _ h1 x2 _ hR2 Ki qN;obtain⟨es,hstep⟩:=J2 (P:=P) (b:=b) (a:=a) (k:=k) (cs:=cs) (w:=x.w.at n) (g:=f) (ps:=ps) (assign:=oS) (body:=body) hk hro hv Nr UW (hP.count g vV Nr);refine⟨_,_,_,es,hstep,?_⟩;have adp:=ajC (b.atR {a with defers:={target:=.collected x.w.heap.size,args:=#[]}::a.defers} (.inRangeFunc (x.w.heap.size+1)::k)) cs λy u hp=>?_;rw[hw2]at adp;exact adp;obtain⟨hyS,hyR,hyM,-⟩:=hp;subst hyS;rw[finish_atR_inRangeFunc];have MY:=MM.trans hyM;split at h;rename_i r hr;split at h;cases h;rename_i ah7;have hμy:y.μ (x.S.length+1)=x.w.heap.size+1:=by rw[(hyM.eH _ _ (show x2.S[x.S.length+1]? =some (.loop ⟨.ready,none,fn,env,ps.toList,oS,body,x.S.length⟩)by rw[Ki];simp) rfl).1,hμ2]
   obtain⟨lo,l1,l2,l3,-⟩:=vB hyR hr;rw[hμy]at l1;obtain⟨z1,z2⟩:=Eh hyR hr (by rw[hμy];exact l1) .exhausted r.kI;have hwz:(y.xQ (x.S.length+1) (.loop {lo with state:=.exhausted,pending:=r.kI}) (.loop {r with st:=.exhausted,kI:=r.kI})).w=cK y.w (x.w.heap.size+1) (.loop {lo with state:=.exhausted,pending:=r.kI}):=by show cK y.w (y.μ _) _=_;rw[hμy]
   have hSz:(y.xQ (x.S.length+1) (.loop {lo with state:=.exhausted,pending:=r.kI}) (.loop {r with st:=.exhausted,kI:=r.kI})).S=y.S.set (x.S.length+1) (.loop {r with st:=.exhausted}):=rfl;generalize y.xQ (x.S.length+1) (.loop {lo with state:=.exhausted,pending:=r.kI}) (.loop {r with st:=.exhausted,kI:=r.kI})=z at z1 z2 hwz hSz;have MZ:=MY.trans z2;refine jk hP λn2=>?_;have ah3:(Instr.endLoop (x.w.heap.size+1)).run P (y.w.at n2)=.ok r.kI (z.w.at n2):=by
    have hg:=jN (P:=P) (w:=y.w.at n2) (show(y.w.at n2).heap[x.w.heap.size+1]? =_ from l1) ae;have hs:=lM (P:=P) (w:=y.w.at n2) (o:=.loop {lo with state:=.exhausted,pending:=r.kI}) (show(y.w.at n2).heap[x.w.heap.size+1]? =_ from l1) ae;have hb:(lo.state==LoopState.busy)=false:=by rw[l2];simpa using ah7
    simp only[Instr.endLoop,Instr.getLoop,Sem.run_bind,hg,Result.andThen_ok,Sem.run_pure,hb,aK,if_false,hs,l3];rw[hwz];rfl
   obtain⟨es2,CP⟩:=MT (P:=P) (b:=b) (a:={a with defers:={target:=.collected x.w.heap.size,args:=#[]}::a.defers}) (k:=k) (cs:=cs) ah3;refine⟨_,_,_,es2,CP,KS ?_ n2⟩;have AW:=hn z {a with defers:={target:=.collected x.w.heap.size,args:=#[]}::a.defers} (x.S.length::ds);split at h;rename_i hpd;simp only[aG,aA]at h;obtain⟨rfl,rfl,rfl⟩:=h;rw[hpd];exact AW hSz z1 MZ (he.mono MZ) ((V3.mono hyM).mono z2);rename_i hpd;simp only[aG,aA]at h;obtain⟨rfl,rfl,rfl⟩:=h;rw[hpd];exact AW hSz z1 MZ (he.mono MZ) ((V3.mono hyM).mono z2) k;rename_i e' hpd;simp only[aG,aA]at h;obtain⟨rfl,rfl,rfl⟩:=h;rw[hpd];exact AW hSz z1 MZ (he.mono MZ) ((V3.mono hyM).mono z2) k rfl;cases h;cases h;cases h
  cases h
end Go.Di
namespace Go.Di
open Go Go.Conc Go.Co
variable {P:Program} {aa:Machine->Trace->Prop} {ty:gb} {x:Cx} {aI:b9} {call:bG} {yf:ez}
theorem zX(h:∀id ops draw,y9 P aa ty aI call yf id ops draw):∀c,Ee P aa ty aI call yf c:=by
 intro c;induction c with
 |region id ops draw=>exact h id ops draw
 |seq a b iha ihb=>exact⟨iha,ihb⟩
 |cond o a b iha ihb=>exact⟨iha,ihb⟩
 |block id c ih=>exact ih
 |loop c ih=>exact ih
 |scope c ih=>exact ih
 |_=>trivial
def R8(tmps:Array Value):ResultVar->Sem Value
 |.tmp t=>pure (tmps.getD t undef)
 |.cell a t=>do loadVar t (<-asAddr (tmps.getD a undef))
theorem OH(fn:Func)(tmps:Array Value):results fn tmps=(do let vs<-fn.results.mapM (R8 tmps);pure (if h:vs.size=1 then vs[0]else .tuple vs)):=by
 have:(λ|.tmp t=>pure (tmps.getD t undef)|.cell a t=>do loadVar t (<-asAddr (tmps.getD a undef)):ResultVar->Sem Value)=R8 tmps:=by funext r;cases r<;>rfl
 rw[<-this];rfl
theorem Jp(fN:kM P ty){env:cj}{tmps:Array Value}(hR:Rel x)(he:ig x env tmps):∀{rs:List ResultVar}{l:cj},uI ty env x.S rs=some l->
  ∃vs:List Value,(rs.mapM (R8 tmps)).run P x.w=.ok vs x.w/\ig x l vs.toArray
 |[],l,h=>by simp only[uI,aG]at h;subst h;exact⟨[],rfl,rfl,ae⟩
 |.tmp t::rs,l,h=>by
  simp only[uI,ah]at h;obtain⟨l',h1,rfl⟩:=h;obtain⟨vs,h2,h3,h4⟩:=Jp fN hR he h1;have hv:RV x (env.getD t bK) (tmps.getD t undef):=x7 (a:=⟨tmps,[]⟩) he (.tmp t) _ rfl;refine⟨tmps.getD t undef::vs,by simp only[List.mapM_cons,R8,Sem.run_bind,Sem.run_pure,Result.andThen_ok,h2],by simpa using h3,λj c hc=>?_⟩;cases j with
  |zero=>simp only[eu,aG]at hc;subst hc;exact hv
  |succ j=>simpa [bF]using h4 j c (by simpa using hc)
 |.cell a t::rs,l,h=>by
  unfold uI at h;split at h;rename_i d l' h0 h1;cases h;obtain⟨vs,h2,h3,h4⟩:=Jp fN hR he h1;have hv:RV x (env.getD a bK) (tmps.getD a undef):=x7 (a:=⟨tmps,[]⟩) he (.tmp a) _ rfl;obtain⟨v,h5,h6⟩:=Mc fN hR hv h0;have hrun:(R8 tmps (.cell a t)).run P x.w=.ok v x.w:=by
   show(do loadVar t (<-asAddr (tmps.getD a undef)):Sem Value).run P x.w=_;generalize tmps.getD a undef=u at hv h5;unfold lQ at h0;generalize env.getD a bK=da at hv h0;split at h0;cases hv;simpa [Instr.loadAt,Instr.sureAddr,asAddr]using h5
   cases hv;simpa [Instr.loadAt,Instr.sureAddr,asAddr]using h5
   split at h0;rename_i hop;obtain⟨hS,Ib⟩:=mR hop;cases hv with
   |gF C6 _ hA=>rw[hS]at C6;cases C6;rw[hA Ib]at h5⊢;simpa [Instr.loadAt,Instr.sureAddr,asAddr]using h5
   cases h0;cases h0
  refine⟨v::vs,by simp only[List.mapM_cons,Sem.run_bind,hrun,Result.andThen_ok,h2,Sem.run_pure],by simpa using h3,λj c hc=>?_⟩;cases j with
  |zero=>simp only[eu,aG]at hc;subst hc;exact h6
  |succ j=>simpa [bF]using h4 j c (by simpa using hc)
  cases h
theorem E6(fN:kM P ty){fn:Func}{env:cj}{tmps:Array Value}(hR:Rel x)(he:ig x env tmps){l:cj}(h:uI ty env x.S fn.results.toList=some l):
  ∃v,(results fn tmps).run P x.w=.ok v x.w/\RV x (oneOf l) v:=by
 obtain⟨vs,h1,h2,h3⟩:=Jp fN hR he h;have hm:(fn.results.mapM (R8 tmps)).run P x.w=.ok vs.toArray x.w:=by rw[Array.mapM_eq_mapM_toList];simp only[Sem.run_map,h1,Result.andThen_ok]
 refine⟨if h:vs.toArray.size=1 then vs.toArray[0]else .tuple vs.toArray,?_,?_⟩;rw[OH];simp only[Sem.run_bind,hm,Result.andThen_ok,Sem.run_pure]
 match l,vs,h2,h3 with
 |[],[],_,_=>exact .tup rfl ae
 |[d],[v],_,h3=>exact h3 0 d rfl
 |d::e::l,v::u::vs,h2,h3=>exact .tup (by simpa using h2) h3
 |[],_::_,h2,_=>simp at h2
 |[_],[],h2,_=>simp at h2
 |[_],_::_::_,h2,_=>simp at h2
 |_::_::_,[],h2,_=>simp at h2
 |_::_::_,[_],h2,_=>simp at h2
theorem Ya{b:Frame}{a:Act}{todo:List Item}{c:Frame}{cs:List Frame}{w:World}{fn:Func}{v:Value}(hn:b.kind=.normal)(hd:a.defers=[])(hf:P.funcs[b.fn]? =some fn)(hr:(results fn a.tmps).run P w=.ok v w):
  ∃es,stepG P true (G {b.at a todo with mode:=.returning} (c::cs)) w=.go (G (c.finish v) cs) w es:=by
 simp only[G,stepG,unwind,doReturn,Frame.at,hn,hd,hf,Sem.runT_eq,hr,GStep.after];exact⟨_,rfl⟩
theorem Qu{b:Frame}{a:Act}{todo:List Item}{cs:List Frame}{w w':World}{r:Nat}{ds:List Deferred}(hd:a.defers={target:=.collected r,args:=#[]}::ds)(hr:(Instr.takeDeferred r).run P w=.ok [] w'):
  ∃es,stepG P true (G {b.at a todo with mode:=.returning} cs) w=.go (G {b.at {a with defers:=ds} todo with mode:=.returning} cs) w' es:=by
 simp only[G,stepG,unwind,Frame.at,hd,Sem.runT_eq,hr,GStep.after,jq];exact⟨_,rfl⟩
theorem P8{x0:Cx}(M:cg x0 x)(hR:Rel x){id:Nat}(hid:x0.S.length<=id)(hS:x.S[id]? =some .defer):
  Rel {x with w:=cK x.w (x.μ id) (.deferred none)}/\cg x0 {x with w:=cK x.w (x.μ id) (.deferred none)}/\∀d v,RV x d v->RV {x with w:=cK x.w (x.μ id) (.deferred none)} d v:=by
 have oq:=bD hS (show DB.defer≠.none by simp);have ajq:∀i,Live x0.S i->i≠id:=by rintro i ⟨c,hc,-⟩ rfl;have:=(aM.1 hc).1;omega
 have af4:x0.w.heap.size<=x.μ id:=by
  rcases M.live id oq with ⟨h,-⟩|h
  grind
  exact h
 have rM:∀b,b≠x.μ id->(cK x.w (x.μ id) (.deferred none)).heap[b]? =x.w.heap[b]? :=λb hb=>ia _ _ _ hb;have Nq:∀b o,x.Fz b o->(cK x.w (x.μ id) (.deferred none)).cell? ⟨b,o,none⟩=x.w.cell? ⟨b,o,none⟩:=λb o h=>cell_of_block (rM b (by rintro rfl;exact hR.W6 hS rfl o h)) o;have Uu:∀d v,RV x d v->RV {x with w:=cK x.w (x.μ id) (.deferred none)} d v:=by
  intro d v h;induction h with
  |val h=>exact .val h
  |agg h _ ih=>exact .agg h ih
  |tup h _ ih=>exact .tup h ih
  |sl hv _ h1 h2 h3 hsp h4 ih=>exact .sl (View.mono (x:=x) (y:={x with w:=cK x.w (x.μ id) (.deferred none)}) (λb o h=>⟨h,Nq b o h⟩) hv) ih h1 h2 h3 hsp h4
  |ptr h=>exact .ptr h
  |fM hv _ ih=>exact .fM (View.mono (x:=x) (y:={x with w:=cK x.w (x.μ id) (.deferred none)}) (λb o h=>⟨h,Nq b o h⟩) hv) ih
  |fn h1 h2 _ _ RR Up=>exact .fn h1 h2 RR Up
  |map h=>exact .map h
  |oz h=>exact .oz h
  |jX h h1 h2=>exact .jX h h1 h2
  |gF h h1 h2=>exact .gF h h1 h2
 have hne:∀i b,x.S[i]? =some b->b≠.none->i≠id->x.μ i≠x.μ id:=λi b hi hb h e=>h (hR.inj i id (bD hi hb) oq e);obtain⟨ob,hob,-⟩:=hR.eH id _ hS rfl;refine⟨⟨λi l hl=>?_,λi e s n hl=>?_,λi b hb Vj=>?_,hR.inj,λb o h=>?_,hR.sep,hR.oV,λi e s l z hl=>?_⟩,⟨?_,M.env,λb o h=>⟨(M.fz b o h).1,?_⟩,M.Ke,λb hb hn=>?_,M.len,M.cells,λi b hb Vj=>?_,M.ej,M.live,M.ops⟩,Uu⟩;obtain⟨arr,e,h1,h2,h3⟩:=hR.cells i l hl;exact⟨arr,e,(rM _ (hne i _ hl ae (by rintro rfl;rw[hS]at hl;cases hl))).trans h1,h2,λj c hc=>Uu _ _ (h3 j c hc)⟩;obtain⟨arr,h1,h2⟩:=hR.ej i e s n hl;exact⟨arr,(rM _ (hne i _ hl ae (by rintro rfl;rw[hS]at hl;cases hl))).trans h1,h2⟩;by_cases h:i=id;subst h;rw[hS]at hb;cases hb;exact⟨_,Aq _ _ _ _ hob,trivial⟩;obtain⟨o,h1,h2⟩:=hR.eH i b hb Vj;refine⟨o,(rM _ (hne i _ hb (fJ Vj) h)).trans h1,?_⟩;cases b<;>cases o<;>simp only[u9]at h2⊢<;>first|exact h2|trivial|(obtain⟨q1,q2,q3,q4,q5⟩:=h2;exact⟨q1,q2,q3,⟨q4.1,λj c hc=>Uu _ _ (q4.2 j c hc)⟩,q5⟩)
 obtain⟨v,hv⟩:=hR.AE b o h;exact⟨v,(Nq b o h).trans hv⟩;obtain⟨arr,h1,h2,h3,h4,h5,h6⟩:=hR.ops i e s l z hl;exact⟨arr,(rM _ (hne i _ hl ae (by rintro rfl;rw[hS]at hl;cases hl))).trans h1,h2,h3,h4,λj c hc=>⟨(h5 j c hc).1,Uu _ _ (h5 j c hc).2⟩,h6⟩;show _<=(cK x.w _ _).heap.size;simp only[cK,wG];exact M.size;exact(Nq b o (M.fz b o h).1).trans (M.fz b o h).2;exact(rM b ab).trans (M.old b hb hn);obtain⟨q1,q2,q3⟩:=M.eH i b hb Vj;refine⟨q1,q2,λhd=>(rM _ ?_).trans (q3 hd)⟩;rw[<-q1];obtain⟨b',q4,q5⟩:=q2;exact hne i b' q4 (fJ (vD q5).2) (ajq i (bD hb (fJ Vj)))
theorem LZ(hP:Plain P)(fN:kM P ty){x0:Cx}{b:Frame}{todo:List Item}{c:Frame}{cs:List Frame}{fn:Func}{env:cj}{l:cj}(hb:b.kind=.normal)(hf:P.funcs[b.fn]? =some fn){Sr:ai}:
  ∀(ds:cy){a:Act}{x:Cx},x.S=Sr->Rel x->cg x0 x->ig x env a.tmps->ve x0.S.length x ds a.defers->uI ty env Sr fn.results.toList=some l->
   (∀y v,y.S=Sr->Rel y->cg x0 y->RV y (oneOf l) v->jh P aa () (G (c.finish v) cs) y.w)->jh P aa () (G {b.at a todo with mode:=.returning} (c::cs)) x.w
 |[],a,x,hS,hR,hM,he,hd,hr,hn=>by refine jk hP λn=>?_;have Nu:a.defers=[]:=hd.1;obtain⟨v,h1,h2⟩:=E6 (x:=x.dr n) fN (hR.dr n) (he.mono (fQ x n)) (l:=l) (by show uI ty env x.S _=_;rw[hS];exact hr);obtain⟨es,hst⟩:=Ya (P:=P) (b:=b) (a:=a) (todo:=todo) (c:=c) (cs:=cs) hb Nu hf h1;exact⟨_,_,_,es,hst,hn (x.dr n) v hS (hR.dr n) (hM.trans (fQ x n)) h2⟩
 |id::ds,a,x,hS,hR,hM,he,hd,hr,hn=>by
  obtain⟨q1,q2,q3⟩:=hd;obtain⟨r1,r2,r3⟩:=q3 id ae;refine jk hP λn=>?_;have mY:=hR.dr n;have hM':=hM.trans (fQ x n);obtain⟨t1,t2,t3⟩:=P8 (x:=x.dr n) hM' mY r1 r2;have hg:=jN (P:=P) (w:=x.w.at n) (show(x.w.at n).heap[x.μ id]? =_ from r3) ae;have hs:=lM (P:=P) (w:=x.w.at n) (o:=.deferred none) (show(x.w.at n).heap[x.μ id]? =_ from r3) ae;have PJ:(Instr.takeDeferred (x.μ id)).run P (x.w.at n)=.ok [] (cK (x.w.at n) (x.μ id) (.deferred none)):=by simp only[Instr.takeDeferred,Sem.run_bind,hg,Result.andThen_ok,hs,Sem.run_pure]
  obtain⟨es,hst⟩:=Qu (P:=P) (b:=b) (a:=a) (todo:=todo) (cs:=c::cs) (ds:=ds.map λid=>{target:=.collected (x.μ id),args:=#[]}) (by rw[q1];rfl) PJ;refine⟨_,_,_,es,hst,?_⟩;have Dw:=List.nodup_cons.1 q2;exact LZ hP fN hb hf ds (x:={x.dr n with w:=cK (x.w.at n) (x.μ id) (.deferred none)}) (a:={a with defers:=ds.map λid=>{target:=.collected (x.μ id),args:=#[]}}) hS t1 t2 ⟨he.1,λj c hc=>t3 _ _ (RV.mono (fQ x n) (he.2 j c hc))⟩
   ⟨rfl,Dw.2,λi hi=>by obtain⟨u1,u2,u3⟩:=q3 i (by simp[hi]);have hne:x.μ i≠x.μ id:=λe=>Dw.1 (hR.inj i id (bD u2 ae) (bD r2 ae) e▸hi);exact⟨u1,u2,(ia _ _ _ hne).trans u3⟩⟩ hr hn
theorem Zi(hP:Plain P)(fN:kM P ty)(hc:iF P aa call)(mW:∀id ops draw,y9 P aa ty aI call yf id ops draw){L:Nat}{f:FuncId}{fn:Func}(hf:P.funcs[f]? =some fn){args:cj}{S S':ai}{v:DV}(h:uA P ty aI call yf L f fn args S=some (v,S'))
  {vals:Array Value} (hR:Rel x) (hS:x.S=S) (ha:ig x args vals):fS P aa x f vals λy u=>y.S=S'/\Rel y/\cg x y/\RV y v u:=by
 subst hS;unfold uA at h;split at h;rename_i c hb;refine⟨⟨fn,c,hf,hb⟩,λfr cs hn=>?_⟩;rw[enter_at vals hf hb,<-Frame.atR_of_none (b:=base f) rfl];have he:ig x (args++List.replicate (fn.ntmps-args.length) bK) (vals++Array.replicate (fn.ntmps-vals.size) undef):=by
  refine nB ha ⟨by simp[ha.1],λj c hc=>?_⟩;rw[zN]at hc;split at hc;rename_i hj;cases hc;have:j<fn.ntmps-vals.size:=by rw[ha.1];exact hj
  have e:(Array.replicate (fn.ntmps-vals.size) undef).getD j undef=undef:=by simp[bF,this]
  rw[e];exact .val rfl;cases hc
 have key:∀e aL S1,de P ty aI call yf L f false c (args++List.replicate (fn.ntmps-args.length) bK) x.S=some (e,aL,S1)->(e=.normal\/e=.ret)->(uI ty aL S1 fn.results.toList).map (λl=>(oneOf l,S1))=some (v,S')->
   jh P aa () (G ((base f).atR {tmps:=vals++Array.replicate (fn.ntmps-vals.size) undef,defers:=[]} [.code c]) (fr::cs)) x.w:=by
  intro e aL S1 h1 he1 h2;simp only[ah,aA]at h2;obtain⟨l,h3,rfl,rfl⟩:=h2;refine Af (n0:=x.S.length) (ds:=[]) (b:=base f) (cs:=fr::cs) (jg:=false) hP hc (by simp[base]) rfl (λ_=>rfl) c (zX mW c) h1 hR he (BH _ _) (ak _) λy a' iL q1 q2 q3 q4 q5=>?_;have lK:∀todo,jh P aa () (G {(base f).at a' todo with mode:=.returning} (fr::cs)) y.w:=λtodo=>
   LZ hP fN (x0:=x) (b:=base f) (env:=aL) (l:=l) (Sr:=S1) rfl hf iL q1 q2 q3 q4 q5 h3 λz u r1 r2 r3 r4=>hn z u ⟨r1,r2,r3,r4⟩
  rcases he1 with rfl|rfl;show jh P aa () (G ((base f).atR a' []) (fr::cs)) y.w;rw[Frame.atR_of_none (b:=base f) rfl];exact gq hP (λw=>⟨_,stepG_end⟩) (lK _);intro k';rw[Frame.atR_of_none (b:=base f) rfl];exact gq hP (λw=>⟨_,stepG_ret'⟩) (lK _)
 split at h
 grind
 grind
 cases h;cases h
theorem Qh:∀{ts:List Tmp}{ds:cj}{vs:List Value}{env:cj}{tmps:Array Value},ig x env tmps->vs.length=ds.length->(∀(j:Nat)(c:DV),ds[j]? =some c->RV x c (vs.getD j undef))->
  ig x (uo env (ts.zip ds)) ((ts.zip vs).foldl (λtmps (p:Tmp×Value)=>tmps.setIfInBounds p.1 p.2) tmps)
 |[],ds,vs,env,tmps,h,_,_=>by simpa [uo]using h
 |t::ts,[],[],env,tmps,h,_,_=>by simpa [uo]using h
 |t::ts,[],_::_,env,tmps,h,hl,_=>by simp at hl
 |t::ts,_::_,[],env,tmps,h,hl,_=>by simp at hl
 |t::ts,d::ds,v::vs,env,tmps,h,hl,hv=>by simp only[List.zip_cons_cons,uo,gh];exact Qh (Qi h (by simpa using hv 0 d rfl)) (by simpa using hl) λj c hc=>by simpa using hv (j+1) c (by simpa using hc)
theorem Yd{b:Frame}{a:Act}{k:List Item}{cs:List Frame}{w w':World}{l:Nat}(hk:b.kind≠.early)(hr:b.roundOf=some l)(h:(Instr.beginRound l).run P w=.ok () w'):
  ∃es,stepG P true (G (b.atR a (.beginRound::k)) cs) w=.go (G (b.atR a k) cs) w' es:=by
 have rC:(b.kind==CallKind.early)=false:=by simpa using hk
 simp only[G,stepG,stepG.exec,Frame.atR,hr,stepG.apply,Option.elim_some,if_true,Sem.runT_eq,Sem.run_bind,h,Result.andThen_ok,Sem.run_pure,rC,GStep.after,Frame.finish];exact⟨_,rfl⟩
theorem J1{b:Frame}{a:Act}{c:Frame}{cs:List Frame}{w w':World}{l:Nat}{v:Value}(hn:b.kind=.normal)(hr:b.roundOf=some l)(h:(Instr.endRound l none).run P w=.ok v w'):
  ∃es,stepG P true (G (b.atR a []) (c::cs)) w=.go (G (c.finish v) cs) w' es:=by
 simp only[G,stepG,stepG.exec,Frame.atR,hr,Sem.runT_eq,h,GStep.after,doReturn,hn];exact⟨_,rfl⟩
theorem JZ{b:Frame}{a:Act}{k:List Item}{c:Frame}{cs:List Frame}{w w':World}{l:Nat}{v:Value}(hn:b.kind=.normal)(hr:b.roundOf=some l)(h:(Instr.endRound l (some .ret)).run P w=.ok v w'):
  ∃es,stepG P true (G (b.atR a (.code .ret::k)) (c::cs)) w=.go (G (c.finish v) cs) w' es:=by
 simp only[G,stepG,stepG.exec,Frame.atR,hr,Sem.runT_eq,h,GStep.after,doReturn,hn];exact⟨_,rfl⟩
theorem F6{b:Frame}{a:Act}{k:List Item}{c:Frame}{cs:List Frame}{w w':World}{l id:Nat}{v:Value}(hn:b.kind=.normal)(hr:b.roundOf=some l)(he:exitTo id k=none)(h:(Instr.endRound l (some (.exit id))).run P w=.ok v w'):
  ∃es,stepG P true (G (b.atR a (.code (.exit id)::k)) (c::cs)) w=.go (G (c.finish v) cs) w' es:=by
 simp only[G,stepG,stepG.exec,Frame.atR,hr,he,Option.elim_none,Sem.runT_eq,h,GStep.after,doReturn,hn];exact⟨_,rfl⟩
theorem SQ(hP:Plain P)(hc:iF P aa call)(mW:∀id ops draw,y9 P aa ty aI call yf id ops draw){L:Nat}:B9 P aa (vk P ty aI call yf L):=by
 intro id args S v S' h x vals hR hS ha;subst hS;unfold vk at h;split at h;rename_i r hr;split at h;rename_i hlen;obtain⟨lo,l1,l2,l3,l4,l5,l6,l7,l8,-⟩:=vB hR hr;refine⟨lo,l1,by rw[l6];simpa [ha.1]using hlen,λfr cs hn=>?_⟩;have Kv:∀tmps,Frame.round (x.μ id) lo.fn tmps lo.assign lo.body .normal=({(default:Frame)with fn:=r.fn,kind:=.normal,roundOf:=some (x.μ id)}:Frame).atR {tmps:=tmps,defers:=[]} [.code r.assign,.beginRound,.code r.body]:=by intro tmps;simp[Frame.round,Frame.atR,l4,l7,l8]
 rw[Kv];generalize hB:({(default:Frame)with fn:=r.fn,kind:=.normal,roundOf:=some (x.μ id)}:Frame)=B;have R1:B.kind=.normal:=by rw[<-hB]
 have hBf:B.fn=r.fn:=by rw[<-hB]
 have hBr:B.roundOf=some (x.μ id):=by rw[<-hB]
 have hBe:B.kind≠.early:=by rw[R1];simp
 have he:ig x (uo r.env (r.params.zip args)) ((lo.params.zip vals).foldl (λtmps (t,a)=>tmps.setIfInBounds t a) lo.tmps):=by
  have:=Qh (ts:=r.params) (ds:=args) (vs:=vals.toList) l5 (by simpa using ha.1) λj c hc=>by simpa [bF,aU]using ha.2 j c hc
  rw[l6,<-zF];simpa using this
 split at h;rename_i aez S1 h1;split at h;rename_i r1 xg;split at h;rename_i hst;split at h;rename_i e akK S2 h2;split at h;rename_i r2 Kq;refine Af (n0:=0) (ds:=[]) (b:=B) (cs:=fr::cs) (jg:=true) hP hc hBe hBf ae r.assign (zX mW _) h1 hR he (BH _ _) (j7 _) λy a1 ds1 q1 q2 q3 q4 q5=>?_;subst q1;obtain⟨lo1,m1,m2,m3,-⟩:=vB q2 xg;have hμy:y.μ id=x.μ id:=(q3.eH id _ hr rfl).1;refine jk hP λn=>?_;obtain⟨z1,z2⟩:=Eh (q2.dr n) (id:=id) xg (lo:=lo1) m1 .busy r1.kI;have ajs:({lo1 with state:=.busy,pending:=r1.kI}:Loop)={lo1 with state:=.busy}:=by rw[<-m3]
 rw[ajs]at z1 z2;have ajK:(Instr.beginRound (x.μ id)).run P (y.w.at n)=.ok () (cK (y.w.at n) (x.μ id) (.loop {lo1 with state:=.busy})):=by
  have hg:=jN (P:=P) (w:=y.w.at n) (show(y.w.at n).heap[x.μ id]? =_ from(by rw[<-hμy];exact m1)) ae;have hs:=lM (P:=P) (w:=y.w.at n) (o:=.loop {lo1 with state:=.busy}) (show(y.w.at n).heap[x.μ id]? =_ from(by rw[<-hμy];exact m1)) ae;have hrd:lo1.state=.ready:=by rw[m2];exact hst
  simp only[Instr.beginRound,Instr.getLoop,Sem.run_bind,hg,Result.andThen_ok,Sem.run_pure,hs,hrd]
 obtain⟨es,hstep⟩:=Yd (P:=P) (a:=a1) (k:=[.code r.body]) (cs:=fr::cs) hBe hBr ajK;refine⟨_,_,_,es,hstep,?_⟩;generalize hz:(y.dr n).xQ id (.loop {lo1 with state:=.busy}) (.loop {r1 with st:=.busy,kI:=r1.kI})=z at z1 z2;have hzS:z.S=y.S.set id (.loop {r1 with st:=.busy}):=by rw[<-hz];rfl
 have hzw:z.w=cK (y.w.at n) (x.μ id) (.loop {lo1 with state:=.busy}):=by rw[<-hz];show cK (y.w.at n) (y.μ id) _=_;rw[hμy]
 rw[<-hzw];have MYZ:=(fQ y n).trans z2;rw[<-hzS]at h2;refine Af (n0:=0) (ds:=ds1) (b:=B) (cs:=fr::cs) (k:=[]) (jg:=true) hP hc hBe hBf ae r.body (zX mW _) h2 z1 (q4.mono MYZ) (q5.mono MYZ) (j7 _) λu a2 ds2 p1 p2 p3 p4 p5=>?_;subst p1;obtain⟨lo2,n1,-⟩:=vB p2 Kq;have hμu:u.μ id=x.μ id:=by have:=(p3.eH id _ (show z.S[id]? =some (.loop {r1 with st:=.busy})by rw[hzS,iu xg,if_pos rfl]) rfl).1;rw[this,<-hz];exact hμy
 have MXU:=(q3.trans MYZ).trans p3;have fin:∀st pd,∀n2,(Instr.endRound (x.μ id) pd).run P (u.w.at n2)=.ok (.bool pd.isNone) (cK (u.w.at n2) (x.μ id) (.loop {lo2 with state:=if pd.isNone then .ready else .done,pending:=pd}))->st=(if pd.isNone then LoopState.ready else .done)->S'=u.S.set id (.loop {r2 with st:=st,kI:=pd})->v=.val (.bool pd.isNone)->
   jh P aa () (G (fr.finish (.bool pd.isNone)) cs) (cK (u.w.at n2) (x.μ id) (.loop {lo2 with state:=if pd.isNone then .ready else .done,pending:=pd})):=by
  intro st pd n2 _ aao C6 hv;obtain⟨y1,y2⟩:=Eh (p2.dr n2) (id:=id) Kq (lo:=lo2) n1 st pd;have:=hn ((u.dr n2).xQ id (.loop {lo2 with state:=st,pending:=pd}) (.loop {r2 with st:=st,kI:=pd})) (.bool pd.isNone) ⟨C6.symm,y1,(MXU.trans (fQ u n2)).trans y2,by rw[hv];exact .val rfl⟩;have e:((u.dr n2).xQ id (.loop {lo2 with state:=st,pending:=pd}) (.loop {r2 with st:=st,kI:=pd})).w=cK (u.w.at n2) (x.μ id) (.loop {lo2 with state:=if pd.isNone then .ready else .done,pending:=pd}):=by show cK (u.w.at n2) (u.μ id) _=_;rw[hμu,aao]
  rw[e]at this;exact this
 have uS:∀pd n2,(Instr.endRound (x.μ id) pd).run P (u.w.at n2)=.ok (.bool pd.isNone) (cK (u.w.at n2) (x.μ id) (.loop {lo2 with state:=if pd.isNone then .ready else .done,pending:=pd})):=by intro pd n2;have hg:=jN (P:=P) (w:=u.w.at n2) (show(u.w.at n2).heap[x.μ id]? =_ from(by rw[<-hμu];exact n1)) ae;have hs:=λo=>lM (P:=P) (w:=u.w.at n2) (o:=o) (show(u.w.at n2).heap[x.μ id]? =_ from(by rw[<-hμu];exact n1)) ae;simp only[Instr.endRound,Instr.getLoop,Sem.run_bind,hg,Result.andThen_ok,Sem.run_pure,hs]
 cases e with
 |normal=>simp only[aG,aA]at h;refine jk hP λn2=>?_;obtain⟨es2,CP⟩:=J1 (P:=P) (a:=a2) (c:=fr) (cs:=cs) R1 hBr (uS none n2);exact⟨_,_,_,es2,CP,fin .ready none n2 (uS none n2) rfl h.2.symm h.1.symm⟩
 |ret=>simp only[aG,aA]at h;intro k';refine jk hP λn2=>?_;obtain⟨es2,CP⟩:=JZ (P:=P) (a:=a2) (k:=k') (c:=fr) (cs:=cs) R1 hBr (uS (some .ret) n2);exact⟨_,_,_,es2,CP,fin .done (some .ret) n2 (uS (some .ret) n2) rfl h.2.symm h.1.symm⟩
 |exit i=>simp only[aG,aA]at h;intro k' rC;refine jk hP λn2=>?_;obtain⟨es2,CP⟩:=F6 (P:=P) (a:=a2) (k:=k') (c:=fr) (cs:=cs) R1 hBr rC (uS (some (.exit i)) n2);exact⟨_,_,_,es2,CP,fin .done (some (.exit i)) n2 (uS (some (.exit i)) n2) rfl h.2.symm h.1.symm⟩
 cases h;cases h;cases h;cases h;cases h;cases h;cases h
end Go.Di
namespace Go.Di
open Go Go.Conc Go.Co
open Go.ConcN (sumTo sumTo_upd sumTo_congr le_sumTo upd upd_same upd_ne)
variable {P:Program} {aa:Machine->Trace->Prop} {ty:gb} {x:Cx} {aI:b9} {call:bG} {yf:ez}
def Closed(ops:Array Oper)(L:Nat->Bool):Prop:=∀j o,ops[j]? =some o->L j=true->∀e∈o.after,Region.binds .any e=true->L e.on=true
theorem xG{ops:Array Oper}(rU:∀i o,ops[i]? =some o->∀e∈o.after,Region.binds .any e=true->e.on<i){σ:Type}(T:cy->σ->Prop)(J:(Nat->Bool)->σ->Prop)
  (hop:∀L s i o,J L s->Closed ops L->ops[i]? =some o->L i=false->(∀e∈o.after,Region.binds .any e=true->L e.on=true)->∀rest,(∀s',J (upd L i true) s'->T rest s')->T (i::rest) s)
  (uS:∀L s,J L s->(∀i,i<ops.size->L i=true)->T [] s) (t:Nat) (s:σ) (h0:J (λ_=>false) s):T (Region.linearise .any ops t) s:=by
 have key:∀(fuel t:Nat)(listed:Array Bool)(s:σ),listed.size=ops.size->sumTo ops.size (λj=>if listed.getD j true then 0 else 1)=fuel->J (λj=>listed.getD j false) s->Closed ops (λj=>listed.getD j false)->T (Region.linearise.go .any ops fuel t listed []) s:=by
  intro fuel;induction fuel with
  |zero=>
   intro t listed s hsz NH hJ _;refine uS _ s hJ λi hi=>?_;have h1:=le_sumTo (f:=λj=>if listed.getD j true then 0 else 1) hi;rw[NH]at h1;have h2:listed.getD i true=true:=by grind
   simpa [cD (show i<listed.size by omega)]using h2
  |succ fuel ih=>
   intro t listed s hsz NH hJ sV;simp only[Region.linearise.go];change T (match(Region.ready .any ops listed)[t % (Region.ready .any ops listed).length]? with
    |some i=>Region.linearise.go .any ops fuel (t/(Region.ready .any ops listed).length) (listed.setIfInBounds i true) [i]
    |none=>[].reverse) s
   cases hi:(Region.ready .any ops listed)[t % (Region.ready .any ops listed).length]? with
   |none=>
    have NJ:Region.ready .any ops listed=[]:=by
     cases hr:Region.ready .any ops listed with
     |nil=>rfl
     |cons x xs=>rw[hr]at hi;have hlt:t % (x::xs).length<(x::xs).length:=Nat.mod_lt _ ae;simp at hi;simp at hlt;omega
    refine uS _ s hJ λi hi=>?_;induction i using Nat.strongRecOn with
    |ind i ihi=>
     have UR:i<listed.size:=ab
     cases hb:listed.getD i false with
     |true=>rfl
     |false=>
      have oF:i∈Region.ready .any ops listed:=by refine mem_ready.2 ⟨by simpa [cD UR]using hb,ops[i],cD hi,λe he hbd=>?_⟩;have hlt:=rU i _ (cD hi) e he hbd;exact ihi e.on hlt ab
      rw[NJ]at oF;cases oF
   |some i=>
    simp only[];rw[linearise_go_acc,List.reverse_singleton,List.singleton_append];have oF:=cB hi;obtain⟨hun,o,ho,gd⟩:=mem_ready.1 oF;have hio:i<ops.size:=(aN.1 ho).1;have UR:i<listed.size:=ab
    have h2:(λj=>(listed.setIfInBounds i true).getD j false)=upd (λj=>listed.getD j false) i true:=by funext j;by_cases jy:j=i;subst jy;rw[upd_same];simp[tO UR];rw[upd_ne _ _ jy,getD_set_ne false (Ne.symm jy)]
    refine hop _ s i o hJ sV ho (by simpa [cD UR]using hun) (λe he hb=>gd e he hb) _ λs' hJ'=>ih _ _ s' (by simpa using hsz) ?_ (by rw[h2];exact hJ') ?_;have h1:=sumTo_upd (λj=>listed.getD j true) true (λb=>if b then 0 else 1) hio;rw[hun]at h1;simp only[if_true,aK,if_false]at h1;have h2:sumTo ops.size (λj=>if(listed.setIfInBounds i true).getD j true then 0 else 1)=sumTo ops.size λj=>if upd (λj=>listed.getD j true) i true j then 0 else 1:=by refine sumTo_congr λj _=>?_;by_cases jy:j=i;subst jy;rw[upd_same];simp[tO UR];rw[upd_ne _ _ jy,getD_set_ne true (Ne.symm jy)]
    rw[h2];omega;rw[h2];intro j o' ow hj e he hb;by_cases jy:j=i;subst jy;rw[ho]at ow;cases ow;by_cases Uy:e.on=j
    grind
    rw[upd_ne _ _ Uy];exact gd e he hb
    rw[upd_ne _ _ jy]at hj;by_cases Uy:e.on=i;rw[Uy,upd_same];rw[upd_ne _ _ Uy];exact sV j o' ow hj e he hb
 refine key ops.size t (Array.replicate ops.size false) s ae ?_ ?_ ?_;have:∀n,n<=ops.size->sumTo n (λj=>if(Array.replicate ops.size false).getD j true then 0 else 1)=n:=by
  intro n;induction n with
  |zero=>intro _;rfl
  |succ n ih=>intro hn;simp only[sumTo];rw[ih ab];simp[show n<ops.size by omega]
 exact this _ (ak _);have:(λj=>(Array.replicate ops.size false).getD j false)=λ_=>false:=by funext j;simp[bF,Array.getElem?_replicate];split<;>rfl
 rw[this];exact h0;intro j o _ hj;exfalso
 revert hj
 simp[bF,Array.getElem?_replicate];split<;>simp
theorem vR(ops:Array Oper){L:Nat->Bool}(hL:Closed ops L):∀j i,((Region.before ops).getD j 0).testBit i=true->L j=true->L i=true:=by
 have key:∀(l pre:List Oper)(acc:Array Nat),ops.toList=pre++l->acc.size=pre.length->(∀j i,(acc.getD j 0).testBit i=true->L j=true->L i=true)->
   ∀j i,((l.foldl (λacc (o:Oper)=>acc.push (o.after.foldl (λs e=>if Region.binds .any e then s|||2^e.on|||acc.getD e.on 0 else s) 0)) acc).getD j 0).testBit i=true->L j=true->L i=true:=by
  intro l;induction l with
  |nil=>intro pre acc _ _ h;exact h
  |cons o l ih=>
   intro pre acc Ix hsz h;simp only[gh];refine ih (pre++[o]) _ (by rw[Ix];simp) (by simp[hsz]) λj i ht hj=>?_;have ho:ops[pre.length]? =some o:=by rw[<-kg,Ix];simp
   by_cases hjs:j<acc.size;refine h j i ?_ hj;rw[bF,Array.getElem?_push_lt hjs]at ht;rw[bF,cD hjs];exact ht;by_cases hje:j=acc.size;subst hje;rw[bF,Array.getElem?_push_size,tI]at ht;rw[hsz]at hj;have gd:=hL _ _ ho hj;have fold:∀(es:List Edge)(s:Nat),(∀e∈es,e∈o.after)->(s.testBit i=true->L i=true)->(es.foldl (λs e=>if Region.binds .any e then s|||2^e.on|||acc.getD e.on 0 else s) s).testBit i=true->L i=true:=by
    intro es;induction es with
    |nil=>intro s _ hs ht;exact hs ht
    |cons e es ihe=>grind
   rw[<-zF]at ht;exact fold o.after.toList 0 ae ae ht
   grind
 intro j i;unfold Region.before;rw[<-zF];exact key ops.toList [] #[] rfl rfl ae j i
theorem nA{ρ ρ':Operand->Option DV}:∀{l:List Operand},(∀a∈l,ρ a=ρ' a)->evs ρ l=evs ρ' l
 |[],_=>rfl
 |a::l,h=>by unfold evs;rw[h a ae,nA λb hb=>h b (by simp[hb])]
theorem vI{ρ ρ':Operand->Option DV}:∀{l:List (Nat×Operand)},(∀a∈l.map (·.2),ρ a=ρ' a)->kO ρ l=kO ρ' l
 |[],_=>rfl
 |(i,a)::l,h=>by unfold kO;rw[h a ae,vI λb hb=>h b (by simp at hb⊢;exact .inr hb)]
theorem vQ{ρ ρ':Operand->Option DV}{a:Option Operand}{d m:Nat}(h:∀b∈a.toArray,ρ b=ρ' b):iE ρ a d m=iE ρ' a d m:=by
 cases a with
 |none=>rfl
 |some b=>simp only[iE,intOf,h b ae]
theorem Ao{ρ ρ':Operand->Option DV}{o:Oper}{S:ai}{aC:Nat}(h:∀a∈o.op.operands,ρ a=ρ' a):af P ty aI call yf ρ o S aC=af P ty aI call yf ρ' o S aC:=by
 obtain⟨dst,op,type,pos,after,guard⟩:=o;cases op<;>simp only[Op.operands,Call.operands]at h<;>try rfl
 case move a=>simp only[af,h a ae]
 case assign a=>simp only[af,h a ae]
 case pick a b c=>simp only[af,h a ae,h b ae,h c ae]
 case box t a=>simp only[af,h a ae]
 case build t ps=>
  have:=vI (ρ:=ρ) (ρ':=ρ') (l:=ps.toList) λa ha=>h a (by simpa using ha);simp only[af,this]
 case buildSlice t n ps=>
  have:=vI (ρ:=ρ) (ρ':=ρ') (l:=ps.toList) λa ha=>h a (by simpa using ha);simp only[af,this]
 case makeSlice t a b=>simp only[af,intOf,h a ae,h b ae]
 case load t a=>simp only[af,h a ae]
 case store t a v=>simp only[af,h a ae,h v ae]
 case nilCheck a=>simp only[af,h a ae]
 case binOp op t a b u=>simp only[af,valOf,h a ae,h b ae]
 case unOp op t a=>simp only[af,valOf,h a ae]
 case convert s d a=>simp only[af,valOf,h a ae]
 case makeFunc fn fs cs=>
  cases fn with
  |func f=>simp only[af,nA (ρ:=ρ) (ρ':=ρ') (l:=fs.toList) λa ha=>h a (by simp at ha⊢;exact .inl ha),nA (ρ:=ρ) (ρ':=ρ') (l:=cs.toList) λa ha=>h a (by simp at ha⊢;exact .inr ha)]
  |_=>rfl
 case makeMap t r=>cases r<;>rfl
 case slice t a lo hi mx=>
  have h1:ρ a=ρ' a:=h a ae;have h2:=λd m=>vQ (ρ:=ρ) (ρ':=ρ') (a:=lo) (d:=d) (m:=m) λb hb=>h b (by simp at hb⊢;simp[hb]);have h3:=λd m=>vQ (ρ:=ρ) (ρ':=ρ') (a:=hi) (d:=d) (m:=m) λb hb=>h b (by simp at hb⊢;simp[hb]);have h4:=λd m=>vQ (ρ:=ρ) (ρ':=ρ') (a:=mx) (d:=d) (m:=m) λb hb=>h b (by simp at hb⊢;simp[hb]);simp only[af,h1,h2,h3,h4]
 case fieldAddr t a f=>simp only[af,h a ae]
 case field t a f=>simp only[af,h a ae]
 case indexAddr t a i=>simp only[af,intOf,h a ae,h i ae]
 case index t a i=>simp only[af,intOf,h a ae,h i ae]
 case lookup t a i ok=>simp only[af,valOf,h a ae,h i ae]
 case mapUpdate t m k v=>simp only[af,valOf,h m ae,h k ae,h v ae]
 case extract a i=>simp only[af,h a ae]
 case call c=>
  obtain⟨callee,args,ats⟩:=c;cases callee with
  |builtin b=>
   simp only[Array.empty_append]at h;have h1:∀a∈args.toList,ρ a=ρ' a:=λa ha=>h a (by simpa using ha);have h2:=nA h1;simp only[af];generalize args.toList=l at h1 h2;generalize ats.toList=m;cases b<;>try rfl
   grind
   grind
   grind
   grind
  |value f=>have h1:ρ f=ρ' f:=h f ae;have h2:=nA (ρ:=ρ) (ρ':=ρ') (l:=args.toList) λa ha=>h a (by simp at ha⊢;exact .inr ha);simp only[af,h1,h2]
  |invoke r m=>rfl
end Go.Di
