import Derived.Test.YtadeehilamokkaaGreatDoorPk24
import Derived.Orders
set_option maxHeartbeats 1000000
namespace Go.Di
open Go Go.Conc Go.Co
variable {P:Program} {aa:Machine->Trace->Prop} {ty:fo} {x:Cx} {aD:bR} {call:aY} {yf:di}
theorem Lz{b:Frame}{a:Act}{k:List Item}{cs:List Frame}{w w':World}{l:Nat}{jump:Option Code}(h:(Instr.endLoop l).run P w=.ok jump w'):
  ∃es,stepG P true (G (b.atR a (.endRangeFunc l::k)) cs) w=.go (G (b.atR a ((jump.map Item.code).toList++k)) cs) w' es:=by
 simp only[G,stepG,stepG.exec,Frame.atR,Sem.runT_eq,h,GStep.after];exact⟨_,rfl⟩
theorem tV(hR:Rel x){id:Nat}{r:F2}(h:x.S[id]? =some (.loop r)):∃lo,x.w.heap[x.μ id]? =some (.loop lo)/\lo.state=r.st/\lo.pending=r.jO/\lo.fn=r.fn/\fZ x r.env lo.tmps/\lo.params=r.params.toArray/\lo.assign=r.assign/\lo.body=r.body/\lo.defers=x.μ r.AW/\x.S[r.AW]? =some .defer:=by obtain⟨o,h1,h2⟩:=hR.dn id _ h rfl;cases o<;>simp only[tD]at h2;exact⟨_,h1,h2⟩
theorem Dv(hR:Rel x){id:Nat}{r:F2}(h:x.S[id]? =some (.loop r)){lo:Loop}(SZ:x.w.heap[x.μ id]? =some (.loop lo))(st:LoopState)(pd:Option Code):
  Rel (x.wA id (.loop {lo with state:=st,pending:=pd}) (.loop {r with st:=st,jO:=pd}))/\bE x (x.wA id (.loop {lo with state:=st,pending:=pd}) (.loop {r with st:=st,jO:=pd})):=by
 obtain⟨lo',h1,h2,h3,h4,h5,h6,h7,h8,h9,vE⟩:=tV hR h;rw[SZ]at h1;cases h1;have M:=As (x:=x) (o:=.loop {lo with state:=st,pending:=pd}) (b:=.loop {r with st:=st,jO:=pd}) hR h rfl ab;refine⟨Kl hR h rfl ab ⟨rfl,rfl,h4,h5.mono M,h6,h7,h8,h9,?_⟩,M⟩;show(x.S.set _ _)[_]? =_;rw[gE h,if_neg (by rintro e;rw[e,h]at vE;cases vE)];exact vE
theorem Py(S:aj):E3 S S.length:=.inl rfl
theorem Bq(S:aj)(b:DB):eE S S.length b=S++[b]:=by unfold eE;rw[if_neg U]
theorem yT(hP:Plain P)(hc:gJ P aa call){L:Nat}{fn:FuncId}{iA:Bool}{n0:Nat}{b:Frame}{cs:List Frame}(hk:b.kind≠.early)(TH:b.fn=fn)(Qp:iA=false->b.roundOf=none):
  ∀(c:Code),Ds P aa ty aD call yf c->∀{k:List Item}{env aK:cj}{S':aj}{e:DX}{a:Act}{x:Cx}{ds:cx},cD P ty aD call yf L fn iA c env x.S=some (e,aK,S')->Rel x->fZ x env a.tmps->tF n0 x ds a.defers->n0<=x.S.length->
   (∀y a' hU,y.S=S'->Rel y->bE x y->fZ y aK a'.tmps->tF n0 y hU a'.defers->Jy P aa b k cs e a' y.w)->iB P aa () (G (b.atR a (.code c::k)) cs) x.w:=by
 intro c;induction c with
 |skip=>intro _ k env aK S' e a x ds h hR he hd vC hn;simp only[cD,aF,ay]at h;obtain⟨rfl,rfl,rfl⟩:=h;exact fI hP (λw=>⟨_,Z2⟩) (hn x a ds rfl hR (bE.refl x) he hd)
 |label l=>intro _ k env aK S' e a x ds h hR he hd vC hn;simp only[cD,aF,ay]at h;obtain⟨rfl,rfl,rfl⟩:=h;exact fI hP (λw=>⟨_,WR⟩) (hn x a ds rfl hR (bE.refl x) he hd)
 |region id ops draw=>intro lH k env aK S' e a x ds h hR he hd vC hn;simp only[cD,af,ay]at h;obtain⟨⟨nw,S1⟩,h1,rfl,rfl,rfl⟩:=h;exact lH h1 hk hR he λy a' q1 q2 q3 q4 q5=>hn y a' ds q1 q2 q3 q4 (by rw[q5];exact hd.mono q3)
 |seq c1 c2 Qm SO=>intro lH k env aK S' e a x ds h hR he hd vC hn;simp only[cD]at h;refine fI hP (λw=>⟨_,adu⟩) ?_;split at h;rename_i nw S1 h1;refine Qm lH.1 h1 hR he hd vC λy a' hU q1 q2 q3 q4 q5=>?_;subst q1;exact SO lH.2 h q2 q4 q5 (bz vC q3.len) λz a'' acO r1 r2 r3 r4 r5=>hn z a'' acO r1 r2 (q3.trans r3) r4 r5;rename_i r hne;refine Qm lH.1 h hR he hd vC λy a' hU q1 q2 q3 q4 q5=>Jy.push (λ_=>rfl) ?_ (hn y a' hU q1 q2 q3 q4 q5);rintro rfl;exact hne _ _ h
 |cond o c1 c2 Qm SO=>intro lH k env aK S' e a x ds h hR he hd vC hn;simp only[cD]at h;split at h;rename_i ho;have hv:=oM (wK he _ _ ho);refine fI hP (λw=>⟨_,Ph hv⟩) ?_;rw[if_pos rfl];exact Qm lH.1 h hR he hd vC hn;rename_i ho;have hv:=oM (wK he _ _ ho);refine fI hP (λw=>⟨_,Ph hv⟩) ?_;rw[if_neg ab];exact SO lH.2 h hR he hd vC hn;cases h
 |block id c ih=>
  intro lH k env aK S' e a x ds h hR he hd vC hn;simp only[cD]at h;refine fI hP (λw=>⟨_,WS⟩) ?_;split at h;rename_i iz nw S1 h1;cases h;refine ih lH h1 hR he hd vC λy a' hU q1 q2 q3 q4 q5=>?_;have hf:=hn y a' hU q1 q2 q3 q4 q5;intro k' ox;simp only[exitTo]at ox;by_cases hid:iz=id;subst hid;simp only[yq,if_true]at ox hf;exact fI hP (λw=>⟨_,Z4 ox⟩) hf;rw[if_neg hid]at hf;have:(id==iz)=false:=by simpa usingλe=>hid e.symm
  rw[this]at ox;exact hf k' ox;rename_i r hne;refine ih lH h hR he hd vC λy a' hU q1 q2 q3 q4 q5=>?_;have hf:=hn y a' hU q1 q2 q3 q4 q5;cases e with
  |normal=>exact fI hP (λw=>⟨_,Nw⟩) hf
  |exit iz=>exact absurd h (hne _ _ _)
  |ret=>exact hf
 |loop c ih=>
  intro lH k env aK S' e a x ds h hR he hd vC hn;simp only[cD]at h;refine fI hP (λw=>⟨_,Z3⟩) ?_;have key:∀n {env:cj}{a:Act}{x:Cx}{ds:cx},nG (cD P ty aD call yf L fn iA c) n env x.S=some (e,aK,S')->Rel x->fZ x env a.tmps->tF n0 x ds a.defers->n0<=x.S.length->
    (∀y a' hU,y.S=S'->Rel y->bE x y->fZ y aK a'.tmps->tF n0 y hU a'.defers->Jy P aa b k cs e a' y.w)->iB P aa () (G (b.atR a (.code c::.inLoop c::k)) cs) x.w:=by
   intro n;induction n with
   |zero=>intro env a x ds h;simp[nG]at h
   |succ n ihn=>intro env a x ds h hR he hd vC hn;unfold nG at h;split at h;rename_i nw S1 h1;refine ih lH h1 hR he hd vC λy a' hU q1 q2 q3 q4 q5=>?_;subst q1;exact fI hP (λw=>⟨_,Ru⟩) (ihn h q2 q4 q5 (bz vC q3.len) λz a'' acO r1 r2 r3 r4 r5=>hn z a'' acO r1 r2 (q3.trans r3) r4 r5);rename_i r hne;refine ih lH h hR he hd vC λy a' hU q1 q2 q3 q4 q5=>Jy.push (λ_=>rfl) ?_ (hn y a' hU q1 q2 q3 q4 q5);rintro rfl;exact hne _ _ h
  exact key L h hR he hd vC hn
 |scope c ih=>
  intro lH k env aK S' e a x ds h hR he hd vC hn;simp only[cD]at h;refine fI hP (λw=>⟨_,WN⟩) ?_;refine ih lH h hR he hd vC λy a' hU q1 q2 q3 q4 q5=>?_;have hf:=hn y a' hU q1 q2 q3 q4 q5;cases e with
  |normal=>exact fI hP (λw=>⟨_,Nv⟩) hf
  |exit iz=>exact Jy.push (λ_=>rfl) ab hf
  |ret=>exact hf
 |exit id=>intro _ k env aK S' e a x ds h hR he hd vC hn;simp only[cD,aF,ay]at h;obtain⟨rfl,rfl,rfl⟩:=h;exact hn x a ds rfl hR (bE.refl x) he hd k rfl
 |ret=>intro _ k env aK S' e a x ds h hR he hd vC hn;simp only[cD,aF,ay]at h;obtain⟨rfl,rfl,rfl⟩:=h;exact hn x a ds rfl hR (bE.refl x) he hd k
 |goto l=>intro _ k env aK S' e a x ds h;simp[cD]at h
 |refuse why=>intro _ k env aK S' e a x ds h;simp[cD]at h
 |rangeFunc f ps nL body _ _=>
  intro _ k env aK S' e a x ds h hR he hd vC hn;simp only[cD]at h;split at h;cases h;rename_i ahp;have hro:=Qp (by simpa using ahp);split at h;rename_i g fs vs hf;have hfv:=wK he _ _ hf;generalize hv:a.eval f=vf at hfv;cases hfv with
  |@fn _ _ _ vfs vcs k1 k2 k3 k4=>
   split at h;rename_i u S1 h1;refine iG hP λn=>?_;have hRn:=hR.dr n;have Mn:=eM x n;have hp1:nN (x.w.at n) ((x.w.at n).alloc (.deferred (some []))) (.deferred (some [])):=gA _ _;have L6:=lU (x:=x.dr n) (k:=0) (F:=λ_=>False) (b:=.defer) hRn (Py x.S) hp1 ab (.inr (.inr (.inl ⟨rfl,ab,trivial⟩)));have M1:=jg (x:=x.dr n) (k:=0) (F:=λ_=>False) (b:=.defer) hRn (Py x.S) hp1;generalize L0:(x.dr n).fresh ((x.w.at n).alloc (.deferred (some []))) x.S.length 0 (λ_=>False) .defer=x1 at L6 M1;have hS1:x1.S=x.S++[.defer]:=by rw[<-L0];exact Bq x.S _
   have L4:x1.w=(x.w.at n).alloc (.deferred (some [])):=by rw[<-L0];rfl
   have hμ1:x1.μ x.S.length=x.w.heap.size:=by rw[<-L0];exact if_pos rfl
   have OB:x1.S.length=x.S.length+1:=by rw[hS1];simp
   have hp2:nN x1.w (((x.w.at n).alloc (.deferred (some []))).alloc (.loop {state:=.ready,pending:=none,fn:=b.fn,tmps:=a.tmps,params:=ps,assign:=nL,body,defers:=x.w.heap.size})) (.loop {state:=.ready,pending:=none,fn:=b.fn,tmps:=a.tmps,params:=ps,assign:=nL,body,defers:=x.w.heap.size}):=by rw[L4];exact gA _ _
   have abB:E3 x1.S (x.S.length+1):=.inl OB.symm;have M2:=jg (x:=x1) (k:=0) (F:=λ_=>False) (b:=.loop ⟨.ready,none,fn,env,ps.toList,nL,body,x.S.length⟩) L6 abB hp2;generalize G9:x1.fresh (((x.w.at n).alloc (.deferred (some []))).alloc (.loop {state:=.ready,pending:=none,fn:=b.fn,tmps:=a.tmps,params:=ps,assign:=nL,body,defers:=x.w.heap.size})) (x.S.length+1) 0 (λ_=>False) (.loop ⟨.ready,none,fn,env,ps.toList,nL,body,x.S.length⟩)=x2 at M2;have Jf:x2.S=x.S++[.defer,.loop ⟨.ready,none,fn,env,ps.toList,nL,body,x.S.length⟩]:=by rw[<-G9];show eE x1.S (x.S.length+1) _=_;rw[<-OB,Bq,hS1];simp
   have hw2:x2.w=((x.w.at n).alloc (.deferred (some []))).alloc (.loop {state:=.ready,pending:=none,fn:=b.fn,tmps:=a.tmps,params:=ps,assign:=nL,body,defers:=x.w.heap.size}):=by rw[<-G9];rfl
   have hμ2:x2.μ (x.S.length+1)=x.w.heap.size+1:=by rw[<-G9];show(if _ then x1.w.heap.size else _)=_;rw[if_pos rfl,L4];simp[World.at]
   have hμ2':x2.μ x.S.length=x.w.heap.size:=by rw[<-G9];show(if _ then _ else x1.μ x.S.length)=_;rw[if_neg U,hμ1]
   have MM:=(Mn.trans M1).trans M2;have hR2:Rel x2:=by
    have:=lU (x:=x1) (k:=0) (F:=λ_=>False) (b:=.loop ⟨.ready,none,fn,env,ps.toList,nL,body,x.S.length⟩) L6 abB hp2 ab (.inr (.inr (.inl ⟨rfl,ab,?_⟩)))
    grind
    rw[G9];refine⟨rfl,rfl,TH,he.mono MM,ab,rfl,rfl,hμ2'.symm,?_⟩;rw[Jf];simp
   have UK:tF n0 x2 (x.S.length::ds) ({target:=.collected x.w.heap.size,args:=#[]}::a.defers):=by
    obtain⟨q1,q2,q3⟩:=hd.mono MM;refine⟨by rw[bg,hμ2',q1],List.nodup_cons.2 ⟨λhm=>?_,q2⟩,λid hid=>?_⟩;have:=(aI.1 (hd.2.2 _ hm).2.1).1;omega;rcases aX.1 hid with rfl|hid;refine⟨vC,by rw[Jf];simp,?_⟩;rw[hμ2',hw2];have:((x.w.at n).alloc (.deferred (some []))).heap.size=x.w.heap.size+1:=by simp[World.at]
    rw[(gA _ _).lt U];exact(gA (x.w.at n) _).new
    grind
   have pG:fZ x2 (fs++[.nj (x.S.length+1)]++vs) (vfs++#[.func (.yield (x.w.heap.size+1)) #[] #[]]++vcs):=by
    have e1:fZ x2 fs vfs:=fZ.mono MM ⟨k1,k3⟩;have e2:fZ x2 vs vcs:=fZ.mono MM ⟨k2,k4⟩;refine lZ (lZ e1 ⟨rfl,λj c hj=>?_⟩) e2;cases j with
    |zero=>simp only[dB,aF]at hj;subst hj;show RV x2 _ (.func (.yield (x.w.heap.size+1)) #[] #[]);rw[<-hμ2];exact .nj (r:=⟨.ready,none,fn,env,ps.toList,nL,body,x.S.length⟩) (by rw[Jf];simp)
    |succ j=>simp at hj
   obtain⟨⟨sW,cd,TJ,YE⟩,ahH⟩:=hc _ _ _ _ _ h1 x2 _ hR2 Jf pG;obtain⟨es,hstep⟩:=IV (P:=P) (b:=b) (a:=a) (k:=k) (cs:=cs) (w:=x.w.at n) (g:=f) (ps:=ps) (assign:=nL) (body:=body) hk hro hv TJ YE (hP.count g sW TJ);refine⟨_,_,_,es,hstep,?_⟩;have abG:=ahH (b.atR {a with defers:={target:=.collected x.w.heap.size,args:=#[]}::a.defers} (.inRangeFunc (x.w.heap.size+1)::k)) cs λy u hp=>?_;rw[hw2]at abG;exact abG;obtain⟨hyS,hyR,hyM,-⟩:=hp;subst hyS;rw[finish_atR_inRangeFunc];have MY:=MM.trans hyM;split at h;rename_i r hr;split at h;cases h;rename_i afP;have hμy:y.μ (x.S.length+1)=x.w.heap.size+1:=by rw[(hyM.dn _ _ (show x2.S[x.S.length+1]? =some (.loop ⟨.ready,none,fn,env,ps.toList,nL,body,x.S.length⟩)by rw[Jf];simp) rfl).1,hμ2]
   obtain⟨lo,l1,l2,l3,-⟩:=tV hyR hr;rw[hμy]at l1;obtain⟨z1,z2⟩:=Dv hyR hr (by rw[hμy];exact l1) .exhausted r.jO;have hwz:(y.wA (x.S.length+1) (.loop {lo with state:=.exhausted,pending:=r.jO}) (.loop {r with st:=.exhausted,jO:=r.jO})).w=cg y.w (x.w.heap.size+1) (.loop {lo with state:=.exhausted,pending:=r.jO}):=by show cg y.w (y.μ _) _=_;rw[hμy]
   have hSz:(y.wA (x.S.length+1) (.loop {lo with state:=.exhausted,pending:=r.jO}) (.loop {r with st:=.exhausted,jO:=r.jO})).S=y.S.set (x.S.length+1) (.loop {r with st:=.exhausted}):=rfl;generalize y.wA (x.S.length+1) (.loop {lo with state:=.exhausted,pending:=r.jO}) (.loop {r with st:=.exhausted,jO:=r.jO})=z at z1 z2 hwz hSz;have MZ:=MY.trans z2;refine iG hP λn2=>?_;have afK:(Instr.endLoop (x.w.heap.size+1)).run P (y.w.at n2)=.ok r.jO (z.w.at n2):=by
    have hg:=ja (P:=P) (w:=y.w.at n2) (show(y.w.at n2).heap[x.w.heap.size+1]? =_ from l1) ab;have hs:=kA (P:=P) (w:=y.w.at n2) (o:=.loop {lo with state:=.exhausted,pending:=r.jO}) (show(y.w.at n2).heap[x.w.heap.size+1]? =_ from l1) ab;have hb:(lo.state==LoopState.busy)=false:=by rw[l2];simpa using afP
    simp only[Instr.endLoop,Instr.getLoop,Sem.run_bind,hg,Result.andThen_ok,Sem.run_pure,hb,aJ,if_false,hs,l3];rw[hwz];rfl
   obtain⟨es2,BV⟩:=Lz (P:=P) (b:=b) (a:={a with defers:={target:=.collected x.w.heap.size,args:=#[]}::a.defers}) (k:=k) (cs:=cs) afK;refine⟨_,_,_,es2,BV,JE ?_ n2⟩;have o8:=hn z {a with defers:={target:=.collected x.w.heap.size,args:=#[]}::a.defers} (x.S.length::ds);split at h;rename_i SY;simp only[aF,ay]at h;obtain⟨rfl,rfl,rfl⟩:=h;rw[SY];exact o8 hSz z1 MZ (he.mono MZ) ((UK.mono hyM).mono z2);rename_i SY;simp only[aF,ay]at h;obtain⟨rfl,rfl,rfl⟩:=h;rw[SY];exact o8 hSz z1 MZ (he.mono MZ) ((UK.mono hyM).mono z2) k;rename_i e' SY;simp only[aF,ay]at h;obtain⟨rfl,rfl,rfl⟩:=h;rw[SY];exact o8 hSz z1 MZ (he.mono MZ) ((UK.mono hyM).mono z2) k rfl;cases h;cases h;cases h
  cases h
end Go.Di
namespace Go.Di
open Go Go.Conc Go.Co
variable {P:Program} {aa:Machine->Trace->Prop} {ty:fo} {x:Cx} {aD:bR} {call:aY} {yf:di}
theorem yI(h:∀id ops draw,xX P aa ty aD call yf id ops draw):∀c,Ds P aa ty aD call yf c:=by
 intro c;induction c with
 |region id ops draw=>exact h id ops draw
 |seq a b iha ihb=>exact⟨iha,ihb⟩
 |cond o a b iha ihb=>exact⟨iha,ihb⟩
 |block id c ih=>exact ih
 |loop c ih=>exact ih
 |scope c ih=>exact ih
 |_=>trivial
def Qy(tmps:Array Value):ResultVar->Sem Value
 |.tmp t=>pure (tmps.getD t undef)
 |.cell a t=>do loadVar t (<-asAddr (tmps.getD a undef))
theorem Nq(fn:Func)(tmps:Array Value):results fn tmps=(do let vs<-fn.results.mapM (Qy tmps);pure (if h:vs.size=1 then vs[0]else .tuple vs)):=by
 have:(λ|.tmp t=>pure (tmps.getD t undef)|.cell a t=>do loadVar t (<-asAddr (tmps.getD a undef)):ResultVar->Sem Value)=Qy tmps:=by funext r;cases r<;>rfl
 rw[<-this];rfl
theorem Im(eV:jP P ty){env:cj}{tmps:Array Value}(hR:Rel x)(he:fZ x env tmps):∀{rs:List ResultVar}{l:cj},sQ ty env x.S rs=some l->
  ∃vs:List Value,(rs.mapM (Qy tmps)).run P x.w=.ok vs x.w/\fZ x l vs.toArray
 |[],l,h=>by simp only[sQ,aF]at h;subst h;exact⟨[],rfl,rfl,ab⟩
 |.tmp t::rs,l,h=>by
  simp only[sQ,af]at h;obtain⟨l',h1,rfl⟩:=h;obtain⟨vs,h2,h3,h4⟩:=Im eV hR he h1;have hv:RV x (env.getD t bD) (tmps.getD t undef):=wK (a:=⟨tmps,[]⟩) he (.tmp t) _ rfl;refine⟨tmps.getD t undef::vs,by simp only[List.mapM_cons,Qy,Sem.run_bind,Sem.run_pure,Result.andThen_ok,h2],by simpa using h3,λj c hc=>?_⟩;cases j with
  |zero=>simp only[dB,aF]at hc;subst hc;exact hv
  |succ j=>simpa [aU]using h4 j c (by simpa using hc)
 |.cell a t::rs,l,h=>by
  unfold sQ at h;split at h;rename_i d l' h0 h1;cases h;obtain⟨vs,h2,h3,h4⟩:=Im eV hR he h1;have hv:RV x (env.getD a bD) (tmps.getD a undef):=wK (a:=⟨tmps,[]⟩) he (.tmp a) _ rfl;obtain⟨v,h5,h6⟩:=KT eV hR hv h0;have hrun:(Qy tmps (.cell a t)).run P x.w=.ok v x.w:=by
   show(do loadVar t (<-asAddr (tmps.getD a undef)):Sem Value).run P x.w=_;generalize tmps.getD a undef=u at hv h5;unfold kC at h0;generalize env.getD a bD=da at hv h0;split at h0;cases hv;simpa [Instr.loadAt,Instr.sureAddr,asAddr]using h5
   cases hv;simpa [Instr.loadAt,Instr.sureAddr,asAddr]using h5
   split at h0;rename_i hop;obtain⟨hS,Hh⟩:=lC hop;cases hv with
   |fS Ci _ hA=>rw[hS]at Ci;cases Ci;rw[hA Hh]at h5⊢;simpa [Instr.loadAt,Instr.sureAddr,asAddr]using h5
   cases h0;cases h0
  refine⟨v::vs,by simp only[List.mapM_cons,Sem.run_bind,hrun,Result.andThen_ok,h2,Sem.run_pure],by simpa using h3,λj c hc=>?_⟩;cases j with
  |zero=>simp only[dB,aF]at hc;subst hc;exact h6
  |succ j=>simpa [aU]using h4 j c (by simpa using hc)
  cases h
theorem Ev(eV:jP P ty){fn:Func}{env:cj}{tmps:Array Value}(hR:Rel x)(he:fZ x env tmps){l:cj}(h:sQ ty env x.S fn.results.toList=some l):
  ∃v,(results fn tmps).run P x.w=.ok v x.w/\RV x (oneOf l) v:=by
 obtain⟨vs,h1,h2,h3⟩:=Im eV hR he h;have hm:(fn.results.mapM (Qy tmps)).run P x.w=.ok vs.toArray x.w:=by rw[Array.mapM_eq_mapM_toList];simp only[Sem.run_map,h1,Result.andThen_ok]
 refine⟨if h:vs.toArray.size=1 then vs.toArray[0]else .tuple vs.toArray,?_,?_⟩;rw[Nq];simp only[Sem.run_bind,hm,Result.andThen_ok,Sem.run_pure]
 match l,vs,h2,h3 with
 |[],[],_,_=>exact .tup rfl ab
 |[d],[v],_,h3=>exact h3 0 d rfl
 |d::e::l,v::u::vs,h2,h3=>exact .tup (by simpa using h2) h3
 |[],_::_,h2,_=>simp at h2
 |[_],[],h2,_=>simp at h2
 |[_],_::_::_,h2,_=>simp at h2
 |_::_::_,[],h2,_=>simp at h2
 |_::_::_,[_],h2,_=>simp at h2
theorem WO{b:Frame}{a:Act}{todo:List Item}{c:Frame}{cs:List Frame}{w:World}{fn:Func}{v:Value}(hn:b.kind=.normal)(hd:a.defers=[])(hf:P.funcs[b.fn]? =some fn)(hr:(results fn a.tmps).run P w=.ok v w):
  ∃es,stepG P true (G {b.at a todo with mode:=.returning} (c::cs)) w=.go (G (c.finish v) cs) w es:=by
 simp only[G,stepG,unwind,doReturn,Frame.at,hn,hd,hf,Sem.runT_eq,hr,GStep.after];exact⟨_,rfl⟩
theorem Pg{b:Frame}{a:Act}{todo:List Item}{cs:List Frame}{w w':World}{r:Nat}{ds:List Deferred}(hd:a.defers={target:=.collected r,args:=#[]}::ds)(hr:(Instr.takeDeferred r).run P w=.ok [] w'):
  ∃es,stepG P true (G {b.at a todo with mode:=.returning} cs) w=.go (G {b.at {a with defers:=ds} todo with mode:=.returning} cs) w' es:=by
 simp only[G,stepG,unwind,Frame.at,hd,Sem.runT_eq,hr,GStep.after,gm];exact⟨_,rfl⟩
theorem OX{x0:Cx}(M:bE x0 x)(hR:Rel x){id:Nat}(hid:x0.S.length<=id)(hS:x.S[id]? =some .defer):
  Rel {x with w:=cg x.w (x.μ id) (.deferred none)}/\bE x0 {x with w:=cg x.w (x.μ id) (.deferred none)}/\∀d v,RV x d v->RV {x with w:=cg x.w (x.μ id) (.deferred none)} d v:=by
 have mW:=aZ hS (show DB.defer≠.none by simp);have ahu:∀i,Live x0.S i->i≠id:=by rintro i ⟨c,hc,-⟩ rfl;have:=(aI.1 hc).1;omega
 have adR:x0.w.heap.size<=x.μ id:=by
  rcases M.live id mW with ⟨h,-⟩|h
  grind
  exact h
 have qo:∀b,b≠x.μ id->(cg x.w (x.μ id) (.deferred none)).heap[b]? =x.w.heap[b]? :=λb hb=>gB _ _ _ hb;have Md:∀b o,x.Fz b o->(cg x.w (x.μ id) (.deferred none)).cell? ⟨b,o,none⟩=x.w.cell? ⟨b,o,none⟩:=λb o h=>cell_of_block (qo b (by rintro rfl;exact hR.Vz hS rfl o h)) o;have SU:∀d v,RV x d v->RV {x with w:=cg x.w (x.μ id) (.deferred none)} d v:=by
  intro d v h;induction h with
  |val h=>exact .val h
  |agg h _ ih=>exact .agg h ih
  |tup h _ ih=>exact .tup h ih
  |sl hv _ h1 h2 h3 hsp h4 ih=>exact .sl (View.mono (x:=x) (y:={x with w:=cg x.w (x.μ id) (.deferred none)}) (λb o h=>⟨h,Md b o h⟩) hv) ih h1 h2 h3 hsp h4
  |ptr h=>exact .ptr h
  |eU hv _ ih=>exact .eU (View.mono (x:=x) (y:={x with w:=cg x.w (x.μ id) (.deferred none)}) (λb o h=>⟨h,Md b o h⟩) hv) ih
  |fn h1 h2 _ _ Qm SO=>exact .fn h1 h2 Qm SO
  |map h=>exact .map h
  |nj h=>exact .nj h
  |jl h h1 h2=>exact .jl h h1 h2
  |fS h h1 h2=>exact .fS h h1 h2
 have hne:∀i b,x.S[i]? =some b->b≠.none->i≠id->x.μ i≠x.μ id:=λi b hi hb h e=>h (hR.inj i id (aZ hi hb) mW e);obtain⟨ob,hob,-⟩:=hR.dn id _ hS rfl;refine⟨⟨λi l hl=>?_,λi e s n hl=>?_,λi b hb Ua=>?_,hR.inj,λb o h=>?_,hR.sep,hR.mQ,λi e s l z hl=>?_,hR.glob.keep λb o h=>⟨h,Md b o h⟩⟩,⟨?_,M.env,λb o h=>⟨(M.fz b o h).1,?_⟩,M.G6,λb hb hn=>?_,M.len,M.cells,λi b hb Ua=>?_,M.cQ,M.live,M.ops⟩,SU⟩;obtain⟨arr,e,h1,h2,h3⟩:=hR.cells i l hl;exact⟨arr,e,(qo _ (hne i _ hl ab (by rintro rfl;rw[hS]at hl;cases hl))).trans h1,h2,λj c hc=>SU _ _ (h3 j c hc)⟩;obtain⟨arr,h1,h2⟩:=hR.cQ i e s n hl;exact⟨arr,(qo _ (hne i _ hl ab (by rintro rfl;rw[hS]at hl;cases hl))).trans h1,h2⟩;by_cases h:i=id;subst h;rw[hS]at hb;cases hb;exact⟨_,y8 _ _ _ _ hob,trivial⟩;obtain⟨o,h1,h2⟩:=hR.dn i b hb Ua;refine⟨o,(qo _ (hne i _ hb (eT Ua) h)).trans h1,?_⟩;cases b<;>cases o<;>simp only[tD]at h2⊢<;>first|exact h2|trivial|(obtain⟨q1,q2,q3,q4,q5⟩:=h2;exact⟨q1,q2,q3,⟨q4.1,λj c hc=>SU _ _ (q4.2 j c hc)⟩,q5⟩)
 obtain⟨v,hv⟩:=hR.wo b o h;exact⟨v,(Md b o h).trans hv⟩;obtain⟨arr,h1,h2,h3,h4,h5,h6⟩:=hR.ops i e s l z hl;exact⟨arr,(qo _ (hne i _ hl ab (by rintro rfl;rw[hS]at hl;cases hl))).trans h1,h2,h3,h4,λj c hc=>⟨(h5 j c hc).1,SU _ _ (h5 j c hc).2⟩,h6⟩;show _<=(cg x.w _ _).heap.size;simp only[cg,uV];exact M.size;exact(Md b o (M.fz b o h).1).trans (M.fz b o h).2;exact(qo b U).trans (M.old b hb hn);obtain⟨q1,q2,q3⟩:=M.dn i b hb Ua;refine⟨q1,q2,λhd=>(qo _ ?_).trans (q3 hd)⟩;rw[<-q1];obtain⟨b',q4,q5⟩:=q2;exact hne i b' q4 (eT (tX q5).2) (ahu i (aZ hb (eT Ua)))
theorem KF(hP:Plain P)(eV:jP P ty){x0:Cx}{b:Frame}{todo:List Item}{c:Frame}{cs:List Frame}{fn:Func}{env:cj}{l:cj}(hb:b.kind=.normal)(hf:P.funcs[b.fn]? =some fn){Sr:aj}:
  ∀(ds:cx){a:Act}{x:Cx},x.S=Sr->Rel x->bE x0 x->fZ x env a.tmps->tF x0.S.length x ds a.defers->sQ ty env Sr fn.results.toList=some l->
   (∀y v,y.S=Sr->Rel y->bE x0 y->RV y (oneOf l) v->iB P aa () (G (c.finish v) cs) y.w)->iB P aa () (G {b.at a todo with mode:=.returning} (c::cs)) x.w
 |[],a,x,hS,hR,hM,he,hd,hr,hn=>by refine iG hP λn=>?_;have Mg:a.defers=[]:=hd.1;obtain⟨v,h1,h2⟩:=Ev (x:=x.dr n) eV (hR.dr n) (he.mono (eM x n)) (l:=l) (by show sQ ty env x.S _=_;rw[hS];exact hr);obtain⟨es,hst⟩:=WO (P:=P) (b:=b) (a:=a) (todo:=todo) (c:=c) (cs:=cs) hb Mg hf h1;exact⟨_,_,_,es,hst,hn (x.dr n) v hS (hR.dr n) (hM.trans (eM x n)) h2⟩
 |id::ds,a,x,hS,hR,hM,he,hd,hr,hn=>by
  obtain⟨q1,q2,q3⟩:=hd;obtain⟨r1,r2,r3⟩:=q3 id ab;refine iG hP λn=>?_;have jM:=hR.dr n;have hM':=hM.trans (eM x n);obtain⟨t1,t2,t3⟩:=OX (x:=x.dr n) hM' jM r1 r2;have hg:=ja (P:=P) (w:=x.w.at n) (show(x.w.at n).heap[x.μ id]? =_ from r3) ab;have hs:=kA (P:=P) (w:=x.w.at n) (o:=.deferred none) (show(x.w.at n).heap[x.μ id]? =_ from r3) ab;have OA:(Instr.takeDeferred (x.μ id)).run P (x.w.at n)=.ok [] (cg (x.w.at n) (x.μ id) (.deferred none)):=by simp only[Instr.takeDeferred,Sem.run_bind,hg,Result.andThen_ok,hs,Sem.run_pure]
  obtain⟨es,hst⟩:=Pg (P:=P) (b:=b) (a:=a) (todo:=todo) (cs:=c::cs) (ds:=ds.map λid=>{target:=.collected (x.μ id),args:=#[]}) (by rw[q1];rfl) OA;refine⟨_,_,_,es,hst,?_⟩;have CN:=List.nodup_cons.1 q2;exact KF hP eV hb hf ds (x:={x.dr n with w:=cg (x.w.at n) (x.μ id) (.deferred none)}) (a:={a with defers:=ds.map λid=>{target:=.collected (x.μ id),args:=#[]}}) hS t1 t2 ⟨he.1,λj c hc=>t3 _ _ (RV.mono (eM x n) (he.2 j c hc))⟩
   ⟨rfl,CN.2,λi hi=>by obtain⟨u1,u2,u3⟩:=q3 i (by simp[hi]);have hne:x.μ i≠x.μ id:=λe=>CN.1 (hR.inj i id (aZ u2 ab) (aZ r2 ab) e▸hi);exact⟨u1,u2,(gB _ _ _ hne).trans u3⟩⟩ hr hn
theorem XU(hP:Plain P)(eV:jP P ty)(hc:gJ P aa call)(lH:∀id ops draw,xX P aa ty aD call yf id ops draw){L:Nat}{f:FuncId}{fn:Func}(hf:P.funcs[f]? =some fn){args:cj}{S S':aj}{v:DV}(h:vP P ty aD call yf L f fn args S=some (v,S'))
  {vals:Array Value} (hR:Rel x) (hS:x.S=S) (ha:fZ x args vals):eR P aa x f vals λy u=>y.S=S'/\Rel y/\bE x y/\RV y v u:=by
 subst hS;unfold vP at h;split at h;rename_i c hb;refine⟨⟨fn,c,hf,hb⟩,λfr cs hn=>?_⟩;rw[enter_at vals hf hb,<-Frame.atR_of_none (b:=base f) rfl];have he:fZ x (args++List.replicate (fn.ntmps-args.length) bD) (vals++Array.replicate (fn.ntmps-vals.size) undef):=by
  refine lZ ha ⟨by simp[ha.1],λj c hc=>?_⟩;rw[CL]at hc;split at hc;rename_i hj;cases hc;have:j<fn.ntmps-vals.size:=by rw[ha.1];exact hj
  have e:(Array.replicate (fn.ntmps-vals.size) undef).getD j undef=undef:=by simp[aU,this]
  rw[e];exact .val rfl;cases hc
 have key:∀e aK S1,cD P ty aD call yf L f false c (args++List.replicate (fn.ntmps-args.length) bD) x.S=some (e,aK,S1)->(e=.normal\/e=.ret)->(sQ ty aK S1 fn.results.toList).map (λl=>(oneOf l,S1))=some (v,S')->
   iB P aa () (G ((base f).atR {tmps:=vals++Array.replicate (fn.ntmps-vals.size) undef,defers:=[]} [.code c]) (fr::cs)) x.w:=by
  intro e aK S1 h1 he1 h2;simp only[af,ay]at h2;obtain⟨l,h3,rfl,rfl⟩:=h2;refine yT (n0:=x.S.length) (ds:=[]) (b:=base f) (cs:=fr::cs) (iA:=false) hP hc (by simp[base]) rfl (λ_=>rfl) c (yI lH c) h1 hR he (AG _ _) (ai _) λy a' hU q1 q2 q3 q4 q5=>?_;have kz:∀todo,iB P aa () (G {(base f).at a' todo with mode:=.returning} (fr::cs)) y.w:=λtodo=>
   KF hP eV (x0:=x) (b:=base f) (env:=aK) (l:=l) (Sr:=S1) rfl hf hU q1 q2 q3 q4 q5 h3 λz u r1 r2 r3 r4=>hn z u ⟨r1,r2,r3,r4⟩
  rcases he1 with rfl|rfl;show iB P aa () (G ((base f).atR a' []) (fr::cs)) y.w;rw[Frame.atR_of_none (b:=base f) rfl];exact fI hP (λw=>⟨_,stepG_end⟩) (kz _);intro k';rw[Frame.atR_of_none (b:=base f) rfl];exact fI hP (λw=>⟨_,stepG_ret'⟩) (kz _)
 split at h
 grind
 grind
 cases h;cases h
theorem O1:∀{ts:List Tmp}{ds:cj}{vs:List Value}{env:cj}{tmps:Array Value},fZ x env tmps->vs.length=ds.length->(∀(j:Nat)(c:DV),ds[j]? =some c->RV x c (vs.getD j undef))->
  fZ x (sF env (ts.zip ds)) ((ts.zip vs).foldl (λtmps (p:Tmp×Value)=>tmps.setIfInBounds p.1 p.2) tmps)
 |[],ds,vs,env,tmps,h,_,_=>by simpa [sF]using h
 |t::ts,[],[],env,tmps,h,_,_=>by simpa [sF]using h
 |t::ts,[],_::_,env,tmps,h,hl,_=>by simp at hl
 |t::ts,_::_,[],env,tmps,h,hl,_=>by simp at hl
 |t::ts,d::ds,v::vs,env,tmps,h,hl,hv=>by simp only[List.zip_cons_cons,sF,nX];exact O1 (O2 h (by simpa using hv 0 d rfl)) (by simpa using hl) λj c hc=>by simpa using hv (j+1) c (by simpa using hc)
theorem WU{b:Frame}{a:Act}{k:List Item}{cs:List Frame}{w w':World}{l:Nat}(hk:b.kind≠.early)(hr:b.roundOf=some l)(h:(Instr.beginRound l).run P w=.ok () w'):
  ∃es,stepG P true (G (b.atR a (.beginRound::k)) cs) w=.go (G (b.atR a k) cs) w' es:=by
 have ox:(b.kind==CallKind.early)=false:=by simpa using hk
 simp only[G,stepG,stepG.exec,Frame.atR,hr,stepG.apply,Option.elim_some,if_true,Sem.runT_eq,Sem.run_bind,h,Result.andThen_ok,Sem.run_pure,ox,GStep.after,Frame.finish];exact⟨_,rfl⟩
theorem IU{b:Frame}{a:Act}{c:Frame}{cs:List Frame}{w w':World}{l:Nat}{v:Value}(hn:b.kind=.normal)(hr:b.roundOf=some l)(h:(Instr.endRound l none).run P w=.ok v w'):
  ∃es,stepG P true (G (b.atR a []) (c::cs)) w=.go (G (c.finish v) cs) w' es:=by
 simp only[G,stepG,stepG.exec,Frame.atR,hr,Sem.runT_eq,h,GStep.after,doReturn,hn];exact⟨_,rfl⟩
theorem IQ{b:Frame}{a:Act}{k:List Item}{c:Frame}{cs:List Frame}{w w':World}{l:Nat}{v:Value}(hn:b.kind=.normal)(hr:b.roundOf=some l)(h:(Instr.endRound l (some .ret)).run P w=.ok v w'):
  ∃es,stepG P true (G (b.atR a (.code .ret::k)) (c::cs)) w=.go (G (c.finish v) cs) w' es:=by
 simp only[G,stepG,stepG.exec,Frame.atR,hr,Sem.runT_eq,h,GStep.after,doReturn,hn];exact⟨_,rfl⟩
theorem Ft{b:Frame}{a:Act}{k:List Item}{c:Frame}{cs:List Frame}{w w':World}{l id:Nat}{v:Value}(hn:b.kind=.normal)(hr:b.roundOf=some l)(he:exitTo id k=none)(h:(Instr.endRound l (some (.exit id))).run P w=.ok v w'):
  ∃es,stepG P true (G (b.atR a (.code (.exit id)::k)) (c::cs)) w=.go (G (c.finish v) cs) w' es:=by
 simp only[G,stepG,stepG.exec,Frame.atR,hr,he,Option.elim_none,Sem.runT_eq,h,GStep.after,doReturn,hn];exact⟨_,rfl⟩
theorem Rf(hP:Plain P)(hc:gJ P aa call)(lH:∀id ops draw,xX P aa ty aD call yf id ops draw){L:Nat}:Bh P aa (tJ P ty aD call yf L):=by
 intro id args S v S' h x vals hR hS ha;subst hS;unfold tJ at h;split at h;rename_i r hr;split at h;rename_i hlen;obtain⟨lo,l1,l2,l3,l4,l5,l6,l7,l8,-⟩:=tV hR hr;refine⟨lo,l1,by rw[l6];simpa [ha.1]using hlen,λfr cs hn=>?_⟩;have CQ:∀tmps,Frame.round (x.μ id) lo.fn tmps lo.assign lo.body .normal=({(default:Frame)with fn:=r.fn,kind:=.normal,roundOf:=some (x.μ id)}:Frame).atR {tmps:=tmps,defers:=[]} [.code r.assign,.beginRound,.code r.body]:=by intro tmps;simp[Frame.round,Frame.atR,l4,l7,l8]
 rw[CQ];generalize hB:({(default:Frame)with fn:=r.fn,kind:=.normal,roundOf:=some (x.μ id)}:Frame)=B;have Qt:B.kind=.normal:=by rw[<-hB]
 have hBf:B.fn=r.fn:=by rw[<-hB]
 have hBr:B.roundOf=some (x.μ id):=by rw[<-hB]
 have hBe:B.kind≠.early:=by rw[Qt];simp
 have he:fZ x (sF r.env (r.params.zip args)) ((lo.params.zip vals).foldl (λtmps (t,a)=>tmps.setIfInBounds t a) lo.tmps):=by
  have:=O1 (ts:=r.params) (ds:=args) (vs:=vals.toList) l5 (by simpa using ha.1) λj c hc=>by simpa [aU,aP]using ha.2 j c hc
  rw[l6,<-yt];simpa using this
 split at h;rename_i acM S1 h1;split at h;rename_i r1 zn;split at h;rename_i hst;split at h;rename_i e aiT S2 h2;split at h;rename_i r2 Jm;refine yT (n0:=0) (ds:=[]) (b:=B) (cs:=fr::cs) (iA:=true) hP hc hBe hBf ab r.assign (yI lH _) h1 hR he (AG _ _) (gU _) λy a1 ds1 q1 q2 q3 q4 q5=>?_;subst q1;obtain⟨lo1,m1,m2,m3,-⟩:=tV q2 zn;have hμy:y.μ id=x.μ id:=(q3.dn id _ hr rfl).1;refine iG hP λn=>?_;obtain⟨z1,z2⟩:=Dv (q2.dr n) (id:=id) zn (lo:=lo1) m1 .busy r1.jO;have ahw:({lo1 with state:=.busy,pending:=r1.jO}:Loop)={lo1 with state:=.busy}:=by rw[<-m3]
 rw[ahw]at z1 z2;have ahQ:(Instr.beginRound (x.μ id)).run P (y.w.at n)=.ok () (cg (y.w.at n) (x.μ id) (.loop {lo1 with state:=.busy})):=by
  have hg:=ja (P:=P) (w:=y.w.at n) (show(y.w.at n).heap[x.μ id]? =_ from(by rw[<-hμy];exact m1)) ab;have hs:=kA (P:=P) (w:=y.w.at n) (o:=.loop {lo1 with state:=.busy}) (show(y.w.at n).heap[x.μ id]? =_ from(by rw[<-hμy];exact m1)) ab;have Qp:lo1.state=.ready:=by rw[m2];exact hst
  simp only[Instr.beginRound,Instr.getLoop,Sem.run_bind,hg,Result.andThen_ok,Sem.run_pure,hs,Qp]
 obtain⟨es,hstep⟩:=WU (P:=P) (a:=a1) (k:=[.code r.body]) (cs:=fr::cs) hBe hBr ahQ;refine⟨_,_,_,es,hstep,?_⟩;generalize hz:(y.dr n).wA id (.loop {lo1 with state:=.busy}) (.loop {r1 with st:=.busy,jO:=r1.jO})=z at z1 z2;have hzS:z.S=y.S.set id (.loop {r1 with st:=.busy}):=by rw[<-hz];rfl
 have hzw:z.w=cg (y.w.at n) (x.μ id) (.loop {lo1 with state:=.busy}):=by rw[<-hz];show cg (y.w.at n) (y.μ id) _=_;rw[hμy]
 rw[<-hzw];have MYZ:=(eM y n).trans z2;rw[<-hzS]at h2;refine yT (n0:=0) (ds:=ds1) (b:=B) (cs:=fr::cs) (k:=[]) (iA:=true) hP hc hBe hBf ab r.body (yI lH _) h2 z1 (q4.mono MYZ) (q5.mono MYZ) (gU _) λu a2 ds2 p1 p2 p3 p4 p5=>?_;subst p1;obtain⟨lo2,n1,-⟩:=tV p2 Jm;have hμu:u.μ id=x.μ id:=by have:=(p3.dn id _ (show z.S[id]? =some (.loop {r1 with st:=.busy})by rw[hzS,gE zn,if_pos rfl]) rfl).1;rw[this,<-hz];exact hμy
 have MXU:=(q3.trans MYZ).trans p3;have fin:∀st pd,∀n2,(Instr.endRound (x.μ id) pd).run P (u.w.at n2)=.ok (.bool pd.isNone) (cg (u.w.at n2) (x.μ id) (.loop {lo2 with state:=if pd.isNone then .ready else .done,pending:=pd}))->st=(if pd.isNone then LoopState.ready else .done)->S'=u.S.set id (.loop {r2 with st:=st,jO:=pd})->v=.val (.bool pd.isNone)->
   iB P aa () (G (fr.finish (.bool pd.isNone)) cs) (cg (u.w.at n2) (x.μ id) (.loop {lo2 with state:=if pd.isNone then .ready else .done,pending:=pd})):=by
  intro st pd n2 _ Y1 Ci hv;obtain⟨y1,y2⟩:=Dv (p2.dr n2) (id:=id) Jm (lo:=lo2) n1 st pd;have:=hn ((u.dr n2).wA id (.loop {lo2 with state:=st,pending:=pd}) (.loop {r2 with st:=st,jO:=pd})) (.bool pd.isNone) ⟨Ci.symm,y1,(MXU.trans (eM u n2)).trans y2,by rw[hv];exact .val rfl⟩;have e:((u.dr n2).wA id (.loop {lo2 with state:=st,pending:=pd}) (.loop {r2 with st:=st,jO:=pd})).w=cg (u.w.at n2) (x.μ id) (.loop {lo2 with state:=if pd.isNone then .ready else .done,pending:=pd}):=by show cg (u.w.at n2) (u.μ id) _=_;rw[hμu,Y1]
  rw[e]at this;exact this
 have s9:∀pd n2,(Instr.endRound (x.μ id) pd).run P (u.w.at n2)=.ok (.bool pd.isNone) (cg (u.w.at n2) (x.μ id) (.loop {lo2 with state:=if pd.isNone then .ready else .done,pending:=pd})):=by intro pd n2;have hg:=ja (P:=P) (w:=u.w.at n2) (show(u.w.at n2).heap[x.μ id]? =_ from(by rw[<-hμu];exact n1)) ab;have hs:=λo=>kA (P:=P) (w:=u.w.at n2) (o:=o) (show(u.w.at n2).heap[x.μ id]? =_ from(by rw[<-hμu];exact n1)) ab;simp only[Instr.endRound,Instr.getLoop,Sem.run_bind,hg,Result.andThen_ok,Sem.run_pure,hs]
 cases e with
 |normal=>simp only[aF,ay]at h;refine iG hP λn2=>?_;obtain⟨es2,BV⟩:=IU (P:=P) (a:=a2) (c:=fr) (cs:=cs) Qt hBr (s9 none n2);exact⟨_,_,_,es2,BV,fin .ready none n2 (s9 none n2) rfl h.2.symm h.1.symm⟩
 |ret=>simp only[aF,ay]at h;intro k';refine iG hP λn2=>?_;obtain⟨es2,BV⟩:=IQ (P:=P) (a:=a2) (k:=k') (c:=fr) (cs:=cs) Qt hBr (s9 (some .ret) n2);exact⟨_,_,_,es2,BV,fin .done (some .ret) n2 (s9 (some .ret) n2) rfl h.2.symm h.1.symm⟩
 |exit i=>simp only[aF,ay]at h;intro k' ox;refine iG hP λn2=>?_;obtain⟨es2,BV⟩:=Ft (P:=P) (a:=a2) (k:=k') (c:=fr) (cs:=cs) Qt hBr ox (s9 (some (.exit i)) n2);exact⟨_,_,_,es2,BV,fin .done (some (.exit i)) n2 (s9 (some (.exit i)) n2) rfl h.2.symm h.1.symm⟩
 cases h;cases h;cases h;cases h;cases h;cases h;cases h
end Go.Di
namespace Go.Di
open Go Go.Conc Go.Co
open Go.ConcN (sumTo sumTo_upd sumTo_congr le_sumTo upd upd_same upd_ne)
variable {P:Program} {aa:Machine->Trace->Prop} {ty:fo} {x:Cx} {aD:bR} {call:aY} {yf:di}
def Closed(ops:Array Oper)(L:Nat->Bool):Prop:=∀j o,ops[j]? =some o->L j=true->∀e∈o.after,Region.binds .any e=true->L e.on=true
theorem vX{ops:Array Oper}(qx:∀i o,ops[i]? =some o->∀e∈o.after,Region.binds .any e=true->e.on<i){σ:Type}(T:cx->σ->Prop)(J:(Nat->Bool)->σ->Prop)
  (hop:∀L s i o,J L s->Closed ops L->ops[i]? =some o->L i=false->(∀e∈o.after,Region.binds .any e=true->L e.on=true)->∀rest,(∀s',J (upd L i true) s'->T rest s')->T (i::rest) s)
  (s9:∀L s,J L s->(∀i,i<ops.size->L i=true)->T [] s) (t:Nat) (s:σ) (h0:J (λ_=>false) s):T (Region.linearise .any ops t) s:=by
 have key:∀(fuel t:Nat)(listed:Array Bool)(s:σ),listed.size=ops.size->sumTo ops.size (λj=>if listed.getD j true then 0 else 1)=fuel->J (λj=>listed.getD j false) s->Closed ops (λj=>listed.getD j false)->T (Region.linearise.go .any ops fuel t listed []) s:=by
  intro fuel;induction fuel with
  |zero=>
   intro t listed s hsz Ms hJ _;refine s9 _ s hJ λi hi=>?_;have h1:=le_sumTo (f:=λj=>if listed.getD j true then 0 else 1) hi;rw[Ms]at h1;have h2:listed.getD i true=true:=by grind
   simpa [bX (show i<listed.size by omega)]using h2
  |succ fuel ih=>
   intro t listed s hsz Ms hJ o6;simp only[Region.linearise.go];change T (match(Region.ready .any ops listed)[t % (Region.ready .any ops listed).length]? with
    |some i=>Region.linearise.go .any ops fuel (t/(Region.ready .any ops listed).length) (listed.setIfInBounds i true) [i]
    |none=>[].reverse) s
   cases hi:(Region.ready .any ops listed)[t % (Region.ready .any ops listed).length]? with
   |none=>
    have Mu:Region.ready .any ops listed=[]:=by
     cases hr:Region.ready .any ops listed with
     |nil=>rfl
     |cons x xs=>rw[hr]at hi;have hlt:t % (x::xs).length<(x::xs).length:=Nat.mod_lt _ ab;simp at hi;simp at hlt;omega
    refine s9 _ s hJ λi hi=>?_;induction i using Nat.strongRecOn with
    |ind i ihi=>
     have TF:i<listed.size:=U
     cases hb:listed.getD i false with
     |true=>rfl
     |false=>
      have kR:i∈Region.ready .any ops listed:=by refine mem_ready.2 ⟨by simpa [bX TF]using hb,ops[i],bX hi,λe he hbd=>?_⟩;have hlt:=qx i _ (bX hi) e he hbd;exact ihi e.on hlt U
      rw[Mu]at kR;cases kR
   |some i=>
    simp only[];rw[linearise_go_acc,List.reverse_singleton,List.singleton_append];have kR:=bV hi;obtain⟨hun,o,ho,dQ⟩:=mem_ready.1 kR;have hio:i<ops.size:=(aG.1 ho).1;have TF:i<listed.size:=U
    have h2:(λj=>(listed.setIfInBounds i true).getD j false)=upd (λj=>listed.getD j false) i true:=by funext j;by_cases iM:j=i;subst iM;rw[upd_same];simp[rT TF];rw[upd_ne _ _ iM,getD_set_ne false (Ne.symm iM)]
    refine hop _ s i o hJ o6 ho (by simpa [bX TF]using hun) (λe he hb=>dQ e he hb) _ λs' hJ'=>ih _ _ s' (by simpa using hsz) ?_ (by rw[h2];exact hJ') ?_;have h1:=sumTo_upd (λj=>listed.getD j true) true (λb=>if b then 0 else 1) hio;rw[hun]at h1;simp only[if_true,aJ,if_false]at h1;have h2:sumTo ops.size (λj=>if(listed.setIfInBounds i true).getD j true then 0 else 1)=sumTo ops.size λj=>if upd (λj=>listed.getD j true) i true j then 0 else 1:=by refine sumTo_congr λj _=>?_;by_cases iM:j=i;subst iM;rw[upd_same];simp[rT TF];rw[upd_ne _ _ iM,getD_set_ne true (Ne.symm iM)]
    rw[h2];omega;rw[h2];intro j o' nt hj e he hb;by_cases iM:j=i;subst iM;rw[ho]at nt;cases nt;by_cases S7:e.on=j
    grind
    rw[upd_ne _ _ S7];exact dQ e he hb
    rw[upd_ne _ _ iM]at hj;by_cases S7:e.on=i;rw[S7,upd_same];rw[upd_ne _ _ S7];exact o6 j o' nt hj e he hb
 refine key ops.size t (Array.replicate ops.size false) s ab ?_ ?_ ?_;have:∀n,n<=ops.size->sumTo n (λj=>if(Array.replicate ops.size false).getD j true then 0 else 1)=n:=by
  intro n;induction n with
  |zero=>intro _;rfl
  |succ n ih=>intro hn;simp only[sumTo];rw[ih U];simp[show n<ops.size by omega]
 exact this _ (ai _);have:(λj=>(Array.replicate ops.size false).getD j false)=λ_=>false:=by funext j;simp[aU,Array.getElem?_replicate];split<;>rfl
 rw[this];exact h0;intro j o _ hj;exfalso
 revert hj
 simp[aU,Array.getElem?_replicate];split<;>simp
theorem uv(ops:Array Oper){L:Nat->Bool}(hL:Closed ops L):∀j i,((Region.before ops).getD j 0).testBit i=true->L j=true->L i=true:=by
 have key:∀(l pre:List Oper)(acc:Array Nat),ops.toList=pre++l->acc.size=pre.length->(∀j i,(acc.getD j 0).testBit i=true->L j=true->L i=true)->
   ∀j i,((l.foldl (λacc (o:Oper)=>acc.push (o.after.foldl (λs e=>if Region.binds .any e then s|||2^e.on|||acc.getD e.on 0 else s) 0)) acc).getD j 0).testBit i=true->L j=true->L i=true:=by
  intro l;induction l with
  |nil=>intro pre acc _ _ h;exact h
  |cons o l ih=>
   intro pre acc HB hsz h;simp only[nX];refine ih (pre++[o]) _ (by rw[HB];simp) (by simp[hsz]) λj i ht hj=>?_;have ho:ops[pre.length]? =some o:=by rw[<-jx,HB];simp
   by_cases hjs:j<acc.size;refine h j i ?_ hj;rw[aU,Array.getElem?_push_lt hjs]at ht;rw[aU,bX hjs];exact ht;by_cases hje:j=acc.size;subst hje;rw[aU,Array.getElem?_push_size,rO]at ht;rw[hsz]at hj;have dQ:=hL _ _ ho hj;have fold:∀(es:List Edge)(s:Nat),(∀e∈es,e∈o.after)->(s.testBit i=true->L i=true)->(es.foldl (λs e=>if Region.binds .any e then s|||2^e.on|||acc.getD e.on 0 else s) s).testBit i=true->L i=true:=by
    intro es;induction es with
    |nil=>intro s _ hs ht;exact hs ht
    |cons e es ihe=>grind
   rw[<-yt]at ht;exact fold o.after.toList 0 ab ab ht
   grind
 intro j i;unfold Region.before;rw[<-yt];exact key ops.toList [] #[] rfl rfl ab j i
theorem lY{ρ ρ':Operand->Option DV}:∀{l:List Operand},(∀a∈l,ρ a=ρ' a)->evs ρ l=evs ρ' l
 |[],_=>rfl
 |a::l,h=>by unfold evs;rw[h a ab,lY λb hb=>h b (by simp[hb])]
theorem ue{ρ ρ':Operand->Option DV}:∀{l:List (Nat×Operand)},(∀a∈l.map (·.2),ρ a=ρ' a)->jR ρ l=jR ρ' l
 |[],_=>rfl
 |(i,a)::l,h=>by unfold jR;rw[h a ab,ue λb hb=>h b (by simp at hb⊢;exact .inr hb)]
theorem uu{ρ ρ':Operand->Option DV}{a:Option Operand}{d m:Nat}(h:∀b∈a.toArray,ρ b=ρ' b):gI ρ a d m=gI ρ' a d m:=by
 cases a with
 |none=>rfl
 |some b=>simp only[gI,intOf,h b ab]
theorem Bp{ρ ρ':Operand->Option DV}{a:Option Operand}(h:∀b∈a.toArray,ρ b=ρ' b):AZ ρ a=AZ ρ' a:=by
 cases a with
 |none=>rfl
 |some b=>simp only[AZ,valOf,h b ab]
theorem y7{ρ ρ':Operand->Option DV}{o:Oper}{S:aj}{aB:Nat}(h:∀a∈o.op.operands,ρ a=ρ' a):ah P ty aD call yf ρ o S aB=ah P ty aD call yf ρ' o S aB:=by
 obtain⟨dst,op,type,pos,after,guard⟩:=o;cases op<;>simp only[Op.operands,Call.operands]at h<;>try rfl
 case move a=>simp only[ah,h a ab]
 case assign a=>simp only[ah,h a ab]
 case pick a b c=>simp only[ah,h a ab,h b ab,h c ab]
 case box t a=>simp only[ah,h a ab]
 case build t ps=>
  have:=ue (ρ:=ρ) (ρ':=ρ') (l:=ps.toList) λa ha=>h a (by simpa using ha);simp only[ah,this]
 case buildSlice t n ps=>
  have:=ue (ρ:=ρ) (ρ':=ρ') (l:=ps.toList) λa ha=>h a (by simpa using ha);simp only[ah,this]
 case makeSlice t a b=>simp only[ah,intOf,h a ab,h b ab]
 case load t a=>simp only[ah,h a ab]
 case store t a v=>simp only[ah,h a ab,h v ab]
 case nilCheck a=>simp only[ah,h a ab]
 case binOp op t a b u=>simp only[ah,valOf,h a ab,h b ab]
 case unOp op t a=>simp only[ah,valOf,h a ab]
 case convert s d a=>
  have e:valOf ρ a=valOf ρ' a:=by simp only[valOf,h a ab]
  simp only[ah,e]
 case makeInterface t a=>
  have e:valOf ρ a=valOf ρ' a:=by simp only[valOf,h a ab]
  simp only[ah,e]
 case makeFunc fn fs cs=>
  cases fn with
  |func f=>simp only[ah,lY (ρ:=ρ) (ρ':=ρ') (l:=fs.toList) λa ha=>h a (by simp at ha⊢;exact .inl ha),lY (ρ:=ρ) (ρ':=ρ') (l:=cs.toList) λa ha=>h a (by simp at ha⊢;exact .inr ha)]
  |_=>rfl
 case makeMap t r=>cases r<;>rfl
 case slice t a lo hi mx=>
  have h1:ρ a=ρ' a:=h a ab;have h2:=λd m=>uu (ρ:=ρ) (ρ':=ρ') (a:=lo) (d:=d) (m:=m) λb hb=>h b (by simp at hb⊢;simp[hb]);have h3:=λd m=>uu (ρ:=ρ) (ρ':=ρ') (a:=hi) (d:=d) (m:=m) λb hb=>h b (by simp at hb⊢;simp[hb]);have h4:=λd m=>uu (ρ:=ρ) (ρ':=ρ') (a:=mx) (d:=d) (m:=m) λb hb=>h b (by simp at hb⊢;simp[hb]);have h5:=Bp (ρ:=ρ) (ρ':=ρ') (a:=lo) λb hb=>h b (by simp at hb⊢;simp[hb]);have h6:=Bp (ρ:=ρ) (ρ':=ρ') (a:=hi) λb hb=>h b (by simp at hb⊢;simp[hb]);simp only[ah,h1,h2,h3,h4,h5,h6]
 case fieldAddr t a f=>simp only[ah,h a ab]
 case field t a f=>simp only[ah,h a ab]
 case indexAddr t a i=>simp only[ah,intOf,h a ab,h i ab]
 case index t a i=>
  have e:valOf ρ i=valOf ρ' i:=by simp only[valOf,h i ab]
  simp only[ah,intOf,e,h a ab,h i ab]
 case lookup t a i ok=>simp only[ah,valOf,h a ab,h i ab]
 case mapUpdate t m k v=>simp only[ah,valOf,h m ab,h k ab,h v ab]
 case extract a i=>simp only[ah,h a ab]
 case call c=>
  obtain⟨callee,args,ats⟩:=c;cases callee with
  |builtin b=>
   simp only[Array.empty_append]at h;have h1:∀a∈args.toList,ρ a=ρ' a:=λa ha=>h a (by simpa using ha);have h2:=lY h1;simp only[ah];generalize args.toList=l at h1 h2;generalize ats.toList=m;cases b<;>try rfl
   grind
   grind
   grind
   grind
  |value f=>have h1:ρ f=ρ' f:=h f ab;have h2:=lY (ρ:=ρ) (ρ':=ρ') (l:=args.toList) λa ha=>h a (by simp at ha⊢;exact .inr ha);simp only[ah,h1,h2]
  |invoke r m=>rfl
end Go.Di
