import Derived.Test.YtadeehilamokkaaGreatDoorPk25
namespace Go.Di
open Go Go.Conc Go.Co
open Go.ConcN (sumTo sumTo_upd sumTo_congr le_sumTo upd upd_same upd_ne)
variable {P:Program} {aa:Machine->Trace->Prop} {ty:fo} {x:Cx} {aD:bR} {call:aY} {yf:di}
def JV(ops:Array Oper):Prop:=∀i o,ops[i]? =some o->∀e∈o.after,Region.binds .any e=true->e.on<i
theorem GZ{ops:Array Oper}(qx:JV ops){i j:Nat}(hne:i≠j)(h:((Region.before ops).getD j 0).testBit i=true):i<j:=by
 have o6:Closed ops λk=>decide (k<=j):=by intro k o ho hk e he hb;have:=qx k o ho e he hb;simp only[bP]at hk⊢;omega
 have:=uv ops o6 j i h ab;simp only[bP]at this;omega
theorem Po{ops:Array Oper}(qx:JV ops){L:Nat->Bool}(hL:Closed ops L){i j:Nat}{o:Oper}(ho:ops[i]? =some o)(hi:L i=false)(vz:∀e∈o.after,Region.binds .any e=true->L e.on=true)(hne:i≠j)
  (h:((Region.before ops).getD j 0).testBit i=true\/((Region.before ops).getD i 0).testBit j=true):L j=true↔j<i:=by
 rcases h with h|h;have h1:=GZ qx hne h;refine⟨λhj=>?_,λhj=>U⟩;have:=uv ops hL j i h hj;rw[hi]at this;cases this;have h1:=GZ qx (Ne.symm hne) h;refine⟨λ_=>h1,λ_=>?_⟩;have o6:Closed ops (upd L i true):=by
  intro k o' nt hk e he hb;by_cases S6:k=i;subst S6;rw[ho]at nt;cases nt;by_cases S7:e.on=k
  grind
  rw[upd_ne _ _ S7];exact vz e he hb
  rw[upd_ne _ _ S6]at hk;by_cases S7:e.on=i;rw[S7,upd_same];rw[upd_ne _ _ S7];exact hL k o' nt hk e he hb
 have:=uv ops o6 i j h (upd_same _ _ _)
 rwa [upd_ne _ _ (Ne.symm hne)]at this
def pH(ops:Array Oper)(j:Nat)(t:Tmp):Bool:=match ops[j]? with
 |some o=>o.dst==some t
 |none=>false
def mS(ops:Array Oper)(V:Nat->DV)(L:Nat->Bool)(t:Tmp):Nat->Option DV
 |0=>none
 |n+1=>if L n&&pH ops n t then some (V n)else mS ops V L t n
theorem kM{ops:Array Oper}{V:Nat->DV}{L:Nat->Bool}{t:Tmp}{i:Nat}:∀{n:Nat},i<=n->(∀j,j<n->pH ops j t=true->(L j=true↔j<i))->mS ops V L t n=mS ops V (λ_=>true) t i
 |0,h,_=>by
  have:i=0:=U
  subst this;rfl
 |n+1,h,hj=>by
  by_cases mo:i=n+1;subst mo;unfold mS;by_cases hd:pH ops n t=true
  grind
  simp only[aC,hd,and_false,if_false,aJ];exact kM (ai _) λj h1 h2=>⟨λ_=>h1,λ_=>(hj j (pW h1) h2).2 (pW h1)⟩;have hle:i<=n:=U
  rw[<-kM hle λj h1 h2=>hj j U h2]
  conv=>lhs;unfold mS
  by_cases hd:pH ops n t=true
  grind
  simp[hd]
theorem BA{ops:Array Oper}{V:Nat->DV}{L:Nat->Bool}{t:Tmp}{i:Nat}(hd:pH ops i t=false):∀n,mS ops V (upd L i true) t n=mS ops V L t n
 |0=>rfl
 |n+1=>by
  unfold mS;rw[BA hd n];by_cases h:n=i
  grind
  rw[upd_ne _ _ h]
def F0(ops:Array Oper)(V:Nat->DV)(L:Nat->Bool)(n:Nat)(ah6 env:cj):Prop:=∀t,env[t]? =(ah6[t]?).map λd=>(mS ops V L t n).getD d
theorem Kq(env:cj)(dst:Option Tmp)(v:DV)(t:Tmp):(jN env dst v)[t]? =if dst=some t then(env[t]?).map λ_=>v else env[t]? :=by
 cases dst with
 |none=>simp[jN]
 |some d=>
  simp only[jN,aM,aF];by_cases h:d=t
  grind
  simp[h]
def OQ(ops:Array Oper)(V:Nat->DV)(E:Nat->cj):Prop:=∀j o,ops[j]? =some o->E (j+1)=jN (E j) o.dst (V j)
theorem Cu{ops:Array Oper}{V:Nat->DV}{E:Nat->cj}(h:OQ ops V E):∀i,i<=ops.size->F0 ops V (λ_=>true) i (E 0) (E i)
 |0,_=>λt=>by simp[mS]
 |i+1,hi=>λt=>by
  have ho:ops[i]? =some ops[i]:=bX U;have ih:=Cu h i U t;rw[h i _ ho,Kq];unfold mS;have hd:pH ops i t=(ops[i].dst==some t):=by unfold pH;rw[ho]
  by_cases hdt:ops[i].dst=some t
  grind
  grind
theorem GR{ops:Array Oper}{V:Nat->DV}{E:Nat->cj}{L:Nat->Bool}{env:cj}{i:Nat}{o:Oper}(ho:ops[i]? =some o)(hE:F0 ops V L ops.size (E 0) env)
  (afF:∀t,o.dst=some t->∀j,j<ops.size->pH ops j t=true->(upd L i true j=true↔j<i+1)):F0 ops V (upd L i true) ops.size (E 0) (jN env o.dst (V i)):=by
 intro t;have hi:i<ops.size:=(aG.1 ho).1;rw[Kq];have hd:pH ops i t=(o.dst==some t):=by unfold pH;rw[ho]
 by_cases hdt:o.dst=some t;have e:mS ops V (λ_=>true) t (i+1)=some (V i):=by unfold mS;simp[hd,hdt]
 rw[if_pos hdt,kM (i:=i+1) U (afF t hdt),hE t,e];simp[Function.comp_def];have h2:pH ops i t=false:=by rw[hd];simpa using hdt
 rw[if_neg hdt,BA h2];exact hE t
theorem Bx{ops:Array Oper}(qx:JV ops)(Je:kY ops (Region.before ops)=true){V:Nat->DV}{E:Nat->cj}(hS:OQ ops V E){L:Nat->Bool}(hL:Closed ops L){env:cj}(hE:F0 ops V L ops.size (E 0) env){i:Nat}{o:Oper}(ho:ops[i]? =some o)(hi:L i=false)
  (vz:∀e∈o.after,Region.binds .any e=true->L e.on=true):(∀t∈kZ ops o,env[t]? =(E i)[t]?)/\∀t,o.dst=some t->∀j,j<ops.size->pH ops j t=true->(upd L i true j=true↔j<i+1):=by
 have hio:i<ops.size:=(aG.1 ho).1;have hx:∀t∈kZ ops o,∀j,j<ops.size->j≠i->pH ops j t=true->(L j=true↔j<i):=by
  intro t ht j hj hne hd;have hoj:ops[j]? =some ops[j]:=bX hj;have S8:ops[j].dst=some t:=by unfold pH at hd;rw[hoj]at hd;simpa using hd
  refine Po qx hL ho hi vz (Ne.symm hne) ?_;unfold kY at Je;simp only[aC,aR]at Je;have h1:=Je.2 (o,i) (by rw[yB];simpa using ho) (ops[j],j) (by rw[yB];simp);simp only[S8]at h1;have hc:(kZ ops o).contains t=true:=by simpa using ht
  simp only[hc,fN,Bool.or_false,jw,dL]at h1;rcases h1 with (h1|h1)|h1
  grind
  grind
  grind
 constructor;intro t ht;rw[hE t,Cu hS i U t];congr 1;funext d;rw[kM (i:=i) U λj hj hd=>?_];by_cases iM:j=i
 grind
 grind
 intro t ht j hj hd;by_cases iM:j=i;subst iM;simp[upd_same]
 rw[upd_ne _ _ iM,hx t (by simp[kZ,ht]) j hj iM hd];omega
theorem GP{ops:Array Oper}{o:Oper}{env aK:cj}(h:∀t∈kZ ops o,env[t]? =aK[t]?):∀a∈o.op.operands,iN env a=iN aK a:=by
 intro a ha;cases a with
 |tmp t=>
  have:t∈kZ ops o:=by
   unfold kZ;simp only[gV];left;right
   rw[aaY];exact⟨.tmp t,by simpa using ha,rfl⟩
  simp only[iN,aP,h t this]
 |_=>rfl
theorem yW{ops:Array Oper}{o:Oper}{env aK:cj}(h:∀t∈kZ ops o,env[t]? =aK[t]?):b9 ops env o=b9 ops aK o:=by
 unfold b9;cases hg:o.guard with
 |none=>rfl
 |some g=>
  obtain⟨j,want⟩:=g;simp only;cases hb:(ops[j]?).bind (·.dst)with
  |none=>rfl
  |some t=>
   have:t∈kZ ops o:=by unfold kZ;rw[hg];simp[hb]
   simp only[h t this]
theorem Kw{ops:Array Oper}(h:kY ops (Region.before ops)=true):JV ops:=by intro i o ho e he hb;unfold kY at h;simp only[aC,aR,Array.all_eq_true']at h;have h1:=h.1 (o,i) (by rw[yB];simpa using ho) e he;simpa [hb]using h1
theorem Kk{ops:Array Oper}{S:aj}:∀{r:List Oper}{env aK:cj},qd P ty aD call yf ops S r env=some aK->∃(E:Nat->cj)(V:Nat->DV),E 0=env/\E r.length=aK/\
  ∀j o,r[j]? =some o->E (j+1)=jN (E j) o.dst (V j)/\(b9 ops (E j) o=true->cV P ty aD call yf (iN (E j)) o S=some (V j))/\(b9 ops (E j) o=false->V j=bD)
 |[],env,aK,h=>by simp only[qd,aF]at h;exact⟨λ_=>env,λ_=>bD,rfl,h,ab⟩
 |o::r,env,aK,h=>by
  unfold qd at h;have key:∀v,qd P ty aD call yf ops S r (jN env o.dst v)=some aK->(b9 ops env o=true->cV P ty aD call yf (iN env) o S=some v)->(b9 ops env o=false->v=bD)->∃(E:Nat->cj)(V:Nat->DV),E 0=env/\E (o::r).length=aK/\
    ∀j o',(o::r)[j]? =some o'->E (j+1)=jN (E j) o'.dst (V j)/\(b9 ops (E j) o'=true->cV P ty aD call yf (iN (E j)) o' S=some (V j))/\(b9 ops (E j) o'=false->V j=bD):=λv h1 h2 h3=>by
   obtain⟨E,V,e1,e2,e3⟩:=Kk h1;refine⟨λn=>match n with|0=>env|n+1=>E n,λn=>match n with|0=>v|n+1=>V n,rfl,by simpa using e2,λj o' nt=>?_⟩;cases j with
   |zero=>grind
   |succ j=>exact e3 j o' (by simpa using nt)
  split at h;rename_i hw;split at h;rename_i v h1;exact key v h (λ_=>h1) λhf=>by rw[hw]at hf;cases hf
  cases h;rename_i hw;exact key bD h (λht=>absurd ht hw) λ_=>rfl
theorem quiet_step{ρ:Operand->Option DV}{o:Oper}{S:aj}{v:DV}(h:cV P ty aD call yf ρ o S=some v):ah P ty aD call yf ρ o S S.length=some (v,S):=by
 obtain⟨dst,op,type,pos,after,guard⟩:=o;have gen:∀{q:Option (DV×aj)},q.map (·.1)=some v->(∀d S',q=some (d,S')->S'=S)->q=some (v,S):=by intro q hq hs;simp only[af]at hq;obtain⟨⟨d,S'⟩,h1,rfl⟩:=hq;rw[h1,hs d S' h1]
 have mp:∀{β:Type}{q:Option β}{f:β->DV}{d:DV}{S':aj},q.map (λc=>(f c,S))=some (d,S')->S'=S:=by intro β q f d S' hq;simp only[af,ay]at hq;obtain⟨_,_,_,h⟩:=hq;exact h.symm
 cases op<;>simp only[cV]at h
 case call c=>
  obtain⟨callee,args,ats⟩:=c;cases callee with
  |builtin b=>
   cases b<;>simp only at h<;>first|cases h|skip
   all_goals
     refine gen h λd S' hq=>?_;simp only[ah]at hq
     repeat' split at hq
     all_goals first|contradiction|exact mp (f:=id) hq|exact mp hq|(cases hq;rfl)|(cases hq;done)|skip
  |value f=>simp only at h;split at h;rename_i g fs cs xs hf Qn;split at h;cases h;rename_i hh;split at h;rename_i hp;simp only[ah,hf,Qn,vO,hp,if_true,h];cases h;cases h
  |invoke r m=>simp[ah]at h
 case buildSlice t n ps=>
  split at h;cases h;rename_i hh;refine gen h λd S' hq=>?_;simp only[ah]at hq
  repeat' split at hq
  all_goals first|contradiction|(cases hq;first|rfl|contradiction)
 all_goals first
  |cases h
  |(refine gen h λd S' hq=>?_;simp only[ah]at hq;repeat' split at hq
    all_goals first|contradiction|exact mp (f:=id) hq|exact mp hq|(cases hq;rfl)|(cases hq;done)|skip)
theorem LB{ρ ρ':Operand->Option DV}{o:Oper}{S:aj}(h:∀a∈o.op.operands,ρ a=ρ' a):cV P ty aD call yf ρ o S=cV P ty aD call yf ρ' o S:=by
 have hs:=y7 (P:=P) (ty:=ty) (aD:=aD) (call:=call) (yf:=yf) (S:=S) (aB:=S.length) h;unfold cV;split<;>try rfl
 rw[hs];rename_i f args ats hop;rw[hop]at h;have h1:ρ f=ρ' f:=h f (by simp[Op.operands,Call.operands]);have h2:=lY (ρ:=ρ) (ρ':=ρ') (l:=args.toList) λa ha=>h a (by simp[Op.operands,Call.operands]at ha⊢;exact .inr ha);rw[h1,h2];rw[hs]
theorem Ns(hP:Plain P)(eV:jP P ty)(hc:gJ P aa call)(hi:Bi P aa aD)(Ma:Bh P aa yf){ops:Array Oper}{b:Frame}{k:List Item}{cs:List Frame}(hk:b.kind≠.early)(Je:kY ops (Region.before ops)=true)
  {env aK:cj} {a:Act} (h:qd P ty aD call yf ops x.S ops.toList env=some aK) (hR:Rel x) (he:fZ x env a.tmps)
  (hn:∀y a',y.S=x.S->Rel y->bE x y->fZ y aK a'.tmps->a'.defers=a.defers->iB P aa () (G (b.atR a' k) cs) y.w) (t:Nat):iB P aa () (G (b.atR a (.inRegion ops (Region.linearise .any ops t)::k)) cs) x.w:=by
 have qx:=Kw Je;obtain⟨E,V,e1,e2,e3⟩:=Kk h;have HB:∀(j:Nat)(o:Oper),ops[j]? =some o->ops.toList[j]? =some o:=λj o ho=>by simpa using ho
 have hS:OQ ops V E:=λj o ho=>(e3 j o (HB j o ho)).1;refine vX qx (σ:=Act×Cx) (λtodo s=>s.2.S=x.S->Rel s.2->bE x s.2->s.1.defers=a.defers->iB P aa () (G (b.atR s.1 (.inRegion ops todo::k)) cs) s.2.w)
  (λL s=>∃nw,fZ s.2 nw s.1.tmps/\F0 ops V L ops.size (E 0) nw) ?_ ?_ t (a,x) ⟨env,he,λt=>?_⟩ rfl hR (bE.refl x) rfl
 rintro L ⟨a1,y⟩ i o ⟨nw,zn,YK⟩ o6 ho Te vz rest lP hSy BO TM Mf;simp only at zn hSy BO TM Mf⊢;obtain⟨q1,q2⟩:=Bx qx Je hS o6 YK ho Te vz;have hw:=yW q1;have X1:=z8 zn ops o;have hE2:=GR (V:=V) ho YK q2;by_cases hwt:b9 ops (E i) o=true;have hq:=(e3 i o (HB i o ho)).2.1 hwt;rw[<-LB (GP q1),<-hSy]at hq;refine UA hP eV hc hi Ma hk ho (by rw[X1,hw];exact hwt) BO (.inl rfl) zn (quiet_step hq) λz u zS zR zM zV=>?_;have oy:=zN (zn.mono zM) (dst:=o.dst) zV;exact lP (a1.put o.dst u,z) ⟨_,oy.1,hE2⟩ (zS.trans hSy) zR (TM.trans zM) (oy.2.trans Mf);have hwf:b9 ops (E i) o=false:=by simpa using hwt
 have hv:=(e3 i o (HB i o ho)).2.2 hwf;have oy:=zN zn (dst:=o.dst) (d:=V i) (v:=undef) (by rw[hv];exact .val rfl);exact fI hP (λw=>⟨_,ud ho (by rw[X1,hw];exact hwf)⟩) (lP (a1.put o.dst undef,y) ⟨_,oy.1,hE2⟩ hSy BO TM (oy.2.trans Mf));rintro L ⟨a1,y⟩ ⟨nw,zn,YK⟩ dQ hSy BO TM Mf;have:nw=aK:=by
  refine mG λt=>?_;have hlen:E ops.size=aK:=by simpa using e2
  rw[YK t,<-hlen,Cu hS ops.size (ai _) t];congr 1;funext d;rw[kM (i:=ops.size) (ai _) λj hj _=>by simp[dQ j hj,hj]]
 subst this;exact fI hP (λw=>⟨_,qq⟩) (hn y a1 hSy BO TM zn Mf);rw[e1];have:∀n,mS ops V (λ_=>false) t n=none:=by
  intro n;induction n with
  |zero=>rfl
  |succ n ih=>unfold mS;simp[ih]
 rw[this];simp
end Go.Di
namespace Go.Di
open Go Go.Conc Go.Co
variable {P:Program} {aa:Machine->Trace->Prop} {x y:Cx} {R:cx} {T:aj}
theorem K6{S:aj}{i:Nat}(h:j6 S R i=true):∃l,S[i]? =some (.cells l)/\(l.map cS).all (L8 R)=true:=by
 unfold j6 at h;split at h
 grind
 cases h
theorem oR{S:aj}{k:Nat}{b:DB}(h:(sJ S R)[k]? =some b)(hb:b≠.none):k∈R/\∃l,S[k]? =some (.cells l)/\b=.cells (l.map cS):=by
 simp only[sJ,oc,af]at h;obtain⟨c,hc,rfl⟩:=h;split at hb;rename_i hk;rw[if_pos hk];refine⟨by simpa using hk,?_⟩;cases c with
 |cells l=>exact⟨l,hc,rfl⟩
 |_=>exact absurd rfl hb
 grind
theorem x8{S:aj}{k:Nat}{l:cj}(hk:k∈R)(h:S[k]? =some (.cells l)):(sJ S R)[k]? =some (.cells (l.map cS)):=by simp only[sJ,oc,h,az,UB,if_pos (show R.contains k=true by simpa using hk)]
theorem iy{S S1:aj}{k:Nat}(hk:k∉R):(kF S S1 R)[k]? =S[k]? :=by simp only[kF,oc,if_neg (show¬R.contains k=true by simpa using hk)];exact Option.map_id'
theorem AL{S S1:aj}{k:Nat}{l l':cj}(hk:k∈R)(h:S[k]? =some (.cells l))(h1:S1[k]? =some (.cells l')):(kF S S1 R)[k]? =some (.cells (l'.map cS)):=by simp only[kF,oc,h,az,if_pos (show R.contains k=true by simpa using hk),UX,h1]
section
variable (hF:∀b o,x.Fz b o->y.Fz b o/\y.w.cell? ⟨b,o,none⟩=x.w.cell? ⟨b,o,none⟩) (hP:∀i∈R,∃l,y.S[i]? =some (.cells l)/\y.μ i=x.μ i)
include hF hP
theorem U9{d:DV}{v:Value}(h:RV x d v)(hd:Yq R d.aL=true):RV y d.aL v:=by
 cases d with
 |ptr i off=>
  cases h with
  |ptr _=>obtain⟨l,h1,h2⟩:=hP i (by simpa [Yq,DV.aL]using hd);rw[<-h2];exact .ptr h1
 |_=>exact h.aL.mc hF hd
theorem MG{d:DV}{v:Value}(h:RV x d v)(hd:L8 R (cS d)=true):RV y (cS d) v:=by
 cases d with
 |ptr i off=>
  cases h with
  |ptr _=>obtain⟨l,h1,h2⟩:=hP i (by simpa [L8,cS,DV.aL]using hd);rw[<-h2];exact .ptr h1
 |fn f fs cs=>
  simp only[L8,cS,aC]at hd⊢;cases h with
  |fn h1 h2 h3 h4=>refine .fn (by simpa using h1) (by simpa using h2) (λj c hc=>?_) (λj c hc=>?_);have:=aR.1 hd.1 c (bV hc);simp only[cI,af]at hc;obtain⟨c',h5,rfl⟩:=hc;exact U9 hF hP (h3 j c' h5) this;have:=aR.1 hd.2 c (bV hc);simp only[cI,af]at hc;obtain⟨c',h5,rfl⟩:=hc;exact U9 hF hP (h4 j c' h5) this
 |_=>exact h.aL.mc hF hd
theorem adq{d:DV}{v:Value}(h:RV x d v)(hd:okA R (iT d)=true):RV y (iT d) v:=by
 cases d with
 |ptr i off=>
  cases h with
  |ptr _=>obtain⟨l,h1,h2⟩:=hP i (by simpa [okA,iT,DV.strip,DV.cT]using hd);rw[<-h2];exact .ptr h1
 |fn f fs cs=>exact MG hF hP h hd
 |_=>exact h.strip.pure_mono hF hd
end
def Cx.xO (x:Cx)(R:cx):Cx:={x with S:=sJ x.S R}
def Cx.tA (x y:Cx)(R:cx):Cx:={w:=y.w,μ:=x.μ,κ:=x.κ,Fz:=y.Fz,S:=kF x.S y.S R}
theorem lW{k:Nat}(h:Live (x.xO R).S k):k∈R/\Live x.S k:=by obtain⟨b,hb,hn⟩:=h;obtain⟨h1,l,h2,-⟩:=oR hb hn;exact⟨h1,_,h2,ab⟩
theorem WC(hR:Rel x)(hc:∀i∈R,∃l,x.S[i]? =some (.cells l)/\(l.map cS).all (L8 R)=true):Rel (x.xO R):=by
 have hP:∀i∈R,∃l,(x.xO R).S[i]? =some (.cells l)/\(x.xO R).μ i=x.μ i:=λi hi=>by obtain⟨l,h,-⟩:=hc i hi;exact⟨_,x8 hi h,rfl⟩
 refine⟨λid l2 h=>?_,λid e s n h=>?_,λid b h hb=>?_,λj k hj hk he=>hR.inj j k (lW hj).2 (lW hk).2 he,hR.wo,λid ⟨l,h⟩ o hF=>?_,λid e s n h=>?_,λid e s l z h=>?_,hR.glob⟩;obtain⟨hi,l,h2,h3⟩:=oR h ab;cases h3;obtain⟨l0,h4,h5⟩:=hc id hi;rw[h2]at h4;cases h4;obtain⟨arr,e,h6,h7,h8⟩:=hR.cells id l h2;refine⟨arr,e,h6,by simpa using h7,λj c hj=>?_⟩;have hm:=aR.1 h5 c (bV hj);simp only[cI,af]at hj;obtain⟨c',h9,rfl⟩:=hj;exact MG (x:=x) (y:=x.xO R) (λb o h=>⟨h,rfl⟩) hP (h8 j c' h9) hm;obtain⟨-,l,-,h3⟩:=oR h ab;cases h3;obtain⟨-,l,-,h3⟩:=oR h (eT hb);subst h3;cases hb;obtain⟨-,l,h2,-⟩:=oR h ab;exact hR.sep id ⟨l,h2⟩ o hF;obtain⟨-,l,-,h3⟩:=oR h ab;cases h3;obtain⟨-,l,-,h3⟩:=oR h ab;cases h3
section
variable (hR:Rel x) (hc:∀i∈R,∃l,x.S[i]? =some (.cells l)/\(l.map cS).all (L8 R)=true) (M:bE (x.xO R) y)
include hR M
theorem qR{id:Nat}{b:DB}{o:Obj}(hb:x.S[id]? =some b)(hne:b≠.none)(hid:id∉R)(ho:x.w.heap[x.μ id]? =some o):y.w.heap[x.μ id]? =x.w.heap[x.μ id]? :=by refine M.old _ (aG.1 ho).1 λk hk he=>?_;obtain⟨h1,h2⟩:=lW hk;exact hid (hR.inj k id h2 ⟨b,hb,hne⟩ he▸h1)
omit hR in
include hc in
theorem oZ{i:Nat}(hi:i∈R):∃l',y.S[i]? =some (.cells l')/\y.μ i=x.μ i/\(x.tA y R).S[i]? =some (.cells (l'.map cS)):=by obtain⟨l,h,-⟩:=hc i hi;obtain⟨h1,l',h2⟩:=M.cells i _ (x8 hi h);exact⟨l',h2,h1,AL hi h h2⟩
include hc
omit hR in
theorem oU{k:Nat}{b:DB}(h:(x.tA y R).S[k]? =some b):(k∈R/\∃l',y.S[k]? =some (.cells l')/\b=.cells (l'.map cS))\/(k∉R/\x.S[k]? =some b):=by by_cases hk:k∈R;obtain⟨l',h1,-,h3⟩:=oZ hc M hk;rw[h3]at h;exact .inl ⟨hk,l',h1,(bM h).symm⟩;exact .inr ⟨hk,(iy hk).symm.trans h⟩
omit hR in
theorem Ax{k:Nat}(h:Live (x.tA y R).S k):Live x.S k:=by
 obtain⟨b,hb,hne⟩:=h;rcases oU hc M hb with ⟨hk,-⟩|⟨-,h⟩;obtain⟨l,h,-⟩:=hc k hk;exact⟨_,h,ab⟩
 exact⟨b,h,hne⟩
theorem EJ:bE x (x.tA y R) where
 size:=M.size
 env:=M.env
 fz:=M.fz
 G6:=λb o h=>(M.G6 b o h).imp id λh=>h.imp id λ⟨k,h1,he⟩=>⟨k,(lW h1).2,he⟩
 old:=λb hb hn=>M.old b hb λk hk he=>hn k (lW hk).2 he
 len:=by simp[Cx.tA,kF]
 cells:=λid l2 h=>⟨rfl,by
  by_cases he:id∈R;obtain⟨l',-,-,h3⟩:=oZ hc M he;exact⟨_,h3⟩
  exact⟨l2,(iy he).trans h⟩⟩
 dn:=λid b h hb=>by
  have he:id∉R:=λhe=>by obtain⟨l,h1,-⟩:=hc id he;rw[h1]at h;cases h;cases hb
  obtain⟨o,ho,-⟩:=hR.dn id b h hb;exact⟨rfl,⟨b,(iy he).trans h,dG hb⟩,λ_=>qR hR M h (eT hb) he ho⟩
 cQ:=λt e s n h=>by
  have he:t∉R:=λhe=>by obtain⟨l,h1,-⟩:=hc t he;rw[h1]at h;cases h
  exact⟨n,(iy he).trans h,ai _,λ_=>⟨rfl,rfl⟩⟩
 live:=λk h=>.inl ⟨Ax hc M h,rfl⟩
 ops:=λt e s l z h=>by
  have he:t∉R:=λhe=>by obtain⟨l,h1,-⟩:=hc t he;rw[h1]at h;cases h
  exact⟨l,z,(iy he).trans h,ai _,λe=>⟨rfl,e⟩,λ_=>⟨rfl,rfl⟩⟩
theorem Rk(BO:Rel y)(hy:∀i∈R,∃l',y.S[i]? =some (.cells l')/\(l'.map cS).all (L8 R)=true):Rel (x.tA y R):=by
 have MB:=EJ hR hc M;have hP:∀i∈R,∃l,(x.tA y R).S[i]? =some (.cells l)/\(x.tA y R).μ i=y.μ i:=λi hi=>by obtain⟨l',-,h2,h3⟩:=oZ hc M hi;exact⟨_,h3,h2.symm⟩
 have hF:∀{b o},y.Fz b o->x.Fz b o\/x.w.heap.size<=b\/∃i,i∈R/\Live x.S i/\x.μ i=b:=λ{b o} h=>(M.G6 b o h).imp id λh=>h.imp id λ⟨k,h1,he⟩=>⟨k,(lW h1).1,(lW h1).2,he⟩;refine⟨λid l2 h=>?_,λid e s n h=>?_,λid b h hb=>?_,λj k hj hk he=>hR.inj j k (Ax hc M hj) (Ax hc M hk) he,BO.wo,λid ⟨l,h⟩ o hf=>?_,λid e s n h o hf=>?_,λid e s l1 z h=>?_,BO.glob⟩;rcases oU hc M h with ⟨hi,l',h1,h2⟩|⟨hi,h1⟩;cases h2;obtain⟨l3,h3,h4⟩:=hy id hi;rw[h1]at h3;cases h3;obtain⟨arr,e,h5,h6,h7⟩:=BO.cells id l' h1;obtain⟨l4,-,h8,-⟩:=oZ hc M hi;refine⟨arr,e,by rw[h8]at h5;exact h5,by simpa using h6,λj c hj=>?_⟩;have hm:=aR.1 h4 c (bV hj);simp only[cI,af]at hj;obtain⟨c',h9,rfl⟩:=hj;exact MG (x:=y) (y:=x.tA y R) (λb o h=>⟨h,rfl⟩) hP (h7 j c' h9) hm;obtain⟨arr,e,h3,h4,h5⟩:=hR.cells id l2 h1;exact⟨arr,e,(qR hR M h1 ab hi h3).trans h3,h4,λj c hj=>(h5 j c hj).mono MB⟩;rcases oU hc M h with ⟨hi,l',h1,h2⟩|⟨hi,h1⟩;cases h2;obtain⟨arr,h3,h4⟩:=hR.cQ id e s n h1;exact⟨arr,(qR hR M h1 ab hi h3).trans h3,h4⟩;rcases oU hc M h with ⟨hi,l',h1,h2⟩|⟨hi,h1⟩;subst h2;cases hb
 obtain⟨o,h3,h4⟩:=hR.dn id b h1 hb;exact⟨o,(qR hR M h1 (eT hb) hi h3).trans h3,h4.mono MB⟩;rcases oU hc M h with ⟨hi,l',h1,h2⟩|⟨hi,h1⟩;obtain⟨l4,-,h8,-⟩:=oZ hc M hi;refine BO.sep id ⟨l',h1⟩ o ?_;rw[h8];exact hf
 obtain⟨arr,e,h3,-⟩:=hR.cells id l h1;rcases hF hf with h5|h5|⟨k,h5,h6,h7⟩;exact hR.sep id ⟨l,h1⟩ o h5;have:=(aG.1 h3).1;change x.w.heap.size<=x.μ id at h5;omega;exact hi (hR.inj k id h6 ⟨_,h1,ab⟩ h7▸h5);rcases oU hc M h with ⟨hi,l',h1,h2⟩|⟨hi,h1⟩;cases h2;obtain⟨arr,h3,-⟩:=hR.cQ id e s n h1;rcases hF hf with h5|h5|⟨k,h5,h6,h7⟩;exact hR.mQ id e s n h1 o h5;have:=(aG.1 h3).1;change x.w.heap.size<=x.μ id at h5;omega;exact absurd (hR.inj k id h6 ⟨_,h1,ab⟩ h7▸h5) hi;rcases oU hc M h with ⟨hi,l',h1,h2⟩|⟨hi,h1⟩;cases h2;obtain⟨arr,h4,h3,h6,h7,h8,h9,vE⟩:=hR.ops id e s l1 z h1;refine⟨arr,(qR hR M h1 ab hi h4).trans h4,h3,h6,h7,λj c hc=>⟨(h8 j c hc).1,(h8 j c hc).2.mono MB⟩,λhz j hj=>(M.fz _ _ (h9 hz j hj)).1,λhz o hf=>?_⟩;rcases hF hf with h5|h5|⟨k,h5,h6,h7⟩;exact vE hz o h5;have:=(aG.1 h4).1;change x.w.heap.size<=x.μ id at h5;omega;exact absurd (hR.inj k id h6 ⟨_,h1,ab⟩ h7▸h5) hi
end
theorem XQ{call:aY}(hc:gJ P aa call):gJ P aa (OL call):=by
 intro f args S v S' h x vals hR hS ha;subst hS;unfold OL at h;split at h;rename_i R v1 S1 ho;cases h;unfold nA at ho;split at ho;rename_i hq;simp only[aC]at hq;obtain⟨⟨-,hA⟩,nK⟩:=hq;split at ho;rename_i v2 S2 mX;split at ho;rename_i hp;simp only[aC]at hp;cases ho;generalize iU x.S args=R at*;have CP:∀i∈R,∃l,x.S[i]? =some (.cells l)/\(l.map cS).all (L8 R)=true:=λi hi=>K6 (aR.1 nK i hi);have ha':fZ (x.xO R) (args.map iT) vals:=by refine⟨by simpa using ha.1,λj c hj=>?_⟩;have hm:=aR.1 hA c (bV hj);simp only[cI,af]at hj;obtain⟨c',h1,rfl⟩:=hj;exact adq (x:=x) (y:=x.xO R) (λb o h=>⟨h,rfl⟩) (λi hi=>by obtain⟨l,h,-⟩:=CP i hi;exact⟨_,x8 hi h,rfl⟩) (ha.2 j c' h1) hm
 obtain⟨h1,h2⟩:=hc _ _ _ _ _ mX (x.xO R) vals (WC hR CP) rfl ha';refine⟨h1,λfr cs hn=>h2 fr cs λy u ⟨q1,q2,q3,q4⟩=>?_⟩;subst q1;have hy:∀i∈R,∃l',y.S[i]? =some (.cells l')/\(l'.map cS).all (L8 R)=true:=λi hi=>K6 (aR.1 hp.2 i hi);exact hn (x.tA y R) u ⟨rfl,Rk hR CP q3 q2 hy,EJ hR CP q3,q4.strip.pure_mono (x:=y) (y:=x.tA y R) (λb o h=>⟨h,rfl⟩) hp.1⟩;cases ho;cases ho;cases ho;exact hc _ _ _ _ _ h x vals hR rfl ha
end Go.Di
namespace Go.Di
open Go Go.Conc Go.Co
open Go.ConcN (upd upd_same upd_ne)
variable {P:Program} {aa:Machine->Trace->Prop} {ty:fo} {x:Cx} {aD:bR} {call:aY} {yf:di}
def appW(w:Option (Nat×DB))(S:aj):aj:=match w with
 |none=>S
 |some (i,b)=>S.set i b
theorem pL{S:aj}{i:Nat}(h:i<S.length)(b:DB):eE S i b=S.set i b:=by unfold eE;rw[if_pos h]
theorem jh{S:aj}{i:Nat}{b:DB}(h:S[i]? =some b):i<S.length:=(aI.1 h).1
def uW:Op->Prop
 |.alloc _|.box .. |.makeMap .. |.load .. |.store .. |.lookup .. |.mapUpdate .. |.makeSlice .. |.buildSlice .. |.fieldAddr .. |.indexAddr .. =>False
 |.call {callee:=.builtin .append,.. }=>False
 |.call {callee:=.builtin _,.. }=>True
 |.call _=>False
 |_=>True
theorem map_fst{β:Type}(q:Option β)(f:β->DV)(S T:aj):q.map (λc=>(f c,S))=((q.map (λc=>(f c,T))).map (·.1)).map (·,S):=by cases q<;>rfl
theorem EA{ρ:Operand->Option DV}{o:Oper}(hop:uW o.op)(S:aj)(aB:Nat):ah P ty aD call yf ρ o S aB=((ah P ty aD call yf ρ o [] 0).map (·.1)).map (·,S):=by
 obtain⟨dst,op,type,pos,after,guard⟩:=o;cases op<;>simp only[uW]at hop
 case call c=>
  obtain⟨callee,args,ats⟩:=c;cases callee with
  |builtin b=>
   simp only[ah];generalize args.toList=l;generalize ats.toList=m;split;split<;>first|rfl|exact map_fst (f:=id) _ S []
   grind
   split<;>first|rfl|exact map_fst (f:=id) _ S []
   split<;>first|rfl|exact map_fst (f:=id) _ S []
   rfl
  |value f=>exact hop.elim
  |invoke r m=>exact hop.elim
 case makeFunc fn fs cs=>cases fn<;>simp only[ah]<;>(repeat' split)<;>rfl
 all_goals simp only[ah]
 all_goals (repeat' split)
 all_goals first
  |rfl
  |exact map_fst (f:=id) _ S []
  |exact map_fst _ _ S []
theorem DI{ρ:Operand->Option DV}{o:Oper}(hop:uW o.op){S S':aj}{aB:Nat}{v:DV}(h:ah P ty aD call yf ρ o S aB=some (v,S')):S'=S/\∀T qf,ah P ty aD call yf ρ o T qf=some (v,T):=by rw[EA hop]at h;simp only[af,ay]at h;obtain⟨d,h1,h2,h3⟩:=h;refine⟨h3.symm,λT qf=>?_⟩;rw[EA hop];simp only[af,ay];exact⟨d,h1,h2,trivial⟩
structure Eff (P:Program) (ty:fo) (aD:bR) (call:aY) (yf:di) (ρ:Operand->Option DV) (o:Oper) (S:aj) (aB:Nat) (v:DV) (S':aj) (f:cM) (F:cx) (w:Option (Nat×DB)):Prop where
 res:S'=appW w S
 Fg:∀i b,w=some (i,b)->i∈F/\f.wr=true/\i<S.length
 loc:∀T,(F≠[]->T.length=S.length)->(∀x∈F,T[x]? =S[x]?)->aH P ty aD call yf ρ o T aB=some (v,appW w T,f)
theorem Sl{S T:aj}{t:TypeId}{id off:Nat}(h:T[id]? =S[id]?):kC ty T t (.ptr id off)=kC ty S t (.ptr id off):=by
 unfold kC;cases ty t with
 |none=>rfl
 |some d=>simp only[h]
theorem NM{S T:aj}{t:TypeId}{rows:cj}{i off:Nat}:kC ty T t (.eU rows i off)=kC ty S t (.eU rows i off):=by unfold kC;cases ty t<;>rfl
theorem HO{S T:aj}{id n:Nat}(h:T[id]? =S[id]?):Cb T id n=Cb S id n:=by unfold Cb;rw[h]
theorem NL{S T:aj}{t:TypeId}{id n off:Nat}(h:T[id]? =S[id]?):kC ty T t (.fS id n off)=kC ty S t (.fS id n off):=by
 unfold kC;cases ty t with
 |none=>rfl
 |some d=>simp only[HO h]
theorem qV{ρ:Operand->Option DV}{dst:Option Tmp}{t type:TypeId}{a:Operand}{f:Nat}{pos:String}{after:Array Edge}{guard:Option (Nat×Bool)}{S S' T:aj}{aB:Nat}{v:DV}(hT:∀id n off,ρ a=some (.fS id n off)->T[id]? =S[id]?)
  (h:ah P ty aD call yf ρ ⟨dst,.fieldAddr t a f,type,pos,after,guard⟩ S aB=some (v,S')):S'=S/\∀qf,ah P ty aD call yf ρ ⟨dst,.fieldAddr t a f,type,pos,after,guard⟩ T qf=some (v,T):=by
 simp only[ah]at h⊢;split at h;rename_i hk ha;split at h
 grind
 cases h;rename_i hk ha;split at h
 grind
 cases h;rename_i hk ha;split at h;rename_i hf hop;split at h;rename_i hs;cases h;exact⟨rfl,λ_=>by simp only[hk,ha,hf,HO (hT _ _ _ ha),hop,if_pos hs]⟩;cases h;cases h;cases h
theorem qT{ρ:Operand->Option DV}{dst:Option Tmp}{t type:TypeId}{a i:Operand}{pos:String}{after:Array Edge}{guard:Option (Nat×Bool)}{S S' T:aj}{aB:Nat}{v:DV}(hT:∀id n ag,ρ a=some (.jl id n ag)->T[id]? =S[id]?)
  (h:ah P ty aD call yf ρ ⟨dst,.indexAddr t a i,type,pos,after,guard⟩ S aB=some (v,S')):S'=S/\∀qf,ah P ty aD call yf ρ ⟨dst,.indexAddr t a i,type,pos,after,guard⟩ T qf=some (v,T):=by
 simp only[ah]at h⊢;split at h;rename_i hk ha hi;split at h;rename_i h0;split at h
 grind
 cases h;cases h
 grind
 grind
 rename_i hk ha hi;split at h;rename_i hop;split at h;rename_i h0;cases h;exact⟨rfl,λ_=>by simp only[hk,ha,hi,HO (hT _ _ _ ha),hop,if_pos h0]⟩;cases h;cases h;cases h
theorem GY{ρ:Operand->Option DV}{o:Oper}{t:TypeId}{n:Nat}{ps:Array (Nat×Operand)}{S S':aj}{aB:Nat}{v:DV}(ho:o.op=.buildSlice t n ps)(hh:ty.h o≠1)
  (h:ah P ty aD call yf ρ o S aB=some (v,S')):S'=S/\∀(T:aj)(qf:Nat),ah P ty aD call yf ρ o T qf=some (v,T):=by
 simp only[ah,ho]at h⊢;split at h;rename_i hk hl;split at h;rename_i he;split at h;rename_i hc;split at h
 grind
 cases h;cases h;cases h;cases h
theorem LY{S S':aj}{aB:Nat}{t:TypeId}{a b v:DV}(h:jv ty S aB t a b=some (v,S'))(hn:aB<S.length):∃w,S'=appW w S/\(∀i c,w=some (i,c)->(i=aB\/∃r tk f,a=.sl r (some tk) f/\i=tk)/\i<S.length)/\
  ∀T:aj,T.length=S.length->(∀r tk f,a=.sl r (some tk) f->T[tk]? =S[tk]?)->jv ty T aB t a b=some (v,appW w T):=by
 unfold jv at h⊢;split at h;rename_i e s kN agg sz z rows tok full news abZ abJ htt;split at h;rename_i vA;cases h;exact⟨none,rfl,ab,λT _ _=>by simp only[vA,if_true];rfl⟩;rename_i vA;split at h;rename_i hte;split at h;rename_i hc;cases tok with
 |none=>
  simp only at h;split at h;rename_i hf;cases h;refine⟨some (aB,.tail e s ((rows.length+news.length)*s)),pL hn _,λi c hw=>?_,λT hT _=>?_⟩
  grind
  simp only[vA,hc,hf,if_true,aJ,if_false];rw[pL U];rfl;cases h
 |some tk=>
  simp only at h;split at h;rename_i e' s' n' hS;split at h;rename_i zo;cases h;refine⟨some (tk,.tail e s ((rows.length+news.length)*s)),rfl,λi c hw=>?_,λT hT hl=>?_⟩
  grind
  have hT2:T[tk]? =some (.tail e' s' n'):=(hl rows tk full rfl).trans hS;simp only[vA,hc,hT2,zo,if_true,aJ,if_false];rfl;cases h;cases h
 cases h;cases h;cases h
theorem Gq{g:FuncId}{args:cj}{S:aj}{i:Nat}{v:DV}{l:cj}(h:oG call g args S=some (i,v,l)):i<S.length/\∀T:aj,T[i]? =S[i]? ->oG call g args T=some (i,v,l):=by
 unfold oG at h⊢;split at h
 grind
 cases h
theorem RO{g:FuncId}{args:cj}{S S':aj}{aB:Nat}{v:DV}(h:vH call aB g args S=some (v,S')):∃b,S[aB]? =some .none/\S'=S.set aB b/\∀T:aj,T[aB]? =some .none->vH call aB g args T=some (v,T.set aB b):=by
 unfold vH at h⊢;split at h
 grind
 grind
 cases h
def abT(P:Program)(ty:fo)(aD:bR)(call:aY)(yf:di)(ρ:Operand->Option DV)(o:Oper)(S:aj):Prop:=
 ∃c args ats g fs cs xs R v S1,o.op=.call ⟨.value c,args,ats⟩/\ρ c=some (.fn g fs cs)/\evs ρ args.toList=some xs/\¬ty.h o=1/\¬((fs++xs++cs).map DV.strip).all DV.pure=true/\oG call g (fs++xs++cs) S=none/\nA call g (fs++xs++cs) S=some (R,v,S1)
theorem aaI{ρ:Operand->Option DV}{o:Oper}{S S':aj}{aB:Nat}{v:DV}{f:cM}(h:aH P ty aD call yf ρ o S aB=some (v,S',f)){F:cx}(hF:f.ids=some F)(hm:¬abT P ty aD call yf ρ o S):∃w,Eff P ty aD call yf ρ o S aB v S' f F w:=by
 obtain⟨dst,op,type,pos,after,guard⟩:=o;have plain:∀(hop:uW op),(ah P ty aD call yf ρ ⟨dst,op,type,pos,after,guard⟩ S aB).map (λr=>(r.1,r.2,(⟨some [],false⟩:cM)))=some (v,S',f)->(∀T,aH P ty aD call yf ρ ⟨dst,op,type,pos,after,guard⟩ T aB=(ah P ty aD call yf ρ ⟨dst,op,type,pos,after,guard⟩ T aB).map (λr=>(r.1,r.2,(⟨some [],false⟩:cM))))->∃w,Eff P ty aD call yf ρ ⟨dst,op,type,pos,after,guard⟩ S aB v S' f F w:=by intro hop h1 h2;simp only[af,ay]at h1;obtain⟨⟨d,S1⟩,h3,rfl,rfl,rfl⟩:=h1;obtain⟨h4,h5⟩:=DI hop h3;exact⟨none,h4,ab,λT _ _=>by rw[h2,h5 T aB];rfl⟩
 cases op
 case alloc e=>
  simp only[aH]at h;split at h;rename_i hS;have hlt:=jh hS;simp only[ah]at h;split at h;rename_i hk;cases h;cases hF;refine⟨some (aB,_),pL hlt _,λi b hw=>by cases hw;exact⟨ab,rfl,hlt⟩,λT hT hx=>?_⟩;have:=hx aB ab;have hl:=hT ab;simp only[aH,this,hS,ah,hk,az];rw[pL U];rfl;cases h;cases h
 case box e a=>
  simp only[aH]at h;split at h;rename_i hS;have hlt:=jh hS;simp only[ah]at h;split at h;rename_i hk;cases h;cases hF;refine⟨some (aB,_),pL hlt _,λi b hw=>by cases hw;exact⟨ab,rfl,hlt⟩,λT hT hx=>?_⟩;have:=hx aB ab;have hl:=hT ab;simp only[aH,this,hS,ah,hk,az];rw[pL U];rfl;cases h;cases h
 case makeMap t r=>
  cases r with
  |some a=>simp only[aH]at h;split at h;simp[ah]at h;cases h
  |none=>simp only[aH]at h;split at h;rename_i hS;have hlt:=jh hS;simp only[ah]at h;cases h;cases hF;refine⟨some (aB,_),pL hlt _,λi b hw=>by cases hw;exact⟨ab,rfl,hlt⟩,λT hT hx=>?_⟩;have:=hx aB ab;have hl:=hT ab;simp only[aH,this,hS,ah,az];rw[pL U];rfl;cases h
 case store t a b=>
  simp only[aH]at h;split at h;rename_i id off ha;simp only[ah,ha]at h;split at h;rename_i a' v' h1 h2;cases h1;unfold oL at h;split at h;rename_i td iz ry hk hpe;cases hpe;split at h;rename_i l hl;split at h;rename_i hc;simp only[rM,af,oa,ay]at h;obtain⟨l',h3,rfl,rfl,rfl⟩:=h;cases hF;refine⟨some (id,.cells l'),rfl,λi b hw=>by cases hw;exact⟨ab,rfl,jh hl⟩,λT hT hx=>?_⟩;have:=hx id ab;simp only[aH,ha,ah,h2,oL,hk,this,hl,hc,if_true,h3,az];rfl;cases h;cases h
  grind
  cases h;cases h;rename_i id n off ha;simp only[ah,ha]at h;split at h;rename_i a' v' h1 h2;cases h1;unfold oL at h;split at h
  grind
  rename_i td iz n' ry hk hpe;cases hpe;split at h;rename_i e s l hop;have hl:=(lC hop).1;split at h;rename_i hc;simp only[rM,af,oa,ay]at h;obtain⟨l',h3,rfl,rfl,rfl⟩:=h;cases hF;refine⟨some (id,.op e s l' false),rfl,λi b hw=>by cases hw;exact⟨ab,rfl,jh hl⟩,λT hT hx=>?_⟩;have:=hx id ab;simp only[aH,ha,ah,h2,oL,hk,HO this,hop,hc,if_true,h3,az];rfl;cases h;cases h;cases h;cases h;cases h
 case makeSlice t a b=>simp only[aH]at h;cases h
 case buildSlice t n ps=>
  simp only[aH]at h;split at h;cases h;rename_i hh;simp only[af,ay]at h;obtain⟨⟨d,S1⟩,h3,rfl,rfl,rfl⟩:=h;cases hF;obtain⟨h4,h5⟩:=GY rfl hh h3;refine⟨none,h4,ab,λT hT hx=>?_⟩;simp only[aH,h5 T aB,az];rfl
 case fieldAddr t a f'=>
  simp only[aH]at h;split at h;rename_i id n off ha;simp only[af,ay]at h;obtain⟨⟨d,S1⟩,h3,rfl,rfl,rfl⟩:=h;cases hF;refine⟨none,(qV (T:=S) (λ_ _ _ _=>rfl) h3).1,ab,λT hT hx=>?_⟩;have h5:=(qV (T:=T) (λiz n' ry he=>by rw[ha]at he;cases he;exact hx id ab) h3).2 aB;simp only[aH,ha,h5,az];rfl;rename_i hno;simp only[af,ay]at h;obtain⟨⟨d,S1⟩,h3,rfl,rfl,rfl⟩:=h;cases hF;refine⟨none,(qV (T:=S) (λ_ _ _ _=>rfl) h3).1,ab,λT hT hx=>?_⟩;have h5:=(qV (T:=T) (λiz n' ry he=>absurd he (hno _ _ _)) h3).2 aB;simp only[aH,h5,az];rfl
 case indexAddr t a i=>
  simp only[aH]at h;split at h;rename_i id n ag ha;simp only[af,ay]at h;obtain⟨⟨d,S1⟩,h3,rfl,rfl,rfl⟩:=h;cases hF;refine⟨none,(qT (T:=S) (λ_ _ _ _=>rfl) h3).1,ab,λT hT hx=>?_⟩;have h5:=(qT (T:=T) (λiz n' ry he=>by rw[ha]at he;cases he;exact hx id ab) h3).2 aB;simp only[aH,ha,h5,az];rfl;rename_i hno;simp only[af,ay]at h;obtain⟨⟨d,S1⟩,h3,rfl,rfl,rfl⟩:=h;cases hF;refine⟨none,(qT (T:=S) (λ_ _ _ _=>rfl) h3).1,ab,λT hT hx=>?_⟩;have h5:=(qT (T:=T) (λiz n' ry he=>absurd he (hno _ _ _)) h3).2 aB;simp only[aH,h5,az];rfl
 case load t a=>
  simp only[aH]at h;split at h;rename_i id off ha;simp only[ah,ha]at h;simp only[rM,af,oa,ay]at h;obtain⟨d,h3,rfl,rfl,rfl⟩:=h;cases hF;refine⟨none,rfl,ab,λT hT hx=>?_⟩;have:=hx id ab;simp only[aH,ha,ah,Sl this,h3,az];rfl;rename_i id n off ha;simp only[ah,ha]at h;simp only[rM,af,oa,ay]at h;obtain⟨d,h3,rfl,rfl,rfl⟩:=h;cases hF;refine⟨none,rfl,ab,λT hT hx=>?_⟩;have:=hx id ab;simp only[aH,ha,ah,NL this,h3,az];rfl;rename_i hno Ub;simp only[ah]at h;split at h;rename_i a' ha;simp only[rM,af,oa,ay]at h;obtain⟨d,h3,rfl,rfl,rfl⟩:=h;cases hF;refine⟨none,rfl,ab,λT hT hx=>?_⟩;have hld:kC ty T t a'=some d:=by
   cases a' with
   |ptr id off=>exact absurd ha (hno id off)
   |fS id n off=>exact absurd ha (Ub id n off)
   |eU rows i off=>rw[<-h3];exact NM
   |_=>unfold kC at h3;split at h3<;>simp_all
  cases a' with
  |ptr id off=>exact absurd ha (hno id off)
  |fS id n off=>exact absurd ha (Ub id n off)
  |_=>simp only[aH,ha,ah,hld,az];rfl
  cases h
 case lookup t m k ok=>
  simp only[aH]at h;split at h;rename_i id ha;simp only[ah,ha]at h;split at h;rename_i kv hm hk;cases hm;split at h;rename_i es hS;simp only[rM,af,oa,ay]at h;obtain⟨d,h3,rfl,rfl,rfl⟩:=h;cases hF;refine⟨none,rfl,ab,λT hT hx=>?_⟩;have:=hx id ab;simp only[aH,ha,ah,hk,this,hS,h3,az];rfl;cases h;cases h;cases h
 case mapUpdate t m k a=>
  simp only[aH]at h;split at h;rename_i id ha;simp only[ah,ha]at h;split at h;rename_i iz kv vv hm hk hv;cases hm;split at h;rename_i es hS;split at h;rename_i r hr;simp only[rM,af,oa,ay]at h;obtain⟨es',h3,rfl,rfl,rfl⟩:=h;cases hF;refine⟨some (id,.map es'),rfl,λi b hw=>by cases hw;exact⟨ab,rfl,jh hS⟩,λT hT hx=>?_⟩;have:=hx id ab;simp only[aH,ha,ah,hk,hv,this,hS,hr,h3,az];rfl;cases h;cases h;cases h;cases h
 case call c=>
  obtain⟨callee,args,ats⟩:=c;cases callee with
  |invoke r m=>simp[aH,ah]at h
  |value g=>simp only[aH]at h;split at h;rename_i g' fs cs xs hf Qn;split at h;rename_i hh;simp only[af,ay]at h;obtain⟨⟨d,S1⟩,h3,rfl,rfl,rfl⟩:=h;cases hF;obtain⟨b,hn,hS,hT⟩:=RO h3;exact⟨some (aB,b),hS,λ_ _ hw=>by cases hw;exact⟨ab,rfl,jh hn⟩,λT _ hx=>by simp only[aH,hf,Qn,if_pos hh,hT T ((hx aB ab).trans hn),az];rfl⟩;rename_i hh;split at h;rename_i hp;simp only[af,ay]at h;obtain⟨d,h3,rfl,rfl,rfl⟩:=h;cases hF;exact⟨none,rfl,ab,λT hT hx=>by simp only[aH,hf,Qn,if_neg hh,hp,if_true,h3,az];rfl⟩;rename_i hp;split at h;rename_i i v1 l1 ho;cases h;cases hF;obtain⟨hi,hT⟩:=Gq ho;exact⟨some (i,.cells l1),rfl,λ_ _ hw=>by cases hw;exact⟨ab,rfl,hi⟩,λT _ hx=>by simp only[aH,hf,Qn,if_neg hh,if_neg hp,hT T (hx i ab)];rfl⟩;rename_i ho;split at h;rename_i R v1 S1 hmu;exact(hm ⟨g,args,ats,_,_,_,_,R,v1,S1,rfl,hf,Qn,hh,hp,ho,hmu⟩).elim;simp only[af,ay]at h;obtain⟨r,h3,rfl,rfl,rfl⟩:=h;cases hF;simp only[af,ay]at h;obtain⟨r,h3,rfl,rfl,rfl⟩:=h;cases hF;cases h
  |builtin b=>
   by_cases hb:b=.append
   .subst hb;simp only[aH]at h;split at h;cases h;rename_i hh;split at h;cases h;rename_i hsl;have aeA:∀a da,args.toList[0]? =some a->ρ a=some da->C3 (some da)=false:=λa da h0 h1=>by
     have:args[0]? =some a:=by rw[<-jx];exact h0
     rw[this]at hsl;rw[<-h1];simpa using hsl
    have hstep:∀T:aj,ah P ty aD call yf ρ ⟨dst,.call ⟨.builtin .append,args,ats⟩,type,pos,after,guard⟩ T aB=match args.toList,ats.toList with
      |[x,y],[t,u]=>if t=u then match ρ x,ρ y with
        |some a,some b=>jv ty T aB t a b
        |_,_=>none
       else none
      |_,_=>none:=λT=>by
     simp only[ah];generalize args.toList=l at aeA;generalize ats.toList=m
     match l,m with
     |[x,y],[t,u]=>
      dsimp only;cases hx:ρ x with
      |none=>rfl
      |some a=>
       cases ρ y with
       |none=>rfl
       |some b=>have h0:=aeA x a rfl hx;cases a<;>first|(simp[C3]at h0;done)|rfl|(dsimp only;split<;>first|exact absurd ‹_› hh|rfl)
     |[],_=>rfl
     |[_],_=>rfl
     |_::_::_::_,_=>rfl
     |[_,_],[]=>rfl
     |[_,_],[_]=>rfl
     |[_,_],_::_::_::_=>rfl
    have main:∀(r:DV×aj)(F:cx),ah P ty aD call yf ρ ⟨dst,.call ⟨.builtin .append,args,ats⟩,type,pos,after,guard⟩ S aB=some r->S[aB]? =some .none->aB∈F->(∀rw tk fl,(args[0]?).bind ρ=some (.sl rw (some tk) fl)->tk∈F)->(∀T:aj,T[aB]? =some .none->aH P ty aD call yf ρ ⟨dst,.call ⟨.builtin .append,args,ats⟩,type,pos,after,guard⟩ T aB=(ah P ty aD call yf ρ ⟨dst,.call ⟨.builtin .append,args,ats⟩,type,pos,after,guard⟩ T aB).map (λr=>(r.1,r.2,(⟨some F,true⟩:cM))))->
      ∃w,Eff P ty aD call yf ρ ⟨dst,.call ⟨.builtin .append,args,ats⟩,type,pos,after,guard⟩ S aB r.1 r.2 ⟨some F,true⟩ F w:=by
     intro r F hr hS hnF htk Je;rw[hstep]at hr;split at hr;rename_i a b t u pG Zb;split at hr;rename_i SS;split at hr;rename_i da db ha qY;obtain⟨w,w1,w2,w3⟩:=LY (v:=r.1) (S':=r.2) hr (jh hS);have Hl:(args[0]?).bind ρ=some da:=by grind
     refine⟨w,w1,λi c hw=>?_,λT hT hx=>?_⟩
     grind
     grind
     cases hr;cases hr;cases hr
    split at h;rename_i rw' tk fl hS qY;simp only[af,ay]at h;obtain⟨r,h3,rfl,rfl,rfl⟩:=h;cases hF;exact main r [tk,aB] h3 hS ab (λ_ _ _ he=>by rw[qY]at he;cases he;simp) λT hT=>by simp only[aH,if_neg hh,hT,qY,C3,aJ,if_false]
    rename_i hS hno;simp only[af,ay]at h;obtain⟨r,h3,rfl,rfl,rfl⟩:=h;cases hF;refine main r [aB] h3 hS ab (λrw' tk fl he=>absurd he (hno rw' tk fl)) λT hT=>?_;simp only[aH,if_neg hh,if_neg hsl,hT];cases h
   have hop:uW (.call ⟨.builtin b,args,ats⟩):=by cases b<;>first|trivial|exact absurd rfl hb
   have Je:∀T,aH P ty aD call yf ρ ⟨dst,.call ⟨.builtin b,args,ats⟩,type,pos,after,guard⟩ T aB=(ah P ty aD call yf ρ ⟨dst,.call ⟨.builtin b,args,ats⟩,type,pos,after,guard⟩ T aB).map (λr=>(r.1,r.2,(⟨some [],false⟩:cM))):=λT=>by cases b<;>first|rfl|exact absurd rfl hb
   rw[Je]at h;exact plain hop h Je
 all_goals exact plain trivial h λT=>rfl
structure aeX (P:Program) (ty:fo) (aD:bR) (call:aY) (yf:di) (ρ:Operand->Option DV) (o:Oper) (S:aj) (aB:Nat) (v:DV) (S':aj) (f:cM) (F:cx) (A:aj->aj):Prop where
 res:S'=A S
 loc:∀T,(F≠[]->T.length=S.length)->(∀x∈F,T[x]? =S[x]?)->aH P ty aD call yf ρ o T aB=some (v,A T,f)
 len:∀T:aj,(A T).length=T.length
 out:∀(T:aj) id,(F≠[]->T.length=S.length)->¬(f.wr=true/\id∈F)->(A T)[id]? =T[id]?
 inn:∀(T:aj) id,id∈F->T.length=S.length->T[id]? =S[id]? ->(A T)[id]? =(A S)[id]?
theorem P3{S T:aj}:∀{R:cx},(∀i∈R,T[i]? =S[i]?)->R.flatMap (Hx T)=R.flatMap (Hx S)
 |[],_=>rfl
 |i::R,h=>by
  have e:Hx T i=Hx S i:=by unfold Hx;rw[h i (gG ..)]
  rw[de,de,e,P3 λj hj=>h j (mH _ hj)]
theorem Iw{S T:aj}{R:cx}(h:∀i∈qB S R,T[i]? =S[i]?):qB T R=qB S R:=by unfold qB;rw[P3 λi hi=>h i (pY _ hi)]
theorem WK{S T:aj}{args:cj}(h:∀i∈iU S args,T[i]? =S[i]?):iU T args=iU S args:=by have h2:∀i∈qB S (qB S (args.flatMap zB)),T[i]? =S[i]? :=λi hi=>h i (pY _ hi);have h1:∀i∈qB S (args.flatMap zB),T[i]? =S[i]? :=λi hi=>h2 i (pY _ hi);unfold iU;rw[Iw h1,Iw h2,Iw h]
theorem aak{S T:aj}{R:cx}(hl:T.length=S.length)(h:∀i∈R,T[i]? =S[i]?):sJ T R=sJ S R:=by
 refine mG λi=>?_;simp only[sJ,oc];by_cases hi:i∈R
 grind
 grind
theorem agK{S T:aj}{R:cx}{Q:cx}(h:∀i∈R,T[i]? =S[i]?):R.all (j6 T Q)=R.all (j6 S Q):=by rw[Bool.eq_iff_iff,aR,aR];exact⟨λk i hi=>by have:=k i hi;unfold j6 at this⊢;rwa [h i hi]at this,λk i hi=>by have:=k i hi;unfold j6 at this⊢;rwa [h i hi]⟩
theorem Sc{g:FuncId}{args:cj}{S S1:aj}{R:cx}{v:DV}(h:nA call g args S=some (R,v,S1)):R≠[]/\∀T:aj,T.length=S.length->(∀x∈R,T[x]? =S[x]?)->nA call g args T=some (R,v,S1):=by
 have h0:=h;unfold nA at h;split at h;rename_i hq;split at h;split at h;cases h;refine⟨λe=>?_,λT hl hT=>?_⟩
 grind
 unfold nA at h0⊢;rw[WK hT,aak hl hT,agK hT];exact h0;cases h;cases h;cases h
theorem agI{ρ:Operand->Option DV}{o:Oper}{S S':aj}{aB:Nat}{v:DV}{f:cM}{F:cx}{w:Option (Nat×DB)}(h:Eff P ty aD call yf ρ o S aB v S' f F w):aeX P ty aD call yf ρ o S aB v S' f F (appW w) where
 res:=h.res
 loc:=h.loc
 len:=λT=>by cases w<;>simp[appW]
 out:=λT id hl hn=>by
  cases w with
  |none=>rfl
  |some p=>obtain⟨i,b⟩:=p;obtain⟨q1,q2,-⟩:=h.Fg i b rfl;simp only[appW];rw[aM,if_neg];rintro rfl;exact hn ⟨q2,q1⟩
 inn:=λT id hi hl hT=>by
  cases w with
  |none=>exact hT
  |some p=>obtain⟨i,b⟩:=p;simp only[appW];rw[aM,aM,hl,hT]
theorem W9{g:FuncId}{args:cj}{S S1 T:aj}{R:cx}{v v2:DV}{i:Nat}{l:cj}(h:nA call g args S=some (R,v,S1))(ho:oG call g args T=some (i,v2,l)):i∈R:=by unfold nA at h;split at h;split at h;split at h;cases h;unfold oG at ho;split at ho;rename_i j off rest;split at ho;split at ho;split at ho;split at ho;cases ho;unfold iU qB;simp[zB];cases ho;cases ho;cases ho;cases ho;cases ho;cases h;cases h;cases h
theorem VG{ρ:Operand->Option DV}{o:Oper}{S S':aj}{aB:Nat}{v:DV}{f:cM}(h:aH P ty aD call yf ρ o S aB=some (v,S',f)){F:cx}(hF:f.ids=some F):∃A,aeX P ty aD call yf ρ o S aB v S' f F A:=by
 by_cases hm:abT P ty aD call yf ρ o S;obtain⟨c,args,ats,g,fs,cs,xs,R,v1,S1,k1,k2,k3,k4,k5,k6,k7⟩:=hm;obtain⟨dst,op,type,pos,after,guard⟩:=o;simp only at k1;subst k1;simp only[aH,k2,k3,if_neg k4,if_neg k5,k6,k7,aF,ay]at h;obtain⟨rfl,rfl,rfl⟩:=h;cases hF;obtain⟨hne,ki⟩:=Sc k7;refine⟨λT=>kF T S1 F,rfl,λT hl hT=>?_,λT=>by simp[kF],λT id _ hn=>iy λhi=>hn ⟨rfl,hi⟩,λT id hi hl hT=>?_⟩;have k6':oG call g (fs++xs++cs) T=none:=by
  cases e:oG call g (fs++xs++cs) T with
  |none=>rfl
  |some p=>obtain⟨i,v2,l2⟩:=p;obtain⟨-,hT2⟩:=Gq e;have hi:i∈F:=W9 k7 e;rw[hT2 S (hT i hi).symm]at k6;cases k6
 simp only[aH,k2,k3,if_neg k4,if_neg k5,k6',ki T (hl hne) hT];simp only[kF,oc,hT];obtain⟨w,hw⟩:=aaI h hF hm;exact⟨_,agI hw⟩
end Go.Di
