import Derived.Test.YtedcgbkilmlbhaaGreatPk31
namespace Go.Di
open Go Go.Conc Go.Co
open Go.ConcN (sumTo sumTo_upd sumTo_congr le_sumTo upd upd_same upd_ne)
variable {P:Program} {aa:Machine->Trace->Prop} {ty:gb} {x:Cx} {aI:b9} {call:bG} {yf:ez}
def Lc(ops:Array Oper):Prop:=∀i o,ops[i]? =some o->∀e∈o.after,Region.binds .any e=true->e.on<i
theorem HY{ops:Array Oper}(rU:Lc ops){i j:Nat}(hne:i≠j)(h:((Region.before ops).getD j 0).testBit i=true):i<j:=by
 have sV:Closed ops λk=>decide (k<=j):=by intro k o ho hk e he hb;have:=rU k o ho e he hb;simp only[cA]at hk⊢;omega
 have:=vR ops sV j i h ae;simp only[cA]at this;omega
theorem QC{ops:Array Oper}(rU:Lc ops){L:Nat->Bool}(hL:Closed ops L){i j:Nat}{o:Oper}(ho:ops[i]? =some o)(hi:L i=false)(yO:∀e∈o.after,Region.binds .any e=true->L e.on=true)(hne:i≠j)
  (h:((Region.before ops).getD j 0).testBit i=true\/((Region.before ops).getD i 0).testBit j=true):L j=true↔j<i:=by
 rcases h with h|h;have h1:=HY rU hne h;refine⟨λhj=>?_,λhj=>ab⟩;have:=vR ops hL j i h hj;rw[hi]at this;cases this;have h1:=HY rU (Ne.symm hne) h;refine⟨λ_=>h1,λ_=>?_⟩;have sV:Closed ops (upd L i true):=by
  intro k o' ow hk e he hb;by_cases Ux:k=i;subst Ux;rw[ho]at ow;cases ow;by_cases Uy:e.on=k
  grind
  rw[upd_ne _ _ Uy];exact yO e he hb
  rw[upd_ne _ _ Ux]at hk;by_cases Uy:e.on=i;rw[Uy,upd_same];rw[upd_ne _ _ Uy];exact hL k o' ow hk e he hb
 have:=vR ops sV i j h (upd_same _ _ _)
 rwa [upd_ne _ _ (Ne.symm hne)]at this
def qO(ops:Array Oper)(j:Nat)(t:Tmp):Bool:=match ops[j]? with
 |some o=>o.dst==some t
 |none=>false
def oe(ops:Array Oper)(V:Nat->DV)(L:Nat->Bool)(t:Tmp):Nat->Option DV
 |0=>none
 |n+1=>if L n&&qO ops n t then some (V n)else oe ops V L t n
theorem mc{ops:Array Oper}{V:Nat->DV}{L:Nat->Bool}{t:Tmp}{i:Nat}:∀{n:Nat},i<=n->(∀j,j<n->qO ops j t=true->(L j=true↔j<i))->oe ops V L t n=oe ops V (λ_=>true) t i
 |0,h,_=>by
  have:i=0:=ab
  subst this;rfl
 |n+1,h,hj=>by
  by_cases oK:i=n+1;subst oK;unfold oe;by_cases hd:qO ops n t=true
  grind
  simp only[aD,hd,and_false,if_false,aK];exact mc (ak _) λj h1 h2=>⟨λ_=>h1,λ_=>(hj j (rq h1) h2).2 (rq h1)⟩;have hle:i<=n:=ab
  rw[<-mc hle λj h1 h2=>hj j ab h2]
  conv=>lhs;unfold oe
  by_cases hd:qO ops n t=true
  grind
  simp[hd]
theorem Cu{ops:Array Oper}{V:Nat->DV}{L:Nat->Bool}{t:Tmp}{i:Nat}(hd:qO ops i t=false):∀n,oe ops V (upd L i true) t n=oe ops V L t n
 |0=>rfl
 |n+1=>by
  unfold oe;rw[Cu hd n];by_cases h:n=i
  grind
  rw[upd_ne _ _ h]
def GI(ops:Array Oper)(V:Nat->DV)(L:Nat->Bool)(n:Nat)(ajY env:cj):Prop:=∀t,env[t]? =(ajY[t]?).map λd=>(oe ops V L t n).getD d
theorem LI(env:cj)(dst:Option Tmp)(v:DV)(t:Tmp):(kH env dst v)[t]? =if dst=some t then(env[t]?).map λ_=>v else env[t]? :=by
 cases dst with
 |none=>simp[kH]
 |some d=>
  simp only[kH,aS,aG];by_cases h:d=t
  grind
  simp[h]
def PZ(ops:Array Oper)(V:Nat->DV)(E:Nat->cj):Prop:=∀j o,ops[j]? =some o->E (j+1)=kH (E j) o.dst (V j)
theorem Db{ops:Array Oper}{V:Nat->DV}{E:Nat->cj}(h:PZ ops V E):∀i,i<=ops.size->GI ops V (λ_=>true) i (E 0) (E i)
 |0,_=>λt=>by simp[oe]
 |i+1,hi=>λt=>by
  have ho:ops[i]? =some ops[i]:=cD ab;have ih:=Db h i ab t;rw[h i _ ho,LI];unfold oe;have hd:qO ops i t=(ops[i].dst==some t):=by unfold qO;rw[ho]
  by_cases hdt:ops[i].dst=some t
  grind
  grind
theorem HS{ops:Array Oper}{V:Nat->DV}{E:Nat->cj}{L:Nat->Bool}{env:cj}{i:Nat}{o:Oper}(ho:ops[i]? =some o)(hE:GI ops V L ops.size (E 0) env)
  (ahZ:∀t,o.dst=some t->∀j,j<ops.size->qO ops j t=true->(upd L i true j=true↔j<i+1)):GI ops V (upd L i true) ops.size (E 0) (kH env o.dst (V i)):=by
 intro t;have hi:i<ops.size:=(aN.1 ho).1;rw[LI];have hd:qO ops i t=(o.dst==some t):=by unfold qO;rw[ho]
 by_cases hdt:o.dst=some t;have e:oe ops V (λ_=>true) t (i+1)=some (V i):=by unfold oe;simp[hd,hdt]
 rw[if_pos hdt,mc (i:=i+1) ab (ahZ t hdt),hE t,e];simp[Function.comp_def];have h2:qO ops i t=false:=by rw[hd];simpa using hdt
 rw[if_neg hdt,Cu h2];exact hE t
theorem Cr{ops:Array Oper}(rU:Lc ops)(Kh:mJ ops (Region.before ops)=true){V:Nat->DV}{E:Nat->cj}(hS:PZ ops V E){L:Nat->Bool}(hL:Closed ops L){env:cj}(hE:GI ops V L ops.size (E 0) env){i:Nat}{o:Oper}(ho:ops[i]? =some o)(hi:L i=false)
  (yO:∀e∈o.after,Region.binds .any e=true->L e.on=true):(∀t∈mL ops o,env[t]? =(E i)[t]?)/\∀t,o.dst=some t->∀j,j<ops.size->qO ops j t=true->(upd L i true j=true↔j<i+1):=by
 have hio:i<ops.size:=(aN.1 ho).1;have hx:∀t∈mL ops o,∀j,j<ops.size->j≠i->qO ops j t=true->(L j=true↔j<i):=by
  intro t ht j hj hne hd;have hoj:ops[j]? =some ops[j]:=cD hj;have Uz:ops[j].dst=some t:=by unfold qO at hd;rw[hoj]at hd;simpa using hd
  refine QC rU hL ho hi yO (Ne.symm hne) ?_;unfold mJ at Kh;simp only[aD,aX]at Kh;have h1:=Kh.2 (o,i) (by rw[zP];simpa using ho) (ops[j],j) (by rw[zP];simp);simp only[Uz]at h1;have hc:(mL ops o).contains t=true:=by simpa using ht
  simp only[hc,gQ,Bool.or_false,j9,ee]at h1;rcases h1 with (h1|h1)|h1
  grind
  grind
  grind
 constructor;intro t ht;rw[hE t,Db hS i ab t];congr 1;funext d;rw[mc (i:=i) ab λj hj hd=>?_];by_cases jy:j=i
 grind
 grind
 intro t ht j hj hd;by_cases jy:j=i;subst jy;simp[upd_same]
 rw[upd_ne _ _ jy,hx t (by simp[mL,ht]) j hj jy hd];omega
theorem HQ{ops:Array Oper}{o:Oper}{env aL:cj}(h:∀t∈mL ops o,env[t]? =aL[t]?):∀a∈o.op.operands,jA env a=jA aL a:=by
 intro a ha;cases a with
 |tmp t=>
  have:t∈mL ops o:=by
   unfold mL;simp only[eG];left;right
   rw[RJ];exact⟨.tmp t,by simpa using ha,rfl⟩
  simp only[jA,aU,h t this]
 |_=>rfl
theorem Ai{ops:Array Oper}{o:Oper}{env aL:cj}(h:∀t∈mL ops o,env[t]? =aL[t]?):cI ops env o=cI ops aL o:=by
 unfold cI;cases hg:o.guard with
 |none=>rfl
 |some g=>
  obtain⟨j,want⟩:=g;simp only;cases hb:(ops[j]?).bind (·.dst)with
  |none=>rfl
  |some t=>
   have:t∈mL ops o:=by unfold mL;rw[hg];simp[hb]
   simp only[h t this]
theorem LO{ops:Array Oper}(h:mJ ops (Region.before ops)=true):Lc ops:=by intro i o ho e he hb;unfold mJ at h;simp only[aD,aX,Array.all_eq_true']at h;have h1:=h.1 (o,i) (by rw[zP];simpa using ho) e he;simpa [hb]using h1
theorem LB{ops:Array Oper}{S:ai}:∀{r:List Oper}{env aL:cj},rF P ty aI call yf ops S r env=some aL->∃(E:Nat->cj)(V:Nat->DV),E 0=env/\E r.length=aL/\
  ∀j o,r[j]? =some o->E (j+1)=kH (E j) o.dst (V j)/\(cI ops (E j) o=true->dO P ty aI call yf (jA (E j)) o S=some (V j))/\(cI ops (E j) o=false->V j=bK)
 |[],env,aL,h=>by simp only[rF,aG]at h;exact⟨λ_=>env,λ_=>bK,rfl,h,ae⟩
 |o::r,env,aL,h=>by
  unfold rF at h;have key:∀v,rF P ty aI call yf ops S r (kH env o.dst v)=some aL->(cI ops env o=true->dO P ty aI call yf (jA env) o S=some v)->(cI ops env o=false->v=bK)->∃(E:Nat->cj)(V:Nat->DV),E 0=env/\E (o::r).length=aL/\
    ∀j o',(o::r)[j]? =some o'->E (j+1)=kH (E j) o'.dst (V j)/\(cI ops (E j) o'=true->dO P ty aI call yf (jA (E j)) o' S=some (V j))/\(cI ops (E j) o'=false->V j=bK):=λv h1 h2 h3=>by
   obtain⟨E,V,e1,e2,e3⟩:=LB h1;refine⟨λn=>match n with|0=>env|n+1=>E n,λn=>match n with|0=>v|n+1=>V n,rfl,by simpa using e2,λj o' ow=>?_⟩;cases j with
   |zero=>grind
   |succ j=>exact e3 j o' (by simpa using ow)
  split at h;rename_i hw;split at h;rename_i v h1;exact key v h (λ_=>h1) λhf=>by rw[hw]at hf;cases hf
  cases h;rename_i hw;exact key bK h (λht=>absurd ht hw) λ_=>rfl
theorem quiet_step{ρ:Operand->Option DV}{o:Oper}{S:ai}{v:DV}(h:dO P ty aI call yf ρ o S=some v):af P ty aI call yf ρ o S S.length=some (v,S):=by
 obtain⟨dst,op,type,pos,after,guard⟩:=o;have gen:∀{q:Option (DV×ai)},q.map (·.1)=some v->(∀d S',q=some (d,S')->S'=S)->q=some (v,S):=by intro q hq hs;simp only[ah]at hq;obtain⟨⟨d,S'⟩,h1,rfl⟩:=hq;rw[h1,hs d S' h1]
 have mp:∀{β:Type}{q:Option β}{f:β->DV}{d:DV}{S':ai},q.map (λc=>(f c,S))=some (d,S')->S'=S:=by intro β q f d S' hq;simp only[ah,aA]at hq;obtain⟨_,_,_,h⟩:=hq;exact h.symm
 cases op<;>simp only[dO]at h
 case call c=>
  obtain⟨callee,args,ats⟩:=c;cases callee with
  |builtin b=>
   cases b<;>simp only at h<;>first|cases h|skip
   all_goals
     refine gen h λd S' hq=>?_;simp only[af]at hq
     repeat' split at hq
     all_goals first|contradiction|exact mp (f:=id) hq|exact mp hq|(cases hq;rfl)|(cases hq;done)|skip
  |value f=>simp only at h;split at h;rename_i g fs cs xs hf RS;split at h;cases h;rename_i hh;split at h;rename_i hp;simp only[af,hf,RS,xz,hp,if_true,h];cases h;cases h
  |invoke r m=>simp[af]at h
 case buildSlice t n ps=>
  split at h;cases h;rename_i hh;refine gen h λd S' hq=>?_;simp only[af]at hq
  repeat' split at hq
  all_goals first|contradiction|(cases hq;first|rfl|contradiction)
 all_goals first
  |cases h
  |(refine gen h λd S' hq=>?_;simp only[af]at hq;repeat' split at hq
    all_goals first|contradiction|exact mp (f:=id) hq|exact mp hq|(cases hq;rfl)|(cases hq;done)|skip)
theorem MU{ρ ρ':Operand->Option DV}{o:Oper}{S:ai}(h:∀a∈o.op.operands,ρ a=ρ' a):dO P ty aI call yf ρ o S=dO P ty aI call yf ρ' o S:=by
 have hs:=Ao (P:=P) (ty:=ty) (aI:=aI) (call:=call) (yf:=yf) (S:=S) (aC:=S.length) h;unfold dO;split<;>try rfl
 rw[hs];rename_i f args ats hop;rw[hop]at h;have h1:ρ f=ρ' f:=h f (by simp[Op.operands,Call.operands]);have h2:=nA (ρ:=ρ) (ρ':=ρ') (l:=args.toList) λa ha=>h a (by simp[Op.operands,Call.operands]at ha⊢;exact .inr ha);rw[h1,h2];rw[hs]
theorem OJ(hP:Plain P)(fN:kM P ty)(hc:iF P aa call)(hi:Cb P aa aI)(sY:B9 P aa yf){ops:Array Oper}{b:Frame}{k:List Item}{cs:List Frame}(hk:b.kind≠.early)(Kh:mJ ops (Region.before ops)=true)
  {env aL:cj} {a:Act} (h:rF P ty aI call yf ops x.S ops.toList env=some aL) (hR:Rel x) (he:ig x env a.tmps)
  (hn:∀y a',y.S=x.S->Rel y->cg x y->ig y aL a'.tmps->a'.defers=a.defers->jh P aa () (G (b.atR a' k) cs) y.w) (t:Nat):jh P aa () (G (b.atR a (.inRegion ops (Region.linearise .any ops t)::k)) cs) x.w:=by
 have rU:=LO Kh;obtain⟨E,V,e1,e2,e3⟩:=LB h;have Ix:∀(j:Nat)(o:Oper),ops[j]? =some o->ops.toList[j]? =some o:=λj o ho=>by simpa using ho
 have hS:PZ ops V E:=λj o ho=>(e3 j o (Ix j o ho)).1;refine xG rU (σ:=Act×Cx) (λtodo s=>s.2.S=x.S->Rel s.2->cg x s.2->s.1.defers=a.defers->jh P aa () (G (b.atR s.1 (.inRegion ops todo::k)) cs) s.2.w)
  (λL s=>∃qF,ig s.2 qF s.1.tmps/\GI ops V L ops.size (E 0) qF) ?_ ?_ t (a,x) ⟨env,he,λt=>?_⟩ rfl hR (cg.refl x) rfl
 rintro L ⟨a1,y⟩ i o ⟨qF,xg,Z3⟩ sV ho UC yO rest DT hSy Dz UZ Nt;simp only at xg hSy Dz UZ Nt⊢;obtain⟨q1,q2⟩:=Cr rU Kh hS sV Z3 ho UC yO;have hw:=Ai q1;have Zn:=Be xg ops o;have hE2:=HS (V:=V) ho Z3 q2;by_cases hwt:cI ops (E i) o=true;have hq:=(e3 i o (Ix i o ho)).2.1 hwt;rw[<-MU (HQ q1),<-hSy]at hq;refine VQ hP fN hc hi sY hk ho (by rw[Zn,hw];exact hwt) Dz (.inl rfl) xg (quiet_step hq) λz u zS zR zM zV=>?_;have pP:=A0 (xg.mono zM) (dst:=o.dst) zV;exact DT (a1.put o.dst u,z) ⟨_,pP.1,hE2⟩ (zS.trans hSy) zR (UZ.trans zM) (pP.2.trans Nt);have hwf:cI ops (E i) o=false:=by simpa using hwt
 have hv:=(e3 i o (Ix i o ho)).2.2 hwf;have pP:=A0 xg (dst:=o.dst) (d:=V i) (v:=undef) (by rw[hv];exact .val rfl);exact gq hP (λw=>⟨_,vH ho (by rw[Zn,hw];exact hwf)⟩) (DT (a1.put o.dst undef,y) ⟨_,pP.1,hE2⟩ hSy Dz UZ (pP.2.trans Nt));rintro L ⟨a1,y⟩ ⟨qF,xg,Z3⟩ gd hSy Dz UZ Nt;have:qF=aL:=by
  refine nR λt=>?_;have hlen:E ops.size=aL:=by simpa using e2
  rw[Z3 t,<-hlen,Db hS ops.size (ak _) t];congr 1;funext d;rw[mc (i:=ops.size) (ak _) λj hj _=>by simp[gd j hj,hj]]
 subst this;exact gq hP (λw=>⟨_,rO⟩) (hn y a1 hSy Dz UZ xg Nt);rw[e1];have:∀n,oe ops V (λ_=>false) t n=none:=by
  intro n;induction n with
  |zero=>rfl
  |succ n ih=>unfold oe;simp[ih]
 rw[this];simp
end Go.Di
namespace Go.Di
open Go Go.Conc Go.Co
variable {P:Program} {aa:Machine->Trace->Prop} {x y:Cx} {R:cy} {T:ai}
theorem Mu{S:ai}{i:Nat}(h:lz S R i=true):∃l,S[i]? =some (.cells l)/\(l.map dK).all (Nk R)=true:=by
 unfold lz at h;split at h
 grind
 cases h
theorem qo{S:ai}{k:Nat}{b:DB}(h:(uu S R)[k]? =some b)(hb:b≠.none):k∈R/\∃l,S[k]? =some (.cells l)/\b=.cells (l.map dK):=by
 simp only[uu,pE,ah]at h;obtain⟨c,hc,rfl⟩:=h;split at hb;rename_i hk;rw[if_pos hk];refine⟨by simpa using hk,?_⟩;cases c with
 |cells l=>exact⟨l,hc,rfl⟩
 |_=>exact absurd rfl hb
 grind
theorem zf{S:ai}{k:Nat}{l:cj}(hk:k∈R)(h:S[k]? =some (.cells l)):(uu S R)[k]? =some (.cells (l.map dK)):=by simp only[uu,pE,h,az,VR,if_pos (show R.contains k=true by simpa using hk)]
theorem je{S S1:ai}{k:Nat}(hk:k∉R):(lT S S1 R)[k]? =S[k]? :=by simp only[lT,pE,if_neg (show¬R.contains k=true by simpa using hk)];exact Option.map_id'
theorem BM{S S1:ai}{k:Nat}{l l':cj}(hk:k∈R)(h:S[k]? =some (.cells l))(h1:S1[k]? =some (.cells l')):(lT S S1 R)[k]? =some (.cells (l'.map dK)):=by simp only[lT,pE,h,az,if_pos (show R.contains k=true by simpa using hk),Wc,h1]
section
variable (hF:∀b o,x.Fz b o->y.Fz b o/\y.w.cell? ⟨b,o,none⟩=x.w.cell? ⟨b,o,none⟩) (hP:∀i∈R,∃l,y.S[i]? =some (.cells l)/\y.μ i=x.μ i)
include hF hP
theorem Ww{d:DV}{v:Value}(h:RV x d v)(hd:ZP R d.aO=true):RV y d.aO v:=by
 cases d with
 |ptr i off=>
  cases h with
  |ptr _=>obtain⟨l,h1,h2⟩:=hP i (by simpa [ZP,DV.aO]using hd);rw[<-h2];exact .ptr h1
 |_=>exact h.aO.nD hF hd
theorem N2{d:DV}{v:Value}(h:RV x d v)(hd:Nk R (dK d)=true):RV y (dK d) v:=by
 cases d with
 |ptr i off=>
  cases h with
  |ptr _=>obtain⟨l,h1,h2⟩:=hP i (by simpa [Nk,dK,DV.aO]using hd);rw[<-h2];exact .ptr h1
 |fn f fs cs=>
  simp only[Nk,dK,aD]at hd⊢;cases h with
  |fn h1 h2 h3 h4=>refine .fn (by simpa using h1) (by simpa using h2) (λj c hc=>?_) (λj c hc=>?_);have:=aX.1 hd.1 c (cB hc);simp only[dG,ah]at hc;obtain⟨c',h5,rfl⟩:=hc;exact Ww hF hP (h3 j c' h5) this;have:=aX.1 hd.2 c (cB hc);simp only[dG,ah]at hc;obtain⟨c',h5,rfl⟩:=hc;exact Ww hF hP (h4 j c' h5) this
 |_=>exact h.aO.nD hF hd
theorem afE{d:DV}{v:Value}(h:RV x d v)(hd:okA R (jG d)=true):RV y (jG d) v:=by
 cases d with
 |ptr i off=>
  cases h with
  |ptr _=>obtain⟨l,h1,h2⟩:=hP i (by simpa [okA,jG,DV.strip,DV.dL]using hd);rw[<-h2];exact .ptr h1
 |fn f fs cs=>exact N2 hF hP h hd
 |_=>exact h.strip.pure_mono hF hd
end
def Cx.yV (x:Cx)(R:cy):Cx:={x with S:=uu x.S R}
def Cx.u5 (x y:Cx)(R:cy):Cx:={w:=y.w,μ:=x.μ,κ:=x.κ,Fz:=y.Fz,S:=lT x.S y.S R}
theorem nw{k:Nat}(h:Live (x.yV R).S k):k∈R/\Live x.S k:=by obtain⟨b,hb,hn⟩:=h;obtain⟨h1,l,h2,-⟩:=qo hb hn;exact⟨h1,_,h2,ae⟩
theorem X5(hR:Rel x)(hc:∀i∈R,∃l,x.S[i]? =some (.cells l)/\(l.map dK).all (Nk R)=true):Rel (x.yV R):=by
 have hP:∀i∈R,∃l,(x.yV R).S[i]? =some (.cells l)/\(x.yV R).μ i=x.μ i:=λi hi=>by obtain⟨l,h,-⟩:=hc i hi;exact⟨_,zf hi h,rfl⟩
 refine⟨λid l2 h=>?_,λid e s n h=>?_,λid b h hb=>?_,λj k hj hk he=>hR.inj j k (nw hj).2 (nw hk).2 he,hR.AE,λid ⟨l,h⟩ o hF=>?_,λid e s n h=>?_,λid e s l z h=>?_⟩;obtain⟨hi,l,h2,h3⟩:=qo h ae;cases h3;obtain⟨l0,h4,h5⟩:=hc id hi;rw[h2]at h4;cases h4;obtain⟨arr,e,h6,h7,h8⟩:=hR.cells id l h2;refine⟨arr,e,h6,by simpa using h7,λj c hj=>?_⟩;have hm:=aX.1 h5 c (cB hj);simp only[dG,ah]at hj;obtain⟨c',h9,rfl⟩:=hj;exact N2 (x:=x) (y:=x.yV R) (λb o h=>⟨h,rfl⟩) hP (h8 j c' h9) hm;obtain⟨-,l,-,h3⟩:=qo h ae;cases h3;obtain⟨-,l,-,h3⟩:=qo h (fJ hb);subst h3;cases hb;obtain⟨-,l,h2,-⟩:=qo h ae;exact hR.sep id ⟨l,h2⟩ o hF;obtain⟨-,l,-,h3⟩:=qo h ae;cases h3;obtain⟨-,l,-,h3⟩:=qo h ae;cases h3
section
variable (hR:Rel x) (hc:∀i∈R,∃l,x.S[i]? =some (.cells l)/\(l.map dK).all (Nk R)=true) (M:cg (x.yV R) y)
include hR M
theorem sK{id:Nat}{b:DB}{o:Obj}(hb:x.S[id]? =some b)(hne:b≠.none)(hid:id∉R)(ho:x.w.heap[x.μ id]? =some o):y.w.heap[x.μ id]? =x.w.heap[x.μ id]? :=by refine M.old _ (aN.1 ho).1 λk hk he=>?_;obtain⟨h1,h2⟩:=nw hk;exact hid (hR.inj k id h2 ⟨b,hb,hne⟩ he▸h1)
omit hR in
include hc in
theorem qy{i:Nat}(hi:i∈R):∃l',y.S[i]? =some (.cells l')/\y.μ i=x.μ i/\(x.u5 y R).S[i]? =some (.cells (l'.map dK)):=by obtain⟨l,h,-⟩:=hc i hi;obtain⟨h1,l',h2⟩:=M.cells i _ (zf hi h);exact⟨l',h2,h1,BM hi h h2⟩
include hc
omit hR in
theorem qv{k:Nat}{b:DB}(h:(x.u5 y R).S[k]? =some b):(k∈R/\∃l',y.S[k]? =some (.cells l')/\b=.cells (l'.map dK))\/(k∉R/\x.S[k]? =some b):=by by_cases hk:k∈R;obtain⟨l',h1,-,h3⟩:=qy hc M hk;rw[h3]at h;exact .inl ⟨hk,l',h1,(cT h).symm⟩;exact .inr ⟨hk,(je hk).symm.trans h⟩
omit hR in
theorem BA{k:Nat}(h:Live (x.u5 y R).S k):Live x.S k:=by
 obtain⟨b,hb,hne⟩:=h;rcases qv hc M hb with ⟨hk,-⟩|⟨-,h⟩;obtain⟨l,h,-⟩:=hc k hk;exact⟨_,h,ae⟩
 exact⟨b,h,hne⟩
theorem Fj:cg x (x.u5 y R) where
 size:=M.size
 env:=M.env
 fz:=M.fz
 Ke:=λb o h=>(M.Ke b o h).imp id λh=>h.imp id λ⟨k,h1,he⟩=>⟨k,(nw h1).2,he⟩
 old:=λb hb hn=>M.old b hb λk hk he=>hn k (nw hk).2 he
 len:=by simp[Cx.u5,lT]
 cells:=λid l2 h=>⟨rfl,by
  by_cases he:id∈R;obtain⟨l',-,-,h3⟩:=qy hc M he;exact⟨_,h3⟩
  exact⟨l2,(je he).trans h⟩⟩
 eH:=λid b h hb=>by
  have he:id∉R:=λhe=>by obtain⟨l,h1,-⟩:=hc id he;rw[h1]at h;cases h;cases hb
  obtain⟨o,ho,-⟩:=hR.eH id b h hb;exact⟨rfl,⟨b,(je he).trans h,fD hb⟩,λ_=>sK hR M h (fJ hb) he ho⟩
 ej:=λt e s n h=>by
  have he:t∉R:=λhe=>by obtain⟨l,h1,-⟩:=hc t he;rw[h1]at h;cases h
  exact⟨n,(je he).trans h,ak _,λ_=>⟨rfl,rfl⟩⟩
 live:=λk h=>.inl ⟨BA hc M h,rfl⟩
 ops:=λt e s l z h=>by
  have he:t∉R:=λhe=>by obtain⟨l,h1,-⟩:=hc t he;rw[h1]at h;cases h
  exact⟨l,z,(je he).trans h,ak _,λe=>⟨rfl,e⟩,λ_=>⟨rfl,rfl⟩⟩
theorem SZ(Dz:Rel y)(hy:∀i∈R,∃l',y.S[i]? =some (.cells l')/\(l'.map dK).all (Nk R)=true):Rel (x.u5 y R):=by
 have MB:=Fj hR hc M;have hP:∀i∈R,∃l,(x.u5 y R).S[i]? =some (.cells l)/\(x.u5 y R).μ i=y.μ i:=λi hi=>by obtain⟨l',-,h2,h3⟩:=qy hc M hi;exact⟨_,h3,h2.symm⟩
 have hF:∀{b o},y.Fz b o->x.Fz b o\/x.w.heap.size<=b\/∃i,i∈R/\Live x.S i/\x.μ i=b:=λ{b o} h=>(M.Ke b o h).imp id λh=>h.imp id λ⟨k,h1,he⟩=>⟨k,(nw h1).1,(nw h1).2,he⟩;refine⟨λid l2 h=>?_,λid e s n h=>?_,λid b h hb=>?_,λj k hj hk he=>hR.inj j k (BA hc M hj) (BA hc M hk) he,Dz.AE,λid ⟨l,h⟩ o hf=>?_,λid e s n h o hf=>?_,λid e s l1 z h=>?_⟩;rcases qv hc M h with ⟨hi,l',h1,h2⟩|⟨hi,h1⟩;cases h2;obtain⟨l3,h3,h4⟩:=hy id hi;rw[h1]at h3;cases h3;obtain⟨arr,e,h5,h6,h7⟩:=Dz.cells id l' h1;obtain⟨l4,-,h8,-⟩:=qy hc M hi;refine⟨arr,e,by rw[h8]at h5;exact h5,by simpa using h6,λj c hj=>?_⟩;have hm:=aX.1 h4 c (cB hj);simp only[dG,ah]at hj;obtain⟨c',h9,rfl⟩:=hj;exact N2 (x:=y) (y:=x.u5 y R) (λb o h=>⟨h,rfl⟩) hP (h7 j c' h9) hm;obtain⟨arr,e,h3,h4,h5⟩:=hR.cells id l2 h1;exact⟨arr,e,(sK hR M h1 ae hi h3).trans h3,h4,λj c hj=>(h5 j c hj).mono MB⟩;rcases qv hc M h with ⟨hi,l',h1,h2⟩|⟨hi,h1⟩;cases h2;obtain⟨arr,h3,h4⟩:=hR.ej id e s n h1;exact⟨arr,(sK hR M h1 ae hi h3).trans h3,h4⟩;rcases qv hc M h with ⟨hi,l',h1,h2⟩|⟨hi,h1⟩;subst h2;cases hb
 obtain⟨o,h3,h4⟩:=hR.eH id b h1 hb;exact⟨o,(sK hR M h1 (fJ hb) hi h3).trans h3,h4.mono MB⟩;rcases qv hc M h with ⟨hi,l',h1,h2⟩|⟨hi,h1⟩;obtain⟨l4,-,h8,-⟩:=qy hc M hi;refine Dz.sep id ⟨l',h1⟩ o ?_;rw[h8];exact hf
 obtain⟨arr,e,h3,-⟩:=hR.cells id l h1;rcases hF hf with h5|h5|⟨k,h5,h6,h7⟩;exact hR.sep id ⟨l,h1⟩ o h5;have:=(aN.1 h3).1;change x.w.heap.size<=x.μ id at h5;omega;exact hi (hR.inj k id h6 ⟨_,h1,ae⟩ h7▸h5);rcases qv hc M h with ⟨hi,l',h1,h2⟩|⟨hi,h1⟩;cases h2;obtain⟨arr,h3,-⟩:=hR.ej id e s n h1;rcases hF hf with h5|h5|⟨k,h5,h6,h7⟩;exact hR.oV id e s n h1 o h5;have:=(aN.1 h3).1;change x.w.heap.size<=x.μ id at h5;omega;exact absurd (hR.inj k id h6 ⟨_,h1,ae⟩ h7▸h5) hi;rcases qv hc M h with ⟨hi,l',h1,h2⟩|⟨hi,h1⟩;cases h2;obtain⟨arr,h4,h3,h6,h7,h8,h9,uG⟩:=hR.ops id e s l1 z h1;refine⟨arr,(sK hR M h1 ae hi h4).trans h4,h3,h6,h7,λj c hc=>⟨(h8 j c hc).1,(h8 j c hc).2.mono MB⟩,λhz j hj=>(M.fz _ _ (h9 hz j hj)).1,λhz o hf=>?_⟩;rcases hF hf with h5|h5|⟨k,h5,h6,h7⟩;exact uG hz o h5;have:=(aN.1 h4).1;change x.w.heap.size<=x.μ id at h5;omega;exact absurd (hR.inj k id h6 ⟨_,h1,ae⟩ h7▸h5) hi
end
theorem Ze{call:bG}(hc:iF P aa call):iF P aa (PV call):=by
 intro f args S v S' h x vals hR hS ha;subst hS;unfold PV at h;split at h;rename_i R v1 S1 ho;cases h;unfold oH at ho;split at ho;rename_i hq;simp only[aD]at hq;obtain⟨⟨-,hA⟩,rS⟩:=hq;split at ho;rename_i v2 S2 mH;split at ho;rename_i hp;simp only[aD]at hp;cases ho;generalize jH x.S args=R at*;have Dy:∀i∈R,∃l,x.S[i]? =some (.cells l)/\(l.map dK).all (Nk R)=true:=λi hi=>Mu (aX.1 rS i hi);have ha':ig (x.yV R) (args.map jG) vals:=by refine⟨by simpa using ha.1,λj c hj=>?_⟩;have hm:=aX.1 hA c (cB hj);simp only[dG,ah]at hj;obtain⟨c',h1,rfl⟩:=hj;exact afE (x:=x) (y:=x.yV R) (λb o h=>⟨h,rfl⟩) (λi hi=>by obtain⟨l,h,-⟩:=Dy i hi;exact⟨_,zf hi h,rfl⟩) (ha.2 j c' h1) hm
 obtain⟨h1,h2⟩:=hc _ _ _ _ _ mH (x.yV R) vals (X5 hR Dy) rfl ha';refine⟨h1,λfr cs hn=>h2 fr cs λy u ⟨q1,q2,q3,q4⟩=>?_⟩;subst q1;have hy:∀i∈R,∃l',y.S[i]? =some (.cells l')/\(l'.map dK).all (Nk R)=true:=λi hi=>Mu (aX.1 hp.2 i hi);exact hn (x.u5 y R) u ⟨rfl,SZ hR Dy q3 q2 hy,Fj hR Dy q3,q4.strip.pure_mono (x:=y) (y:=x.u5 y R) (λb o h=>⟨h,rfl⟩) hp.1⟩;cases ho;cases ho;cases ho;exact hc _ _ _ _ _ h x vals hR rfl ha
end Go.Di
namespace Go.Di
open Go Go.Conc Go.Co
open Go.ConcN (upd upd_same upd_ne)
variable {P:Program} {aa:Machine->Trace->Prop} {ty:gb} {x:Cx} {aI:b9} {call:bG} {yf:ez}
def appW(w:Option (Nat×DB))(S:ai):ai:=match w with
 |none=>S
 |some (i,b)=>S.set i b
theorem qR{S:ai}{i:Nat}(h:i<S.length)(b:DB):fu S i b=S.set i b:=by unfold fu;rw[if_pos h]
theorem jT{S:ai}{i:Nat}{b:DB}(h:S[i]? =some b):i<S.length:=(aM.1 h).1
def wH:Op->Prop
 |.alloc _|.box .. |.makeMap .. |.load .. |.store .. |.lookup .. |.mapUpdate .. |.makeSlice .. |.buildSlice .. |.fieldAddr .. |.indexAddr .. =>False
 |.call {callee:=.builtin .append,.. }=>False
 |.call {callee:=.builtin _,.. }=>True
 |.call _=>False
 |_=>True
theorem map_fst{β:Type}(q:Option β)(f:β->DV)(S T:ai):q.map (λc=>(f c,S))=((q.map (λc=>(f c,T))).map (·.1)).map (·,S):=by cases q<;>rfl
theorem Fa{ρ:Operand->Option DV}{o:Oper}(hop:wH o.op)(S:ai)(aC:Nat):af P ty aI call yf ρ o S aC=((af P ty aI call yf ρ o [] 0).map (·.1)).map (·,S):=by
 obtain⟨dst,op,type,pos,after,guard⟩:=o;cases op<;>simp only[wH]at hop
 case call c=>
  obtain⟨callee,args,ats⟩:=c;cases callee with
  |builtin b=>
   simp only[af];generalize args.toList=l;generalize ats.toList=m;split;split<;>first|rfl|exact map_fst (f:=id) _ S []
   grind
   split<;>first|rfl|exact map_fst (f:=id) _ S []
   split<;>first|rfl|exact map_fst (f:=id) _ S []
   rfl
  |value f=>exact hop.elim
  |invoke r m=>exact hop.elim
 case makeFunc fn fs cs=>cases fn<;>simp only[af]<;>(repeat' split)<;>rfl
 all_goals simp only[af]
 all_goals (repeat' split)
 all_goals first
  |rfl
  |exact map_fst (f:=id) _ S []
  |exact map_fst _ _ S []
theorem Et{ρ:Operand->Option DV}{o:Oper}(hop:wH o.op){S S':ai}{aC:Nat}{v:DV}(h:af P ty aI call yf ρ o S aC=some (v,S')):S'=S/\∀T rG,af P ty aI call yf ρ o T rG=some (v,T):=by rw[Fa hop]at h;simp only[ah,aA]at h;obtain⟨d,h1,h2,h3⟩:=h;refine⟨h3.symm,λT rG=>?_⟩;rw[Fa hop];simp only[ah,aA];exact⟨d,h1,h2,trivial⟩
structure Eff (P:Program) (ty:gb) (aI:b9) (call:bG) (yf:ez) (ρ:Operand->Option DV) (o:Oper) (S:ai) (aC:Nat) (v:DV) (S':ai) (f:dz) (F:cy) (w:Option (Nat×DB)):Prop where
 res:S'=appW w S
 FY:∀i b,w=some (i,b)->i∈F/\f.wr=true/\i<S.length
 loc:∀T,(F≠[]->T.length=S.length)->(∀x∈F,T[x]? =S[x]?)->aJ P ty aI call yf ρ o T aC=some (v,appW w T,f)
theorem TS{S T:ai}{t:TypeId}{id off:Nat}(h:T[id]? =S[id]?):lQ ty T t (.ptr id off)=lQ ty S t (.ptr id off):=by
 unfold lQ;cases ty t with
 |none=>rfl
 |some d=>simp only[h]
theorem OV{S T:ai}{t:TypeId}{rows:cj}{i off:Nat}:lQ ty T t (.fM rows i off)=lQ ty S t (.fM rows i off):=by unfold lQ;cases ty t<;>rfl
theorem IP{S T:ai}{id n:Nat}(h:T[id]? =S[id]?):C2 T id n=C2 S id n:=by unfold C2;rw[h]
theorem OU{S T:ai}{t:TypeId}{id n off:Nat}(h:T[id]? =S[id]?):lQ ty T t (.gF id n off)=lQ ty S t (.gF id n off):=by
 unfold lQ;cases ty t with
 |none=>rfl
 |some d=>simp only[IP h]
theorem sP{ρ:Operand->Option DV}{dst:Option Tmp}{t type:TypeId}{a:Operand}{f:Nat}{pos:String}{after:Array Edge}{guard:Option (Nat×Bool)}{S S' T:ai}{aC:Nat}{v:DV}(hT:∀id n off,ρ a=some (.gF id n off)->T[id]? =S[id]?)
  (h:af P ty aI call yf ρ ⟨dst,.fieldAddr t a f,type,pos,after,guard⟩ S aC=some (v,S')):S'=S/\∀rG,af P ty aI call yf ρ ⟨dst,.fieldAddr t a f,type,pos,after,guard⟩ T rG=some (v,T):=by
 simp only[af]at h⊢;split at h;rename_i hk ha;split at h
 grind
 cases h;rename_i hk ha;split at h
 grind
 cases h;rename_i hk ha;split at h;rename_i hf hop;split at h;rename_i hs;cases h;exact⟨rfl,λ_=>by simp only[hk,ha,hf,IP (hT _ _ _ ha),hop,if_pos hs]⟩;cases h;cases h;cases h
theorem sN{ρ:Operand->Option DV}{dst:Option Tmp}{t type:TypeId}{a i:Operand}{pos:String}{after:Array Edge}{guard:Option (Nat×Bool)}{S S' T:ai}{aC:Nat}{v:DV}(hT:∀id n ag,ρ a=some (.jX id n ag)->T[id]? =S[id]?)
  (h:af P ty aI call yf ρ ⟨dst,.indexAddr t a i,type,pos,after,guard⟩ S aC=some (v,S')):S'=S/\∀rG,af P ty aI call yf ρ ⟨dst,.indexAddr t a i,type,pos,after,guard⟩ T rG=some (v,T):=by
 simp only[af]at h⊢;split at h;rename_i hk ha hi;split at h;rename_i h0;split at h
 grind
 cases h;cases h
 grind
 grind
 rename_i hk ha hi;split at h;rename_i hop;split at h;rename_i h0;cases h;exact⟨rfl,λ_=>by simp only[hk,ha,hi,IP (hT _ _ _ ha),hop,if_pos h0]⟩;cases h;cases h;cases h
theorem HX{ρ:Operand->Option DV}{o:Oper}{t:TypeId}{n:Nat}{ps:Array (Nat×Operand)}{S S':ai}{aC:Nat}{v:DV}(ho:o.op=.buildSlice t n ps)(hh:ty.h o≠1)
  (h:af P ty aI call yf ρ o S aC=some (v,S')):S'=S/\∀(T:ai)(rG:Nat),af P ty aI call yf ρ o T rG=some (v,T):=by
 simp only[af,ho]at h⊢;split at h;rename_i hk hl;split at h;rename_i he;split at h;rename_i hc;split at h
 grind
 cases h;cases h;cases h;cases h
theorem M8{S S':ai}{aC:Nat}{t:TypeId}{a b v:DV}(h:j6 ty S aC t a b=some (v,S'))(hn:aC<S.length):∃w,S'=appW w S/\(∀i c,w=some (i,c)->(i=aC\/∃r tk f,a=.sl r (some tk) f/\i=tk)/\i<S.length)/\
  ∀T:ai,T.length=S.length->(∀r tk f,a=.sl r (some tk) f->T[tk]? =S[tk]?)->j6 ty T aC t a b=some (v,appW w T):=by
 unfold j6 at h⊢;split at h;rename_i e s mh agg sz z rows tok full news FP adu htt;split at h;rename_i wY;cases h;exact⟨none,rfl,ae,λT _ _=>by simp only[wY,if_true];rfl⟩;rename_i wY;split at h;rename_i hte;split at h;rename_i hc;cases tok with
 |none=>
  simp only at h;split at h;rename_i hf;cases h;refine⟨some (aC,.tail e s ((rows.length+news.length)*s)),qR hn _,λi c hw=>?_,λT hT _=>?_⟩
  grind
  simp only[wY,hc,hf,if_true,aK,if_false];rw[qR ab];rfl;cases h
 |some tk=>
  simp only at h;split at h;rename_i e' s' n' hS;split at h;rename_i AO;cases h;refine⟨some (tk,.tail e s ((rows.length+news.length)*s)),rfl,λi c hw=>?_,λT hT hl=>?_⟩
  grind
  have hT2:T[tk]? =some (.tail e' s' n'):=(hl rows tk full rfl).trans hS;simp only[wY,hc,hT2,AO,if_true,aK,if_false];rfl;cases h;cases h
 cases h;cases h;cases h
theorem Hl{g:FuncId}{args:cj}{S:ai}{i:Nat}{v:DV}{l:cj}(h:pZ call g args S=some (i,v,l)):i<S.length/\∀T:ai,T[i]? =S[i]? ->pZ call g args T=some (i,v,l):=by
 unfold pZ at h⊢;split at h
 grind
 cases h
theorem Tq{g:FuncId}{args:cj}{S S':ai}{aC:Nat}{v:DV}(h:xo call aC g args S=some (v,S')):∃b,S[aC]? =some .none/\S'=S.set aC b/\∀T:ai,T[aC]? =some .none->xo call aC g args T=some (v,T.set aC b):=by
 unfold xo at h⊢;split at h
 grind
 grind
 cases h
def adM(P:Program)(ty:gb)(aI:b9)(call:bG)(yf:ez)(ρ:Operand->Option DV)(o:Oper)(S:ai):Prop:=
 ∃c args ats g fs cs xs R v S1,o.op=.call ⟨.value c,args,ats⟩/\ρ c=some (.fn g fs cs)/\evs ρ args.toList=some xs/\¬ty.h o=1/\¬((fs++xs++cs).map DV.strip).all DV.pure=true/\pZ call g (fs++xs++cs) S=none/\oH call g (fs++xs++cs) S=some (R,v,S1)
theorem acn{ρ:Operand->Option DV}{o:Oper}{S S':ai}{aC:Nat}{v:DV}{f:dz}(h:aJ P ty aI call yf ρ o S aC=some (v,S',f)){F:cy}(hF:f.ids=some F)(hm:¬adM P ty aI call yf ρ o S):∃w,Eff P ty aI call yf ρ o S aC v S' f F w:=by
 obtain⟨dst,op,type,pos,after,guard⟩:=o;have plain:∀(hop:wH op),(af P ty aI call yf ρ ⟨dst,op,type,pos,after,guard⟩ S aC).map (λr=>(r.1,r.2,(⟨some [],false⟩:dz)))=some (v,S',f)->(∀T,aJ P ty aI call yf ρ ⟨dst,op,type,pos,after,guard⟩ T aC=(af P ty aI call yf ρ ⟨dst,op,type,pos,after,guard⟩ T aC).map (λr=>(r.1,r.2,(⟨some [],false⟩:dz))))->∃w,Eff P ty aI call yf ρ ⟨dst,op,type,pos,after,guard⟩ S aC v S' f F w:=by intro hop h1 h2;simp only[ah,aA]at h1;obtain⟨⟨d,S1⟩,h3,rfl,rfl,rfl⟩:=h1;obtain⟨h4,h5⟩:=Et hop h3;exact⟨none,h4,ae,λT _ _=>by rw[h2,h5 T aC];rfl⟩
 cases op
 case alloc e=>
  simp only[aJ]at h;split at h;rename_i hS;have hlt:=jT hS;simp only[af]at h;split at h;rename_i hk;cases h;cases hF;refine⟨some (aC,_),qR hlt _,λi b hw=>by cases hw;exact⟨ae,rfl,hlt⟩,λT hT hx=>?_⟩;have:=hx aC ae;have hl:=hT ae;simp only[aJ,this,hS,af,hk,az];rw[qR ab];rfl;cases h;cases h
 case box e a=>
  simp only[aJ]at h;split at h;rename_i hS;have hlt:=jT hS;simp only[af]at h;split at h;rename_i hk;cases h;cases hF;refine⟨some (aC,_),qR hlt _,λi b hw=>by cases hw;exact⟨ae,rfl,hlt⟩,λT hT hx=>?_⟩;have:=hx aC ae;have hl:=hT ae;simp only[aJ,this,hS,af,hk,az];rw[qR ab];rfl;cases h;cases h
 case makeMap t r=>
  cases r with
  |some a=>simp only[aJ]at h;split at h;simp[af]at h;cases h
  |none=>simp only[aJ]at h;split at h;rename_i hS;have hlt:=jT hS;simp only[af]at h;cases h;cases hF;refine⟨some (aC,_),qR hlt _,λi b hw=>by cases hw;exact⟨ae,rfl,hlt⟩,λT hT hx=>?_⟩;have:=hx aC ae;have hl:=hT ae;simp only[aJ,this,hS,af,az];rw[qR ab];rfl;cases h
 case store t a b=>
  simp only[aJ]at h;split at h;rename_i id off ha;simp only[af,ha]at h;split at h;rename_i a' v' h1 h2;cases h1;unfold qi at h;split at h;rename_i td jf s6 hk hpe;cases hpe;split at h;rename_i l hl;split at h;rename_i hc;simp only[tH,ah,tJ,aA]at h;obtain⟨l',h3,rfl,rfl,rfl⟩:=h;cases hF;refine⟨some (id,.cells l'),rfl,λi b hw=>by cases hw;exact⟨ae,rfl,jT hl⟩,λT hT hx=>?_⟩;have:=hx id ae;simp only[aJ,ha,af,h2,qi,hk,this,hl,hc,if_true,h3,az];rfl;cases h;cases h
  grind
  cases h;cases h;rename_i id n off ha;simp only[af,ha]at h;split at h;rename_i a' v' h1 h2;cases h1;unfold qi at h;split at h
  grind
  rename_i td jf n' s6 hk hpe;cases hpe;split at h;rename_i e s l hop;have hl:=(mR hop).1;split at h;rename_i hc;simp only[tH,ah,tJ,aA]at h;obtain⟨l',h3,rfl,rfl,rfl⟩:=h;cases hF;refine⟨some (id,.op e s l' false),rfl,λi b hw=>by cases hw;exact⟨ae,rfl,jT hl⟩,λT hT hx=>?_⟩;have:=hx id ae;simp only[aJ,ha,af,h2,qi,hk,IP this,hop,hc,if_true,h3,az];rfl;cases h;cases h;cases h;cases h;cases h
 case makeSlice t a b=>simp only[aJ]at h;cases h
 case buildSlice t n ps=>
  simp only[aJ]at h;split at h;cases h;rename_i hh;simp only[ah,aA]at h;obtain⟨⟨d,S1⟩,h3,rfl,rfl,rfl⟩:=h;cases hF;obtain⟨h4,h5⟩:=HX rfl hh h3;refine⟨none,h4,ae,λT hT hx=>?_⟩;simp only[aJ,h5 T aC,az];rfl
 case fieldAddr t a f'=>
  simp only[aJ]at h;split at h;rename_i id n off ha;simp only[ah,aA]at h;obtain⟨⟨d,S1⟩,h3,rfl,rfl,rfl⟩:=h;cases hF;refine⟨none,(sP (T:=S) (λ_ _ _ _=>rfl) h3).1,ae,λT hT hx=>?_⟩;have h5:=(sP (T:=T) (λjf n' s6 he=>by rw[ha]at he;cases he;exact hx id ae) h3).2 aC;simp only[aJ,ha,h5,az];rfl;rename_i hno;simp only[ah,aA]at h;obtain⟨⟨d,S1⟩,h3,rfl,rfl,rfl⟩:=h;cases hF;refine⟨none,(sP (T:=S) (λ_ _ _ _=>rfl) h3).1,ae,λT hT hx=>?_⟩;have h5:=(sP (T:=T) (λjf n' s6 he=>absurd he (hno _ _ _)) h3).2 aC;simp only[aJ,h5,az];rfl
 case indexAddr t a i=>
  simp only[aJ]at h;split at h;rename_i id n ag ha;simp only[ah,aA]at h;obtain⟨⟨d,S1⟩,h3,rfl,rfl,rfl⟩:=h;cases hF;refine⟨none,(sN (T:=S) (λ_ _ _ _=>rfl) h3).1,ae,λT hT hx=>?_⟩;have h5:=(sN (T:=T) (λjf n' s6 he=>by rw[ha]at he;cases he;exact hx id ae) h3).2 aC;simp only[aJ,ha,h5,az];rfl;rename_i hno;simp only[ah,aA]at h;obtain⟨⟨d,S1⟩,h3,rfl,rfl,rfl⟩:=h;cases hF;refine⟨none,(sN (T:=S) (λ_ _ _ _=>rfl) h3).1,ae,λT hT hx=>?_⟩;have h5:=(sN (T:=T) (λjf n' s6 he=>absurd he (hno _ _ _)) h3).2 aC;simp only[aJ,h5,az];rfl
 case load t a=>
  simp only[aJ]at h;split at h;rename_i id off ha;simp only[af,ha]at h;simp only[tH,ah,tJ,aA]at h;obtain⟨d,h3,rfl,rfl,rfl⟩:=h;cases hF;refine⟨none,rfl,ae,λT hT hx=>?_⟩;have:=hx id ae;simp only[aJ,ha,af,TS this,h3,az];rfl;rename_i id n off ha;simp only[af,ha]at h;simp only[tH,ah,tJ,aA]at h;obtain⟨d,h3,rfl,rfl,rfl⟩:=h;cases hF;refine⟨none,rfl,ae,λT hT hx=>?_⟩;have:=hx id ae;simp only[aJ,ha,af,OU this,h3,az];rfl;rename_i hno Vk;simp only[af]at h;split at h;rename_i a' ha;simp only[tH,ah,tJ,aA]at h;obtain⟨d,h3,rfl,rfl,rfl⟩:=h;cases hF;refine⟨none,rfl,ae,λT hT hx=>?_⟩;have hld:lQ ty T t a'=some d:=by
   cases a' with
   |ptr id off=>exact absurd ha (hno id off)
   |gF id n off=>exact absurd ha (Vk id n off)
   |fM rows i off=>rw[<-h3];exact OV
   |_=>unfold lQ at h3;split at h3<;>simp_all
  cases a' with
  |ptr id off=>exact absurd ha (hno id off)
  |gF id n off=>exact absurd ha (Vk id n off)
  |_=>simp only[aJ,ha,af,hld,az];rfl
  cases h
 case lookup t m k ok=>
  simp only[aJ]at h;split at h;rename_i id ha;simp only[af,ha]at h;split at h;rename_i kv hm hk;cases hm;split at h;rename_i es hS;simp only[tH,ah,tJ,aA]at h;obtain⟨d,h3,rfl,rfl,rfl⟩:=h;cases hF;refine⟨none,rfl,ae,λT hT hx=>?_⟩;have:=hx id ae;simp only[aJ,ha,af,hk,this,hS,h3,az];rfl;cases h;cases h;cases h
 case mapUpdate t m k a=>
  simp only[aJ]at h;split at h;rename_i id ha;simp only[af,ha]at h;split at h;rename_i jf kv vv hm hk hv;cases hm;split at h;rename_i es hS;split at h;rename_i r hr;simp only[tH,ah,tJ,aA]at h;obtain⟨es',h3,rfl,rfl,rfl⟩:=h;cases hF;refine⟨some (id,.map es'),rfl,λi b hw=>by cases hw;exact⟨ae,rfl,jT hS⟩,λT hT hx=>?_⟩;have:=hx id ae;simp only[aJ,ha,af,hk,hv,this,hS,hr,h3,az];rfl;cases h;cases h;cases h;cases h
 case call c=>
  obtain⟨callee,args,ats⟩:=c;cases callee with
  |invoke r m=>simp[aJ,af]at h
  |value g=>simp only[aJ]at h;split at h;rename_i g' fs cs xs hf RS;split at h;rename_i hh;simp only[ah,aA]at h;obtain⟨⟨d,S1⟩,h3,rfl,rfl,rfl⟩:=h;cases hF;obtain⟨b,hn,hS,hT⟩:=Tq h3;exact⟨some (aC,b),hS,λ_ _ hw=>by cases hw;exact⟨ae,rfl,jT hn⟩,λT _ hx=>by simp only[aJ,hf,RS,if_pos hh,hT T ((hx aC ae).trans hn),az];rfl⟩;rename_i hh;split at h;rename_i hp;simp only[ah,aA]at h;obtain⟨d,h3,rfl,rfl,rfl⟩:=h;cases hF;exact⟨none,rfl,ae,λT hT hx=>by simp only[aJ,hf,RS,if_neg hh,hp,if_true,h3,az];rfl⟩;rename_i hp;split at h;rename_i i v1 l1 ho;cases h;cases hF;obtain⟨hi,hT⟩:=Hl ho;exact⟨some (i,.cells l1),rfl,λ_ _ hw=>by cases hw;exact⟨ae,rfl,hi⟩,λT _ hx=>by simp only[aJ,hf,RS,if_neg hh,if_neg hp,hT T (hx i ae)];rfl⟩;rename_i ho;split at h;rename_i R v1 S1 hmu;exact(hm ⟨g,args,ats,_,_,_,_,R,v1,S1,rfl,hf,RS,hh,hp,ho,hmu⟩).elim;simp only[ah,aA]at h;obtain⟨r,h3,rfl,rfl,rfl⟩:=h;cases hF;simp only[ah,aA]at h;obtain⟨r,h3,rfl,rfl,rfl⟩:=h;cases hF;cases h
  |builtin b=>
   by_cases hb:b=.append
   .subst hb;simp only[aJ]at h;split at h;cases h;rename_i hh;split at h;cases h;rename_i hsl;have agM:∀a da,args.toList[0]? =some a->ρ a=some da->DR (some da)=false:=λa da h0 h1=>by
     have:args[0]? =some a:=by rw[<-kg];exact h0
     rw[this]at hsl;rw[<-h1];simpa using hsl
    have hstep:∀T:ai,af P ty aI call yf ρ ⟨dst,.call ⟨.builtin .append,args,ats⟩,type,pos,after,guard⟩ T aC=match args.toList,ats.toList with
      |[x,y],[t,u]=>if t=u then match ρ x,ρ y with
        |some a,some b=>j6 ty T aC t a b
        |_,_=>none
       else none
      |_,_=>none:=λT=>by
     simp only[af];generalize args.toList=l at agM;generalize ats.toList=m
     match l,m with
     |[x,y],[t,u]=>
      dsimp only;cases hx:ρ x with
      |none=>rfl
      |some a=>
       cases ρ y with
       |none=>rfl
       |some b=>have h0:=agM x a rfl hx;cases a<;>first|(simp[DR]at h0;done)|rfl|(dsimp only;split<;>first|exact absurd ‹_› hh|rfl)
     |[],_=>rfl
     |[_],_=>rfl
     |_::_::_::_,_=>rfl
     |[_,_],[]=>rfl
     |[_,_],[_]=>rfl
     |[_,_],_::_::_::_=>rfl
    have main:∀(r:DV×ai)(F:cy),af P ty aI call yf ρ ⟨dst,.call ⟨.builtin .append,args,ats⟩,type,pos,after,guard⟩ S aC=some r->S[aC]? =some .none->aC∈F->(∀rw tk fl,(args[0]?).bind ρ=some (.sl rw (some tk) fl)->tk∈F)->(∀T:ai,T[aC]? =some .none->aJ P ty aI call yf ρ ⟨dst,.call ⟨.builtin .append,args,ats⟩,type,pos,after,guard⟩ T aC=(af P ty aI call yf ρ ⟨dst,.call ⟨.builtin .append,args,ats⟩,type,pos,after,guard⟩ T aC).map (λr=>(r.1,r.2,(⟨some F,true⟩:dz))))->
      ∃w,Eff P ty aI call yf ρ ⟨dst,.call ⟨.builtin .append,args,ats⟩,type,pos,after,guard⟩ S aC r.1 r.2 ⟨some F,true⟩ F w:=by
     intro r F hr hS hnF htk Kh;rw[hstep]at hr;split at hr;rename_i a b t u qN aax;split at hr;rename_i Ut;split at hr;rename_i da db ha uj;obtain⟨w,w1,w2,w3⟩:=M8 (v:=r.1) (S':=r.2) hr (jT hS);have Ie:(args[0]?).bind ρ=some da:=by grind
     refine⟨w,w1,λi c hw=>?_,λT hT hx=>?_⟩
     grind
     grind
     cases hr;cases hr;cases hr
    split at h;rename_i rw' tk fl hS uj;simp only[ah,aA]at h;obtain⟨r,h3,rfl,rfl,rfl⟩:=h;cases hF;exact main r [tk,aC] h3 hS ae (λ_ _ _ he=>by rw[uj]at he;cases he;simp) λT hT=>by simp only[aJ,if_neg hh,hT,uj,DR,aK,if_false]
    rename_i hS hno;simp only[ah,aA]at h;obtain⟨r,h3,rfl,rfl,rfl⟩:=h;cases hF;refine main r [aC] h3 hS ae (λrw' tk fl he=>absurd he (hno rw' tk fl)) λT hT=>?_;simp only[aJ,if_neg hh,if_neg hsl,hT];cases h
   have hop:wH (.call ⟨.builtin b,args,ats⟩):=by cases b<;>first|trivial|exact absurd rfl hb
   have Kh:∀T,aJ P ty aI call yf ρ ⟨dst,.call ⟨.builtin b,args,ats⟩,type,pos,after,guard⟩ T aC=(af P ty aI call yf ρ ⟨dst,.call ⟨.builtin b,args,ats⟩,type,pos,after,guard⟩ T aC).map (λr=>(r.1,r.2,(⟨some [],false⟩:dz))):=λT=>by cases b<;>first|rfl|exact absurd rfl hb
   rw[Kh]at h;exact plain hop h Kh
 all_goals exact plain trivial h λT=>rfl
structure ahe (P:Program) (ty:gb) (aI:b9) (call:bG) (yf:ez) (ρ:Operand->Option DV) (o:Oper) (S:ai) (aC:Nat) (v:DV) (S':ai) (f:dz) (F:cy) (A:ai->ai):Prop where
 res:S'=A S
 loc:∀T,(F≠[]->T.length=S.length)->(∀x∈F,T[x]? =S[x]?)->aJ P ty aI call yf ρ o T aC=some (v,A T,f)
 len:∀T:ai,(A T).length=T.length
 out:∀(T:ai) id,(F≠[]->T.length=S.length)->¬(f.wr=true/\id∈F)->(A T)[id]? =T[id]?
 inn:∀(T:ai) id,id∈F->T.length=S.length->T[id]? =S[id]? ->(A T)[id]? =(A S)[id]?
theorem Rn{S T:ai}:∀{R:cy},(∀i∈R,T[i]? =S[i]?)->R.flatMap (Is T)=R.flatMap (Is S)
 |[],_=>rfl
 |i::R,h=>by
  have e:Is T i=Is S i:=by unfold Is;rw[h i (iz ..)]
  rw[cz,cz,e,Rn λj hj=>h j (pF _ hj)]
theorem Jz{S T:ai}{R:cy}(h:∀i∈rY S R,T[i]? =S[i]?):rY T R=rY S R:=by unfold rY;rw[Rn λi hi=>h i (ry _ hi)]
theorem X7{S T:ai}{args:cj}(h:∀i∈jH S args,T[i]? =S[i]?):jH T args=jH S args:=by have h2:∀i∈rY S (rY S (args.flatMap AV)),T[i]? =S[i]? :=λi hi=>h i (ry _ hi);have h1:∀i∈rY S (args.flatMap AV),T[i]? =S[i]? :=λi hi=>h2 i (ry _ hi);unfold jH;rw[Jz h1,Jz h2,Jz h]
theorem abT{S T:ai}{R:cy}(hl:T.length=S.length)(h:∀i∈R,T[i]? =S[i]?):uu T R=uu S R:=by
 refine nR λi=>?_;simp only[uu,pE];by_cases hi:i∈R
 grind
 grind
theorem aiD{S T:ai}{R:cy}{Q:cy}(h:∀i∈R,T[i]? =S[i]?):R.all (lz T Q)=R.all (lz S Q):=by rw[Bool.eq_iff_iff,aX,aX];exact⟨λk i hi=>by have:=k i hi;unfold lz at this⊢;rwa [h i hi]at this,λk i hi=>by have:=k i hi;unfold lz at this⊢;rwa [h i hi]⟩
theorem TH{g:FuncId}{args:cj}{S S1:ai}{R:cy}{v:DV}(h:oH call g args S=some (R,v,S1)):R≠[]/\∀T:ai,T.length=S.length->(∀x∈R,T[x]? =S[x]?)->oH call g args T=some (R,v,S1):=by
 have h0:=h;unfold oH at h;split at h;rename_i hq;split at h;split at h;cases h;refine⟨λe=>?_,λT hl hT=>?_⟩
 grind
 unfold oH at h0⊢;rw[X7 hT,abT hl hT,aiD hT];exact h0;cases h;cases h;cases h
theorem aiB{ρ:Operand->Option DV}{o:Oper}{S S':ai}{aC:Nat}{v:DV}{f:dz}{F:cy}{w:Option (Nat×DB)}(h:Eff P ty aI call yf ρ o S aC v S' f F w):ahe P ty aI call yf ρ o S aC v S' f F (appW w) where
 res:=h.res
 loc:=h.loc
 len:=λT=>by cases w<;>simp[appW]
 out:=λT id hl hn=>by
  cases w with
  |none=>rfl
  |some p=>obtain⟨i,b⟩:=p;obtain⟨q1,q2,-⟩:=h.FY i b rfl;simp only[appW];rw[aS,if_neg];rintro rfl;exact hn ⟨q2,q1⟩
 inn:=λT id hi hl hT=>by
  cases w with
  |none=>exact hT
  |some p=>obtain⟨i,b⟩:=p;simp only[appW];rw[aS,aS,hl,hT]
theorem Yv{g:FuncId}{args:cj}{S S1 T:ai}{R:cy}{v v2:DV}{i:Nat}{l:cj}(h:oH call g args S=some (R,v,S1))(ho:pZ call g args T=some (i,v2,l)):i∈R:=by unfold oH at h;split at h;split at h;split at h;cases h;unfold pZ at ho;split at ho;rename_i j off rest;split at ho;split at ho;split at ho;split at ho;cases ho;unfold jH rY;simp[AV];cases ho;cases ho;cases ho;cases ho;cases ho;cases h;cases h;cases h
theorem Xf{ρ:Operand->Option DV}{o:Oper}{S S':ai}{aC:Nat}{v:DV}{f:dz}(h:aJ P ty aI call yf ρ o S aC=some (v,S',f)){F:cy}(hF:f.ids=some F):∃A,ahe P ty aI call yf ρ o S aC v S' f F A:=by
 by_cases hm:adM P ty aI call yf ρ o S;obtain⟨c,args,ats,g,fs,cs,xs,R,v1,S1,k1,k2,k3,k4,k5,k6,k7⟩:=hm;obtain⟨dst,op,type,pos,after,guard⟩:=o;simp only at k1;subst k1;simp only[aJ,k2,k3,if_neg k4,if_neg k5,k6,k7,aG,aA]at h;obtain⟨rfl,rfl,rfl⟩:=h;cases hF;obtain⟨hne,lE⟩:=TH k7;refine⟨λT=>lT T S1 F,rfl,λT hl hT=>?_,λT=>by simp[lT],λT id _ hn=>je λhi=>hn ⟨rfl,hi⟩,λT id hi hl hT=>?_⟩;have k6':pZ call g (fs++xs++cs) T=none:=by
  cases e:pZ call g (fs++xs++cs) T with
  |none=>rfl
  |some p=>obtain⟨i,v2,l2⟩:=p;obtain⟨-,hT2⟩:=Hl e;have hi:i∈F:=Yv k7 e;rw[hT2 S (hT i hi).symm]at k6;cases k6
 simp only[aJ,k2,k3,if_neg k4,if_neg k5,k6',lE T (hl hne) hT];simp only[lT,pE,hT];obtain⟨w,hw⟩:=acn h hF hm;exact⟨_,aiB hw⟩
end Go.Di
