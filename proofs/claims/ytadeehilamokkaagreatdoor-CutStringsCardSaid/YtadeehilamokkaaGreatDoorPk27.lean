import Derived.Test.YtadeehilamokkaaGreatDoorPk26
namespace Go.Di
open Go Go.Conc Go.Co
open Go.ConcN (sumTo sumTo_upd sumTo_congr le_sumTo upd upd_same upd_ne)
variable {P:Program} {aa:Machine->Trace->Prop} {ty:fo} {x:Cx} {aD:bT} {call:bg} {yf:dx}
def KH(ops:Array Oper):Prop:=∀i o,ops[i]? =some o->∀e∈o.after,Region.binds .any e=true->e.on<i
theorem HM{ops:Array Oper}(qV:KH ops){i j:Nat}(hne:i≠j)(h:((Region.before ops).getD j 0).testBit i=true):i<j:=by
 have pU:Closed ops λk=>decide (k<=j):=by intro k o ho hk e he hb;have:=qV k o ho e he hb;simp only[bR]at hk⊢;omega
 have:=uU ops pU j i h ae;simp only[bR]at this;omega
theorem Qy{ops:Array Oper}(qV:KH ops){L:Nat->Bool}(hL:Closed ops L){i j:Nat}{o:Oper}(ho:ops[i]? =some o)(hi:L i=false)(wj:∀e∈o.after,Region.binds .any e=true->L e.on=true)(hne:i≠j)
  (h:((Region.before ops).getD j 0).testBit i=true\/((Region.before ops).getD i 0).testBit j=true):L j=true↔j<i:=by
 rcases h with h|h;have h1:=HM qV hne h;refine⟨λhj=>?_,λhj=>ab⟩;have:=uU ops hL j i h hj;rw[hi]at this;cases this;have h1:=HM qV (Ne.symm hne) h;refine⟨λ_=>h1,λ_=>?_⟩;have pU:Closed ops (upd L i true):=by
  intro k o' nP hk e he hb;by_cases Us:k=i;subst Us;rw[ho]at nP;cases nP;by_cases Ut:e.on=k
  grind
  rw[upd_ne _ _ Ut];exact wj e he hb
  rw[upd_ne _ _ Us]at hk;by_cases Ut:e.on=i;rw[Ut,upd_same];rw[upd_ne _ _ Ut];exact hL k o' nP hk e he hb
 have:=uU ops pU i j h (upd_same _ _ _)
 rwa [upd_ne _ _ (Ne.symm hne)]at this
def qi(ops:Array Oper)(j:Nat)(t:Tmp):Bool:=match ops[j]? with
 |some o=>o.dst==some t
 |none=>false
def nE(ops:Array Oper)(V:Nat->DV)(L:Nat->Bool)(t:Tmp):Nat->Option DV
 |0=>none
 |n+1=>if L n&&qi ops n t then some (V n)else nE ops V L t n
theorem lC{ops:Array Oper}{V:Nat->DV}{L:Nat->Bool}{t:Tmp}{i:Nat}:∀{n:Nat},i<=n->(∀j,j<n->qi ops j t=true->(L j=true↔j<i))->nE ops V L t n=nE ops V (λ_=>true) t i
 |0,h,_=>by
  have:i=0:=ab
  subst this;rfl
 |n+1,h,hj=>by
  by_cases nQ:i=n+1;subst nQ;unfold nE;by_cases hd:qi ops n t=true
  grind
  simp only[aC,hd,and_false,if_false,aJ];exact lC (ai _) λj h1 h2=>⟨λ_=>h1,λ_=>(hj j (qz h1) h2).2 (qz h1)⟩;have hle:i<=n:=ab
  rw[<-lC hle λj h1 h2=>hj j ab h2]
  conv=>lhs;unfold nE
  by_cases hd:qi ops n t=true
  grind
  simp[hd]
theorem B5{ops:Array Oper}{V:Nat->DV}{L:Nat->Bool}{t:Tmp}{i:Nat}(hd:qi ops i t=false):∀n,nE ops V (upd L i true) t n=nE ops V L t n
 |0=>rfl
 |n+1=>by
  unfold nE;rw[B5 hd n];by_cases h:n=i
  grind
  rw[upd_ne _ _ h]
def Gy(ops:Array Oper)(V:Nat->DV)(L:Nat->Bool)(n:Nat)(ajS env:cn):Prop:=∀t,env[t]? =(ajS[t]?).map λd=>(nE ops V L t n).getD d
theorem Le(env:cn)(dst:Option Tmp)(v:DV)(t:Tmp):(j4 env dst v)[t]? =if dst=some t then(env[t]?).map λ_=>v else env[t]? :=by
 cases dst with
 |none=>simp[j4]
 |some d=>
  simp only[j4,aN,aF];by_cases h:d=t
  grind
  simp[h]
def PX(ops:Array Oper)(V:Nat->DV)(E:Nat->cn):Prop:=∀j o,ops[j]? =some o->E (j+1)=j4 (E j) o.dst (V j)
theorem C0{ops:Array Oper}{V:Nat->DV}{E:Nat->cn}(h:PX ops V E):∀i,i<=ops.size->Gy ops V (λ_=>true) i (E 0) (E i)
 |0,_=>λt=>by simp[nE]
 |i+1,hi=>λt=>by
  have ho:ops[i]? =some ops[i]:=b7 ab;have ih:=C0 h i ab t;rw[h i _ ho,Le];unfold nE;have hd:qi ops i t=(ops[i].dst==some t):=by unfold qi;rw[ho]
  by_cases hdt:ops[i].dst=some t
  grind
  grind
theorem HE{ops:Array Oper}{V:Nat->DV}{E:Nat->cn}{L:Nat->Bool}{env:cn}{i:Nat}{o:Oper}(ho:ops[i]? =some o)(hE:Gy ops V L ops.size (E 0) env)
  (aho:∀t,o.dst=some t->∀j,j<ops.size->qi ops j t=true->(upd L i true j=true↔j<i+1)):Gy ops V (upd L i true) ops.size (E 0) (j4 env o.dst (V i)):=by
 intro t;have hi:i<ops.size:=(aG.1 ho).1;rw[Le];have hd:qi ops i t=(o.dst==some t):=by unfold qi;rw[ho]
 by_cases hdt:o.dst=some t;have e:nE ops V (λ_=>true) t (i+1)=some (V i):=by unfold nE;simp[hd,hdt]
 rw[if_pos hdt,lC (i:=i+1) ab (aho t hdt),hE t,e];simp[Function.comp_def];have h2:qi ops i t=false:=by rw[hd];simpa using hdt
 rw[if_neg hdt,B5 h2];exact hE t
theorem B3{ops:Array Oper}(qV:KH ops)(JU:lR ops (Region.before ops)=true){V:Nat->DV}{E:Nat->cn}(hS:PX ops V E){L:Nat->Bool}(hL:Closed ops L){env:cn}(hE:Gy ops V L ops.size (E 0) env){i:Nat}{o:Oper}(ho:ops[i]? =some o)(hi:L i=false)
  (wj:∀e∈o.after,Region.binds .any e=true->L e.on=true):(∀t∈lS ops o,env[t]? =(E i)[t]?)/\∀t,o.dst=some t->∀j,j<ops.size->qi ops j t=true->(upd L i true j=true↔j<i+1):=by
 have hio:i<ops.size:=(aG.1 ho).1;have hx:∀t∈lS ops o,∀j,j<ops.size->j≠i->qi ops j t=true->(L j=true↔j<i):=by
  intro t ht j hj hne hd;have hoj:ops[j]? =some ops[j]:=b7 hj;have Uu:ops[j].dst=some t:=by unfold qi at hd;rw[hoj]at hd;simpa using hd
  refine Qy qV hL ho hi wj (Ne.symm hne) ?_;unfold lR at JU;simp only[aC,aU]at JU;have h1:=JU.2 (o,i) (by rw[zb];simpa using ho) (ops[j],j) (by rw[zb];simp);simp only[Uu]at h1;have hc:(lS ops o).contains t=true:=by simpa using ht
  simp only[hc,fR,Bool.or_false,jK,dQ]at h1;rcases h1 with (h1|h1)|h1
  grind
  grind
  grind
 constructor;intro t ht;rw[hE t,C0 hS i ab t];congr 1;funext d;rw[lC (i:=i) ab λj hj hd=>?_];by_cases iW:j=i
 grind
 grind
 intro t ht j hj hd;by_cases iW:j=i;subst iW;simp[upd_same]
 rw[upd_ne _ _ iW,hx t (by simp[lS,ht]) j hj iW hd];omega
theorem HB{ops:Array Oper}{o:Oper}{env aL:cn}(h:∀t∈lS ops o,env[t]? =aL[t]?):∀a∈o.op.operands,ir env a=ir aL a:=by
 intro a ha;cases a with
 |tmp t=>
  have:t∈lS ops o:=by
   unfold lS;simp only[iQ];left;right
   rw[acy];exact⟨.tmp t,by simpa using ha,rfl⟩
  simp only[ir,aK,h t this]
 |_=>rfl
theorem zL{ops:Array Oper}{o:Oper}{env aL:cn}(h:∀t∈lS ops o,env[t]? =aL[t]?):cv ops env o=cv ops aL o:=by
 unfold cv;cases hg:o.guard with
 |none=>rfl
 |some g=>
  obtain⟨j,want⟩:=g;simp only;cases hb:(ops[j]?).bind (·.dst)with
  |none=>rfl
  |some t=>
   have:t∈lS ops o:=by unfold lS;rw[hg];simp[hb]
   simp only[h t this]
theorem Ll{ops:Array Oper}(h:lR ops (Region.before ops)=true):KH ops:=by intro i o ho e he hb;unfold lR at h;simp only[aC,aU,Array.all_eq_true']at h;have h1:=h.1 (o,i) (by rw[zb];simpa using ho) e he;simpa [hb]using h1
theorem K8{ops:Array Oper}{S:aj}:∀{r:List Oper}{env aL:cn},qI P ty aD call yf ops S r env=some aL->∃(E:Nat->cn)(V:Nat->DV),E 0=env/\E r.length=aL/\
  ∀j o,r[j]? =some o->E (j+1)=j4 (E j) o.dst (V j)/\(cv ops (E j) o=true->de P ty aD call yf (ir (E j)) o S=some (V j))/\(cv ops (E j) o=false->V j=bD)
 |[],env,aL,h=>by simp only[qI,aF]at h;exact⟨λ_=>env,λ_=>bD,rfl,h,ae⟩
 |o::r,env,aL,h=>by
  unfold qI at h;have key:∀v,qI P ty aD call yf ops S r (j4 env o.dst v)=some aL->(cv ops env o=true->de P ty aD call yf (ir env) o S=some v)->(cv ops env o=false->v=bD)->∃(E:Nat->cn)(V:Nat->DV),E 0=env/\E (o::r).length=aL/\
    ∀j o',(o::r)[j]? =some o'->E (j+1)=j4 (E j) o'.dst (V j)/\(cv ops (E j) o'=true->de P ty aD call yf (ir (E j)) o' S=some (V j))/\(cv ops (E j) o'=false->V j=bD):=λv h1 h2 h3=>by
   obtain⟨E,V,e1,e2,e3⟩:=K8 h1;refine⟨λn=>match n with|0=>env|n+1=>E n,λn=>match n with|0=>v|n+1=>V n,rfl,by simpa using e2,λj o' nP=>?_⟩;cases j with
   |zero=>grind
   |succ j=>exact e3 j o' (by simpa using nP)
  split at h;rename_i hw;split at h;rename_i v h1;exact key v h (λ_=>h1) λhf=>by rw[hw]at hf;cases hf
  cases h;rename_i hw;exact key bD h (λht=>absurd ht hw) λ_=>rfl
theorem quiet_step{ρ:Operand->Option DV}{o:Oper}{S:aj}{v:DV}(h:de P ty aD call yf ρ o S=some v):ah P ty aD call yf ρ o S S.length=some (v,S):=by
 obtain⟨dst,op,type,pos,after,guard⟩:=o;have gen:∀{q:Option (DV×aj)},q.map (·.1)=some v->(∀d S',q=some (d,S')->S'=S)->q=some (v,S):=by intro q hq hs;simp only[af]at hq;obtain⟨⟨d,S'⟩,h1,rfl⟩:=hq;rw[h1,hs d S' h1]
 have mp:∀{β:Type}{q:Option β}{f:β->DV}{d:DV}{S':aj},q.map (λc=>(f c,S))=some (d,S')->S'=S:=by intro β q f d S' hq;simp only[af,az]at hq;obtain⟨_,_,_,h⟩:=hq;exact h.symm
 cases op<;>simp only[de]at h
 case call c=>
  obtain⟨callee,args,ats⟩:=c;cases callee with
  |builtin b=>
   cases b<;>simp only at h<;>first|cases h|skip
   all_goals
     refine gen h λd S' hq=>?_;simp only[ah]at hq
     repeat' split at hq
     all_goals first|contradiction|exact mp (f:=id) hq|exact mp hq|(cases hq;rfl)|(cases hq;done)|skip
  |value f=>simp only at h;split at h;rename_i g fs cs xs hf Rv;split at h;cases h;rename_i hh;split at h;rename_i hp;simp only[ah,hf,Rv,wN,hp,if_true,h];cases h;cases h
  |invoke r m=>simp[ah]at h
 case buildSlice t n ps=>
  split at h;cases h;rename_i hh;refine gen h λd S' hq=>?_;simp only[ah]at hq
  repeat' split at hq
  all_goals first|contradiction|(cases hq;first|rfl|contradiction)
 all_goals first
  |cases h
  |(refine gen h λd S' hq=>?_;simp only[ah]at hq;repeat' split at hq
    all_goals first|contradiction|exact mp (f:=id) hq|exact mp hq|(cases hq;rfl)|(cases hq;done)|skip)
theorem Mq{ρ ρ':Operand->Option DV}{o:Oper}{S:aj}(h:∀a∈o.op.operands,ρ a=ρ' a):de P ty aD call yf ρ o S=de P ty aD call yf ρ' o S:=by
 have hs:=zT (P:=P) (ty:=ty) (aD:=aD) (call:=call) (yf:=yf) (S:=S) (aB:=S.length) h;unfold de;split<;>try rfl
 rw[hs];rename_i f args ats hop;rw[hop]at h;have h1:ρ f=ρ' f:=h f (by simp[Op.operands,Call.operands]);have h2:=mM (ρ:=ρ) (ρ':=ρ') (l:=args.toList) λa ha=>h a (by simp[Op.operands,Call.operands]at ha⊢;exact .inr ha);rw[h1,h2];rw[hs]
theorem On(hP:Plain P)(eV:j6 P ty)(hc:gR P aa call)(hi:BL P aa aD)(MW:BJ P aa yf){ops:Array Oper}{b:Frame}{k:List Item}{cs:List Frame}(hk:b.kind≠.early)(JU:lR ops (Region.before ops)=true)
  {env aL:cn} {a:Act} (h:qI P ty aD call yf ops x.S ops.toList env=some aL) (hR:Rel x) (he:gb x env a.tmps)
  (hn:∀y a',y.S=x.S->Rel y->bE x y->gb y aL a'.tmps->a'.defers=a.defers->iI P aa () (G (b.atR a' k) cs) y.w) (t:Nat):iI P aa () (G (b.atR a (.inRegion ops (Region.linearise .any ops t)::k)) cs) x.w:=by
 have qV:=Ll JU;obtain⟨E,V,e1,e2,e3⟩:=K8 h;have Il:∀(j:Nat)(o:Oper),ops[j]? =some o->ops.toList[j]? =some o:=λj o ho=>by simpa using ho
 have hS:PX ops V E:=λj o ho=>(e3 j o (Il j o ho)).1;refine wW qV (σ:=Act×Cx) (λtodo s=>s.2.S=x.S->Rel s.2->bE x s.2->s.1.defers=a.defers->iI P aa () (G (b.atR s.1 (.inRegion ops todo::k)) cs) s.2.w)
  (λL s=>∃nW,gb s.2 nW s.1.tmps/\Gy ops V L ops.size (E 0) nW) ?_ ?_ t (a,x) ⟨env,he,λt=>?_⟩ rfl hR (bE.refl x) rfl
 rintro L ⟨a1,y⟩ i o ⟨nW,Ad,Z3⟩ pU ho Uy wj rest mz hSy Cm UY M5;simp only at Ad hSy Cm UY M5⊢;obtain⟨q1,q2⟩:=B3 qV JU hS pU Z3 ho Uy wj;have hw:=zL q1;have Zn:=AK Ad ops o;have hE2:=HE (V:=V) ho Z3 q2;by_cases hwt:cv ops (E i) o=true;have hq:=(e3 i o (Il i o ho)).2.1 hwt;rw[<-Mq (HB q1),<-hSy]at hq;refine VQ hP eV hc hi MW hk ho (by rw[Zn,hw];exact hwt) Cm (.inl rfl) Ad (quiet_step hq) λz u zS zR zM zV=>?_;have oW:=Av (Ad.mono zM) (dst:=o.dst) zV;exact mz (a1.put o.dst u,z) ⟨_,oW.1,hE2⟩ (zS.trans hSy) zR (UY.trans zM) (oW.2.trans M5);have hwf:cv ops (E i) o=false:=by simpa using hwt
 have hv:=(e3 i o (Il i o ho)).2.2 hwf;have oW:=Av Ad (dst:=o.dst) (d:=V i) (v:=undef) (by rw[hv];exact .val rfl);exact fL hP (λw=>⟨_,uI ho (by rw[Zn,hw];exact hwf)⟩) (mz (a1.put o.dst undef,y) ⟨_,oW.1,hE2⟩ hSy Cm UY (oW.2.trans M5));rintro L ⟨a1,y⟩ ⟨nW,Ad,Z3⟩ dX hSy Cm UY M5;have:nW=aL:=by
  refine nj λt=>?_;have hlen:E ops.size=aL:=by simpa using e2
  rw[Z3 t,<-hlen,C0 hS ops.size (ai _) t];congr 1;funext d;rw[lC (i:=ops.size) (ai _) λj hj _=>by simp[dX j hj,hj]]
 subst this;exact fL hP (λw=>⟨_,qR⟩) (hn y a1 hSy Cm UY Ad M5);rw[e1];have:∀n,nE ops V (λ_=>false) t n=none:=by
  intro n;induction n with
  |zero=>rfl
  |succ n ih=>unfold nE;simp[ih]
 rw[this];simp
end Go.Di
namespace Go.Di
open Go Go.Conc Go.Co
variable {P:Program} {aa:Machine->Trace->Prop} {x y:Cx} {R:cy} {T:aj}
theorem LV{S:aj}{i:Nat}(h:kK S R i=true):∃l,S[i]? =some (.cells l)/\(l.map cW).all (MT R)=true:=by
 unfold kK at h;split at h
 grind
 cases h
theorem pL{S:aj}{k:Nat}{b:DB}(h:(s8 S R)[k]? =some b)(hb:b≠.none):k∈R/\∃l,S[k]? =some (.cells l)/\b=.cells (l.map cW):=by
 simp only[s8,oI,af]at h;obtain⟨c,hc,rfl⟩:=h;split at hb;rename_i hk;rw[if_pos hk];refine⟨by simpa using hk,?_⟩;cases c with
 |cells l=>exact⟨l,hc,rfl⟩
 |_=>exact absurd rfl hb
 grind
theorem yK{S:aj}{k:Nat}{l:cn}(hk:k∈R)(h:S[k]? =some (.cells l)):(s8 S R)[k]? =some (.cells (l.map cW)):=by simp only[s8,oI,h,ay,VR,if_pos (show R.contains k=true by simpa using hk)]
theorem iF{S S1:aj}{k:Nat}(hk:k∉R):(kZ S S1 R)[k]? =S[k]? :=by simp only[kZ,oI,if_neg (show¬R.contains k=true by simpa using hk)];exact Option.map_id'
theorem Bo{S S1:aj}{k:Nat}{l l':cn}(hk:k∈R)(h:S[k]? =some (.cells l))(h1:S1[k]? =some (.cells l')):(kZ S S1 R)[k]? =some (.cells (l'.map cW)):=by simp only[kZ,oI,h,ay,if_pos (show R.contains k=true by simpa using hk),Wd,h1]
section
variable (hF:∀b o,x.Fz b o->y.Fz b o/\y.w.cell? ⟨b,o,none⟩=x.w.cell? ⟨b,o,none⟩) (hP:∀i∈R,∃l,y.S[i]? =some (.cells l)/\y.μ i=x.μ i)
include hF hP
theorem Wv{d:DV}{v:Value}(h:RV x d v)(hd:ZJ R d.aM=true):RV y d.aM v:=by
 cases d with
 |ptr i off=>
  cases h with
  |ptr _=>obtain⟨l,h1,h2⟩:=hP i (by simpa [ZJ,DV.aM]using hd);rw[<-h2];exact .ptr h1
 |_=>exact h.aM.mP hF hd
theorem NH{d:DV}{v:Value}(h:RV x d v)(hd:MT R (cW d)=true):RV y (cW d) v:=by
 cases d with
 |ptr i off=>
  cases h with
  |ptr _=>obtain⟨l,h1,h2⟩:=hP i (by simpa [MT,cW,DV.aM]using hd);rw[<-h2];exact .ptr h1
 |fn f fs cs=>
  simp only[MT,cW,aC]at hd⊢;cases h with
  |fn h1 h2 h3 h4=>refine .fn (by simpa using h1) (by simpa using h2) (λj c hc=>?_) (λj c hc=>?_);have:=aU.1 hd.1 c (bY hc);simp only[cH,af]at hc;obtain⟨c',h5,rfl⟩:=hc;exact Wv hF hP (h3 j c' h5) this;have:=aU.1 hd.2 c (bY hc);simp only[cH,af]at hc;obtain⟨c',h5,rfl⟩:=hc;exact Wv hF hP (h4 j c' h5) this
 |_=>exact h.aM.mP hF hd
theorem aeY{d:DV}{v:Value}(h:RV x d v)(hd:okA R (jb d)=true):RV y (jb d) v:=by
 cases d with
 |ptr i off=>
  cases h with
  |ptr _=>obtain⟨l,h1,h2⟩:=hP i (by simpa [okA,jb,DV.strip,DV.cZ]using hd);rw[<-h2];exact .ptr h1
 |fn f fs cs=>exact NH hF hP h hd
 |_=>exact h.strip.pure_mono hF hd
end
def Cx.yu (x:Cx)(R:cy):Cx:={x with S:=s8 x.S R}
def Cx.ud (x y:Cx)(R:cy):Cx:={w:=y.w,μ:=x.μ,κ:=x.κ,Fz:=y.Fz,S:=kZ x.S y.S R}
theorem mJ{k:Nat}(h:Live (x.yu R).S k):k∈R/\Live x.S k:=by obtain⟨b,hb,hn⟩:=h;obtain⟨h1,l,h2,-⟩:=pL hb hn;exact⟨h1,_,h2,ae⟩
theorem X4(hR:Rel x)(hc:∀i∈R,∃l,x.S[i]? =some (.cells l)/\(l.map cW).all (MT R)=true):Rel (x.yu R):=by
 have hP:∀i∈R,∃l,(x.yu R).S[i]? =some (.cells l)/\(x.yu R).μ i=x.μ i:=λi hi=>by obtain⟨l,h,-⟩:=hc i hi;exact⟨_,yK hi h,rfl⟩
 refine⟨λid l2 h=>?_,λid e s n h=>?_,λid b h hb=>?_,λj k hj hk he=>hR.inj j k (mJ hj).2 (mJ hk).2 he,hR.xg,λid ⟨l,h⟩ o hF=>?_,λid e s n h=>?_,λid e s l z h=>?_,hR.glob⟩;obtain⟨hi,l,h2,h3⟩:=pL h ae;cases h3;obtain⟨l0,h4,h5⟩:=hc id hi;rw[h2]at h4;cases h4;obtain⟨arr,e,h6,h7,h8⟩:=hR.cells id l h2;refine⟨arr,e,h6,by simpa using h7,λj c hj=>?_⟩;have hm:=aU.1 h5 c (bY hj);simp only[cH,af]at hj;obtain⟨c',h9,rfl⟩:=hj;exact NH (x:=x) (y:=x.yu R) (λb o h=>⟨h,rfl⟩) hP (h8 j c' h9) hm;obtain⟨-,l,-,h3⟩:=pL h ae;cases h3;obtain⟨-,l,-,h3⟩:=pL h (eT hb);subst h3;cases hb;obtain⟨-,l,h2,-⟩:=pL h ae;exact hR.sep id ⟨l,h2⟩ o hF;obtain⟨-,l,-,h3⟩:=pL h ae;cases h3;obtain⟨-,l,-,h3⟩:=pL h ae;cases h3
section
variable (hR:Rel x) (hc:∀i∈R,∃l,x.S[i]? =some (.cells l)/\(l.map cW).all (MT R)=true) (M:bE (x.yu R) y)
include hR M
theorem rJ{id:Nat}{b:DB}{o:Obj}(hb:x.S[id]? =some b)(hne:b≠.none)(hid:id∉R)(ho:x.w.heap[x.μ id]? =some o):y.w.heap[x.μ id]? =x.w.heap[x.μ id]? :=by refine M.old _ (aG.1 ho).1 λk hk he=>?_;obtain⟨h1,h2⟩:=mJ hk;exact hid (hR.inj k id h2 ⟨b,hb,hne⟩ he▸h1)
omit hR in
include hc in
theorem pR{i:Nat}(hi:i∈R):∃l',y.S[i]? =some (.cells l')/\y.μ i=x.μ i/\(x.ud y R).S[i]? =some (.cells (l'.map cW)):=by obtain⟨l,h,-⟩:=hc i hi;obtain⟨h1,l',h2⟩:=M.cells i _ (yK hi h);exact⟨l',h2,h1,Bo hi h h2⟩
include hc
omit hR in
theorem pP{k:Nat}{b:DB}(h:(x.ud y R).S[k]? =some b):(k∈R/\∃l',y.S[k]? =some (.cells l')/\b=.cells (l'.map cW))\/(k∉R/\x.S[k]? =some b):=by by_cases hk:k∈R;obtain⟨l',h1,-,h3⟩:=pR hc M hk;rw[h3]at h;exact .inl ⟨hk,l',h1,(bG h).symm⟩;exact .inr ⟨hk,(iF hk).symm.trans h⟩
omit hR in
theorem Bc{k:Nat}(h:Live (x.ud y R).S k):Live x.S k:=by
 obtain⟨b,hb,hne⟩:=h;rcases pP hc M hb with ⟨hk,-⟩|⟨-,h⟩;obtain⟨l,h,-⟩:=hc k hk;exact⟨_,h,ae⟩
 exact⟨b,h,hne⟩
theorem Fc:bE x (x.ud y R) where
 size:=M.size
 env:=M.env
 fz:=M.fz
 HS:=λb o h=>(M.HS b o h).imp id λh=>h.imp id λ⟨k,h1,he⟩=>⟨k,(mJ h1).2,he⟩
 old:=λb hb hn=>M.old b hb λk hk he=>hn k (mJ hk).2 he
 len:=by simp[Cx.ud,kZ]
 cells:=λid l2 h=>⟨rfl,by
  by_cases he:id∈R;obtain⟨l',-,-,h3⟩:=pR hc M he;exact⟨_,h3⟩
  exact⟨l2,(iF he).trans h⟩⟩
 dA:=λid b h hb=>by
  have he:id∉R:=λhe=>by obtain⟨l,h1,-⟩:=hc id he;rw[h1]at h;cases h;cases hb
  obtain⟨o,ho,-⟩:=hR.dA id b h hb;exact⟨rfl,⟨b,(iF he).trans h,dL hb⟩,λ_=>rJ hR M h (eT hb) he ho⟩
 cU:=λt e s n h=>by
  have he:t∉R:=λhe=>by obtain⟨l,h1,-⟩:=hc t he;rw[h1]at h;cases h
  exact⟨n,(iF he).trans h,ai _,λ_=>⟨rfl,rfl⟩⟩
 live:=λk h=>.inl ⟨Bc hc M h,rfl⟩
 ops:=λt e s l z h=>by
  have he:t∉R:=λhe=>by obtain⟨l,h1,-⟩:=hc t he;rw[h1]at h;cases h
  exact⟨l,z,(iF he).trans h,ai _,λe=>⟨rfl,e⟩,λ_=>⟨rfl,rfl⟩⟩
theorem SN(Cm:Rel y)(hy:∀i∈R,∃l',y.S[i]? =some (.cells l')/\(l'.map cW).all (MT R)=true):Rel (x.ud y R):=by
 have MB:=Fc hR hc M;have hP:∀i∈R,∃l,(x.ud y R).S[i]? =some (.cells l)/\(x.ud y R).μ i=y.μ i:=λi hi=>by obtain⟨l',-,h2,h3⟩:=pR hc M hi;exact⟨_,h3,h2.symm⟩
 have hF:∀{b o},y.Fz b o->x.Fz b o\/x.w.heap.size<=b\/∃i,i∈R/\Live x.S i/\x.μ i=b:=λ{b o} h=>(M.HS b o h).imp id λh=>h.imp id λ⟨k,h1,he⟩=>⟨k,(mJ h1).1,(mJ h1).2,he⟩;refine⟨λid l2 h=>?_,λid e s n h=>?_,λid b h hb=>?_,λj k hj hk he=>hR.inj j k (Bc hc M hj) (Bc hc M hk) he,Cm.xg,λid ⟨l,h⟩ o hf=>?_,λid e s n h o hf=>?_,λid e s l1 z h=>?_,Cm.glob⟩;rcases pP hc M h with ⟨hi,l',h1,h2⟩|⟨hi,h1⟩;cases h2;obtain⟨l3,h3,h4⟩:=hy id hi;rw[h1]at h3;cases h3;obtain⟨arr,e,h5,h6,h7⟩:=Cm.cells id l' h1;obtain⟨l4,-,h8,-⟩:=pR hc M hi;refine⟨arr,e,by rw[h8]at h5;exact h5,by simpa using h6,λj c hj=>?_⟩;have hm:=aU.1 h4 c (bY hj);simp only[cH,af]at hj;obtain⟨c',h9,rfl⟩:=hj;exact NH (x:=y) (y:=x.ud y R) (λb o h=>⟨h,rfl⟩) hP (h7 j c' h9) hm;obtain⟨arr,e,h3,h4,h5⟩:=hR.cells id l2 h1;exact⟨arr,e,(rJ hR M h1 ae hi h3).trans h3,h4,λj c hj=>(h5 j c hj).mono MB⟩;rcases pP hc M h with ⟨hi,l',h1,h2⟩|⟨hi,h1⟩;cases h2;obtain⟨arr,h3,h4⟩:=hR.cU id e s n h1;exact⟨arr,(rJ hR M h1 ae hi h3).trans h3,h4⟩;rcases pP hc M h with ⟨hi,l',h1,h2⟩|⟨hi,h1⟩;subst h2;cases hb
 obtain⟨o,h3,h4⟩:=hR.dA id b h1 hb;exact⟨o,(rJ hR M h1 (eT hb) hi h3).trans h3,h4.mono MB⟩;rcases pP hc M h with ⟨hi,l',h1,h2⟩|⟨hi,h1⟩;obtain⟨l4,-,h8,-⟩:=pR hc M hi;refine Cm.sep id ⟨l',h1⟩ o ?_;rw[h8];exact hf
 obtain⟨arr,e,h3,-⟩:=hR.cells id l h1;rcases hF hf with h5|h5|⟨k,h5,h6,h7⟩;exact hR.sep id ⟨l,h1⟩ o h5;have:=(aG.1 h3).1;change x.w.heap.size<=x.μ id at h5;omega;exact hi (hR.inj k id h6 ⟨_,h1,ae⟩ h7▸h5);rcases pP hc M h with ⟨hi,l',h1,h2⟩|⟨hi,h1⟩;cases h2;obtain⟨arr,h3,-⟩:=hR.cU id e s n h1;rcases hF hf with h5|h5|⟨k,h5,h6,h7⟩;exact hR.nB id e s n h1 o h5;have:=(aG.1 h3).1;change x.w.heap.size<=x.μ id at h5;omega;exact absurd (hR.inj k id h6 ⟨_,h1,ae⟩ h7▸h5) hi;rcases pP hc M h with ⟨hi,l',h1,h2⟩|⟨hi,h1⟩;cases h2;obtain⟨arr,h4,h3,h6,h7,h8,h9,wz⟩:=hR.ops id e s l1 z h1;refine⟨arr,(rJ hR M h1 ae hi h4).trans h4,h3,h6,h7,λj c hc=>⟨(h8 j c hc).1,(h8 j c hc).2.mono MB⟩,λhz j hj=>(M.fz _ _ (h9 hz j hj)).1,λhz o hf=>?_⟩;rcases hF hf with h5|h5|⟨k,h5,h6,h7⟩;exact wz hz o h5;have:=(aG.1 h4).1;change x.w.heap.size<=x.μ id at h5;omega;exact absurd (hR.inj k id h6 ⟨_,h1,ae⟩ h7▸h5) hi
end
theorem Zb{call:bg}(hc:gR P aa call):gR P aa (PT call):=by
 intro f args S v S' h x vals hR hS ha;subst hS;unfold PT at h;split at h;rename_i R v1 S1 ho;cases h;unfold nZ at ho;split at ho;rename_i hq;simp only[aC]at hq;obtain⟨⟨-,hA⟩,nR⟩:=hq;split at ho;rename_i v2 S2 nI;split at ho;rename_i hp;simp only[aC]at hp;cases ho;generalize jd x.S args=R at*;have Dk:∀i∈R,∃l,x.S[i]? =some (.cells l)/\(l.map cW).all (MT R)=true:=λi hi=>LV (aU.1 nR i hi);have ha':gb (x.yu R) (args.map jb) vals:=by refine⟨by simpa using ha.1,λj c hj=>?_⟩;have hm:=aU.1 hA c (bY hj);simp only[cH,af]at hj;obtain⟨c',h1,rfl⟩:=hj;exact aeY (x:=x) (y:=x.yu R) (λb o h=>⟨h,rfl⟩) (λi hi=>by obtain⟨l,h,-⟩:=Dk i hi;exact⟨_,yK hi h,rfl⟩) (ha.2 j c' h1) hm
 obtain⟨h1,h2⟩:=hc _ _ _ _ _ nI (x.yu R) vals (X4 hR Dk) rfl ha';refine⟨h1,λfr cs hn=>h2 fr cs λy u ⟨q1,q2,q3,q4⟩=>?_⟩;subst q1;have hy:∀i∈R,∃l',y.S[i]? =some (.cells l')/\(l'.map cW).all (MT R)=true:=λi hi=>LV (aU.1 hp.2 i hi);exact hn (x.ud y R) u ⟨rfl,SN hR Dk q3 q2 hy,Fc hR Dk q3,q4.strip.pure_mono (x:=y) (y:=x.ud y R) (λb o h=>⟨h,rfl⟩) hp.1⟩;cases ho;cases ho;cases ho;exact hc _ _ _ _ _ h x vals hR rfl ha
end Go.Di
namespace Go.Di
open Go Go.Conc Go.Co
open Go.ConcN (upd upd_same upd_ne)
variable {P:Program} {aa:Machine->Trace->Prop} {ty:fo} {x:Cx} {aD:bT} {call:bg} {yf:dx}
def appW(w:Option (Nat×DB))(S:aj):aj:=match w with
 |none=>S
 |some (i,b)=>S.set i b
theorem qn{S:aj}{i:Nat}(h:i<S.length)(b:DB):eF S i b=S.set i b:=by unfold eF;rw[if_pos h]
theorem jw{S:aj}{i:Nat}{b:DB}(h:S[i]? =some b):i<S.length:=(aI.1 h).1
def vH:Op->Prop
 |.alloc _|.box .. |.makeMap .. |.load .. |.store .. |.lookup .. |.mapUpdate .. |.makeSlice .. |.buildSlice .. |.fieldAddr .. |.indexAddr .. =>False
 |.call {callee:=.builtin .append,.. }=>False
 |.call {callee:=.builtin _,.. }=>True
 |.call _=>False
 |_=>True
theorem map_fst{β:Type}(q:Option β)(f:β->DV)(S T:aj):q.map (λc=>(f c,S))=((q.map (λc=>(f c,T))).map (·.1)).map (·,S):=by cases q<;>rfl
theorem E3{ρ:Operand->Option DV}{o:Oper}(hop:vH o.op)(S:aj)(aB:Nat):ah P ty aD call yf ρ o S aB=((ah P ty aD call yf ρ o [] 0).map (·.1)).map (·,S):=by
 obtain⟨dst,op,type,pos,after,guard⟩:=o;cases op<;>simp only[vH]at hop
 case call c=>
  obtain⟨callee,args,ats⟩:=c;cases callee with
  |builtin b=>
   simp only[ah];generalize args.toList=l;generalize ats.toList=m;split;split<;>first|rfl|exact map_fst (f:=id) _ S []
   grind
   split<;>first|rfl|exact map_fst (f:=id) _ S []
   split<;>first|rfl|exact map_fst (f:=id) _ S []
   rfl
  |value f=>exact hop.elim
  |invoke r m=>exact hop.elim
 case makeFunc fn fs cs=>cases fn<;>simp only[ah]<;>(repeat' split)<;>rfl
 all_goals simp only[ah]
 all_goals (repeat' split)
 all_goals first
  |rfl
  |exact map_fst (f:=id) _ S []
  |exact map_fst _ _ S []
theorem Eh{ρ:Operand->Option DV}{o:Oper}(hop:vH o.op){S S':aj}{aB:Nat}{v:DV}(h:ah P ty aD call yf ρ o S aB=some (v,S')):S'=S/\∀T qJ,ah P ty aD call yf ρ o T qJ=some (v,T):=by rw[E3 hop]at h;simp only[af,az]at h;obtain⟨d,h1,h2,h3⟩:=h;refine⟨h3.symm,λT qJ=>?_⟩;rw[E3 hop];simp only[af,az];exact⟨d,h1,h2,trivial⟩
structure Eff (P:Program) (ty:fo) (aD:bT) (call:bg) (yf:dx) (ρ:Operand->Option DV) (o:Oper) (S:aj) (aB:Nat) (v:DV) (S':aj) (f:cQ) (F:cy) (w:Option (Nat×DB)):Prop where
 res:S'=appW w S
 FP:∀i b,w=some (i,b)->i∈F/\f.wr=true/\i<S.length
 loc:∀T,(F≠[]->T.length=S.length)->(∀x∈F,T[x]? =S[x]?)->aH P ty aD call yf ρ o T aB=some (v,appW w T,f)
theorem TU{S T:aj}{t:TypeId}{id off:Nat}(h:T[id]? =S[id]?):kX ty T t (.ptr id off)=kX ty S t (.ptr id off):=by
 unfold kX;cases ty t with
 |none=>rfl
 |some d=>simp only[h]
theorem OO{S T:aj}{t:TypeId}{rows:cn}{i off:Nat}:kX ty T t (.eU rows i off)=kX ty S t (.eU rows i off):=by unfold kX;cases ty t<;>rfl
theorem Ix{S T:aj}{id n:Nat}(h:T[id]? =S[id]?):CI T id n=CI S id n:=by unfold CI;rw[h]
theorem OM{S T:aj}{t:TypeId}{id n off:Nat}(h:T[id]? =S[id]?):kX ty T t (.fV id n off)=kX ty S t (.fV id n off):=by
 unfold kX;cases ty t with
 |none=>rfl
 |some d=>simp only[Ix h]
theorem rN{ρ:Operand->Option DV}{dst:Option Tmp}{t type:TypeId}{a:Operand}{f:Nat}{pos:String}{after:Array Edge}{guard:Option (Nat×Bool)}{S S' T:aj}{aB:Nat}{v:DV}(hT:∀id n off,ρ a=some (.fV id n off)->T[id]? =S[id]?)
  (h:ah P ty aD call yf ρ ⟨dst,.fieldAddr t a f,type,pos,after,guard⟩ S aB=some (v,S')):S'=S/\∀qJ,ah P ty aD call yf ρ ⟨dst,.fieldAddr t a f,type,pos,after,guard⟩ T qJ=some (v,T):=by
 simp only[ah]at h⊢;split at h;rename_i hk ha;split at h
 grind
 cases h;rename_i hk ha;split at h
 grind
 cases h;rename_i hk ha;split at h;rename_i hf hop;split at h;rename_i hs;cases h;exact⟨rfl,λ_=>by simp only[hk,ha,hf,Ix (hT _ _ _ ha),hop,if_pos hs]⟩;cases h;cases h;cases h
theorem rL{ρ:Operand->Option DV}{dst:Option Tmp}{t type:TypeId}{a i:Operand}{pos:String}{after:Array Edge}{guard:Option (Nat×Bool)}{S S' T:aj}{aB:Nat}{v:DV}(hT:∀id n ag,ρ a=some (.jB id n ag)->T[id]? =S[id]?)
  (h:ah P ty aD call yf ρ ⟨dst,.indexAddr t a i,type,pos,after,guard⟩ S aB=some (v,S')):S'=S/\∀qJ,ah P ty aD call yf ρ ⟨dst,.indexAddr t a i,type,pos,after,guard⟩ T qJ=some (v,T):=by
 simp only[ah]at h⊢;split at h;rename_i hk ha hi;split at h;rename_i h0;split at h
 grind
 cases h;cases h
 grind
 grind
 rename_i hk ha hi;split at h;rename_i hop;split at h;rename_i h0;cases h;exact⟨rfl,λ_=>by simp only[hk,ha,hi,Ix (hT _ _ _ ha),hop,if_pos h0]⟩;cases h;cases h;cases h
theorem HL{ρ:Operand->Option DV}{o:Oper}{t:TypeId}{n:Nat}{ps:Array (Nat×Operand)}{S S':aj}{aB:Nat}{v:DV}(ho:o.op=.buildSlice t n ps)(hh:ty.h o≠1)
  (h:ah P ty aD call yf ρ o S aB=some (v,S')):S'=S/\∀(T:aj)(qJ:Nat),ah P ty aD call yf ρ o T qJ=some (v,T):=by
 simp only[ah,ho]at h⊢;split at h;rename_i hk hl;split at h;rename_i he;split at h;rename_i hc;split at h
 grind
 cases h;cases h;cases h;cases h
theorem MO{S S':aj}{aB:Nat}{t:TypeId}{a b v:DV}(h:jJ ty S aB t a b=some (v,S'))(hn:aB<S.length):∃w,S'=appW w S/\(∀i c,w=some (i,c)->(i=aB\/∃r tk f,a=.sl r (some tk) f/\i=tk)/\i<S.length)/\
  ∀T:aj,T.length=S.length->(∀r tk f,a=.sl r (some tk) f->T[tk]? =S[tk]?)->jJ ty T aB t a b=some (v,appW w T):=by
 unfold jJ at h⊢;split at h;rename_i e s iU agg sz z rows tok full news adz adj htt;split at h;rename_i wm;cases h;exact⟨none,rfl,ae,λT _ _=>by simp only[wm,if_true];rfl⟩;rename_i wm;split at h;rename_i hte;split at h;rename_i hc;cases tok with
 |none=>
  simp only at h;split at h;rename_i hf;cases h;refine⟨some (aB,.tail e s ((rows.length+news.length)*s)),qn hn _,λi c hw=>?_,λT hT _=>?_⟩
  grind
  simp only[wm,hc,hf,if_true,aJ,if_false];rw[qn ab];rfl;cases h
 |some tk=>
  simp only at h;split at h;rename_i e' s' n' hS;split at h;rename_i Ae;cases h;refine⟨some (tk,.tail e s ((rows.length+news.length)*s)),rfl,λi c hw=>?_,λT hT hl=>?_⟩
  grind
  have hT2:T[tk]? =some (.tail e' s' n'):=(hl rows tk full rfl).trans hS;simp only[wm,hc,hT2,Ae,if_true,aJ,if_false];rfl;cases h;cases h
 cases h;cases h;cases h
theorem GZ{g:FuncId}{args:cn}{S:aj}{i:Nat}{v:DV}{l:cn}(h:pn call g args S=some (i,v,l)):i<S.length/\∀T:aj,T[i]? =S[i]? ->pn call g args T=some (i,v,l):=by
 unfold pn at h⊢;split at h
 grind
 cases h
theorem To{g:FuncId}{args:cn}{S S':aj}{aB:Nat}{v:DV}(h:wE call aB g args S=some (v,S')):∃b,S[aB]? =some .none/\S'=S.set aB b/\∀T:aj,T[aB]? =some .none->wE call aB g args T=some (v,T.set aB b):=by
 unfold wE at h⊢;split at h
 grind
 grind
 cases h
def adt(P:Program)(ty:fo)(aD:bT)(call:bg)(yf:dx)(ρ:Operand->Option DV)(o:Oper)(S:aj):Prop:=
 ∃c args ats g fs cs xs R v S1,o.op=.call ⟨.value c,args,ats⟩/\ρ c=some (.fn g fs cs)/\evs ρ args.toList=some xs/\¬ty.h o=1/\¬((fs++xs++cs).map DV.strip).all DV.pure=true/\pn call g (fs++xs++cs) S=none/\nZ call g (fs++xs++cs) S=some (R,v,S1)
theorem ab8{ρ:Operand->Option DV}{o:Oper}{S S':aj}{aB:Nat}{v:DV}{f:cQ}(h:aH P ty aD call yf ρ o S aB=some (v,S',f)){F:cy}(hF:f.ids=some F)(hm:¬adt P ty aD call yf ρ o S):∃w,Eff P ty aD call yf ρ o S aB v S' f F w:=by
 obtain⟨dst,op,type,pos,after,guard⟩:=o;have plain:∀(hop:vH op),(ah P ty aD call yf ρ ⟨dst,op,type,pos,after,guard⟩ S aB).map (λr=>(r.1,r.2,(⟨some [],false⟩:cQ)))=some (v,S',f)->(∀T,aH P ty aD call yf ρ ⟨dst,op,type,pos,after,guard⟩ T aB=(ah P ty aD call yf ρ ⟨dst,op,type,pos,after,guard⟩ T aB).map (λr=>(r.1,r.2,(⟨some [],false⟩:cQ))))->∃w,Eff P ty aD call yf ρ ⟨dst,op,type,pos,after,guard⟩ S aB v S' f F w:=by intro hop h1 h2;simp only[af,az]at h1;obtain⟨⟨d,S1⟩,h3,rfl,rfl,rfl⟩:=h1;obtain⟨h4,h5⟩:=Eh hop h3;exact⟨none,h4,ae,λT _ _=>by rw[h2,h5 T aB];rfl⟩
 cases op
 case alloc e=>
  simp only[aH]at h;split at h;rename_i hS;have hlt:=jw hS;simp only[ah]at h;split at h;rename_i hk;cases h;cases hF;refine⟨some (aB,_),qn hlt _,λi b hw=>by cases hw;exact⟨ae,rfl,hlt⟩,λT hT hx=>?_⟩;have:=hx aB ae;have hl:=hT ae;simp only[aH,this,hS,ah,hk,ay];rw[qn ab];rfl;cases h;cases h
 case box e a=>
  simp only[aH]at h;split at h;rename_i hS;have hlt:=jw hS;simp only[ah]at h;split at h;rename_i hk;cases h;cases hF;refine⟨some (aB,_),qn hlt _,λi b hw=>by cases hw;exact⟨ae,rfl,hlt⟩,λT hT hx=>?_⟩;have:=hx aB ae;have hl:=hT ae;simp only[aH,this,hS,ah,hk,ay];rw[qn ab];rfl;cases h;cases h
 case makeMap t r=>
  cases r with
  |some a=>simp only[aH]at h;split at h;simp[ah]at h;cases h
  |none=>simp only[aH]at h;split at h;rename_i hS;have hlt:=jw hS;simp only[ah]at h;cases h;cases hF;refine⟨some (aB,_),qn hlt _,λi b hw=>by cases hw;exact⟨ae,rfl,hlt⟩,λT hT hx=>?_⟩;have:=hx aB ae;have hl:=hT ae;simp only[aH,this,hS,ah,ay];rw[qn ab];rfl;cases h
 case store t a b=>
  simp only[aH]at h;split at h;rename_i id off ha;simp only[ah,ha]at h;split at h;rename_i a' v' h1 h2;cases h1;unfold pG at h;split at h;rename_i td iG rV hk hpe;cases hpe;split at h;rename_i l hl;split at h;rename_i hc;simp only[sD,af,sF,az]at h;obtain⟨l',h3,rfl,rfl,rfl⟩:=h;cases hF;refine⟨some (id,.cells l'),rfl,λi b hw=>by cases hw;exact⟨ae,rfl,jw hl⟩,λT hT hx=>?_⟩;have:=hx id ae;simp only[aH,ha,ah,h2,pG,hk,this,hl,hc,if_true,h3,ay];rfl;cases h;cases h
  grind
  cases h;cases h;rename_i id n off ha;simp only[ah,ha]at h;split at h;rename_i a' v' h1 h2;cases h1;unfold pG at h;split at h
  grind
  rename_i td iG n' rV hk hpe;cases hpe;split at h;rename_i e s l hop;have hl:=(lZ hop).1;split at h;rename_i hc;simp only[sD,af,sF,az]at h;obtain⟨l',h3,rfl,rfl,rfl⟩:=h;cases hF;refine⟨some (id,.op e s l' false),rfl,λi b hw=>by cases hw;exact⟨ae,rfl,jw hl⟩,λT hT hx=>?_⟩;have:=hx id ae;simp only[aH,ha,ah,h2,pG,hk,Ix this,hop,hc,if_true,h3,ay];rfl;cases h;cases h;cases h;cases h;cases h
 case makeSlice t a b=>simp only[aH]at h;cases h
 case buildSlice t n ps=>
  simp only[aH]at h;split at h;cases h;rename_i hh;simp only[af,az]at h;obtain⟨⟨d,S1⟩,h3,rfl,rfl,rfl⟩:=h;cases hF;obtain⟨h4,h5⟩:=HL rfl hh h3;refine⟨none,h4,ae,λT hT hx=>?_⟩;simp only[aH,h5 T aB,ay];rfl
 case fieldAddr t a f'=>
  simp only[aH]at h;split at h;rename_i id n off ha;simp only[af,az]at h;obtain⟨⟨d,S1⟩,h3,rfl,rfl,rfl⟩:=h;cases hF;refine⟨none,(rN (T:=S) (λ_ _ _ _=>rfl) h3).1,ae,λT hT hx=>?_⟩;have h5:=(rN (T:=T) (λiG n' rV he=>by rw[ha]at he;cases he;exact hx id ae) h3).2 aB;simp only[aH,ha,h5,ay];rfl;rename_i hno;simp only[af,az]at h;obtain⟨⟨d,S1⟩,h3,rfl,rfl,rfl⟩:=h;cases hF;refine⟨none,(rN (T:=S) (λ_ _ _ _=>rfl) h3).1,ae,λT hT hx=>?_⟩;have h5:=(rN (T:=T) (λiG n' rV he=>absurd he (hno _ _ _)) h3).2 aB;simp only[aH,h5,ay];rfl
 case indexAddr t a i=>
  simp only[aH]at h;split at h;rename_i id n ag ha;simp only[af,az]at h;obtain⟨⟨d,S1⟩,h3,rfl,rfl,rfl⟩:=h;cases hF;refine⟨none,(rL (T:=S) (λ_ _ _ _=>rfl) h3).1,ae,λT hT hx=>?_⟩;have h5:=(rL (T:=T) (λiG n' rV he=>by rw[ha]at he;cases he;exact hx id ae) h3).2 aB;simp only[aH,ha,h5,ay];rfl;rename_i hno;simp only[af,az]at h;obtain⟨⟨d,S1⟩,h3,rfl,rfl,rfl⟩:=h;cases hF;refine⟨none,(rL (T:=S) (λ_ _ _ _=>rfl) h3).1,ae,λT hT hx=>?_⟩;have h5:=(rL (T:=T) (λiG n' rV he=>absurd he (hno _ _ _)) h3).2 aB;simp only[aH,h5,ay];rfl
 case load t a=>
  simp only[aH]at h;split at h;rename_i id off ha;simp only[ah,ha]at h;simp only[sD,af,sF,az]at h;obtain⟨d,h3,rfl,rfl,rfl⟩:=h;cases hF;refine⟨none,rfl,ae,λT hT hx=>?_⟩;have:=hx id ae;simp only[aH,ha,ah,TU this,h3,ay];rfl;rename_i id n off ha;simp only[ah,ha]at h;simp only[sD,af,sF,az]at h;obtain⟨d,h3,rfl,rfl,rfl⟩:=h;cases hF;refine⟨none,rfl,ae,λT hT hx=>?_⟩;have:=hx id ae;simp only[aH,ha,ah,OM this,h3,ay];rfl;rename_i hno Vl;simp only[ah]at h;split at h;rename_i a' ha;simp only[sD,af,sF,az]at h;obtain⟨d,h3,rfl,rfl,rfl⟩:=h;cases hF;refine⟨none,rfl,ae,λT hT hx=>?_⟩;have hld:kX ty T t a'=some d:=by
   cases a' with
   |ptr id off=>exact absurd ha (hno id off)
   |fV id n off=>exact absurd ha (Vl id n off)
   |eU rows i off=>rw[<-h3];exact OO
   |_=>unfold kX at h3;split at h3<;>simp_all
  cases a' with
  |ptr id off=>exact absurd ha (hno id off)
  |fV id n off=>exact absurd ha (Vl id n off)
  |_=>simp only[aH,ha,ah,hld,ay];rfl
  cases h
 case lookup t m k ok=>
  simp only[aH]at h;split at h;rename_i id ha;simp only[ah,ha]at h;split at h;rename_i kv hm hk;cases hm;split at h;rename_i es hS;simp only[sD,af,sF,az]at h;obtain⟨d,h3,rfl,rfl,rfl⟩:=h;cases hF;refine⟨none,rfl,ae,λT hT hx=>?_⟩;have:=hx id ae;simp only[aH,ha,ah,hk,this,hS,h3,ay];rfl;cases h;cases h;cases h
 case mapUpdate t m k a=>
  simp only[aH]at h;split at h;rename_i id ha;simp only[ah,ha]at h;split at h;rename_i iG kv vv hm hk hv;cases hm;split at h;rename_i es hS;split at h;rename_i r hr;simp only[sD,af,sF,az]at h;obtain⟨es',h3,rfl,rfl,rfl⟩:=h;cases hF;refine⟨some (id,.map es'),rfl,λi b hw=>by cases hw;exact⟨ae,rfl,jw hS⟩,λT hT hx=>?_⟩;have:=hx id ae;simp only[aH,ha,ah,hk,hv,this,hS,hr,h3,ay];rfl;cases h;cases h;cases h;cases h
 case call c=>
  obtain⟨callee,args,ats⟩:=c;cases callee with
  |invoke r m=>simp[aH,ah]at h
  |value g=>simp only[aH]at h;split at h;rename_i g' fs cs xs hf Rv;split at h;rename_i hh;simp only[af,az]at h;obtain⟨⟨d,S1⟩,h3,rfl,rfl,rfl⟩:=h;cases hF;obtain⟨b,hn,hS,hT⟩:=To h3;exact⟨some (aB,b),hS,λ_ _ hw=>by cases hw;exact⟨ae,rfl,jw hn⟩,λT _ hx=>by simp only[aH,hf,Rv,if_pos hh,hT T ((hx aB ae).trans hn),ay];rfl⟩;rename_i hh;split at h;rename_i hp;simp only[af,az]at h;obtain⟨d,h3,rfl,rfl,rfl⟩:=h;cases hF;exact⟨none,rfl,ae,λT hT hx=>by simp only[aH,hf,Rv,if_neg hh,hp,if_true,h3,ay];rfl⟩;rename_i hp;split at h;rename_i i v1 l1 ho;cases h;cases hF;obtain⟨hi,hT⟩:=GZ ho;exact⟨some (i,.cells l1),rfl,λ_ _ hw=>by cases hw;exact⟨ae,rfl,hi⟩,λT _ hx=>by simp only[aH,hf,Rv,if_neg hh,if_neg hp,hT T (hx i ae)];rfl⟩;rename_i ho;split at h;rename_i R v1 S1 hmu;exact(hm ⟨g,args,ats,_,_,_,_,R,v1,S1,rfl,hf,Rv,hh,hp,ho,hmu⟩).elim;simp only[af,az]at h;obtain⟨r,h3,rfl,rfl,rfl⟩:=h;cases hF;simp only[af,az]at h;obtain⟨r,h3,rfl,rfl,rfl⟩:=h;cases hF;cases h
  |builtin b=>
   by_cases hb:b=.append
   .subst hb;simp only[aH]at h;split at h;cases h;rename_i hh;split at h;cases h;rename_i hsl;have agd:∀a da,args.toList[0]? =some a->ρ a=some da->Dy (some da)=false:=λa da h0 h1=>by
     have:args[0]? =some a:=by rw[<-jL];exact h0
     rw[this]at hsl;rw[<-h1];simpa using hsl
    have hstep:∀T:aj,ah P ty aD call yf ρ ⟨dst,.call ⟨.builtin .append,args,ats⟩,type,pos,after,guard⟩ T aB=match args.toList,ats.toList with
      |[x,y],[t,u]=>if t=u then match ρ x,ρ y with
        |some a,some b=>jJ ty T aB t a b
        |_,_=>none
       else none
      |_,_=>none:=λT=>by
     simp only[ah];generalize args.toList=l at agd;generalize ats.toList=m
     match l,m with
     |[x,y],[t,u]=>
      dsimp only;cases hx:ρ x with
      |none=>rfl
      |some a=>
       cases ρ y with
       |none=>rfl
       |some b=>have h0:=agd x a rfl hx;cases a<;>first|(simp[Dy]at h0;done)|rfl|(dsimp only;split<;>first|exact absurd ‹_› hh|rfl)
     |[],_=>rfl
     |[_],_=>rfl
     |_::_::_::_,_=>rfl
     |[_,_],[]=>rfl
     |[_,_],[_]=>rfl
     |[_,_],_::_::_::_=>rfl
    have main:∀(r:DV×aj)(F:cy),ah P ty aD call yf ρ ⟨dst,.call ⟨.builtin .append,args,ats⟩,type,pos,after,guard⟩ S aB=some r->S[aB]? =some .none->aB∈F->(∀rw tk fl,(args[0]?).bind ρ=some (.sl rw (some tk) fl)->tk∈F)->(∀T:aj,T[aB]? =some .none->aH P ty aD call yf ρ ⟨dst,.call ⟨.builtin .append,args,ats⟩,type,pos,after,guard⟩ T aB=(ah P ty aD call yf ρ ⟨dst,.call ⟨.builtin .append,args,ats⟩,type,pos,after,guard⟩ T aB).map (λr=>(r.1,r.2,(⟨some F,true⟩:cQ))))->
      ∃w,Eff P ty aD call yf ρ ⟨dst,.call ⟨.builtin .append,args,ats⟩,type,pos,after,guard⟩ S aB r.1 r.2 ⟨some F,true⟩ F w:=by
     intro r F hr hS hnF htk JU;rw[hstep]at hr;split at hr;rename_i a b t u qh aav;split at hr;rename_i Un;split at hr;rename_i da db ha rQ;obtain⟨w,w1,w2,w3⟩:=MO (v:=r.1) (S':=r.2) hr (jw hS);have Gc:(args[0]?).bind ρ=some da:=by grind
     refine⟨w,w1,λi c hw=>?_,λT hT hx=>?_⟩
     grind
     grind
     cases hr;cases hr;cases hr
    split at h;rename_i rw' tk fl hS rQ;simp only[af,az]at h;obtain⟨r,h3,rfl,rfl,rfl⟩:=h;cases hF;exact main r [tk,aB] h3 hS ae (λ_ _ _ he=>by rw[rQ]at he;cases he;simp) λT hT=>by simp only[aH,if_neg hh,hT,rQ,Dy,aJ,if_false]
    rename_i hS hno;simp only[af,az]at h;obtain⟨r,h3,rfl,rfl,rfl⟩:=h;cases hF;refine main r [aB] h3 hS ae (λrw' tk fl he=>absurd he (hno rw' tk fl)) λT hT=>?_;simp only[aH,if_neg hh,if_neg hsl,hT];cases h
   have hop:vH (.call ⟨.builtin b,args,ats⟩):=by cases b<;>first|trivial|exact absurd rfl hb
   have JU:∀T,aH P ty aD call yf ρ ⟨dst,.call ⟨.builtin b,args,ats⟩,type,pos,after,guard⟩ T aB=(ah P ty aD call yf ρ ⟨dst,.call ⟨.builtin b,args,ats⟩,type,pos,after,guard⟩ T aB).map (λr=>(r.1,r.2,(⟨some [],false⟩:cQ))):=λT=>by cases b<;>first|rfl|exact absurd rfl hb
   rw[JU]at h;exact plain hop h JU
 all_goals exact plain trivial h λT=>rfl
structure agE (P:Program) (ty:fo) (aD:bT) (call:bg) (yf:dx) (ρ:Operand->Option DV) (o:Oper) (S:aj) (aB:Nat) (v:DV) (S':aj) (f:cQ) (F:cy) (A:aj->aj):Prop where
 res:S'=A S
 loc:∀T,(F≠[]->T.length=S.length)->(∀x∈F,T[x]? =S[x]?)->aH P ty aD call yf ρ o T aB=some (v,A T,f)
 len:∀T:aj,(A T).length=T.length
 out:∀(T:aj) id,(F≠[]->T.length=S.length)->¬(f.wr=true/\id∈F)->(A T)[id]? =T[id]?
 inn:∀(T:aj) id,id∈F->T.length=S.length->T[id]? =S[id]? ->(A T)[id]? =(A S)[id]?
theorem Q8{S T:aj}:∀{R:cy},(∀i∈R,T[i]? =S[i]?)->R.flatMap (Ii T)=R.flatMap (Ii S)
 |[],_=>rfl
 |i::R,h=>by
  have e:Ii T i=Ii S i:=by unfold Ii;rw[h i (gO ..)]
  rw[dm,dm,e,Q8 λj hj=>h j (nt _ hj)]
theorem Jg{S T:aj}{R:cy}(h:∀i∈qZ S R,T[i]? =S[i]?):qZ T R=qZ S R:=by unfold qZ;rw[Q8 λi hi=>h i (qC _ hi)]
theorem Ya{S T:aj}{args:cn}(h:∀i∈jd S args,T[i]? =S[i]?):jd T args=jd S args:=by have h2:∀i∈qZ S (qZ S (args.flatMap Al)),T[i]? =S[i]? :=λi hi=>h i (qC _ hi);have h1:∀i∈qZ S (args.flatMap Al),T[i]? =S[i]? :=λi hi=>h2 i (qC _ hi);unfold jd;rw[Jg h1,Jg h2,Jg h]
theorem abJ{S T:aj}{R:cy}(hl:T.length=S.length)(h:∀i∈R,T[i]? =S[i]?):s8 T R=s8 S R:=by
 refine nj λi=>?_;simp only[s8,oI];by_cases hi:i∈R
 grind
 grind
theorem ait{S T:aj}{R:cy}{Q:cy}(h:∀i∈R,T[i]? =S[i]?):R.all (kK T Q)=R.all (kK S Q):=by rw[Bool.eq_iff_iff,aU,aU];exact⟨λk i hi=>by have:=k i hi;unfold kK at this⊢;rwa [h i hi]at this,λk i hi=>by have:=k i hi;unfold kK at this⊢;rwa [h i hi]⟩
theorem TG{g:FuncId}{args:cn}{S S1:aj}{R:cy}{v:DV}(h:nZ call g args S=some (R,v,S1)):R≠[]/\∀T:aj,T.length=S.length->(∀x∈R,T[x]? =S[x]?)->nZ call g args T=some (R,v,S1):=by
 have h0:=h;unfold nZ at h;split at h;rename_i hq;split at h;split at h;cases h;refine⟨λe=>?_,λT hl hT=>?_⟩
 grind
 unfold nZ at h0⊢;rw[Ya hT,abJ hl hT,ait hT];exact h0;cases h;cases h;cases h
theorem air{ρ:Operand->Option DV}{o:Oper}{S S':aj}{aB:Nat}{v:DV}{f:cQ}{F:cy}{w:Option (Nat×DB)}(h:Eff P ty aD call yf ρ o S aB v S' f F w):agE P ty aD call yf ρ o S aB v S' f F (appW w) where
 res:=h.res
 loc:=h.loc
 len:=λT=>by cases w<;>simp[appW]
 out:=λT id hl hn=>by
  cases w with
  |none=>rfl
  |some p=>obtain⟨i,b⟩:=p;obtain⟨q1,q2,-⟩:=h.FP i b rfl;simp only[appW];rw[aN,if_neg];rintro rfl;exact hn ⟨q2,q1⟩
 inn:=λT id hi hl hT=>by
  cases w with
  |none=>exact hT
  |some p=>obtain⟨i,b⟩:=p;simp only[appW];rw[aN,aN,hl,hT]
theorem Yt{g:FuncId}{args:cn}{S S1 T:aj}{R:cy}{v v2:DV}{i:Nat}{l:cn}(h:nZ call g args S=some (R,v,S1))(ho:pn call g args T=some (i,v2,l)):i∈R:=by unfold nZ at h;split at h;split at h;split at h;cases h;unfold pn at ho;split at ho;rename_i j off rest;split at ho;split at ho;split at ho;split at ho;cases ho;unfold jd qZ;simp[Al];cases ho;cases ho;cases ho;cases ho;cases ho;cases h;cases h;cases h
theorem Xb{ρ:Operand->Option DV}{o:Oper}{S S':aj}{aB:Nat}{v:DV}{f:cQ}(h:aH P ty aD call yf ρ o S aB=some (v,S',f)){F:cy}(hF:f.ids=some F):∃A,agE P ty aD call yf ρ o S aB v S' f F A:=by
 by_cases hm:adt P ty aD call yf ρ o S;obtain⟨c,args,ats,g,fs,cs,xs,R,v1,S1,k1,k2,k3,k4,k5,k6,k7⟩:=hm;obtain⟨dst,op,type,pos,after,guard⟩:=o;simp only at k1;subst k1;simp only[aH,k2,k3,if_neg k4,if_neg k5,k6,k7,aF,az]at h;obtain⟨rfl,rfl,rfl⟩:=h;cases hF;obtain⟨hne,kQ⟩:=TG k7;refine⟨λT=>kZ T S1 F,rfl,λT hl hT=>?_,λT=>by simp[kZ],λT id _ hn=>iF λhi=>hn ⟨rfl,hi⟩,λT id hi hl hT=>?_⟩;have k6':pn call g (fs++xs++cs) T=none:=by
  cases e:pn call g (fs++xs++cs) T with
  |none=>rfl
  |some p=>obtain⟨i,v2,l2⟩:=p;obtain⟨-,hT2⟩:=GZ e;have hi:i∈F:=Yt k7 e;rw[hT2 S (hT i hi).symm]at k6;cases k6
 simp only[aH,k2,k3,if_neg k4,if_neg k5,k6',kQ T (hl hne) hT];simp only[kZ,oI,hT];obtain⟨w,hw⟩:=ab8 h hF hm;exact⟨_,air hw⟩
end Go.Di
