import Derived.Test.YtadeehilamokkaaGreatDoorPk27
namespace Go.Di
open Go Go.Conc Go.Co
open Go.ConcN (upd upd_same upd_ne)
variable {P:Program} {aa:Machine->Trace->Prop} {ty:fo} {x:Cx} {aD:bT} {call:bg} {yf:dx}
theorem Jv{ρ ρ':Operand->Option DV}{o:Oper}{S:aj}{aB:Nat}(h:∀a∈o.op.operands,ρ a=ρ' a):aH P ty aD call yf ρ o S aB=aH P ty aD call yf ρ' o S aB:=by
 have hs:=zT (P:=P) (ty:=ty) (aD:=aD) (call:=call) (yf:=yf) (S:=S) (aB:=aB) h;unfold aH;split;rw[hs];rw[hs];rw[hs];rename_i t a v hop;rw[hop]at h;rw[h a (by simp[Op.operands]),hs];rename_i t a v hop;rw[hop]at h;rw[h a (by simp[Op.operands]),hs];rename_i t a v hop;rw[hop]at h;rw[h a (by simp[Op.operands]),hs];rw[hs];rfl;rename_i t m k ok hop;rw[hop]at h;rw[h m (by simp[Op.operands]),hs];rename_i t m k v hop;rw[hop]at h;rw[h m (by simp[Op.operands]),hs];rename_i t a hop;rw[hop]at h;rw[h a (by simp[Op.operands]),hs];rename_i args ats hop;rw[hop]at h;have:(args[0]?).bind ρ=(args[0]?).bind ρ':=by
  cases ha:args[0]? with
  |none=>rfl
  |some a=>exact h a (by simp[Op.operands,Call.operands,Array.mem_of_getElem? ha])
 rw[this,hs];rename_i f args ats hop;rw[hop]at h;have h1:ρ f=ρ' f:=h f (by simp[Op.operands,Call.operands]);have h2:=mM (ρ:=ρ) (ρ':=ρ') (l:=args.toList) λa ha=>h a (by simp[Op.operands,Call.operands]at ha⊢;exact .inr ha);rw[h1,h2];rw[hs]
def acC:Op->Prop
 |.call {callee:=.value _,.. }=>False
 |_=>True
theorem dK{c1 c2:bg}{ρ:Operand->Option DV}{o:Oper}{S:aj}{aB:Nat}(h:acC o.op):ah P ty aD c1 yf ρ o S aB=ah P ty aD c2 yf ρ o S aB:=by
 obtain⟨dst,op,type,pos,after,guard⟩:=o;cases op
 case call c=>
  obtain⟨callee,args,ats⟩:=c;cases callee with
  |value f=>exact h.elim
  |builtin b=>simp only[ah]
  |invoke r m=>simp only[ah]
 case makeFunc fn a b=>cases fn<;>simp only[ah]
 case makeMap t r=>cases r<;>simp only[ah]
 all_goals first
  |rfl
  |simp only[ah]
theorem ab7{ρ:Operand->Option DV}{o:Oper}{S S':aj}{aB:Nat}{v:DV}{f:cQ}(h:aH P ty aD call yf ρ o S aB=some (v,S',f)):∃qJ cl,(cl=KB call\/cl=wE call aB)/\FD S qJ/\ah P ty aD cl yf ρ o S qJ=some (v,S'):=by
 suffices hs:(∃qJ,FD S qJ/\ah P ty aD (KB call) yf ρ o S qJ=some (v,S'))\/∃qJ,FD S qJ/\ah P ty aD (wE call aB) yf ρ o S qJ=some (v,S')by
  rcases hs with ⟨n,h1,h2⟩|⟨n,h1,h2⟩
  grind
  grind
 obtain⟨dst,op,type,pos,after,guard⟩:=o;have mp:∀{q:Option (DV×aj)}{g:DV×aj->cQ},q.map (λr=>(r.1,r.2,g r))=some (v,S',f)->q=some (v,S'):=by intro q g hq;simp only[af,az]at hq;obtain⟨⟨a,b⟩,h1,h2,h3,-⟩:=hq;rw[h1,<-h2,<-h3]
 have plain:∀{q:aj->Nat->Option (DV×aj)},(∀n m,q S n=q S m)->q S aB=some (v,S')->∃qJ,FD S qJ/\q S qJ=some (v,S'):=λhq h=>⟨S.length,.inl rfl,by rw[hq _ aB];exact h⟩;cases op
 case alloc e=>
  simp only[aH]at h;split at h;rename_i hS;exact .inl ⟨aB,.inr hS,(dK (c2:=call) (by trivial)).trans (mp h)⟩
  cases h
 case box e a=>
  simp only[aH]at h;split at h;rename_i hS;exact .inl ⟨aB,.inr hS,(dK (c2:=call) (by trivial)).trans (mp h)⟩
  cases h
 case makeMap e a=>
  simp only[aH]at h;split at h;rename_i hS;exact .inl ⟨aB,.inr hS,(dK (c2:=call) (by trivial)).trans (mp h)⟩
  cases h
 case store t a b=>
  simp only[aH]at h;split at h;exact .inl ⟨S.length,.inl rfl,(dK (c2:=call) (by trivial)).trans (mp h)⟩;exact .inl ⟨S.length,.inl rfl,(dK (c2:=call) (by trivial)).trans (mp h)⟩;cases h
 case makeSlice t a b=>simp only[aH]at h;cases h
 case buildSlice t n ps=>
  simp only[aH]at h;split at h;cases h;rename_i hh;obtain⟨h1,h2⟩:=HL rfl hh (mp h);subst h1;exact .inl ⟨S'.length,.inl rfl,(dK (c2:=call) (by trivial)).trans (h2 _ _)⟩
 case fieldAddr t a i=>
  simp only[aH]at h;split at h;all_goals
   obtain⟨h1,h2⟩:=rN (T:=S) (λ_ _ _ _=>rfl) (mp h);subst h1;exact .inl ⟨S'.length,.inl rfl,(dK (c2:=call) (by trivial)).trans (h2 _)⟩
 case indexAddr t a i=>
  simp only[aH]at h;split at h;all_goals
   obtain⟨h1,h2⟩:=rL (T:=S) (λ_ _ _ _=>rfl) (mp h);subst h1;exact .inl ⟨S'.length,.inl rfl,(dK (c2:=call) (by trivial)).trans (h2 _)⟩
 case load t a=>
  simp only[aH]at h;split at h;exact .inl ⟨S.length,.inl rfl,(dK (c2:=call) (by trivial)).trans (mp h)⟩;exact .inl ⟨S.length,.inl rfl,(dK (c2:=call) (by trivial)).trans (mp h)⟩;exact .inl ⟨S.length,.inl rfl,(dK (c2:=call) (by trivial)).trans (mp h)⟩
 case lookup t m k ok=>
  simp only[aH]at h;split at h;exact .inl ⟨S.length,.inl rfl,(dK (c2:=call) (by trivial)).trans (mp h)⟩;cases h
 case mapUpdate t m k a=>
  simp only[aH]at h;split at h;exact .inl ⟨S.length,.inl rfl,(dK (c2:=call) (by trivial)).trans (mp h)⟩;cases h
 case call c=>
  obtain⟨callee,args,ats⟩:=c;cases callee with
  |invoke r m=>simp[aH,ah]at h
  |value g=>
   simp only[aH]at h;by_cases h1:ty.h ⟨dst,.call ⟨.value g,args,ats⟩,type,pos,after,guard⟩=1;refine .inr ⟨S.length,.inl rfl,?_⟩;simp only[ah];split at h;rw[if_pos h1]at h;rw[h1];exact mp h;exact mp h;cases h;refine .inl ⟨S.length,.inl rfl,?_⟩;simp only[ah];split at h;rename_i g' fs cs xs hf Rv;split at h
   grind
   rename_i hh;simp only[wN];split at h
   grind
   rename_i hp;rw[if_neg hp];unfold KB;split at h
   grind
   unfold PT;split at h
   grind
   exact mp h;exact mp h;cases h
  |builtin b=>
   by_cases hb:b=.append;subst hb;simp only[aH]at h;split at h;cases h;split at h;cases h;split at h;rename_i hS _;exact .inl ⟨aB,.inr hS,(dK (c2:=call) (by trivial)).trans (mp h)⟩
   rename_i hS _;exact .inl ⟨aB,.inr hS,(dK (c2:=call) (by trivial)).trans (mp h)⟩
   cases h;have JU:aH P ty aD call yf ρ ⟨dst,.call ⟨.builtin b,args,ats⟩,type,pos,after,guard⟩ S aB=(ah P ty aD call yf ρ ⟨dst,.call ⟨.builtin b,args,ats⟩,type,pos,after,guard⟩ S aB).map (λr=>(r.1,r.2,(⟨some [],false⟩:cQ))):=by cases b<;>first|rfl|exact absurd rfl hb
   rw[JU]at h;have hop:vH (.call ⟨.builtin b,args,ats⟩):=by cases b<;>first|trivial|exact absurd rfl hb
   obtain⟨h1,h2⟩:=Eh hop (mp h);subst h1;exact .inl ⟨S'.length,.inl rfl,(dK (c2:=call) (by trivial)).trans (h2 _ _)⟩
 all_goals
  simp only[aH]at h;obtain⟨h1,h2⟩:=Eh (by trivial) (mp h);subst h1;exact .inl ⟨S'.length,.inl rfl,(dK (c2:=call) (by trivial)).trans (h2 _ _)⟩
theorem Xa{ρ:Operand->Option DV}{o:Oper}{S S':aj}{aB:Nat}{v:DV}{f:cQ}(h:aH P ty aD call yf ρ o S aB=some (v,S',f))(hf:f.ids=none):f.wr=true:=by
 have mp:∀{q:Option (DV×aj)}{l:cy}{b:Bool},q.map (λr=>(r.1,r.2,(⟨some l,b⟩:cQ)))=some (v,S',f)->False:=by intro q l b hq;simp only[af,az]at hq;obtain⟨_,-,-,-,rfl⟩:=hq;cases hf
 have mt:∀{q:Option (DV×aj)},q.map (λr=>(r.1,r.2,(⟨none,true⟩:cQ)))=some (v,S',f)->f.wr=true:=by intro q hq;simp only[af,az]at hq;obtain⟨_,-,-,-,rfl⟩:=hq;rfl
 unfold aH at h;split at h
 case h_13=>
  split at h;simp only at h;split at h;exact(mp h).elim;split at h;simp only[af,az]at h;obtain⟨_,-,-,-,rfl⟩:=h;cases hf
  grind
  exact mt h;cases h
 all_goals (repeat' split at h)
 all_goals first
  |exact(mp h).elim
  |cases h
def touch(F:Nat->cQ)(j id:Nat):Bool:=(F j).wr&&match(F j).ids with
 |none=>true
 |some l=>l.contains id
def top(F:Nat->cQ)(j:Nat):Bool:=(F j).wr&&(F j).ids.isNone
def nF{α:Type}(W:Nat->Bool)(R:Nat->α)(d:α)(L:Nat->Bool):Nat->α
 |0=>d
 |n+1=>if L n&&W n then R n else nF W R d L n
theorem gX{α:Type}{W:Nat->Bool}{R:Nat->α}{d:α}{L:Nat->Bool}{i:Nat}:∀{n:Nat},i<=n->(∀j,j<n->W j=true->(L j=true↔j<i))->nF W R d L n=nF W R d (λ_=>true) i
 |0,h,_=>by
  have:i=0:=ab
  subst this;rfl
 |n+1,h,hj=>by
  by_cases nQ:i=n+1;subst nQ;unfold nF;by_cases hd:W n=true
  grind
  simp only[aC,hd,and_false,if_false,aJ];exact gX (ai _) λj h1 h2=>⟨λ_=>h1,λ_=>(hj j (qz h1) h2).2 (qz h1)⟩;have hle:i<=n:=ab
  rw[<-gX hle λj h1 h2=>hj j ab h2]
  conv=>lhs;unfold nF
  by_cases hd:W n=true
  grind
  simp[hd]
theorem nL{α:Type}{W:Nat->Bool}{R:Nat->α}{d:α}{L:Nat->Bool}{i:Nat}(hd:W i=false):∀n,nF W R d (upd L i true) n=nF W R d L n
 |0=>rfl
 |n+1=>by
  unfold nF;rw[nL hd n];by_cases h:n=i
  grind
  rw[upd_ne _ _ h]
theorem xS{α:Type}{W:Nat->Bool}{R:Nat->α}{d:α}{i:Nat}(hd:W i=true):nF W R d (λ_=>true) (i+1)=R i:=by unfold nF;simp[hd]
structure We (P:Program) (ty:fo) (aD:bT) (call:bg) (yf:dx) (ops:Array Oper) (n0:Nat) (E:Nat->cn) (V:Nat->DV) (M:Nat->aj) (F:Nat->cQ):Prop where
 env:PX ops V E
 yes:∀j o,ops[j]? =some o->cv ops (E j) o=true->aH P ty aD call yf (ir (E j)) o (M j) (n0+j)=some (V j,M (j+1),F j)
 no:∀j o,ops[j]? =some o->cv ops (E j) o=false->V j=bD/\M (j+1)=M j/\F j=⟨some [],false⟩
theorem GL{ops:Array Oper}{n0:Nat}:∀{r:List Oper}{i:Nat}{env aL:cn}{S S':aj}{fs:cY},s5 P ty aD call yf ops n0 r i env S=some (aL,S',fs)->
  ∃(E:Nat->cn)(V:Nat->DV)(M:Nat->aj)(F:Nat->cQ),E 0=env/\E r.length=aL/\M 0=S/\M r.length=S'/\(fs.length=r.length/\∀j,j<r.length->fs[j]? =some (F j))/\
   ∀j o,r[j]? =some o->E (j+1)=j4 (E j) o.dst (V j)/\(cv ops (E j) o=true->aH P ty aD call yf (ir (E j)) o (M j) (n0+(i+j))=some (V j,M (j+1),F j))/\(cv ops (E j) o=false->V j=bD/\M (j+1)=M j/\F j=⟨some [],false⟩)
 |[],i,env,aL,S,S',fs,h=>by simp only[s5,aF,az]at h;obtain⟨rfl,rfl,rfl⟩:=h;exact⟨λ_=>env,λ_=>bD,λ_=>S,λ_=>⟨some [],false⟩,rfl,rfl,rfl,rfl,⟨rfl,ae⟩,ae⟩
 |o::r,i,env,aL,S,S',fs,h=>by
  unfold s5 at h;have key:∀v S1 f q8 xh Vp,s5 P ty aD call yf ops n0 r (i+1) (j4 env o.dst v) S1=some (q8,xh,Vp)->(cv ops env o=true->aH P ty aD call yf (ir env) o S (n0+i)=some (v,S1,f))->(cv ops env o=false->v=bD/\S1=S/\f=⟨some [],false⟩)->some (q8,xh,f::Vp)=some (aL,S',fs)->
    ∃(E:Nat->cn)(V:Nat->DV)(M:Nat->aj)(F:Nat->cQ),E 0=env/\E (o::r).length=aL/\M 0=S/\M (o::r).length=S'/\(fs.length=(o::r).length/\∀j,j<(o::r).length->fs[j]? =some (F j))/\
     ∀j o',(o::r)[j]? =some o'->E (j+1)=j4 (E j) o'.dst (V j)/\(cv ops (E j) o'=true->aH P ty aD call yf (ir (E j)) o' (M j) (n0+(i+j))=some (V j,M (j+1),F j))/\(cv ops (E j) o'=false->V j=bD/\M (j+1)=M j/\F j=⟨some [],false⟩):=by
   intro v S1 f q8 xh Vp h1 h2 h3 h4;cases h4;obtain⟨E,V,M,F,e1,e2,e3,e4,e5,e6⟩:=GL h1;refine⟨λn=>match n with|0=>env|n+1=>E n,λn=>match n with|0=>v|n+1=>V n,λn=>match n with|0=>S|n+1=>M n,λn=>match n with|0=>f|n+1=>F n,rfl,by simpa using e2,rfl,by simpa using e4,⟨by simp[e5.1],λj hj=>?_⟩,λj o' nP=>?_⟩
   grind
   grind
  split at h;rename_i hw;split at h;rename_i v S1 f h1;split at h;rename_i q8 xh Vp h2;exact key v S1 f _ _ _ h2 (λ_=>h1) (λhf=>by rw[hw]at hf;cases hf) h;cases h;cases h;rename_i hw;split at h;rename_i q8 xh Vp h2;exact key bD S ⟨some [],false⟩ _ _ _ h2 (λht=>absurd ht hw) (λ_=>⟨rfl,rfl,rfl⟩) h;cases h
theorem ae0{ops:Array Oper}{n0:Nat}{env aL:cn}{S S':aj}{fs:cY}(h:s5 P ty aD call yf ops n0 ops.toList 0 env S=some (aL,S',fs)):
  ∃(E:Nat->cn)(V:Nat->DV)(M:Nat->aj)(F:Nat->cQ),We P ty aD call yf ops n0 E V M F/\E 0=env/\E ops.size=aL/\M 0=S/\M ops.size=S'/\∀j,j<ops.size->fs[j]? =some (F j):=by
 obtain⟨E,V,M,F,e1,e2,e3,e4,e5,e6⟩:=GL h;refine⟨E,V,M,F,⟨λj o ho=>(e6 j o (by simpa using ho)).1,λj o ho hw=>?_,λj o ho hw=>(e6 j o (by simpa using ho)).2.2 hw⟩,e1,by simpa using e2,e3,by simpa using e4,λj hj=>e5.2 j (by simpa using hj)⟩;have:=(e6 j o (by simpa using ho)).2.1 hw;simpa using this
theorem run_store{ops:Array Oper}{n0:Nat}{E:Nat->cn}{V:Nat->DV}{M:Nat->aj}{F:Nat->cQ}(h:We P ty aD call yf ops n0 E V M F)(id:Nat):∀i,i<=ops.size->
  (M i)[id]? =nF (λj=>touch F j id) (λj=>(M (j+1))[id]?) ((M 0)[id]?) (λ_=>true) i/\(M i).length=nF (top F) (λj=>(M (j+1)).length) (M 0).length (λ_=>true) i
 |0,_=>⟨rfl,rfl⟩
 |i+1,hi=>by
  have ho:ops[i]? =some ops[i]:=b7 ab;obtain⟨Ru,Uk⟩:=run_store h id i ab;unfold nF;simp only[Bool.true_and];rw[<-Ru,<-Uk];cases hw:cv ops (E i) ops[i]with
  |false=>obtain⟨h1,h2,h3⟩:=h.no i _ ho hw;rw[h2];simp
  |true=>
   have hs:=h.yes i _ ho hw;cases qW:(F i).ids with
   |none=>have:=Xa hs qW;simp[touch,top,qW,this]
   |some l=>obtain⟨A,w⟩:=Xb hs qW;constructor;split;rfl;rename_i hnt;rw[w.res];exact w.out _ _ (λ_=>rfl) λ⟨q2,q1⟩=>hnt (by simp[touch,q2,qW,q1]);rw[w.res,w.len];simp[top,qW]
theorem afi{b:Array Nat}{fs:cY}(h:tR b fs=true){i j:Nat}{f g:cQ}(hi:fs[i]? =some f)(hj:fs[j]? =some g)(hne:i≠j)(hm:f.meets g=true):(b.getD j 0).testBit i=true\/(b.getD i 0).testBit j=true:=by
 unfold tR at h;simp only[aU]at h;have h1:=h (f,i) (by rw[zb];exact hi) (g,j) (by rw[zb];exact hj);have h2:(i==j)=false:=by simpa using hne
 simp only[h2,hm,fR,Bool.or_false,Bool.false_or,jK]at h1;exact h1
end Go.Di
namespace Go.Di
open Go Go.Conc Go.Co
variable {P:Program} {aa:Machine->Trace->Prop} {x y:Cx} {i:Nat} {l l0 l':cn} {T:aj}
def Cx.only (x:Cx)(i:Nat)(l:cn):Cx:={x with μ:=λ_=>x.μ i,κ:=λ_=>0,S:=[.cells l]}
theorem ER{x y:Cx}(hF:∀b o,x.Fz b o->y.Fz b o/\y.w.cell? ⟨b,o,none⟩=x.w.cell? ⟨b,o,none⟩){l:cn}{arr:Array Value}(hl:(l.map DV.aM).all DV.bU=true)(h:gb x l arr):gb y (l.map DV.aM) arr:=by refine⟨by simpa using h.1,λj c hj=>?_⟩;have hm:=aU.1 hl c (bY hj);simp only[cH,af]at hj;obtain⟨c',h2,rfl⟩:=hj;exact(h.2 j c' h2).aM.mP hF hm
theorem AR{x y:Cx}(hF:∀b o,x.Fz b o->y.Fz b o/\y.w.cell? ⟨b,o,none⟩=x.w.cell? ⟨b,o,none⟩){l:cn}(hl:(l.map DV.strip).all DV.pure=true){j:Nat}{c:DV}{v:Value}(hj:(l.map DV.strip)[j]? =some c)(h:∀c',l[j]? =some c'->RV x c' v):RV y c v:=by have hm:=aU.1 hl c (bY hj);simp only[cH,af]at hj;obtain⟨c',h2,rfl⟩:=hj;exact(h c' h2).strip.pure_mono hF hm
theorem pK{l:cn}{k:Nat}{b:DB}(h:([.cells l]:aj)[k]? =some b):k=0/\b=.cells l:=by grind
theorem X1(hR:Rel x)(hi:x.S[i]? =some (.cells l))(hl:(l.map DV.aM).all DV.bU=true):Rel (x.only i (l.map DV.aM)):=by refine⟨λid l2 h=>?_,λid e s n h=>?_,λid b h hb=>?_,λj k hj hk _=>?_,hR.xg,λid h o hF=>?_,λid e s n h=>?_,λid e s l z h=>?_,hR.glob⟩;obtain⟨rfl,h2⟩:=pK h;cases h2;obtain⟨arr,e,h1,h2,h3⟩:=hR.cells i l hi;refine⟨arr,e,h1,?_⟩;exact ER (x:=x) (y:=x.only i (l.map DV.aM)) (λb o h=>⟨h,rfl⟩) hl ⟨h2,h3⟩;exact nomatch (pK h).2;obtain⟨-,rfl⟩:=pK h;cases hb;obtain⟨b,hb,-⟩:=hj;obtain⟨c,hc,-⟩:=hk;rw[(pK hb).1,(pK hc).1];exact hR.sep i ⟨l,hi⟩ o hF;exact nomatch (pK h).2;exact nomatch (pK h).2
def Cx.back (x y:Cx)(i:Nat)(l':cn):Cx:={w:=y.w,μ:=x.μ,κ:=x.κ,Fz:=y.Fz,S:=x.S.set i (.cells l')}
theorem fD{S:aj}{i k:Nat}{b c d:DB}(hi:S[i]? =some d)(h:(S.set i c)[k]? =some b):(k=i/\b=c)\/(k≠i/\S[k]? =some b):=by grind
theorem lg{S:aj}{i k:Nat}{c:DB}(h:k≠i):(S.set i c)[k]? =S[k]? :=by grind
theorem GI{S:aj}{i:Nat}{c d:DB}(hi:S[i]? =some d):(S.set i c)[i]? =some c:=by grind
theorem uw(hR:Rel x)(hi:x.S[i]? =some (.cells l))(M:bE (x.only i l0) y){id:Nat}{b:DB}{o:Obj}(hb:x.S[id]? =some b)(hne:b≠.none)(hid:id≠i)(ho:x.w.heap[x.μ id]? =some o):y.w.heap[x.μ id]? =x.w.heap[x.μ id]? :=by refine M.old _ (aG.1 ho).1 λk _ he=>?_;exact hid (hR.inj i id ⟨_,hi,ae⟩ ⟨b,hb,hne⟩ he).symm
theorem G9(hR:Rel x)(hi:x.S[i]? =some (.cells l))(M:bE (x.only i l0) y):bE x (x.back y i l') where
 size:=M.size
 env:=M.env
 fz:=M.fz
 HS:=λb o h=>(M.HS b o h).imp id λh=>h.imp id λ⟨k,_,he⟩=>⟨i,⟨_,hi,ae⟩,he⟩
 old:=λb hb hn=>M.old b hb λk _ he=>hn i ⟨_,hi,ae⟩ he
 len:=by simp[Cx.back]
 cells:=λid l2 h=>⟨rfl,by
  by_cases he:id=i;subst he;exact⟨l',GI hi⟩
  exact⟨l2,(lg he).trans h⟩⟩
 dA:=λid b h hb=>by
  have he:id≠i:=by rintro rfl;rw[hi]at h;cases h;cases hb
  obtain⟨o,ho,-⟩:=hR.dA id b h hb;exact⟨rfl,⟨b,(lg he).trans h,dL hb⟩,λ_=>uw hR hi M h (eT hb) he ho⟩
 cU:=λt e s n h=>by
  have he:t≠i:=by rintro rfl;rw[hi]at h;cases h
  exact⟨n,(lg he).trans h,ai _,λ_=>⟨rfl,rfl⟩⟩
 live:=λk ⟨b,hb,hne⟩=>.inl ⟨by rcases fD hi hb with ⟨rfl,-⟩|⟨-,h⟩;exact⟨_,hi,ae⟩;exact⟨b,h,hne⟩,rfl⟩
 ops:=λt e s l z h=>by
  have he:t≠i:=by rintro rfl;rw[hi]at h;cases h
  exact⟨l,z,(lg he).trans h,ai _,λe=>⟨rfl,e⟩,λ_=>⟨rfl,rfl⟩⟩
theorem X7(hR:Rel x)(hi:x.S[i]? =some (.cells l))(Cm:Rel y)(M:bE (x.only i l0) y)(hy:y.S[0]? =some (.cells l'))(jZ:(l'.map DV.aM).all DV.bU=true):Rel (x.back y i (l'.map DV.aM)):=by
 have MB:=G9 (l':=l'.map DV.aM) hR hi M;have hμ:y.μ 0=x.μ i:=(M.cells 0 l0 rfl).1;have hF:∀b o,y.Fz b o->x.Fz b o\/x.w.heap.size<=b\/b=x.μ i:=λb o h=>(M.HS b o h).imp id λh=>h.imp id λ⟨_,_,he⟩=>he.symm;refine⟨λid l2 h=>?_,λid e s n h=>?_,λid b h hb=>?_,λj k hj hk he=>?_,Cm.xg,λid h o hf=>?_,λid e s n h o hf=>?_,λid e s l1 z h=>?_,Cm.glob⟩;rcases fD hi h with ⟨rfl,h2⟩|⟨he,h2⟩;cases h2;obtain⟨arr,e,h1,h2,h3⟩:=Cm.cells 0 l' hy;exact⟨arr,e,by rw[hμ]at h1;exact h1,ER (x:=y) (y:=x.back y id (l'.map DV.aM)) (λb o h=>⟨h,rfl⟩) jZ ⟨h2,h3⟩⟩;obtain⟨arr,e,h1,h3,h4⟩:=hR.cells id l2 h2;exact⟨arr,e,(uw hR hi M h2 ae he h1).trans h1,h3,λj c hc=>(h4 j c hc).mono MB⟩;rcases fD hi h with ⟨rfl,h2⟩|⟨he,h2⟩;cases h2;obtain⟨arr,h1,h3⟩:=hR.cU id e s n h2;exact⟨arr,(uw hR hi M h2 ae he h1).trans h1,h3⟩;rcases fD hi h with ⟨rfl,h2⟩|⟨he,h2⟩;subst h2;cases hb
 obtain⟨o,h1,h3⟩:=hR.dA id b h2 hb;exact⟨o,(uw hR hi M h2 (eT hb) he h1).trans h1,h3.mono MB⟩;have lv:∀{k},Live (x.back y i (l'.map DV.aM)).S k->Live x.S k:=λ{k}⟨b,hb,hne⟩=>by rcases fD hi hb with ⟨rfl,-⟩|⟨-,h⟩;exact⟨_,hi,ae⟩;exact⟨b,h,hne⟩
 exact hR.inj j k (lv hj) (lv hk) he;obtain⟨l2,h⟩:=h;obtain⟨l3,h3⟩:∃l3,x.S[id]? =some (.cells l3):=by
  rcases fD hi h with ⟨rfl,-⟩|⟨-,h2⟩
  grind
  grind
 obtain⟨arr,e,h4,-⟩:=hR.cells id l3 h3;rcases hF _ _ hf with h5|h5|h5;exact hR.sep id ⟨l3,h3⟩ o h5;have:=(aG.1 h4).1;change x.w.heap.size<=x.μ id at h5;omega;refine Cm.sep 0 ⟨l',hy⟩ o ?_;rw[hμ,<-h5];exact hf;rcases fD hi h with ⟨rfl,h2⟩|⟨he,h2⟩;cases h2;obtain⟨arr,h4,-⟩:=hR.cU id e s n h2;rcases hF _ _ hf with h5|h5|h5;exact hR.nB id e s n h2 o h5;have:=(aG.1 h4).1;change x.w.heap.size<=x.μ id at h5;omega;exact absurd (hR.inj id i ⟨_,h2,ae⟩ ⟨_,hi,ae⟩ h5) he;rcases fD hi h with ⟨rfl,h2⟩|⟨he,h2⟩;cases h2;obtain⟨arr,h4,h3,h6,h7,h8,h9,wz⟩:=hR.ops id e s l1 z h2;refine⟨arr,(uw hR hi M h2 ae he h4).trans h4,h3,h6,h7,λj c hc=>⟨(h8 j c hc).1,(h8 j c hc).2.mono MB⟩,λhz j hj=>(M.fz _ _ (h9 hz j hj)).1,λhz o hf=>?_⟩;rcases hF _ _ hf with h5|h5|h5;exact wz hz o h5;have:=(aG.1 h4).1;change x.w.heap.size<=x.μ id at h5;omega;exact absurd (hR.inj id i ⟨_,h2,ae⟩ ⟨_,hi,ae⟩ h5) he
theorem O3{f:FuncId}{off:Nat}{rest:cn}{vals:Array Value}{v:DV}(hR:Rel x)(hi:x.S[i]? =some (.cells l))(hp:(rest.map DV.strip).all DV.pure=true)(ha:gb x (.ptr i off::rest) vals)
  (h:gb (x.only i l0) (.ptr 0 off::rest.map DV.strip) vals->eP P aa (x.only i l0) f vals λy u=>y.S=.cells l'::T/\Rel y/\bE (x.only i l0) y/\RV y v u) (jZ:(l'.map DV.aM).all DV.bU=true) (hv:v.strip.pure=true):
  eP P aa x f vals λz u=>z.S=x.S.set i (.cells (l'.map DV.aM))/\Rel z/\bE x z/\RV z v.strip u:=by
 have ha':gb (x.only i l0) (.ptr 0 off::rest.map DV.strip) vals:=by
  refine⟨by simpa using ha.1,λj c hc=>?_⟩;cases j with
  |zero=>
   simp only[dH,aF]at hc;subst hc;have:=ha.2 0 _ rfl;generalize vals.getD 0 undef=u at this;cases this with
   |ptr _=>exact RV.ptr (x:=x.only i l0) (id:=0) (l:=l0) rfl
  |succ j=>exact AR (x:=x) (y:=x.only i l0) (λb o h=>⟨h,rfl⟩) hp (by simpa using hc) λc' h1=>ha.2 (j+1) c' (by simpa using h1)
 obtain⟨h1,h2⟩:=h ha';refine⟨h1,λfr cs hn=>h2 fr cs λy u ⟨q1,q2,q3,q4⟩=>?_⟩;have hy:y.S[0]? =some (.cells l'):=by rw[q1];rfl
 exact hn (x.back y i (l'.map DV.aM)) u ⟨rfl,X7 hR hi q2 q3 hy jZ,G9 hR hi q3,q4.strip.pure_mono (x:=y) (y:=x.back y i (l'.map DV.aM)) (λb o h=>⟨h,rfl⟩) hv⟩
theorem Zd{call:bg}(hc:gR P aa call):gR P aa (KB call):=by intro f args S v S' h x vals hR hS ha;subst hS;unfold KB at h;split at h;rename_i i v1 l1 ho;cases h;unfold pn at ho;split at ho;rename_i i off rest;split at ho;rename_i l hi;split at ho;rename_i UM;simp only[aC]at UM;split at ho;rename_i v2 l' T nI;split at ho;rename_i hq;simp only[aC]at hq;cases ho;exact O3 (l0:=l.map DV.aM) hR hi UM.1 ha (λPw=>hc _ _ _ _ _ nI (x.only _ _) vals (X1 hR hi UM.2) rfl Pw) hq.2 hq.1;cases ho;cases ho;cases ho;cases ho;cases ho;exact Zb hc _ _ _ _ _ h x vals hR rfl ha
def Cx.opn (x y:Cx)(aB t:Nat)(b:DB)(F:Nat->Nat->Prop):Cx:={w:=y.w,μ:=λi=>if i=aB then y.μ t else x.μ i,κ:=λi=>if i=aB then y.κ t else x.κ i,Fz:=F,S:=x.S.set aB b}
section
variable {aB t n sz:Nat} {e:TypeId} {rows:cn} {bl:DB} {F:Nat->Nat->Prop}
theorem QA(M:bE x.bare y)(ht:y.S[t]? =some (.tail e sz n)):x.w.heap.size<=y.μ t:=by rcases M.live t ⟨_,ht,ae⟩with ⟨⟨b,hb,-⟩,-⟩|h;simp[Cx.bare]at hb;exact h
theorem vp(M:bE x.bare y){b:Nat}(hb:b<x.w.heap.size):y.w.heap[b]? =x.w.heap[b]? :=M.old b hb λi ⟨c,hc,_⟩=>by simp[Cx.bare]at hc
theorem Qz(M:bE x.bare y){b o:Nat}(h:y.Fz b o):x.Fz b o\/x.w.heap.size<=b:=by rcases M.HS b o h with h|h|⟨i,⟨c,hc,-⟩,-⟩;exact .inl h;exact .inr h;simp[Cx.bare]at hc
theorem Ly(hR:Rel x)(M:bE x.bare y)(hn:x.S[aB]? =some .none)(ht:y.S[t]? =some (.tail e sz n))(hF:(∀b o,F b o->y.Fz b o)/\∀b o,y.Fz b o->b<x.w.heap.size->F b o):bE x (x.opn y aB t bl F) where
 size:=M.size
 env:=M.env
 fz:=λb o h=>by obtain⟨v,hv⟩:=hR.xg b o h;have h1:=World.block_lt_of_cell? x.w ⟨b,o,none⟩ hv;exact⟨hF.2 _ _ (M.fz b o h).1 h1,(M.fz b o h).2⟩
 HS:=λb o h=>(Qz M (hF.1 _ _ h)).imp id .inl
 old:=λb hb _=>vp M hb
 len:=by simp[Cx.opn]
 cells:=λid l h=>by
  have he:id≠aB:=by rintro rfl;rw[hn]at h;cases h
  exact⟨if_neg he,l,(lg he).trans h⟩
 dA:=λid b h hb=>by
  have he:id≠aB:=by rintro rfl;rw[hn]at h;cases h;cases hb
  obtain⟨o,ho,-⟩:=hR.dA id b h hb;exact⟨if_neg he,⟨b,(lg he).trans h,dL hb⟩,λ_=>vp M (aG.1 ho).1⟩
 cU:=λk e s n h=>by
  have he:k≠aB:=by rintro rfl;rw[hn]at h;cases h
  exact⟨n,(lg he).trans h,ai _,λ_=>⟨if_neg he,if_neg he⟩⟩
 live:=λk ⟨b,hb,hne⟩=>by rcases fD hn hb with ⟨rfl,-⟩|⟨he,h⟩;exact .inr (by show _<=(if k=k then _ else _);rw[if_pos rfl];exact QA M ht);exact .inl ⟨⟨b,h,hne⟩,if_neg he⟩
 ops:=λk e s l z h=>by
  have he:k≠aB:=by rintro rfl;rw[hn]at h;cases h
  exact⟨l,z,(lg he).trans h,ai _,λe=>⟨rfl,e⟩,λ_=>⟨if_neg he,if_neg he⟩⟩
def aiA(y:Cx)(t:Nat)(F:Nat->Nat->Prop):DB->Prop
 |.tail e s m=>(∃arr,y.w.heap[y.μ t]? =some (.cells arr e (0,0))/\arr.size=y.κ t*s/\m<=arr.size/\y.κ t<=maxLen)/\∀o,F (y.μ t) o->o<m
 |_=>False
theorem abm(hR:Rel x)(M:bE x.bare y)(Cm:Rel y)(hn:x.S[aB]? =some .none)(ht:y.S[t]? =some (.tail e sz n))(hF:(∀b o,F b o->y.Fz b o)/\∀b o,y.Fz b o->b<x.w.heap.size->F b o)(hnw:aiA y t F bl):Rel (x.opn y aB t bl F):=by
 have MB:=Ly (bl:=bl) hR M hn ht hF;have ye:=QA M ht;have mu:∀{id},id≠aB->(x.opn y aB t bl F).μ id=x.μ id:=λhe=>if_neg he;have ka:∀{id},id≠aB->(x.opn y aB t bl F).κ id=x.κ id:=λhe=>if_neg he;have mun:(x.opn y aB t bl F).μ aB=y.μ t:=if_pos rfl;have kan:(x.opn y aB t bl F).κ aB=y.κ t:=if_pos rfl;have hF0:=hF;have hF:∀{b o},(x.opn y aB t bl F).Fz b o->b<x.w.heap.size->x.Fz b o:=λh hb=>(Qz M (hF.1 _ _ h)).elim id λh=>ab
 have lv:∀{k},Live (x.opn y aB t bl F).S k->k=aB\/(k≠aB/\Live x.S k):=λ{k}⟨b,hb,hne⟩=>by
  rcases fD hn hb with ⟨rfl,-⟩|⟨he,h⟩
  grind
  exact .inr ⟨he,b,h,hne⟩
 have lt:∀{k},Live x.S k->x.μ k<x.w.heap.size:=λ{k}⟨b,hb,hne⟩=>by
  cases b with
  |none=>exact absurd rfl hne
  |cells l=>obtain⟨arr,e,h1,-⟩:=hR.cells k l hb;exact(aG.1 h1).1
  |tail e s n=>obtain⟨arr,h1,-⟩:=hR.cU k e s n hb;exact(aG.1 h1).1
  |map es=>obtain⟨o,h1,-⟩:=hR.dA k _ hb rfl;exact(aG.1 h1).1
  |defer=>obtain⟨o,h1,-⟩:=hR.dA k _ hb rfl;exact(aG.1 h1).1
  |loop r=>obtain⟨o,h1,-⟩:=hR.dA k _ hb rfl;exact(aG.1 h1).1
  |op e s l z=>obtain⟨arr,h1,-⟩:=hR.ops k e s l z hb;exact(aG.1 h1).1
 refine⟨λid l h=>?_,λid e s m h=>?_,λid b h hb=>?_,λj k hj hk he=>?_,λb o h=>Cm.xg b o (hF0.1 _ _ h),λid h o hf=>?_,λid e s m h o hf=>?_,λid e1 s l1 z h=>?_,hR.glob.keep MB.fz⟩;rcases fD hn h with ⟨rfl,h2⟩|⟨he,h2⟩;subst h2;exact hnw.elim
 obtain⟨arr,e1,h3,h4,h5⟩:=hR.cells id l h2;exact⟨arr,e1,by rw[mu he];exact(vp M (aG.1 h3).1).trans h3,h4,λj c hj=>(h5 j c hj).mono MB⟩;rcases fD hn h with ⟨rfl,h2⟩|⟨he,h2⟩;subst h2;rw[mun,kan];exact hnw.1
 obtain⟨arr,h3,h4⟩:=hR.cU id e s m h2;exact⟨arr,by rw[mu he];exact(vp M (aG.1 h3).1).trans h3,by rw[ka he];exact h4⟩;rcases fD hn h with ⟨rfl,h2⟩|⟨he,h2⟩;subst h2;cases b<;>first|exact False.elim hnw|cases hb
 obtain⟨o,h3,h4⟩:=hR.dA id b h2 hb;exact⟨o,by rw[mu he];exact(vp M (aG.1 h3).1).trans h3,h4.mono MB⟩;rcases lv hj with rfl|⟨hj1,hj2⟩<;>rcases lv hk with rfl|⟨tH,Ga⟩;rfl
 grind
 grind
 rw[mu hj1,mu tH]at he;exact hR.inj j k hj2 Ga he;obtain⟨l,h⟩:=h;rcases fD hn h with ⟨rfl,h2⟩|⟨he,h2⟩;subst h2;exact hnw.elim
 rw[mu he]at hf;exact hR.sep id ⟨l,h2⟩ o (hF hf (lt ⟨_,h2,ae⟩));rcases fD hn h with ⟨rfl,h2⟩|⟨he,h2⟩;subst h2;rw[mun]at hf;exact hnw.2 o hf
 rw[mu he]at hf;exact hR.nB id e s m h2 o (hF hf (lt ⟨_,h2,ae⟩));rcases fD hn h with ⟨rfl,h2⟩|⟨he,h2⟩;subst h2;exact hnw.elim
 obtain⟨arr,h3,h4,h5,h6,h7,h8,h9⟩:=hR.ops id e1 s l1 z h2;have hlt:x.μ id<x.w.heap.size:=lt ⟨_,h2,ae⟩;refine⟨arr,by rw[mu he];exact(vp M (aG.1 h3).1).trans h3,by rw[ka he];exact h4,h5,by rw[ka he];exact h6,λj c hj=>⟨(h7 j c hj).1,(h7 j c hj).2.mono MB⟩,λhz j hj=>by rw[mu he];exact(MB.fz _ _ (h8 hz j hj)).1,λhz o hf=>?_⟩;rw[mu he]at hf;exact h9 hz o (hF hf hlt)
end
theorem Yp{call:bg}{aB:Nat}(hc:gR P aa call):gR P aa (wE call aB):=by
 intro g args S v S' h x vals hR hS ha;subst hS;unfold wE at h;split at h;rename_i rows e s hn ho;cases h;unfold Vb at ho;split at ho;rename_i hp;unfold aac at ho;split at ho;rename_i rs t ff S1 nI;split at ho;rename_i e1 s1 n ht;split at ho;rename_i hq;cases ho;have ha':gb x.bare (args.map DV.strip) vals:=⟨by simpa using ha.1,λj c hj=>AR (x:=x) (y:=x.bare) (λb o h=>⟨h,rfl⟩) hp hj λc' h1=>ha.2 j c' h1⟩;obtain⟨h1,h2⟩:=hc _ _ _ _ _ nI x.bare vals hR.bare rfl ha';refine⟨h1,λfr cs hx=>h2 fr cs λy u ⟨q1,q2,q3,q4⟩=>?_⟩;rw[<-q1]at ht;cases q4 with
 |@sl _ _ _ A cap s' vs hv hr k1 k2 k3 ksp k4=>obtain⟨e2,s2,n2,t1,t2,t3,t4⟩:=k4 t rfl;rw[ht]at t1;cases t1;have hF:(∀b o,y.Fz b o->y.Fz b o)/\∀b o,y.Fz b o->b<x.w.heap.size->y.Fz b o:=⟨λ_ _ h=>h,λ_ _ h _=>h⟩;have hS:(x.opn y aB t (.tail e s (rows.length*s)) y.Fz).S[aB]? =some (.tail e s (rows.length*s)):=GI hn;obtain⟨z1,z2,z3,z4,z5⟩:=q2.cU t e s n ht;refine hx (x.opn y aB t (.tail e s (rows.length*s)) y.Fz) _ ⟨rfl,abm hR q3 q2 hn ht hF ⟨⟨z1,z2,z3,ab,z5⟩,λo h=>by have:=q2.nB t e s n ht o h;omega⟩,Ly hR q3 hn ht hF,.sl (s:=s') (vs:=vs) ⟨hv.1,λj c hj=>hv.2 j c hj⟩ (λj c hj=>RV.mP (x:=y) (y:=x.opn y aB t (.tail e s (rows.length*s)) y.Fz) (λb o h=>⟨h,rfl⟩) (hr j c hj) (hv.2 j c hj).1) k1 ⟨ae,λb hb=>by cases hb⟩ k3 ksp λk hk=>?_⟩;cases hk;refine⟨e,s,_,hS,ai _,t3,λ_=>?_⟩;obtain⟨hA,Cz⟩:=t4 hq.symm;exact⟨by rw[hA];show _=some (Addr.mk (if aB=aB then _ else _) _ _);rw[if_pos rfl],by rw[Cz];show _=(if aB=aB then _ else _);rw[if_pos rfl]⟩
 cases ho;cases ho
 grind
 cases ho;cases ho;rename_i rows hn ho;cases h;rw[Wu hn];unfold Vb at ho;split at ho;rename_i hp;unfold aac at ho;split at ho
 grind
 rename_i f S1 nI;split at ho;rename_i hf;have ha':gb x.bare (args.map DV.strip) vals:=⟨by simpa using ha.1,λj c hj=>AR (x:=x) (y:=x.bare) (λb o h=>⟨h,rfl⟩) hp hj λc' h1=>ha.2 j c' h1⟩;obtain⟨h1,h2⟩:=hc _ _ _ _ _ nI x.bare vals hR.bare rfl ha';refine⟨h1,λfr cs hx=>h2 fr cs λy u ⟨q1,q2,q3,q4⟩=>hx (x.behind y) _ ⟨rfl,hR.behind q3 q2,uK hR q3,?_⟩⟩;cases q4 with
 |@sl _ _ _ A cap s' vs hv hr k1 k2 k3 ksp k4=>exact .sl (s:=s') (vs:=vs) ⟨hv.1,λj c hj=>(by simp[flat]at hj)⟩ (λj c hj=>(by simp[flat]at hj)) k1 ⟨λ_=>k2.1 hf,λb hb=>(by cases hb)⟩ k3 ksp λk hk=>(by cases hk)
 cases ho;cases ho;cases ho;cases h
end Go.Di
namespace Go.Di
open Go Go.Conc Go.Co
open Go.ConcN (upd upd_same upd_ne)
variable {P:Program} {aa:Machine->Trace->Prop} {ty:fo} {x:Cx} {aD:bT} {call:bg} {yf:dx}
structure PW (ops:Array Oper) (M:Nat->aj) (F:Nat->cQ) (L:Nat->Bool) (S:aj):Prop where
 get:∀id,S[id]? =nF (λj=>touch F j id) (λj=>(M (j+1))[id]?) ((M 0)[id]?) L ops.size
 len:S.length=nF (top F) (λj=>(M (j+1)).length) (M 0).length L ops.size
theorem Y0{ops:Array Oper}{n0:Nat}{E:Nat->cn}{V:Nat->DV}{M:Nat->aj}{F:Nat->cQ}(h:We P ty aD call yf ops n0 E V M F)(qV:KH ops)(ad0:∀i j,i<ops.size->j<ops.size->i≠j->(F i).meets (F j)=true->((Region.before ops).getD j 0).testBit i=true\/((Region.before ops).getD i 0).testBit j=true)
  {L:Nat->Bool} (hL:Closed ops L) {i:Nat} {o:Oper} (ho:ops[i]? =some o) (hi:L i=false) (wj:∀e∈o.after,Region.binds .any e=true->L e.on=true) {T:aj} (hT:PW ops M F L T) (hw:cv ops (E i) o=true):
  ∃T',aH P ty aD call yf (ir (E i)) o T (n0+i)=some (V i,T',F i)/\PW ops M F (upd L i true) T':=by
 have hio:i<ops.size:=(aG.1 ho).1;have hs:=h.yes i o ho hw;have ai1:∀j,j<ops.size->j≠i->(F i).meets (F j)=true->(L j=true↔j<i):=λj hj hne hm=>Qy qV hL ho hi wj (Ne.symm hne) (ad0 i j hio hj (Ne.symm hne) hm);have up1:∀j,j<ops.size->(j≠i->(F i).meets (F j)=true)->(upd L i true j=true↔j<i+1):=by
  intro j hj hm;by_cases iW:j=i;subst iW;simp[upd_same]
  rw[upd_ne _ _ iW,ai1 j hj iW (hm iW)];omega
 have at1:∀id,(∀j,j<ops.size->j≠i->touch F j id=true->(F i).meets (F j)=true)->T[id]? =(M i)[id]? :=by
  intro id hm;rw[hT.get id,(run_store h id i ab).1];refine gX ab λj hj ht=>?_;by_cases iW:j=i
  grind
  grind
 have aiZ:(∀j,j<ops.size->j≠i->top F j=true->(F i).meets (F j)=true)->T.length=(M i).length:=by
  intro hm;rw[hT.len,(run_store h 0 i ab).2];refine gX ab λj hj ht=>?_;by_cases iW:j=i
  grind
  grind
 have tch:∀j id,touch F j id=true->(F j).wr=true/\((F j).ids=none\/∃l,(F j).ids=some l/\id∈l):=by
  intro j id ht;unfold touch at ht;simp only[aC]at ht;refine⟨ht.1,?_⟩;cases qW:(F j).ids with
  |none=>exact .inl rfl
  |some l=>rw[qW]at ht;exact .inr ⟨l,rfl,by simpa using ht.2⟩
 have tp:∀j,top F j=true->(F j).wr=true/\(F j).ids=none:=by intro j ht;unfold top at ht;simpa using ht
 cases qW:(F i).ids with
 |none=>
  have hwr:=Xa hs qW;have dX:∀j id,touch F j id=true->(F i).meets (F j)=true:=by
   intro j id ht;obtain⟨h1,h2⟩:=tch j id ht;unfold cQ.meets;rw[hwr,qW];rcases h2 with h2|⟨l,h2,h3⟩;simp[h2]
   grind
  have hTM:T=M i:=nj λid=>at1 id λj _ _ ht=>dX j id ht;subst hTM;refine⟨M (i+1),hs,⟨λid=>?_,?_⟩⟩;have ht:touch F i id=true:=by simp[touch,hwr,qW]
  rw[gX (i:=i+1) ab λj hj htj=>up1 j hj λ_=>dX j id htj,xS (W:=λj=>touch F j id) ht];have ht:top F i=true:=by simp[top,hwr,qW]
  rw[gX (i:=i+1) ab λj hj htj=>up1 j hj λ_=>by obtain⟨h1,h2⟩:=tp j htj;simp[cQ.meets,hwr,qW,h2],xS (W:=top F) ht]
 |some l=>
  obtain⟨A,w⟩:=Xb hs qW;have x6:∀j id,id∈l->touch F j id=true->(F i).meets (F j)=true:=by intro j id hid ht;obtain⟨h1,h2⟩:=tch j id ht;unfold cQ.meets;rw[h1,qW];rcases h2 with h2|⟨l',h2,h3⟩;simp[h2];exact List.ne_nil_of_mem hid;simp[h2];exact⟨id,hid,h3⟩
  have hlen:l≠[]->T.length=(M i).length:=λhne=>aiZ λj hj iW ht=>by obtain⟨h1,h2⟩:=tp j ht;simp[cQ.meets,h1,qW,h2,hne]
  have hrun:=w.loc T hlen λid hid=>at1 id λj _ _ ht=>x6 j id hid ht;refine⟨A T,hrun,⟨λid=>?_,?_⟩⟩;cases ht:touch F i id with
  |true=>
   obtain⟨h1,h2⟩:=tch i id ht;have hid:id∈l:=by
    rcases h2 with h2|⟨l',h2,h3⟩;rw[qW]at h2;cases h2
    rw[qW]at h2;cases h2;exact h3
   rw[gX (i:=i+1) ab λj hj htj=>up1 j hj λ_=>x6 j id hid htj,xS (W:=λj=>touch F j id) ht,w.res];exact w.inn T id hid (hlen (List.ne_nil_of_mem hid)) (at1 id λj _ _ htj=>x6 j id hid htj)
  |false=>rw[nL (W:=λj=>touch F j id) ht,<-hT.get id];exact w.out T id hlen λ⟨q2,q1⟩=>by simp[touch,q2,qW,q1]at ht
  have ht:top F i=false:=by simp[top,qW]
  rw[nL (W:=top F) ht,w.len];exact hT.len
def Cx.pad (x:Cx)(n:Nat):Cx:={x with S:=x.S++List.replicate n .none}
theorem oB{S:aj}{n id:Nat}{b:DB}(h:(S++List.replicate n DB.none)[id]? =some b)(hb:b≠.none):S[id]? =some b:=by grind
theorem zu{S:aj}{n id:Nat}{b:DB}(h:S[id]? =some b):(S++List.replicate n DB.none)[id]? =some b:=by grind
theorem zw(x:Cx)(n:Nat):bE x (x.pad n):=
 ⟨ai _,⟨rfl,rfl⟩,λ_ _ h=>⟨h,rfl⟩,λ_ _ h=>.inl h,λ_ _ _=>rfl,by simp[Cx.pad],λ_ l h=>⟨rfl,l,zu h⟩,λ_ b h hb=>⟨rfl,⟨b,zu h,dL hb⟩,λ_=>rfl⟩,λ_ _ _ n h=>⟨n,zu h,ai _,λ_=>⟨rfl,rfl⟩⟩,λ_ ⟨b,h,hb⟩=>.inl ⟨⟨b,oB h hb,hb⟩,rfl⟩,λ_ _ _ l z h=>⟨l,z,zu h,ai _,λe=>⟨rfl,e⟩,λ_=>⟨rfl,rfl⟩⟩⟩
theorem abl(hR:Rel x)(n:Nat):Rel (x.pad n) where
 cells:=λid l hl=>by obtain⟨arr,e,h1,h2,h3⟩:=hR.cells id l (oB hl ae);exact⟨arr,e,h1,h2,λj c hc=>(h3 j c hc).mono (zw x n)⟩
 cU:=λid e s m hl=>hR.cU id e s m (oB hl ae)
 dA:=λid b hl hb=>by obtain⟨o,h1,h2⟩:=hR.dA id b (oB hl (eT hb)) hb;exact⟨o,h1,h2.mono (zw x n)⟩
 inj:=λi j ⟨b,h,hb⟩⟨c,k,kb⟩ he=>hR.inj i j ⟨b,oB h hb,hb⟩ ⟨c,oB k kb,kb⟩ he
 xg:=hR.xg
 glob:=hR.glob
 sep:=λid ⟨l,hl⟩=>hR.sep id ⟨l,oB hl ae⟩
 nB:=λid e s m hl=>hR.nB id e s m (oB hl ae)
 ops:=λid e s l z hl=>by obtain⟨arr,h1,h2,h3,h4,h5,h6⟩:=hR.ops id e s l z (oB hl ae);exact⟨arr,h1,h2,h3,h4,λj c hc=>⟨(h5 j c hc).1,(h5 j c hc).2.mono (zw x n)⟩,h6⟩
theorem Om(hP:Plain P)(eV:j6 P ty)(hc:gR P aa call)(hi:BL P aa aD)(MW:BJ P aa yf){ops:Array Oper}{b:Frame}{k:List Item}{cs:List Frame}(hk:b.kind≠.early)(JU:lR ops (Region.before ops)=true)
  {env aL:cn} {S':aj} {fs:cY} {n0:Nat} {a:Act} (h:s5 P ty aD call yf ops n0 ops.toList 0 env x.S=some (aL,S',fs)) (hmt:tR (Region.before ops) fs=true) (hR:Rel x) (he:gb x env a.tmps)
  (hn:∀y a',y.S=S'->Rel y->bE x y->gb y aL a'.tmps->a'.defers=a.defers->iI P aa () (G (b.atR a' k) cs) y.w) (t:Nat):iI P aa () (G (b.atR a (.inRegion ops (Region.linearise .any ops t)::k)) cs) x.w:=by
 have qV:=Ll JU;obtain⟨E,V,M,F,hrun,e1,e2,e3,e4,e5⟩:=ae0 h;have ad0:∀i j,i<ops.size->j<ops.size->i≠j->(F i).meets (F j)=true->((Region.before ops).getD j 0).testBit i=true\/((Region.before ops).getD i 0).testBit j=true:=λi j hi hj hne hm=>afi hmt (e5 i hi) (e5 j hj) hne hm;have dU:∀{α:Type}(W:Nat->Bool)(R:Nat->α)(d:α) n,nF W R d (λ_=>false) n=d:=by
  intro α W R d n;induction n with
  |zero=>rfl
  |succ n ih=>unfold nF;simp[ih]
 refine wW qV (σ:=Act×Cx) (λtodo s=>Rel s.2->bE x s.2->s.1.defers=a.defers->iI P aa () (G (b.atR s.1 (.inRegion ops todo::k)) cs) s.2.w)
  (λL s=>PW ops M F L s.2.S/\∃nW,gb s.2 nW s.1.tmps/\Gy ops V L ops.size (E 0) nW) ?_ ?_ t (a,x) ⟨⟨λid=>by rw[dU,e3],by rw[dU,e3]⟩,env,he,λt=>?_⟩ hR (bE.refl x) rfl
 rintro L ⟨a1,y⟩ i o ⟨MR,nW,Ad,Z3⟩ pU ho Uy wj rest mz Cm UY M5;simp only at Ad Cm UY M5 MR⊢;obtain⟨q1,q2⟩:=B3 qV JU hrun.env pU Z3 ho Uy wj;have hw:=zL q1;have Zn:=AK Ad ops o;have hE2:=HE (V:=V) ho Z3 q2;by_cases hwt:cv ops (E i) o=true;obtain⟨T',hT1,hT2⟩:=Y0 hrun qV ad0 pU ho Uy wj MR hwt;rw[<-Jv (HB q1)]at hT1;obtain⟨qJ,cl,pU,RR,hstep⟩:=ab7 hT1;have hcc:gR P aa cl:=by rcases pU with rfl|rfl;exact Zd hc;exact Yp hc
 refine VQ hP eV hcc hi MW hk ho (by rw[Zn,hw];exact hwt) Cm RR Ad hstep λz u zS zR zM zV=>?_;have oW:=Av (Ad.mono zM) (dst:=o.dst) zV;exact mz (a1.put o.dst u,z) ⟨by rw[zS];exact hT2,_,oW.1,hE2⟩ zR (UY.trans zM) (oW.2.trans M5);have hwf:cv ops (E i) o=false:=by simpa using hwt
 obtain⟨hv,hM,hF⟩:=hrun.no i o ho hwf;have oW:=Av Ad (dst:=o.dst) (d:=V i) (v:=undef) (by rw[hv];exact .val rfl);have ajI:PW ops M F (upd L i true) y.S:=by
  refine⟨λid=>?_,?_⟩;rw[nL (W:=λj=>touch F j id) (by simp[touch,hF])];exact MR.get id
  rw[nL (W:=top F) (by simp[top,hF])];exact MR.len
 exact fL hP (λw=>⟨_,uI ho (by rw[Zn,hw];exact hwf)⟩) (mz (a1.put o.dst undef,y) ⟨ajI,_,oW.1,hE2⟩ Cm UY (oW.2.trans M5));rintro L ⟨a1,y⟩ ⟨MR,nW,Ad,Z3⟩ dX Cm UY M5;have ajs:nW=aL:=by refine nj λt=>?_;rw[Z3 t,<-e2,C0 hrun.env ops.size (ai _) t];congr 1;funext d;rw[lC (i:=ops.size) (ai _) λj hj _=>by simp[dX j hj,hj]]
 have ai6:y.S=S':=by refine nj λid=>?_;have:=MR.get id;simp only at this;rw[this,<-e4,(run_store hrun id ops.size (ai _)).1];exact gX (ai _) λj hj _=>by simp[dX j hj,hj]
 subst ajs;exact fL hP (λw=>⟨_,qR⟩) (hn y a1 ai6 Cm UY Ad M5);rw[e1];have:∀n,nE ops V (λ_=>false) t n=none:=by
  intro n;induction n with
  |zero=>rfl
  |succ n ih=>unfold nE;simp[ih]
 rw[this];simp
theorem WA(hP:Plain P)(hm:P.follows .mixedOrders=true)(eV:j6 P ty)(hc:gR P aa call)(hi:BL P aa aD)(MW:BJ P aa yf)(id:Nat)(ops:Array Oper)(draw:Bool):yD P aa ty aD call yf id ops draw:=by
 cases draw with
 |false=>exact SO hP eV hc hi MW id ops
 |true=>
  intro env aL S' x0 a b k cs h hk hR he hn;obtain⟨x,env,ew,h,hR,M0,he⟩:∃x nW,x.w=x0.w/\lY P ty aD call yf ops true nW x.S=some (aL,S')/\Rel x/\bE x0 x/\gb x nW a.tmps:=by unfold qp at h;split at h;obtain⟨y,y1,y2,y3,y4,y5⟩:=abe hR he;exact⟨y,_,y1,by rw[y2];exact h,y3,y4,y5⟩;exact⟨x0,env,rfl,h,hR,bE.refl _,he⟩
  rw[<-ew]
  replace hn:=λy a' (q1:y.S=S') q2 (q3:bE x y) q4 q5=>hn y a' q1 q2 (M0.trans q3) q4 q5
  simp only[lY,if_true]at h;split at h;cases h;rename_i hd;have JU:lR ops (Region.before ops)=true:=by simpa using hd
  refine iN hP λn=>?_;refine⟨_,_,_,_,Oq hm,?_⟩;split at h;rename_i nW h1;cases h;split at h1;cases h1;exact On (x:=x.dr _) hP eV hc hi MW hk JU h1 (hR.dr _) (he.mono (eN x _)) (λy a' q1 q2 q3 q4 q5=>hn y a' q1 q2 ((eN x _).trans q3) q4 q5) _;split at h;rename_i nW S1 fs h1;split at h;rename_i hmt;cases h;have M1:=(eN x ((x.w.at n).drawn+1)).trans (zw _ ops.size);exact Om (x:=(x.dr ((x.w.at n).drawn+1)).pad ops.size) hP eV hc hi MW hk JU h1 hmt (abl (hR.dr _) _) (he.mono M1) (λy a' q1 q2 q3 q4 q5=>hn y a' q1 q2 (M1.trans q3) q4 q5) _;cases h;cases h
def yC(P:Program)(aa:Machine->Trace->Prop)(cF:bT):Prop:=
 ∀f args v,cF f args=some v->args.all DV.pure=true->v.pure=true->∀x vals,Rel x->gb x args vals->eP P aa x f vals λy u=>y.S=x.S/\Rel y/\bE x y/\RV y v u
theorem NV{cF:bT}(ht:yC P aa cF)(hc:gR P aa call):BL P aa (mo cF call):=by
 intro f args v h hp;unfold mo at h;split at h;rename_i v' h1;split at h;rename_i hv;cases h;exact⟨hv,ht f args v h1 hp hv⟩;cases h;split at h;rename_i v' S' h1;split at h;rename_i hv;cases h;refine⟨hv,λx vals hR ha=>?_⟩;have ha':gb x.bare args vals:=⟨ha.1,λj c hj=>(ha.2 j c hj).pure_mono (x:=x) (y:=x.bare) (λb o h=>⟨h,rfl⟩) (aU.1 hp c (bY hj))⟩;obtain⟨h2,h3⟩:=hc f args [] v' S' h1 x.bare vals hR.bare rfl ha';refine⟨h2,λfr cs hn=>h3 fr cs λy0 u ⟨p1,p2,p3,p4⟩=>?_⟩;obtain⟨y,r1,r2,q2,r4⟩:=ab2 p2 v';have q3:=p3.trans r4;have q4:RV y (tT (Iq S' v') v') u:=by rw[<-p1,<-r2];exact YH q2 (p4.mono r4)
 have hb:=hR.behind q3 q2;rw[<-r1];exact hn (x.behind y) u ⟨rfl,hb,uK hR q3,q4.strip.pure_mono (x:=y) (y:=x.behind y) (λb o h=>⟨h,rfl⟩) hv⟩;cases h;cases h
theorem EE(hP:Plain P)(hm:P.follows .mixedOrders=true)(eV:j6 P ty){cF:bT}(ht:yC P aa cF){L:Nat}:∀n,gR P aa (dZ P ty cF L n).1/\BJ P aa (dZ P ty cF L n).2
 |0=>⟨λf args S v S' h=>by simp[dZ]at h,λid args S v S' h=>by simp[dZ]at h⟩
 |n+1=>by obtain⟨ihc,ihy⟩:=EE hP hm eV ht (L:=L) n;have hi:=NV ht ihc;have mj:∀id ops draw,yD P aa ty (mo cF (dZ P ty cF L n).1) (dZ P ty cF L n).1 (dZ P ty cF L n).2 id ops draw:=λid ops draw=>WA hP hm eV ihc hi ihy id ops draw;refine⟨λf args S v S' h x vals hR hS ha=>?_,SI hP ihc mj⟩;simp only[dZ]at h;split at h;rename_i fn hf;exact Zf hP eV ihc mj hf h hR hS ha;cases h
end Go.Di
