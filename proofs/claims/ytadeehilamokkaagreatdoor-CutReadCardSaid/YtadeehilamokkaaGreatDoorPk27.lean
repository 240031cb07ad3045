import Derived.Test.YtadeehilamokkaaGreatDoorPk26
namespace Go.Di
open Go Go.Conc Go.Co
open Go.ConcN (upd upd_same upd_ne)
variable {P:Program} {aa:Machine->Trace->Prop} {ty:fo} {x:Cx} {aD:bR} {call:aY} {yf:di}
theorem IL{ρ ρ':Operand->Option DV}{o:Oper}{S:aj}{aB:Nat}(h:∀a∈o.op.operands,ρ a=ρ' a):aH P ty aD call yf ρ o S aB=aH P ty aD call yf ρ' o S aB:=by
 have hs:=y7 (P:=P) (ty:=ty) (aD:=aD) (call:=call) (yf:=yf) (S:=S) (aB:=aB) h;unfold aH;split;rw[hs];rw[hs];rw[hs];rename_i t a v hop;rw[hop]at h;rw[h a (by simp[Op.operands]),hs];rename_i t a v hop;rw[hop]at h;rw[h a (by simp[Op.operands]),hs];rename_i t a v hop;rw[hop]at h;rw[h a (by simp[Op.operands]),hs];rw[hs];rfl;rename_i t m k ok hop;rw[hop]at h;rw[h m (by simp[Op.operands]),hs];rename_i t m k v hop;rw[hop]at h;rw[h m (by simp[Op.operands]),hs];rename_i t a hop;rw[hop]at h;rw[h a (by simp[Op.operands]),hs];rename_i args ats hop;rw[hop]at h;have:(args[0]?).bind ρ=(args[0]?).bind ρ':=by
  cases ha:args[0]? with
  |none=>rfl
  |some a=>exact h a (by simp[Op.operands,Call.operands,Array.mem_of_getElem? ha])
 rw[this,hs];rename_i f args ats hop;rw[hop]at h;have h1:ρ f=ρ' f:=h f (by simp[Op.operands,Call.operands]);have h2:=lY (ρ:=ρ) (ρ':=ρ') (l:=args.toList) λa ha=>h a (by simp[Op.operands,Call.operands]at ha⊢;exact .inr ha);rw[h1,h2];rw[hs]
def aa3:Op->Prop
 |.call {callee:=.value _,.. }=>False
 |_=>True
theorem dF{c1 c2:aY}{ρ:Operand->Option DV}{o:Oper}{S:aj}{aB:Nat}(h:aa3 o.op):ah P ty aD c1 yf ρ o S aB=ah P ty aD c2 yf ρ o S aB:=by
 obtain⟨dst,op,type,pos,after,guard⟩:=o;cases op
 case call c=>
  obtain⟨callee,args,ats⟩:=c;cases callee with
  |value f=>exact h.elim
  |builtin b=>simp only[ah]
  |invoke r m=>simp only[ah]
 case makeFunc fn a b=>cases fn<;>simp only[ah]
 case makeMap t r=>cases r<;>simp only[ah]
 all_goals first
  |rfl
  |simp only[ah]
theorem aaH{ρ:Operand->Option DV}{o:Oper}{S S':aj}{aB:Nat}{v:DV}{f:cM}(h:aH P ty aD call yf ρ o S aB=some (v,S',f)):∃qf cl,(cl=JQ call\/cl=vH call aB)/\E3 S qf/\ah P ty aD cl yf ρ o S qf=some (v,S'):=by
 suffices hs:(∃qf,E3 S qf/\ah P ty aD (JQ call) yf ρ o S qf=some (v,S'))\/∃qf,E3 S qf/\ah P ty aD (vH call aB) yf ρ o S qf=some (v,S')by
  rcases hs with ⟨n,h1,h2⟩|⟨n,h1,h2⟩
  grind
  grind
 obtain⟨dst,op,type,pos,after,guard⟩:=o;have mp:∀{q:Option (DV×aj)}{g:DV×aj->cM},q.map (λr=>(r.1,r.2,g r))=some (v,S',f)->q=some (v,S'):=by intro q g hq;simp only[af,ay]at hq;obtain⟨⟨a,b⟩,h1,h2,h3,-⟩:=hq;rw[h1,<-h2,<-h3]
 have plain:∀{q:aj->Nat->Option (DV×aj)},(∀n m,q S n=q S m)->q S aB=some (v,S')->∃qf,E3 S qf/\q S qf=some (v,S'):=λhq h=>⟨S.length,.inl rfl,by rw[hq _ aB];exact h⟩;cases op
 case alloc e=>
  simp only[aH]at h;split at h;rename_i hS;exact .inl ⟨aB,.inr hS,(dF (c2:=call) (by trivial)).trans (mp h)⟩
  cases h
 case box e a=>
  simp only[aH]at h;split at h;rename_i hS;exact .inl ⟨aB,.inr hS,(dF (c2:=call) (by trivial)).trans (mp h)⟩
  cases h
 case makeMap e a=>
  simp only[aH]at h;split at h;rename_i hS;exact .inl ⟨aB,.inr hS,(dF (c2:=call) (by trivial)).trans (mp h)⟩
  cases h
 case store t a b=>
  simp only[aH]at h;split at h;exact .inl ⟨S.length,.inl rfl,(dF (c2:=call) (by trivial)).trans (mp h)⟩;exact .inl ⟨S.length,.inl rfl,(dF (c2:=call) (by trivial)).trans (mp h)⟩;cases h
 case makeSlice t a b=>simp only[aH]at h;cases h
 case buildSlice t n ps=>
  simp only[aH]at h;split at h;cases h;rename_i hh;obtain⟨h1,h2⟩:=GY rfl hh (mp h);subst h1;exact .inl ⟨S'.length,.inl rfl,(dF (c2:=call) (by trivial)).trans (h2 _ _)⟩
 case fieldAddr t a i=>
  simp only[aH]at h;split at h;all_goals
   obtain⟨h1,h2⟩:=qV (T:=S) (λ_ _ _ _=>rfl) (mp h);subst h1;exact .inl ⟨S'.length,.inl rfl,(dF (c2:=call) (by trivial)).trans (h2 _)⟩
 case indexAddr t a i=>
  simp only[aH]at h;split at h;all_goals
   obtain⟨h1,h2⟩:=qT (T:=S) (λ_ _ _ _=>rfl) (mp h);subst h1;exact .inl ⟨S'.length,.inl rfl,(dF (c2:=call) (by trivial)).trans (h2 _)⟩
 case load t a=>
  simp only[aH]at h;split at h;exact .inl ⟨S.length,.inl rfl,(dF (c2:=call) (by trivial)).trans (mp h)⟩;exact .inl ⟨S.length,.inl rfl,(dF (c2:=call) (by trivial)).trans (mp h)⟩;exact .inl ⟨S.length,.inl rfl,(dF (c2:=call) (by trivial)).trans (mp h)⟩
 case lookup t m k ok=>
  simp only[aH]at h;split at h;exact .inl ⟨S.length,.inl rfl,(dF (c2:=call) (by trivial)).trans (mp h)⟩;cases h
 case mapUpdate t m k a=>
  simp only[aH]at h;split at h;exact .inl ⟨S.length,.inl rfl,(dF (c2:=call) (by trivial)).trans (mp h)⟩;cases h
 case call c=>
  obtain⟨callee,args,ats⟩:=c;cases callee with
  |invoke r m=>simp[aH,ah]at h
  |value g=>
   simp only[aH]at h;by_cases h1:ty.h ⟨dst,.call ⟨.value g,args,ats⟩,type,pos,after,guard⟩=1;refine .inr ⟨S.length,.inl rfl,?_⟩;simp only[ah];split at h;rw[if_pos h1]at h;rw[h1];exact mp h;exact mp h;cases h;refine .inl ⟨S.length,.inl rfl,?_⟩;simp only[ah];split at h;rename_i g' fs cs xs hf Qn;split at h
   grind
   rename_i hh;simp only[vO];split at h
   grind
   rename_i hp;rw[if_neg hp];unfold JQ;split at h
   grind
   unfold OL;split at h
   grind
   exact mp h;exact mp h;cases h
  |builtin b=>
   by_cases hb:b=.append;subst hb;simp only[aH]at h;split at h;cases h;split at h;cases h;split at h;rename_i hS _;exact .inl ⟨aB,.inr hS,(dF (c2:=call) (by trivial)).trans (mp h)⟩
   rename_i hS _;exact .inl ⟨aB,.inr hS,(dF (c2:=call) (by trivial)).trans (mp h)⟩
   cases h;have Je:aH P ty aD call yf ρ ⟨dst,.call ⟨.builtin b,args,ats⟩,type,pos,after,guard⟩ S aB=(ah P ty aD call yf ρ ⟨dst,.call ⟨.builtin b,args,ats⟩,type,pos,after,guard⟩ S aB).map (λr=>(r.1,r.2,(⟨some [],false⟩:cM))):=by cases b<;>first|rfl|exact absurd rfl hb
   rw[Je]at h;have hop:uW (.call ⟨.builtin b,args,ats⟩):=by cases b<;>first|trivial|exact absurd rfl hb
   obtain⟨h1,h2⟩:=DI hop (mp h);subst h1;exact .inl ⟨S'.length,.inl rfl,(dF (c2:=call) (by trivial)).trans (h2 _ _)⟩
 all_goals
  simp only[aH]at h;obtain⟨h1,h2⟩:=DI (by trivial) (mp h);subst h1;exact .inl ⟨S'.length,.inl rfl,(dF (c2:=call) (by trivial)).trans (h2 _ _)⟩
theorem VF{ρ:Operand->Option DV}{o:Oper}{S S':aj}{aB:Nat}{v:DV}{f:cM}(h:aH P ty aD call yf ρ o S aB=some (v,S',f))(hf:f.ids=none):f.wr=true:=by
 have mp:∀{q:Option (DV×aj)}{l:cx}{b:Bool},q.map (λr=>(r.1,r.2,(⟨some l,b⟩:cM)))=some (v,S',f)->False:=by intro q l b hq;simp only[af,ay]at hq;obtain⟨_,-,-,-,rfl⟩:=hq;cases hf
 have mt:∀{q:Option (DV×aj)},q.map (λr=>(r.1,r.2,(⟨none,true⟩:cM)))=some (v,S',f)->f.wr=true:=by intro q hq;simp only[af,ay]at hq;obtain⟨_,-,-,-,rfl⟩:=hq;rfl
 unfold aH at h;split at h
 case h_13=>
  split at h;simp only at h;split at h;exact(mp h).elim;split at h;simp only[af,ay]at h;obtain⟨_,-,-,-,rfl⟩:=h;cases hf
  grind
  exact mt h;cases h
 all_goals (repeat' split at h)
 all_goals first
  |exact(mp h).elim
  |cases h
def touch(F:Nat->cM)(j id:Nat):Bool:=(F j).wr&&match(F j).ids with
 |none=>true
 |some l=>l.contains id
def top(F:Nat->cM)(j:Nat):Bool:=(F j).wr&&(F j).ids.isNone
def mU{α:Type}(W:Nat->Bool)(R:Nat->α)(d:α)(L:Nat->Bool):Nat->α
 |0=>d
 |n+1=>if L n&&W n then R n else mU W R d L n
theorem gO{α:Type}{W:Nat->Bool}{R:Nat->α}{d:α}{L:Nat->Bool}{i:Nat}:∀{n:Nat},i<=n->(∀j,j<n->W j=true->(L j=true↔j<i))->mU W R d L n=mU W R d (λ_=>true) i
 |0,h,_=>by
  have:i=0:=U
  subst this;rfl
 |n+1,h,hj=>by
  by_cases mo:i=n+1;subst mo;unfold mU;by_cases hd:W n=true
  grind
  simp only[aC,hd,and_false,if_false,aJ];exact gO (ai _) λj h1 h2=>⟨λ_=>h1,λ_=>(hj j (pW h1) h2).2 (pW h1)⟩;have hle:i<=n:=U
  rw[<-gO hle λj h1 h2=>hj j U h2]
  conv=>lhs;unfold mU
  by_cases hd:W n=true
  grind
  simp[hd]
theorem ng{α:Type}{W:Nat->Bool}{R:Nat->α}{d:α}{L:Nat->Bool}{i:Nat}(hd:W i=false):∀n,mU W R d (upd L i true) n=mU W R d L n
 |0=>rfl
 |n+1=>by
  unfold mU;rw[ng hd n];by_cases h:n=i
  grind
  rw[upd_ne _ _ h]
theorem xe{α:Type}{W:Nat->Bool}{R:Nat->α}{d:α}{i:Nat}(hd:W i=true):mU W R d (λ_=>true) (i+1)=R i:=by unfold mU;simp[hd]
structure UY (P:Program) (ty:fo) (aD:bR) (call:aY) (yf:di) (ops:Array Oper) (n0:Nat) (E:Nat->cj) (V:Nat->DV) (M:Nat->aj) (F:Nat->cM):Prop where
 env:OQ ops V E
 yes:∀j o,ops[j]? =some o->b9 ops (E j) o=true->aH P ty aD call yf (iN (E j)) o (M j) (n0+j)=some (V j,M (j+1),F j)
 no:∀j o,ops[j]? =some o->b9 ops (E j) o=false->V j=bD/\M (j+1)=M j/\F j=⟨some [],false⟩
theorem Gc{ops:Array Oper}{n0:Nat}:∀{r:List Oper}{i:Nat}{env aK:cj}{S S':aj}{fs:cX},sG P ty aD call yf ops n0 r i env S=some (aK,S',fs)->
  ∃(E:Nat->cj)(V:Nat->DV)(M:Nat->aj)(F:Nat->cM),E 0=env/\E r.length=aK/\M 0=S/\M r.length=S'/\(fs.length=r.length/\∀j,j<r.length->fs[j]? =some (F j))/\
   ∀j o,r[j]? =some o->E (j+1)=jN (E j) o.dst (V j)/\(b9 ops (E j) o=true->aH P ty aD call yf (iN (E j)) o (M j) (n0+(i+j))=some (V j,M (j+1),F j))/\(b9 ops (E j) o=false->V j=bD/\M (j+1)=M j/\F j=⟨some [],false⟩)
 |[],i,env,aK,S,S',fs,h=>by simp only[sG,aF,ay]at h;obtain⟨rfl,rfl,rfl⟩:=h;exact⟨λ_=>env,λ_=>bD,λ_=>S,λ_=>⟨some [],false⟩,rfl,rfl,rfl,rfl,⟨rfl,ab⟩,ab⟩
 |o::r,i,env,aK,S,S',fs,h=>by
  unfold sG at h;have key:∀v S1 f qC wq Uf,sG P ty aD call yf ops n0 r (i+1) (jN env o.dst v) S1=some (qC,wq,Uf)->(b9 ops env o=true->aH P ty aD call yf (iN env) o S (n0+i)=some (v,S1,f))->(b9 ops env o=false->v=bD/\S1=S/\f=⟨some [],false⟩)->some (qC,wq,f::Uf)=some (aK,S',fs)->
    ∃(E:Nat->cj)(V:Nat->DV)(M:Nat->aj)(F:Nat->cM),E 0=env/\E (o::r).length=aK/\M 0=S/\M (o::r).length=S'/\(fs.length=(o::r).length/\∀j,j<(o::r).length->fs[j]? =some (F j))/\
     ∀j o',(o::r)[j]? =some o'->E (j+1)=jN (E j) o'.dst (V j)/\(b9 ops (E j) o'=true->aH P ty aD call yf (iN (E j)) o' (M j) (n0+(i+j))=some (V j,M (j+1),F j))/\(b9 ops (E j) o'=false->V j=bD/\M (j+1)=M j/\F j=⟨some [],false⟩):=by
   intro v S1 f qC wq Uf h1 h2 h3 h4;cases h4;obtain⟨E,V,M,F,e1,e2,e3,e4,e5,e6⟩:=Gc h1;refine⟨λn=>match n with|0=>env|n+1=>E n,λn=>match n with|0=>v|n+1=>V n,λn=>match n with|0=>S|n+1=>M n,λn=>match n with|0=>f|n+1=>F n,rfl,by simpa using e2,rfl,by simpa using e4,⟨by simp[e5.1],λj hj=>?_⟩,λj o' nt=>?_⟩
   grind
   grind
  split at h;rename_i hw;split at h;rename_i v S1 f h1;split at h;rename_i qC wq Uf h2;exact key v S1 f _ _ _ h2 (λ_=>h1) (λhf=>by rw[hw]at hf;cases hf) h;cases h;cases h;rename_i hw;split at h;rename_i qC wq Uf h2;exact key bD S ⟨some [],false⟩ _ _ _ h2 (λht=>absurd ht hw) (λ_=>⟨rfl,rfl,rfl⟩) h;cases h
theorem ads{ops:Array Oper}{n0:Nat}{env aK:cj}{S S':aj}{fs:cX}(h:sG P ty aD call yf ops n0 ops.toList 0 env S=some (aK,S',fs)):
  ∃(E:Nat->cj)(V:Nat->DV)(M:Nat->aj)(F:Nat->cM),UY P ty aD call yf ops n0 E V M F/\E 0=env/\E ops.size=aK/\M 0=S/\M ops.size=S'/\∀j,j<ops.size->fs[j]? =some (F j):=by
 obtain⟨E,V,M,F,e1,e2,e3,e4,e5,e6⟩:=Gc h;refine⟨E,V,M,F,⟨λj o ho=>(e6 j o (by simpa using ho)).1,λj o ho hw=>?_,λj o ho hw=>(e6 j o (by simpa using ho)).2.2 hw⟩,e1,by simpa using e2,e3,by simpa using e4,λj hj=>e5.2 j (by simpa using hj)⟩;have:=(e6 j o (by simpa using ho)).2.1 hw;simpa using this
theorem run_store{ops:Array Oper}{n0:Nat}{E:Nat->cj}{V:Nat->DV}{M:Nat->aj}{F:Nat->cM}(h:UY P ty aD call yf ops n0 E V M F)(id:Nat):∀i,i<=ops.size->
  (M i)[id]? =mU (λj=>touch F j id) (λj=>(M (j+1))[id]?) ((M 0)[id]?) (λ_=>true) i/\(M i).length=mU (top F) (λj=>(M (j+1)).length) (M 0).length (λ_=>true) i
 |0,_=>⟨rfl,rfl⟩
 |i+1,hi=>by
  have ho:ops[i]? =some ops[i]:=bX U;obtain⟨Qm,SO⟩:=run_store h id i U;unfold mU;simp only[Bool.true_and];rw[<-Qm,<-SO];cases hw:b9 ops (E i) ops[i]with
  |false=>obtain⟨h1,h2,h3⟩:=h.no i _ ho hw;rw[h2];simp
  |true=>
   have hs:=h.yes i _ ho hw;cases qy:(F i).ids with
   |none=>have:=VF hs qy;simp[touch,top,qy,this]
   |some l=>obtain⟨A,w⟩:=VG hs qy;constructor;split;rfl;rename_i hnt;rw[w.res];exact w.out _ _ (λ_=>rfl) λ⟨q2,q1⟩=>hnt (by simp[touch,q2,qy,q1]);rw[w.res,w.len];simp[top,qy]
theorem adI{b:Array Nat}{fs:cX}(h:tc b fs=true){i j:Nat}{f g:cM}(hi:fs[i]? =some f)(hj:fs[j]? =some g)(hne:i≠j)(hm:f.meets g=true):(b.getD j 0).testBit i=true\/(b.getD i 0).testBit j=true:=by
 unfold tc at h;simp only[aR]at h;have h1:=h (f,i) (by rw[yB];exact hi) (g,j) (by rw[yB];exact hj);have h2:(i==j)=false:=by simpa using hne
 simp only[h2,hm,fN,Bool.or_false,Bool.false_or,jw]at h1;exact h1
end Go.Di
namespace Go.Di
open Go Go.Conc Go.Co
variable {P:Program} {aa:Machine->Trace->Prop} {x y:Cx} {i:Nat} {l l0 l':cj} {T:aj}
def Cx.only (x:Cx)(i:Nat)(l:cj):Cx:={x with μ:=λ_=>x.μ i,κ:=λ_=>0,S:=[.cells l]}
theorem Ep{x y:Cx}(hF:∀b o,x.Fz b o->y.Fz b o/\y.w.cell? ⟨b,o,none⟩=x.w.cell? ⟨b,o,none⟩){l:cj}{arr:Array Value}(hl:(l.map DV.aL).all DV.bS=true)(h:fZ x l arr):fZ y (l.map DV.aL) arr:=by refine⟨by simpa using h.1,λj c hj=>?_⟩;have hm:=aR.1 hl c (bV hj);simp only[cI,af]at hj;obtain⟨c',h2,rfl⟩:=hj;exact(h.2 j c' h2).aL.mc hF hm
theorem Af{x y:Cx}(hF:∀b o,x.Fz b o->y.Fz b o/\y.w.cell? ⟨b,o,none⟩=x.w.cell? ⟨b,o,none⟩){l:cj}(hl:(l.map DV.strip).all DV.pure=true){j:Nat}{c:DV}{v:Value}(hj:(l.map DV.strip)[j]? =some c)(h:∀c',l[j]? =some c'->RV x c' v):RV y c v:=by have hm:=aR.1 hl c (bV hj);simp only[cI,af]at hj;obtain⟨c',h2,rfl⟩:=hj;exact(h c' h2).strip.pure_mono hF hm
theorem oQ{l:cj}{k:Nat}{b:DB}(h:([.cells l]:aj)[k]? =some b):k=0/\b=.cells l:=by grind
theorem Wz(hR:Rel x)(hi:x.S[i]? =some (.cells l))(hl:(l.map DV.aL).all DV.bS=true):Rel (x.only i (l.map DV.aL)):=by refine⟨λid l2 h=>?_,λid e s n h=>?_,λid b h hb=>?_,λj k hj hk _=>?_,hR.wo,λid h o hF=>?_,λid e s n h=>?_,λid e s l z h=>?_,hR.glob⟩;obtain⟨rfl,h2⟩:=oQ h;cases h2;obtain⟨arr,e,h1,h2,h3⟩:=hR.cells i l hi;refine⟨arr,e,h1,?_⟩;exact Ep (x:=x) (y:=x.only i (l.map DV.aL)) (λb o h=>⟨h,rfl⟩) hl ⟨h2,h3⟩;exact nomatch (oQ h).2;obtain⟨-,rfl⟩:=oQ h;cases hb;obtain⟨b,hb,-⟩:=hj;obtain⟨c,hc,-⟩:=hk;rw[(oQ hb).1,(oQ hc).1];exact hR.sep i ⟨l,hi⟩ o hF;exact nomatch (oQ h).2;exact nomatch (oQ h).2
def Cx.back (x y:Cx)(i:Nat)(l':cj):Cx:={w:=y.w,μ:=x.μ,κ:=x.κ,Fz:=y.Fz,S:=x.S.set i (.cells l')}
theorem fD{S:aj}{i k:Nat}{b c d:DB}(hi:S[i]? =some d)(h:(S.set i c)[k]? =some b):(k=i/\b=c)\/(k≠i/\S[k]? =some b):=by grind
theorem kG{S:aj}{i k:Nat}{c:DB}(h:k≠i):(S.set i c)[k]? =S[k]? :=by grind
theorem F9{S:aj}{i:Nat}{c d:DB}(hi:S[i]? =some d):(S.set i c)[i]? =some c:=by grind
theorem tR(hR:Rel x)(hi:x.S[i]? =some (.cells l))(M:bE (x.only i l0) y){id:Nat}{b:DB}{o:Obj}(hb:x.S[id]? =some b)(hne:b≠.none)(hid:id≠i)(ho:x.w.heap[x.μ id]? =some o):y.w.heap[x.μ id]? =x.w.heap[x.μ id]? :=by refine M.old _ (aG.1 ho).1 λk _ he=>?_;exact hid (hR.inj i id ⟨_,hi,ab⟩ ⟨b,hb,hne⟩ he).symm
theorem Gy(hR:Rel x)(hi:x.S[i]? =some (.cells l))(M:bE (x.only i l0) y):bE x (x.back y i l') where
 size:=M.size
 env:=M.env
 fz:=M.fz
 G6:=λb o h=>(M.G6 b o h).imp id λh=>h.imp id λ⟨k,_,he⟩=>⟨i,⟨_,hi,ab⟩,he⟩
 old:=λb hb hn=>M.old b hb λk _ he=>hn i ⟨_,hi,ab⟩ he
 len:=by simp[Cx.back]
 cells:=λid l2 h=>⟨rfl,by
  by_cases he:id=i;subst he;exact⟨l',F9 hi⟩
  exact⟨l2,(kG he).trans h⟩⟩
 dn:=λid b h hb=>by
  have he:id≠i:=by rintro rfl;rw[hi]at h;cases h;cases hb
  obtain⟨o,ho,-⟩:=hR.dn id b h hb;exact⟨rfl,⟨b,(kG he).trans h,dG hb⟩,λ_=>tR hR hi M h (eT hb) he ho⟩
 cQ:=λt e s n h=>by
  have he:t≠i:=by rintro rfl;rw[hi]at h;cases h
  exact⟨n,(kG he).trans h,ai _,λ_=>⟨rfl,rfl⟩⟩
 live:=λk ⟨b,hb,hne⟩=>.inl ⟨by rcases fD hi hb with ⟨rfl,-⟩|⟨-,h⟩;exact⟨_,hi,ab⟩;exact⟨b,h,hne⟩,rfl⟩
 ops:=λt e s l z h=>by
  have he:t≠i:=by rintro rfl;rw[hi]at h;cases h
  exact⟨l,z,(kG he).trans h,ai _,λe=>⟨rfl,e⟩,λ_=>⟨rfl,rfl⟩⟩
theorem WH(hR:Rel x)(hi:x.S[i]? =some (.cells l))(BO:Rel y)(M:bE (x.only i l0) y)(hy:y.S[0]? =some (.cells l'))(jm:(l'.map DV.aL).all DV.bS=true):Rel (x.back y i (l'.map DV.aL)):=by
 have MB:=Gy (l':=l'.map DV.aL) hR hi M;have hμ:y.μ 0=x.μ i:=(M.cells 0 l0 rfl).1;have hF:∀b o,y.Fz b o->x.Fz b o\/x.w.heap.size<=b\/b=x.μ i:=λb o h=>(M.G6 b o h).imp id λh=>h.imp id λ⟨_,_,he⟩=>he.symm;refine⟨λid l2 h=>?_,λid e s n h=>?_,λid b h hb=>?_,λj k hj hk he=>?_,BO.wo,λid h o hf=>?_,λid e s n h o hf=>?_,λid e s l1 z h=>?_,BO.glob⟩;rcases fD hi h with ⟨rfl,h2⟩|⟨he,h2⟩;cases h2;obtain⟨arr,e,h1,h2,h3⟩:=BO.cells 0 l' hy;exact⟨arr,e,by rw[hμ]at h1;exact h1,Ep (x:=y) (y:=x.back y id (l'.map DV.aL)) (λb o h=>⟨h,rfl⟩) jm ⟨h2,h3⟩⟩;obtain⟨arr,e,h1,h3,h4⟩:=hR.cells id l2 h2;exact⟨arr,e,(tR hR hi M h2 ab he h1).trans h1,h3,λj c hc=>(h4 j c hc).mono MB⟩;rcases fD hi h with ⟨rfl,h2⟩|⟨he,h2⟩;cases h2;obtain⟨arr,h1,h3⟩:=hR.cQ id e s n h2;exact⟨arr,(tR hR hi M h2 ab he h1).trans h1,h3⟩;rcases fD hi h with ⟨rfl,h2⟩|⟨he,h2⟩;subst h2;cases hb
 obtain⟨o,h1,h3⟩:=hR.dn id b h2 hb;exact⟨o,(tR hR hi M h2 (eT hb) he h1).trans h1,h3.mono MB⟩;have lv:∀{k},Live (x.back y i (l'.map DV.aL)).S k->Live x.S k:=λ{k}⟨b,hb,hne⟩=>by rcases fD hi hb with ⟨rfl,-⟩|⟨-,h⟩;exact⟨_,hi,ab⟩;exact⟨b,h,hne⟩
 exact hR.inj j k (lv hj) (lv hk) he;obtain⟨l2,h⟩:=h;obtain⟨l3,h3⟩:∃l3,x.S[id]? =some (.cells l3):=by
  rcases fD hi h with ⟨rfl,-⟩|⟨-,h2⟩
  grind
  grind
 obtain⟨arr,e,h4,-⟩:=hR.cells id l3 h3;rcases hF _ _ hf with h5|h5|h5;exact hR.sep id ⟨l3,h3⟩ o h5;have:=(aG.1 h4).1;change x.w.heap.size<=x.μ id at h5;omega;refine BO.sep 0 ⟨l',hy⟩ o ?_;rw[hμ,<-h5];exact hf;rcases fD hi h with ⟨rfl,h2⟩|⟨he,h2⟩;cases h2;obtain⟨arr,h4,-⟩:=hR.cQ id e s n h2;rcases hF _ _ hf with h5|h5|h5;exact hR.mQ id e s n h2 o h5;have:=(aG.1 h4).1;change x.w.heap.size<=x.μ id at h5;omega;exact absurd (hR.inj id i ⟨_,h2,ab⟩ ⟨_,hi,ab⟩ h5) he;rcases fD hi h with ⟨rfl,h2⟩|⟨he,h2⟩;cases h2;obtain⟨arr,h4,h3,h6,h7,h8,h9,vE⟩:=hR.ops id e s l1 z h2;refine⟨arr,(tR hR hi M h2 ab he h4).trans h4,h3,h6,h7,λj c hc=>⟨(h8 j c hc).1,(h8 j c hc).2.mono MB⟩,λhz j hj=>(M.fz _ _ (h9 hz j hj)).1,λhz o hf=>?_⟩;rcases hF _ _ hf with h5|h5|h5;exact vE hz o h5;have:=(aG.1 h4).1;change x.w.heap.size<=x.μ id at h5;omega;exact absurd (hR.inj id i ⟨_,h2,ab⟩ ⟨_,hi,ab⟩ h5) he
theorem N1{f:FuncId}{off:Nat}{rest:cj}{vals:Array Value}{v:DV}(hR:Rel x)(hi:x.S[i]? =some (.cells l))(hp:(rest.map DV.strip).all DV.pure=true)(ha:fZ x (.ptr i off::rest) vals)
  (h:fZ (x.only i l0) (.ptr 0 off::rest.map DV.strip) vals->eR P aa (x.only i l0) f vals λy u=>y.S=.cells l'::T/\Rel y/\bE (x.only i l0) y/\RV y v u) (jm:(l'.map DV.aL).all DV.bS=true) (hv:v.strip.pure=true):
  eR P aa x f vals λz u=>z.S=x.S.set i (.cells (l'.map DV.aL))/\Rel z/\bE x z/\RV z v.strip u:=by
 have ha':fZ (x.only i l0) (.ptr 0 off::rest.map DV.strip) vals:=by
  refine⟨by simpa using ha.1,λj c hc=>?_⟩;cases j with
  |zero=>
   simp only[dB,aF]at hc;subst hc;have:=ha.2 0 _ rfl;generalize vals.getD 0 undef=u at this;cases this with
   |ptr _=>exact RV.ptr (x:=x.only i l0) (id:=0) (l:=l0) rfl
  |succ j=>exact Af (x:=x) (y:=x.only i l0) (λb o h=>⟨h,rfl⟩) hp (by simpa using hc) λc' h1=>ha.2 (j+1) c' (by simpa using h1)
 obtain⟨h1,h2⟩:=h ha';refine⟨h1,λfr cs hn=>h2 fr cs λy u ⟨q1,q2,q3,q4⟩=>?_⟩;have hy:y.S[0]? =some (.cells l'):=by rw[q1];rfl
 exact hn (x.back y i (l'.map DV.aL)) u ⟨rfl,WH hR hi q2 q3 hy jm,Gy hR hi q3,q4.strip.pure_mono (x:=y) (y:=x.back y i (l'.map DV.aL)) (λb o h=>⟨h,rfl⟩) hv⟩
theorem XS{call:aY}(hc:gJ P aa call):gJ P aa (JQ call):=by intro f args S v S' h x vals hR hS ha;subst hS;unfold JQ at h;split at h;rename_i i v1 l1 ho;cases h;unfold oG at ho;split at ho;rename_i i off rest;split at ho;rename_i l hi;split at ho;rename_i TA;simp only[aC]at TA;split at ho;rename_i v2 l' T mX;split at ho;rename_i hq;simp only[aC]at hq;cases ho;exact N1 (l0:=l.map DV.aL) hR hi TA.1 ha (λOo=>hc _ _ _ _ _ mX (x.only _ _) vals (Wz hR hi TA.2) rfl Oo) hq.2 hq.1;cases ho;cases ho;cases ho;cases ho;cases ho;exact XQ hc _ _ _ _ _ h x vals hR rfl ha
def Cx.opn (x y:Cx)(aB t:Nat)(b:DB)(F:Nat->Nat->Prop):Cx:={w:=y.w,μ:=λi=>if i=aB then y.μ t else x.μ i,κ:=λi=>if i=aB then y.κ t else x.κ i,Fz:=F,S:=x.S.set aB b}
section
variable {aB t n sz:Nat} {e:TypeId} {rows:cj} {bl:DB} {F:Nat->Nat->Prop}
theorem Pq(M:bE x.bare y)(ht:y.S[t]? =some (.tail e sz n)):x.w.heap.size<=y.μ t:=by rcases M.live t ⟨_,ht,ab⟩with ⟨⟨b,hb,-⟩,-⟩|h;simp[Cx.bare]at hb;exact h
theorem uL(M:bE x.bare y){b:Nat}(hb:b<x.w.heap.size):y.w.heap[b]? =x.w.heap[b]? :=M.old b hb λi ⟨c,hc,_⟩=>by simp[Cx.bare]at hc
theorem Pp(M:bE x.bare y){b o:Nat}(h:y.Fz b o):x.Fz b o\/x.w.heap.size<=b:=by rcases M.G6 b o h with h|h|⟨i,⟨c,hc,-⟩,-⟩;exact .inl h;exact .inr h;simp[Cx.bare]at hc
theorem KI(hR:Rel x)(M:bE x.bare y)(hn:x.S[aB]? =some .none)(ht:y.S[t]? =some (.tail e sz n))(hF:(∀b o,F b o->y.Fz b o)/\∀b o,y.Fz b o->b<x.w.heap.size->F b o):bE x (x.opn y aB t bl F) where
 size:=M.size
 env:=M.env
 fz:=λb o h=>by obtain⟨v,hv⟩:=hR.wo b o h;have h1:=World.block_lt_of_cell? x.w ⟨b,o,none⟩ hv;exact⟨hF.2 _ _ (M.fz b o h).1 h1,(M.fz b o h).2⟩
 G6:=λb o h=>(Pp M (hF.1 _ _ h)).imp id .inl
 old:=λb hb _=>uL M hb
 len:=by simp[Cx.opn]
 cells:=λid l h=>by
  have he:id≠aB:=by rintro rfl;rw[hn]at h;cases h
  exact⟨if_neg he,l,(kG he).trans h⟩
 dn:=λid b h hb=>by
  have he:id≠aB:=by rintro rfl;rw[hn]at h;cases h;cases hb
  obtain⟨o,ho,-⟩:=hR.dn id b h hb;exact⟨if_neg he,⟨b,(kG he).trans h,dG hb⟩,λ_=>uL M (aG.1 ho).1⟩
 cQ:=λk e s n h=>by
  have he:k≠aB:=by rintro rfl;rw[hn]at h;cases h
  exact⟨n,(kG he).trans h,ai _,λ_=>⟨if_neg he,if_neg he⟩⟩
 live:=λk ⟨b,hb,hne⟩=>by rcases fD hn hb with ⟨rfl,-⟩|⟨he,h⟩;exact .inr (by show _<=(if k=k then _ else _);rw[if_pos rfl];exact Pq M ht);exact .inl ⟨⟨b,h,hne⟩,if_neg he⟩
 ops:=λk e s l z h=>by
  have he:k≠aB:=by rintro rfl;rw[hn]at h;cases h
  exact⟨l,z,(kG he).trans h,ai _,λe=>⟨rfl,e⟩,λ_=>⟨if_neg he,if_neg he⟩⟩
def agR(y:Cx)(t:Nat)(F:Nat->Nat->Prop):DB->Prop
 |.tail e s m=>(∃arr,y.w.heap[y.μ t]? =some (.cells arr e (0,0))/\arr.size=y.κ t*s/\m<=arr.size/\y.κ t<=maxLen)/\∀o,F (y.μ t) o->o<m
 |_=>False
theorem ZZ(hR:Rel x)(M:bE x.bare y)(BO:Rel y)(hn:x.S[aB]? =some .none)(ht:y.S[t]? =some (.tail e sz n))(hF:(∀b o,F b o->y.Fz b o)/\∀b o,y.Fz b o->b<x.w.heap.size->F b o)(hnw:agR y t F bl):Rel (x.opn y aB t bl F):=by
 have MB:=KI (bl:=bl) hR M hn ht hF;have xF:=Pq M ht;have mu:∀{id},id≠aB->(x.opn y aB t bl F).μ id=x.μ id:=λhe=>if_neg he;have ka:∀{id},id≠aB->(x.opn y aB t bl F).κ id=x.κ id:=λhe=>if_neg he;have mun:(x.opn y aB t bl F).μ aB=y.μ t:=if_pos rfl;have kan:(x.opn y aB t bl F).κ aB=y.κ t:=if_pos rfl;have hF0:=hF;have hF:∀{b o},(x.opn y aB t bl F).Fz b o->b<x.w.heap.size->x.Fz b o:=λh hb=>(Pp M (hF.1 _ _ h)).elim id λh=>U
 have lv:∀{k},Live (x.opn y aB t bl F).S k->k=aB\/(k≠aB/\Live x.S k):=λ{k}⟨b,hb,hne⟩=>by
  rcases fD hn hb with ⟨rfl,-⟩|⟨he,h⟩
  grind
  exact .inr ⟨he,b,h,hne⟩
 have lt:∀{k},Live x.S k->x.μ k<x.w.heap.size:=λ{k}⟨b,hb,hne⟩=>by
  cases b with
  |none=>exact absurd rfl hne
  |cells l=>obtain⟨arr,e,h1,-⟩:=hR.cells k l hb;exact(aG.1 h1).1
  |tail e s n=>obtain⟨arr,h1,-⟩:=hR.cQ k e s n hb;exact(aG.1 h1).1
  |map es=>obtain⟨o,h1,-⟩:=hR.dn k _ hb rfl;exact(aG.1 h1).1
  |defer=>obtain⟨o,h1,-⟩:=hR.dn k _ hb rfl;exact(aG.1 h1).1
  |loop r=>obtain⟨o,h1,-⟩:=hR.dn k _ hb rfl;exact(aG.1 h1).1
  |op e s l z=>obtain⟨arr,h1,-⟩:=hR.ops k e s l z hb;exact(aG.1 h1).1
 refine⟨λid l h=>?_,λid e s m h=>?_,λid b h hb=>?_,λj k hj hk he=>?_,λb o h=>BO.wo b o (hF0.1 _ _ h),λid h o hf=>?_,λid e s m h o hf=>?_,λid e1 s l1 z h=>?_,hR.glob.keep MB.fz⟩;rcases fD hn h with ⟨rfl,h2⟩|⟨he,h2⟩;subst h2;exact hnw.elim
 obtain⟨arr,e1,h3,h4,h5⟩:=hR.cells id l h2;exact⟨arr,e1,by rw[mu he];exact(uL M (aG.1 h3).1).trans h3,h4,λj c hj=>(h5 j c hj).mono MB⟩;rcases fD hn h with ⟨rfl,h2⟩|⟨he,h2⟩;subst h2;rw[mun,kan];exact hnw.1
 obtain⟨arr,h3,h4⟩:=hR.cQ id e s m h2;exact⟨arr,by rw[mu he];exact(uL M (aG.1 h3).1).trans h3,by rw[ka he];exact h4⟩;rcases fD hn h with ⟨rfl,h2⟩|⟨he,h2⟩;subst h2;cases b<;>first|exact False.elim hnw|cases hb
 obtain⟨o,h3,h4⟩:=hR.dn id b h2 hb;exact⟨o,by rw[mu he];exact(uL M (aG.1 h3).1).trans h3,h4.mono MB⟩;rcases lv hj with rfl|⟨hj1,hj2⟩<;>rcases lv hk with rfl|⟨sY,FH⟩;rfl
 grind
 grind
 rw[mu hj1,mu sY]at he;exact hR.inj j k hj2 FH he;obtain⟨l,h⟩:=h;rcases fD hn h with ⟨rfl,h2⟩|⟨he,h2⟩;subst h2;exact hnw.elim
 rw[mu he]at hf;exact hR.sep id ⟨l,h2⟩ o (hF hf (lt ⟨_,h2,ab⟩));rcases fD hn h with ⟨rfl,h2⟩|⟨he,h2⟩;subst h2;rw[mun]at hf;exact hnw.2 o hf
 rw[mu he]at hf;exact hR.mQ id e s m h2 o (hF hf (lt ⟨_,h2,ab⟩));rcases fD hn h with ⟨rfl,h2⟩|⟨he,h2⟩;subst h2;exact hnw.elim
 obtain⟨arr,h3,h4,h5,h6,h7,h8,h9⟩:=hR.ops id e1 s l1 z h2;have hlt:x.μ id<x.w.heap.size:=lt ⟨_,h2,ab⟩;refine⟨arr,by rw[mu he];exact(uL M (aG.1 h3).1).trans h3,by rw[ka he];exact h4,h5,by rw[ka he];exact h6,λj c hj=>⟨(h7 j c hj).1,(h7 j c hj).2.mono MB⟩,λhz j hj=>by rw[mu he];exact(MB.fz _ _ (h8 hz j hj)).1,λhz o hf=>?_⟩;rw[mu he]at hf;exact h9 hz o (hF hf hlt)
end
theorem W5{call:aY}{aB:Nat}(hc:gJ P aa call):gJ P aa (vH call aB):=by
 intro g args S v S' h x vals hR hS ha;subst hS;unfold vH at h;split at h;rename_i rows e s hn ho;cases h;unfold TX at ho;split at ho;rename_i hp;unfold YS at ho;split at ho;rename_i rs t ff S1 mX;split at ho;rename_i e1 s1 n ht;split at ho;rename_i hq;cases ho;have ha':fZ x.bare (args.map DV.strip) vals:=⟨by simpa using ha.1,λj c hj=>Af (x:=x) (y:=x.bare) (λb o h=>⟨h,rfl⟩) hp hj λc' h1=>ha.2 j c' h1⟩;obtain⟨h1,h2⟩:=hc _ _ _ _ _ mX x.bare vals hR.bare rfl ha';refine⟨h1,λfr cs hx=>h2 fr cs λy u ⟨q1,q2,q3,q4⟩=>?_⟩;rw[<-q1]at ht;cases q4 with
 |@sl _ _ _ A cap s' vs hv hr k1 k2 k3 ksp k4=>obtain⟨e2,s2,n2,t1,t2,t3,t4⟩:=k4 t rfl;rw[ht]at t1;cases t1;have hF:(∀b o,y.Fz b o->y.Fz b o)/\∀b o,y.Fz b o->b<x.w.heap.size->y.Fz b o:=⟨λ_ _ h=>h,λ_ _ h _=>h⟩;have hS:(x.opn y aB t (.tail e s (rows.length*s)) y.Fz).S[aB]? =some (.tail e s (rows.length*s)):=F9 hn;obtain⟨z1,z2,z3,z4,z5⟩:=q2.cQ t e s n ht;refine hx (x.opn y aB t (.tail e s (rows.length*s)) y.Fz) _ ⟨rfl,ZZ hR q3 q2 hn ht hF ⟨⟨z1,z2,z3,U,z5⟩,λo h=>by have:=q2.mQ t e s n ht o h;omega⟩,KI hR q3 hn ht hF,.sl (s:=s') (vs:=vs) ⟨hv.1,λj c hj=>hv.2 j c hj⟩ (λj c hj=>RV.mc (x:=y) (y:=x.opn y aB t (.tail e s (rows.length*s)) y.Fz) (λb o h=>⟨h,rfl⟩) (hr j c hj) (hv.2 j c hj).1) k1 ⟨ab,λb hb=>by cases hb⟩ k3 ksp λk hk=>?_⟩;cases hk;refine⟨e,s,_,hS,ai _,t3,λ_=>?_⟩;obtain⟨hA,BZ⟩:=t4 hq.symm;exact⟨by rw[hA];show _=some (Addr.mk (if aB=aB then _ else _) _ _);rw[if_pos rfl],by rw[BZ];show _=(if aB=aB then _ else _);rw[if_pos rfl]⟩
 cases ho;cases ho
 grind
 cases ho;cases ho;rename_i rows hn ho;cases h;rw[U8 hn];unfold TX at ho;split at ho;rename_i hp;unfold YS at ho;split at ho
 grind
 rename_i f S1 mX;split at ho;rename_i hf;have ha':fZ x.bare (args.map DV.strip) vals:=⟨by simpa using ha.1,λj c hj=>Af (x:=x) (y:=x.bare) (λb o h=>⟨h,rfl⟩) hp hj λc' h1=>ha.2 j c' h1⟩;obtain⟨h1,h2⟩:=hc _ _ _ _ _ mX x.bare vals hR.bare rfl ha';refine⟨h1,λfr cs hx=>h2 fr cs λy u ⟨q1,q2,q3,q4⟩=>hx (x.behind y) _ ⟨rfl,hR.behind q3 q2,uf hR q3,?_⟩⟩;cases q4 with
 |@sl _ _ _ A cap s' vs hv hr k1 k2 k3 ksp k4=>exact .sl (s:=s') (vs:=vs) ⟨hv.1,λj c hj=>(by simp[flat]at hj)⟩ (λj c hj=>(by simp[flat]at hj)) k1 ⟨λ_=>k2.1 hf,λb hb=>(by cases hb)⟩ k3 ksp λk hk=>(by cases hk)
 cases ho;cases ho;cases ho;cases h
end Go.Di
namespace Go.Di
open Go Go.Conc Go.Co
open Go.ConcN (upd upd_same upd_ne)
variable {P:Program} {aa:Machine->Trace->Prop} {ty:fo} {x:Cx} {aD:bR} {call:aY} {yf:di}
structure OP (ops:Array Oper) (M:Nat->aj) (F:Nat->cM) (L:Nat->Bool) (S:aj):Prop where
 get:∀id,S[id]? =mU (λj=>touch F j id) (λj=>(M (j+1))[id]?) ((M 0)[id]?) L ops.size
 len:S.length=mU (top F) (λj=>(M (j+1)).length) (M 0).length L ops.size
theorem XF{ops:Array Oper}{n0:Nat}{E:Nat->cj}{V:Nat->DV}{M:Nat->aj}{F:Nat->cM}(h:UY P ty aD call yf ops n0 E V M F)(qx:JV ops)(acw:∀i j,i<ops.size->j<ops.size->i≠j->(F i).meets (F j)=true->((Region.before ops).getD j 0).testBit i=true\/((Region.before ops).getD i 0).testBit j=true)
  {L:Nat->Bool} (hL:Closed ops L) {i:Nat} {o:Oper} (ho:ops[i]? =some o) (hi:L i=false) (vz:∀e∈o.after,Region.binds .any e=true->L e.on=true) {T:aj} (hT:OP ops M F L T) (hw:b9 ops (E i) o=true):
  ∃T',aH P ty aD call yf (iN (E i)) o T (n0+i)=some (V i,T',F i)/\OP ops M F (upd L i true) T':=by
 have hio:i<ops.size:=(aG.1 ho).1;have hs:=h.yes i o ho hw;have ahf:∀j,j<ops.size->j≠i->(F i).meets (F j)=true->(L j=true↔j<i):=λj hj hne hm=>Po qx hL ho hi vz (Ne.symm hne) (acw i j hio hj (Ne.symm hne) hm);have up1:∀j,j<ops.size->(j≠i->(F i).meets (F j)=true)->(upd L i true j=true↔j<i+1):=by
  intro j hj hm;by_cases iM:j=i;subst iM;simp[upd_same]
  rw[upd_ne _ _ iM,ahf j hj iM (hm iM)];omega
 have at1:∀id,(∀j,j<ops.size->j≠i->touch F j id=true->(F i).meets (F j)=true)->T[id]? =(M i)[id]? :=by
  intro id hm;rw[hT.get id,(run_store h id i U).1];refine gO U λj hj ht=>?_;by_cases iM:j=i
  grind
  grind
 have ahd:(∀j,j<ops.size->j≠i->top F j=true->(F i).meets (F j)=true)->T.length=(M i).length:=by
  intro hm;rw[hT.len,(run_store h 0 i U).2];refine gO U λj hj ht=>?_;by_cases iM:j=i
  grind
  grind
 have tch:∀j id,touch F j id=true->(F j).wr=true/\((F j).ids=none\/∃l,(F j).ids=some l/\id∈l):=by
  intro j id ht;unfold touch at ht;simp only[aC]at ht;refine⟨ht.1,?_⟩;cases qy:(F j).ids with
  |none=>exact .inl rfl
  |some l=>rw[qy]at ht;exact .inr ⟨l,rfl,by simpa using ht.2⟩
 have tp:∀j,top F j=true->(F j).wr=true/\(F j).ids=none:=by intro j ht;unfold top at ht;simpa using ht
 cases qy:(F i).ids with
 |none=>
  have hwr:=VF hs qy;have dQ:∀j id,touch F j id=true->(F i).meets (F j)=true:=by
   intro j id ht;obtain⟨h1,h2⟩:=tch j id ht;unfold cM.meets;rw[hwr,qy];rcases h2 with h2|⟨l,h2,h3⟩;simp[h2]
   grind
  have hTM:T=M i:=mG λid=>at1 id λj _ _ ht=>dQ j id ht;subst hTM;refine⟨M (i+1),hs,⟨λid=>?_,?_⟩⟩;have ht:touch F i id=true:=by simp[touch,hwr,qy]
  rw[gO (i:=i+1) U λj hj htj=>up1 j hj λ_=>dQ j id htj,xe (W:=λj=>touch F j id) ht];have ht:top F i=true:=by simp[top,hwr,qy]
  rw[gO (i:=i+1) U λj hj htj=>up1 j hj λ_=>by obtain⟨h1,h2⟩:=tp j htj;simp[cM.meets,hwr,qy,h2],xe (W:=top F) ht]
 |some l=>
  obtain⟨A,w⟩:=VG hs qy;have xx:∀j id,id∈l->touch F j id=true->(F i).meets (F j)=true:=by intro j id hid ht;obtain⟨h1,h2⟩:=tch j id ht;unfold cM.meets;rw[h1,qy];rcases h2 with h2|⟨l',h2,h3⟩;simp[h2];exact List.ne_nil_of_mem hid;simp[h2];exact⟨id,hid,h3⟩
  have hlen:l≠[]->T.length=(M i).length:=λhne=>ahd λj hj iM ht=>by obtain⟨h1,h2⟩:=tp j ht;simp[cM.meets,h1,qy,h2,hne]
  have hrun:=w.loc T hlen λid hid=>at1 id λj _ _ ht=>xx j id hid ht;refine⟨A T,hrun,⟨λid=>?_,?_⟩⟩;cases ht:touch F i id with
  |true=>
   obtain⟨h1,h2⟩:=tch i id ht;have hid:id∈l:=by
    rcases h2 with h2|⟨l',h2,h3⟩;rw[qy]at h2;cases h2
    rw[qy]at h2;cases h2;exact h3
   rw[gO (i:=i+1) U λj hj htj=>up1 j hj λ_=>xx j id hid htj,xe (W:=λj=>touch F j id) ht,w.res];exact w.inn T id hid (hlen (List.ne_nil_of_mem hid)) (at1 id λj _ _ htj=>xx j id hid htj)
  |false=>rw[ng (W:=λj=>touch F j id) ht,<-hT.get id];exact w.out T id hlen λ⟨q2,q1⟩=>by simp[touch,q2,qy,q1]at ht
  have ht:top F i=false:=by simp[top,qy]
  rw[ng (W:=top F) ht,w.len];exact hT.len
def Cx.pad (x:Cx)(n:Nat):Cx:={x with S:=x.S++List.replicate n .none}
theorem nP{S:aj}{n id:Nat}{b:DB}(h:(S++List.replicate n DB.none)[id]? =some b)(hb:b≠.none):S[id]? =some b:=by grind
theorem yK{S:aj}{n id:Nat}{b:DB}(h:S[id]? =some b):(S++List.replicate n DB.none)[id]? =some b:=by grind
theorem yM(x:Cx)(n:Nat):bE x (x.pad n):=
 ⟨ai _,⟨rfl,rfl⟩,λ_ _ h=>⟨h,rfl⟩,λ_ _ h=>.inl h,λ_ _ _=>rfl,by simp[Cx.pad],λ_ l h=>⟨rfl,l,yK h⟩,λ_ b h hb=>⟨rfl,⟨b,yK h,dG hb⟩,λ_=>rfl⟩,λ_ _ _ n h=>⟨n,yK h,ai _,λ_=>⟨rfl,rfl⟩⟩,λ_ ⟨b,h,hb⟩=>.inl ⟨⟨b,nP h hb,hb⟩,rfl⟩,λ_ _ _ l z h=>⟨l,z,yK h,ai _,λe=>⟨rfl,e⟩,λ_=>⟨rfl,rfl⟩⟩⟩
theorem ZY(hR:Rel x)(n:Nat):Rel (x.pad n) where
 cells:=λid l hl=>by obtain⟨arr,e,h1,h2,h3⟩:=hR.cells id l (nP hl ab);exact⟨arr,e,h1,h2,λj c hc=>(h3 j c hc).mono (yM x n)⟩
 cQ:=λid e s m hl=>hR.cQ id e s m (nP hl ab)
 dn:=λid b hl hb=>by obtain⟨o,h1,h2⟩:=hR.dn id b (nP hl (eT hb)) hb;exact⟨o,h1,h2.mono (yM x n)⟩
 inj:=λi j ⟨b,h,hb⟩⟨c,k,kb⟩ he=>hR.inj i j ⟨b,nP h hb,hb⟩ ⟨c,nP k kb,kb⟩ he
 wo:=hR.wo
 glob:=hR.glob
 sep:=λid ⟨l,hl⟩=>hR.sep id ⟨l,nP hl ab⟩
 mQ:=λid e s m hl=>hR.mQ id e s m (nP hl ab)
 ops:=λid e s l z hl=>by obtain⟨arr,h1,h2,h3,h4,h5,h6⟩:=hR.ops id e s l z (nP hl ab);exact⟨arr,h1,h2,h3,h4,λj c hc=>⟨(h5 j c hc).1,(h5 j c hc).2.mono (yM x n)⟩,h6⟩
theorem Nr(hP:Plain P)(eV:jP P ty)(hc:gJ P aa call)(hi:Bi P aa aD)(Ma:Bh P aa yf){ops:Array Oper}{b:Frame}{k:List Item}{cs:List Frame}(hk:b.kind≠.early)(Je:kY ops (Region.before ops)=true)
  {env aK:cj} {S':aj} {fs:cX} {n0:Nat} {a:Act} (h:sG P ty aD call yf ops n0 ops.toList 0 env x.S=some (aK,S',fs)) (hmt:tc (Region.before ops) fs=true) (hR:Rel x) (he:fZ x env a.tmps)
  (hn:∀y a',y.S=S'->Rel y->bE x y->fZ y aK a'.tmps->a'.defers=a.defers->iB P aa () (G (b.atR a' k) cs) y.w) (t:Nat):iB P aa () (G (b.atR a (.inRegion ops (Region.linearise .any ops t)::k)) cs) x.w:=by
 have qx:=Kw Je;obtain⟨E,V,M,F,hrun,e1,e2,e3,e4,e5⟩:=ads h;have acw:∀i j,i<ops.size->j<ops.size->i≠j->(F i).meets (F j)=true->((Region.before ops).getD j 0).testBit i=true\/((Region.before ops).getD i 0).testBit j=true:=λi j hi hj hne hm=>adI hmt (e5 i hi) (e5 j hj) hne hm;have dN:∀{α:Type}(W:Nat->Bool)(R:Nat->α)(d:α) n,mU W R d (λ_=>false) n=d:=by
  intro α W R d n;induction n with
  |zero=>rfl
  |succ n ih=>unfold mU;simp[ih]
 refine vX qx (σ:=Act×Cx) (λtodo s=>Rel s.2->bE x s.2->s.1.defers=a.defers->iB P aa () (G (b.atR s.1 (.inRegion ops todo::k)) cs) s.2.w)
  (λL s=>OP ops M F L s.2.S/\∃nw,fZ s.2 nw s.1.tmps/\F0 ops V L ops.size (E 0) nw) ?_ ?_ t (a,x) ⟨⟨λid=>by rw[dN,e3],by rw[dN,e3]⟩,env,he,λt=>?_⟩ hR (bE.refl x) rfl
 rintro L ⟨a1,y⟩ i o ⟨L5,nw,zn,YK⟩ o6 ho Te vz rest lP BO TM Mf;simp only at zn BO TM Mf L5⊢;obtain⟨q1,q2⟩:=Bx qx Je hrun.env o6 YK ho Te vz;have hw:=yW q1;have X1:=z8 zn ops o;have hE2:=GR (V:=V) ho YK q2;by_cases hwt:b9 ops (E i) o=true;obtain⟨T',hT1,hT2⟩:=XF hrun qx acw o6 ho Te vz L5 hwt;rw[<-IL (GP q1)]at hT1;obtain⟨qf,cl,o6,QG,hstep⟩:=aaH hT1;have hcc:gJ P aa cl:=by rcases o6 with rfl|rfl;exact XS hc;exact W5 hc
 refine UA hP eV hcc hi Ma hk ho (by rw[X1,hw];exact hwt) BO QG zn hstep λz u zS zR zM zV=>?_;have oy:=zN (zn.mono zM) (dst:=o.dst) zV;exact lP (a1.put o.dst u,z) ⟨by rw[zS];exact hT2,_,oy.1,hE2⟩ zR (TM.trans zM) (oy.2.trans Mf);have hwf:b9 ops (E i) o=false:=by simpa using hwt
 obtain⟨hv,hM,hF⟩:=hrun.no i o ho hwf;have oy:=zN zn (dst:=o.dst) (d:=V i) (v:=undef) (by rw[hv];exact .val rfl);have ahW:OP ops M F (upd L i true) y.S:=by
  refine⟨λid=>?_,?_⟩;rw[ng (W:=λj=>touch F j id) (by simp[touch,hF])];exact L5.get id
  rw[ng (W:=top F) (by simp[top,hF])];exact L5.len
 exact fI hP (λw=>⟨_,ud ho (by rw[X1,hw];exact hwf)⟩) (lP (a1.put o.dst undef,y) ⟨ahW,_,oy.1,hE2⟩ BO TM (oy.2.trans Mf));rintro L ⟨a1,y⟩ ⟨L5,nw,zn,YK⟩ dQ BO TM Mf;have ahG:nw=aK:=by refine mG λt=>?_;rw[YK t,<-e2,Cu hrun.env ops.size (ai _) t];congr 1;funext d;rw[kM (i:=ops.size) (ai _) λj hj _=>by simp[dQ j hj,hj]]
 have ahk:y.S=S':=by refine mG λid=>?_;have:=L5.get id;simp only at this;rw[this,<-e4,(run_store hrun id ops.size (ai _)).1];exact gO (ai _) λj hj _=>by simp[dQ j hj,hj]
 subst ahG;exact fI hP (λw=>⟨_,qq⟩) (hn y a1 ahk BO TM zn Mf);rw[e1];have:∀n,mS ops V (λ_=>false) t n=none:=by
  intro n;induction n with
  |zero=>rfl
  |succ n ih=>unfold mS;simp[ih]
 rw[this];simp
theorem Ve(hP:Plain P)(hm:P.follows .mixedOrders=true)(eV:jP P ty)(hc:gJ P aa call)(hi:Bi P aa aD)(Ma:Bh P aa yf)(id:Nat)(ops:Array Oper)(draw:Bool):xX P aa ty aD call yf id ops draw:=by
 cases draw with
 |false=>exact Rm hP eV hc hi Ma id ops
 |true=>
  intro env aK S' x0 a b k cs h hk hR he hn;obtain⟨x,env,ew,h,hR,M0,he⟩:∃x nw,x.w=x0.w/\lB P ty aD call yf ops true nw x.S=some (aK,S')/\Rel x/\bE x0 x/\fZ x nw a.tmps:=by unfold pN at h;split at h;obtain⟨y,y1,y2,y3,y4,y5⟩:=ZR hR he;exact⟨y,_,y1,by rw[y2];exact h,y3,y4,y5⟩;exact⟨x0,env,rfl,h,hR,bE.refl _,he⟩
  rw[<-ew]
  replace hn:=λy a' (q1:y.S=S') q2 (q3:bE x y) q4 q5=>hn y a' q1 q2 (M0.trans q3) q4 q5
  simp only[lB,if_true]at h;split at h;cases h;rename_i hd;have Je:kY ops (Region.before ops)=true:=by simpa using hd
  refine iG hP λn=>?_;refine⟨_,_,_,_,Nu hm,?_⟩;split at h;rename_i nw h1;cases h;split at h1;cases h1;exact Ns (x:=x.dr _) hP eV hc hi Ma hk Je h1 (hR.dr _) (he.mono (eM x _)) (λy a' q1 q2 q3 q4 q5=>hn y a' q1 q2 ((eM x _).trans q3) q4 q5) _;split at h;rename_i nw S1 fs h1;split at h;rename_i hmt;cases h;have M1:=(eM x ((x.w.at n).drawn+1)).trans (yM _ ops.size);exact Nr (x:=(x.dr ((x.w.at n).drawn+1)).pad ops.size) hP eV hc hi Ma hk Je h1 hmt (ZY (hR.dr _) _) (he.mono M1) (λy a' q1 q2 q3 q4 q5=>hn y a' q1 q2 (M1.trans q3) q4 q5) _;cases h;cases h
def xW(P:Program)(aa:Machine->Trace->Prop)(cE:bR):Prop:=
 ∀f args v,cE f args=some v->args.all DV.pure=true->v.pure=true->∀x vals,Rel x->fZ x args vals->eR P aa x f vals λy u=>y.S=x.S/\Rel y/\bE x y/\RV y v u
theorem MT{cE:bR}(ht:xW P aa cE)(hc:gJ P aa call):Bi P aa (lK cE call):=by
 intro f args v h hp;unfold lK at h;split at h;rename_i v' h1;split at h;rename_i hv;cases h;exact⟨hv,ht f args v h1 hp hv⟩;cases h;split at h;rename_i v' S' h1;split at h;rename_i hv;cases h;refine⟨hv,λx vals hR ha=>?_⟩;have ha':fZ x.bare args vals:=⟨ha.1,λj c hj=>(ha.2 j c hj).pure_mono (x:=x) (y:=x.bare) (λb o h=>⟨h,rfl⟩) (aR.1 hp c (bV hj))⟩;obtain⟨h2,h3⟩:=hc f args [] v' S' h1 x.bare vals hR.bare rfl ha';refine⟨h2,λfr cs hn=>h3 fr cs λy0 u ⟨p1,p2,p3,p4⟩=>?_⟩;obtain⟨y,r1,r2,q2,r4⟩:=aaC p2 v';have q3:=p3.trans r4;have q4:RV y (tf (HH S' v') v') u:=by rw[<-p1,<-r2];exact Xm q2 (p4.mono r4)
 have hb:=hR.behind q3 q2;rw[<-r1];exact hn (x.behind y) u ⟨rfl,hb,uf hR q3,q4.strip.pure_mono (x:=y) (y:=x.behind y) (λb o h=>⟨h,rfl⟩) hv⟩;cases h;cases h
theorem Ea(hP:Plain P)(hm:P.follows .mixedOrders=true)(eV:jP P ty){cE:bR}(ht:xW P aa cE){L:Nat}:∀n,gJ P aa (dU P ty cE L n).1/\Bh P aa (dU P ty cE L n).2
 |0=>⟨λf args S v S' h=>by simp[dU]at h,λid args S v S' h=>by simp[dU]at h⟩
 |n+1=>by obtain⟨ihc,ihy⟩:=Ea hP hm eV ht (L:=L) n;have hi:=MT ht ihc;have lH:∀id ops draw,xX P aa ty (lK cE (dU P ty cE L n).1) (dU P ty cE L n).1 (dU P ty cE L n).2 id ops draw:=λid ops draw=>Ve hP hm eV ihc hi ihy id ops draw;refine⟨λf args S v S' h x vals hR hS ha=>?_,Rf hP ihc lH⟩;simp only[dU]at h;split at h;rename_i fn hf;exact XU hP eV ihc lH hf h hR hS ha;cases h
end Go.Di
