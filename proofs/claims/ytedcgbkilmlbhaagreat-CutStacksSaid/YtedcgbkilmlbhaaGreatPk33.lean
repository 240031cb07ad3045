import Derived.Test.YtedcgbkilmlbhaaGreatPk32
namespace Go.Di
open Go Go.Conc Go.Co
open Go.ConcN (upd upd_same upd_ne)
variable {P:Program} {aa:Machine->Trace->Prop} {ty:gb} {x:Cx} {aI:b9} {call:bG} {yf:ez}
theorem JW{ρ ρ':Operand->Option DV}{o:Oper}{S:ai}{aC:Nat}(h:∀a∈o.op.operands,ρ a=ρ' a):aJ P ty aI call yf ρ o S aC=aJ P ty aI call yf ρ' o S aC:=by
 have hs:=Ao (P:=P) (ty:=ty) (aI:=aI) (call:=call) (yf:=yf) (S:=S) (aC:=aC) h;unfold aJ;split;rw[hs];rw[hs];rw[hs];rename_i t a v hop;rw[hop]at h;rw[h a (by simp[Op.operands]),hs];rename_i t a v hop;rw[hop]at h;rw[h a (by simp[Op.operands]),hs];rename_i t a v hop;rw[hop]at h;rw[h a (by simp[Op.operands]),hs];rw[hs];rfl;rename_i t m k ok hop;rw[hop]at h;rw[h m (by simp[Op.operands]),hs];rename_i t m k v hop;rw[hop]at h;rw[h m (by simp[Op.operands]),hs];rename_i t a hop;rw[hop]at h;rw[h a (by simp[Op.operands]),hs];rename_i args ats hop;rw[hop]at h;have:(args[0]?).bind ρ=(args[0]?).bind ρ':=by
  cases ha:args[0]? with
  |none=>rfl
  |some a=>exact h a (by simp[Op.operands,Call.operands,Array.mem_of_getElem? ha])
 rw[this,hs];rename_i f args ats hop;rw[hop]at h;have h1:ρ f=ρ' f:=h f (by simp[Op.operands,Call.operands]);have h2:=nA (ρ:=ρ) (ρ':=ρ') (l:=args.toList) λa ha=>h a (by simp[Op.operands,Call.operands]at ha⊢;exact .inr ha);rw[h1,h2];rw[hs]
def acH:Op->Prop
 |.call {callee:=.value _,.. }=>False
 |_=>True
theorem eC{c1 c2:bG}{ρ:Operand->Option DV}{o:Oper}{S:ai}{aC:Nat}(h:acH o.op):af P ty aI c1 yf ρ o S aC=af P ty aI c2 yf ρ o S aC:=by
 obtain⟨dst,op,type,pos,after,guard⟩:=o;cases op
 case call c=>
  obtain⟨callee,args,ats⟩:=c;cases callee with
  |value f=>exact h.elim
  |builtin b=>simp only[af]
  |invoke r m=>simp only[af]
 case makeFunc fn a b=>cases fn<;>simp only[af]
 case makeMap t r=>cases r<;>simp only[af]
 all_goals first
  |rfl
  |simp only[af]
theorem acm{ρ:Operand->Option DV}{o:Oper}{S S':ai}{aC:Nat}{v:DV}{f:dz}(h:aJ P ty aI call yf ρ o S aC=some (v,S',f)):∃rG cl,(cl=K9 call\/cl=xo call aC)/\FI S rG/\af P ty aI cl yf ρ o S rG=some (v,S'):=by
 suffices hs:(∃rG,FI S rG/\af P ty aI (K9 call) yf ρ o S rG=some (v,S'))\/∃rG,FI S rG/\af P ty aI (xo call aC) yf ρ o S rG=some (v,S')by
  rcases hs with ⟨n,h1,h2⟩|⟨n,h1,h2⟩
  grind
  grind
 obtain⟨dst,op,type,pos,after,guard⟩:=o;have mp:∀{q:Option (DV×ai)}{g:DV×ai->dz},q.map (λr=>(r.1,r.2,g r))=some (v,S',f)->q=some (v,S'):=by intro q g hq;simp only[ah,aA]at hq;obtain⟨⟨a,b⟩,h1,h2,h3,-⟩:=hq;rw[h1,<-h2,<-h3]
 have plain:∀{q:ai->Nat->Option (DV×ai)},(∀n m,q S n=q S m)->q S aC=some (v,S')->∃rG,FI S rG/\q S rG=some (v,S'):=λhq h=>⟨S.length,.inl rfl,by rw[hq _ aC];exact h⟩;cases op
 case alloc e=>
  simp only[aJ]at h;split at h;rename_i hS;exact .inl ⟨aC,.inr hS,(eC (c2:=call) (by trivial)).trans (mp h)⟩
  cases h
 case box e a=>
  simp only[aJ]at h;split at h;rename_i hS;exact .inl ⟨aC,.inr hS,(eC (c2:=call) (by trivial)).trans (mp h)⟩
  cases h
 case makeMap e a=>
  simp only[aJ]at h;split at h;rename_i hS;exact .inl ⟨aC,.inr hS,(eC (c2:=call) (by trivial)).trans (mp h)⟩
  cases h
 case store t a b=>
  simp only[aJ]at h;split at h;exact .inl ⟨S.length,.inl rfl,(eC (c2:=call) (by trivial)).trans (mp h)⟩;exact .inl ⟨S.length,.inl rfl,(eC (c2:=call) (by trivial)).trans (mp h)⟩;cases h
 case makeSlice t a b=>simp only[aJ]at h;cases h
 case buildSlice t n ps=>
  simp only[aJ]at h;split at h;cases h;rename_i hh;obtain⟨h1,h2⟩:=HX rfl hh (mp h);subst h1;exact .inl ⟨S'.length,.inl rfl,(eC (c2:=call) (by trivial)).trans (h2 _ _)⟩
 case fieldAddr t a i=>
  simp only[aJ]at h;split at h;all_goals
   obtain⟨h1,h2⟩:=sP (T:=S) (λ_ _ _ _=>rfl) (mp h);subst h1;exact .inl ⟨S'.length,.inl rfl,(eC (c2:=call) (by trivial)).trans (h2 _)⟩
 case indexAddr t a i=>
  simp only[aJ]at h;split at h;all_goals
   obtain⟨h1,h2⟩:=sN (T:=S) (λ_ _ _ _=>rfl) (mp h);subst h1;exact .inl ⟨S'.length,.inl rfl,(eC (c2:=call) (by trivial)).trans (h2 _)⟩
 case load t a=>
  simp only[aJ]at h;split at h;exact .inl ⟨S.length,.inl rfl,(eC (c2:=call) (by trivial)).trans (mp h)⟩;exact .inl ⟨S.length,.inl rfl,(eC (c2:=call) (by trivial)).trans (mp h)⟩;exact .inl ⟨S.length,.inl rfl,(eC (c2:=call) (by trivial)).trans (mp h)⟩
 case lookup t m k ok=>
  simp only[aJ]at h;split at h;exact .inl ⟨S.length,.inl rfl,(eC (c2:=call) (by trivial)).trans (mp h)⟩;cases h
 case mapUpdate t m k a=>
  simp only[aJ]at h;split at h;exact .inl ⟨S.length,.inl rfl,(eC (c2:=call) (by trivial)).trans (mp h)⟩;cases h
 case call c=>
  obtain⟨callee,args,ats⟩:=c;cases callee with
  |invoke r m=>simp[aJ,af]at h
  |value g=>
   simp only[aJ]at h;by_cases h1:ty.h ⟨dst,.call ⟨.value g,args,ats⟩,type,pos,after,guard⟩=1;refine .inr ⟨S.length,.inl rfl,?_⟩;simp only[af];split at h;rw[if_pos h1]at h;rw[h1];exact mp h;exact mp h;cases h;refine .inl ⟨S.length,.inl rfl,?_⟩;simp only[af];split at h;rename_i g' fs cs xs hf RS;split at h
   grind
   rename_i hh;simp only[xz];split at h
   grind
   rename_i hp;rw[if_neg hp];unfold K9;split at h
   grind
   unfold PV;split at h
   grind
   exact mp h;exact mp h;cases h
  |builtin b=>
   by_cases hb:b=.append;subst hb;simp only[aJ]at h;split at h;cases h;split at h;cases h;split at h;rename_i hS _;exact .inl ⟨aC,.inr hS,(eC (c2:=call) (by trivial)).trans (mp h)⟩
   rename_i hS _;exact .inl ⟨aC,.inr hS,(eC (c2:=call) (by trivial)).trans (mp h)⟩
   cases h;have Kh:aJ P ty aI call yf ρ ⟨dst,.call ⟨.builtin b,args,ats⟩,type,pos,after,guard⟩ S aC=(af P ty aI call yf ρ ⟨dst,.call ⟨.builtin b,args,ats⟩,type,pos,after,guard⟩ S aC).map (λr=>(r.1,r.2,(⟨some [],false⟩:dz))):=by cases b<;>first|rfl|exact absurd rfl hb
   rw[Kh]at h;have hop:wH (.call ⟨.builtin b,args,ats⟩):=by cases b<;>first|trivial|exact absurd rfl hb
   obtain⟨h1,h2⟩:=Et hop (mp h);subst h1;exact .inl ⟨S'.length,.inl rfl,(eC (c2:=call) (by trivial)).trans (h2 _ _)⟩
 all_goals
  simp only[aJ]at h;obtain⟨h1,h2⟩:=Et (by trivial) (mp h);subst h1;exact .inl ⟨S'.length,.inl rfl,(eC (c2:=call) (by trivial)).trans (h2 _ _)⟩
theorem Xe{ρ:Operand->Option DV}{o:Oper}{S S':ai}{aC:Nat}{v:DV}{f:dz}(h:aJ P ty aI call yf ρ o S aC=some (v,S',f))(hf:f.ids=none):f.wr=true:=by
 have mp:∀{q:Option (DV×ai)}{l:cy}{b:Bool},q.map (λr=>(r.1,r.2,(⟨some l,b⟩:dz)))=some (v,S',f)->False:=by intro q l b hq;simp only[ah,aA]at hq;obtain⟨_,-,-,-,rfl⟩:=hq;cases hf
 have mt:∀{q:Option (DV×ai)},q.map (λr=>(r.1,r.2,(⟨none,true⟩:dz)))=some (v,S',f)->f.wr=true:=by intro q hq;simp only[ah,aA]at hq;obtain⟨_,-,-,-,rfl⟩:=hq;rfl
 unfold aJ at h;split at h
 case h_13=>
  split at h;simp only at h;split at h;exact(mp h).elim;split at h;simp only[ah,aA]at h;obtain⟨_,-,-,-,rfl⟩:=h;cases hf
  grind
  exact mt h;cases h
 all_goals (repeat' split at h)
 all_goals first
  |exact(mp h).elim
  |cases h
def touch(F:Nat->dz)(j id:Nat):Bool:=(F j).wr&&match(F j).ids with
 |none=>true
 |some l=>l.contains id
def top(F:Nat->dz)(j:Nat):Bool:=(F j).wr&&(F j).ids.isNone
def og{α:Type}(W:Nat->Bool)(R:Nat->α)(d:α)(L:Nat->Bool):Nat->α
 |0=>d
 |n+1=>if L n&&W n then R n else og W R d L n
theorem iK{α:Type}{W:Nat->Bool}{R:Nat->α}{d:α}{L:Nat->Bool}{i:Nat}:∀{n:Nat},i<=n->(∀j,j<n->W j=true->(L j=true↔j<i))->og W R d L n=og W R d (λ_=>true) i
 |0,h,_=>by
  have:i=0:=ab
  subst this;rfl
 |n+1,h,hj=>by
  by_cases oK:i=n+1;subst oK;unfold og;by_cases hd:W n=true
  grind
  simp only[aD,hd,and_false,if_false,aK];exact iK (ak _) λj h1 h2=>⟨λ_=>h1,λ_=>(hj j (rq h1) h2).2 (rq h1)⟩;have hle:i<=n:=ab
  rw[<-iK hle λj h1 h2=>hj j ab h2]
  conv=>lhs;unfold og
  by_cases hd:W n=true
  grind
  simp[hd]
theorem ov{α:Type}{W:Nat->Bool}{R:Nat->α}{d:α}{L:Nat->Bool}{i:Nat}(hd:W i=false):∀n,og W R d (upd L i true) n=og W R d L n
 |0=>rfl
 |n+1=>by
  unfold og;rw[ov hd n];by_cases h:n=i
  grind
  rw[upd_ne _ _ h]
theorem yy{α:Type}{W:Nat->Bool}{R:Nat->α}{d:α}{i:Nat}(hd:W i=true):og W R d (λ_=>true) (i+1)=R i:=by unfold og;simp[hd]
structure Wd (P:Program) (ty:gb) (aI:b9) (call:bG) (yf:ez) (ops:Array Oper) (n0:Nat) (E:Nat->cj) (V:Nat->DV) (M:Nat->ai) (F:Nat->dz):Prop where
 env:PZ ops V E
 yes:∀j o,ops[j]? =some o->cI ops (E j) o=true->aJ P ty aI call yf (jA (E j)) o (M j) (n0+j)=some (V j,M (j+1),F j)
 no:∀j o,ops[j]? =some o->cI ops (E j) o=false->V j=bK/\M (j+1)=M j/\F j=⟨some [],false⟩
theorem G0{ops:Array Oper}{n0:Nat}:∀{r:List Oper}{i:Nat}{env aL:cj}{S S':ai}{fs:cY},uq P ty aI call yf ops n0 r i env S=some (aL,S',fs)->
  ∃(E:Nat->cj)(V:Nat->DV)(M:Nat->ai)(F:Nat->dz),E 0=env/\E r.length=aL/\M 0=S/\M r.length=S'/\(fs.length=r.length/\∀j,j<r.length->fs[j]? =some (F j))/\
   ∀j o,r[j]? =some o->E (j+1)=kH (E j) o.dst (V j)/\(cI ops (E j) o=true->aJ P ty aI call yf (jA (E j)) o (M j) (n0+(i+j))=some (V j,M (j+1),F j))/\(cI ops (E j) o=false->V j=bK/\M (j+1)=M j/\F j=⟨some [],false⟩)
 |[],i,env,aL,S,S',fs,h=>by simp only[uq,aG,aA]at h;obtain⟨rfl,rfl,rfl⟩:=h;exact⟨λ_=>env,λ_=>bK,λ_=>S,λ_=>⟨some [],false⟩,rfl,rfl,rfl,rfl,⟨rfl,ae⟩,ae⟩
 |o::r,i,env,aL,S,S',fs,h=>by
  unfold uq at h;have key:∀v S1 f rZ xM Vn,uq P ty aI call yf ops n0 r (i+1) (kH env o.dst v) S1=some (rZ,xM,Vn)->(cI ops env o=true->aJ P ty aI call yf (jA env) o S (n0+i)=some (v,S1,f))->(cI ops env o=false->v=bK/\S1=S/\f=⟨some [],false⟩)->some (rZ,xM,f::Vn)=some (aL,S',fs)->
    ∃(E:Nat->cj)(V:Nat->DV)(M:Nat->ai)(F:Nat->dz),E 0=env/\E (o::r).length=aL/\M 0=S/\M (o::r).length=S'/\(fs.length=(o::r).length/\∀j,j<(o::r).length->fs[j]? =some (F j))/\
     ∀j o',(o::r)[j]? =some o'->E (j+1)=kH (E j) o'.dst (V j)/\(cI ops (E j) o'=true->aJ P ty aI call yf (jA (E j)) o' (M j) (n0+(i+j))=some (V j,M (j+1),F j))/\(cI ops (E j) o'=false->V j=bK/\M (j+1)=M j/\F j=⟨some [],false⟩):=by
   intro v S1 f rZ xM Vn h1 h2 h3 h4;cases h4;obtain⟨E,V,M,F,e1,e2,e3,e4,e5,e6⟩:=G0 h1;refine⟨λn=>match n with|0=>env|n+1=>E n,λn=>match n with|0=>v|n+1=>V n,λn=>match n with|0=>S|n+1=>M n,λn=>match n with|0=>f|n+1=>F n,rfl,by simpa using e2,rfl,by simpa using e4,⟨by simp[e5.1],λj hj=>?_⟩,λj o' ow=>?_⟩
   grind
   grind
  split at h;rename_i hw;split at h;rename_i v S1 f h1;split at h;rename_i rZ xM Vn h2;exact key v S1 f _ _ _ h2 (λ_=>h1) (λhf=>by rw[hw]at hf;cases hf) h;cases h;cases h;rename_i hw;split at h;rename_i rZ xM Vn h2;exact key bK S ⟨some [],false⟩ _ _ _ h2 (λht=>absurd ht hw) (λ_=>⟨rfl,rfl,rfl⟩) h;cases h
theorem afG{ops:Array Oper}{n0:Nat}{env aL:cj}{S S':ai}{fs:cY}(h:uq P ty aI call yf ops n0 ops.toList 0 env S=some (aL,S',fs)):
  ∃(E:Nat->cj)(V:Nat->DV)(M:Nat->ai)(F:Nat->dz),Wd P ty aI call yf ops n0 E V M F/\E 0=env/\E ops.size=aL/\M 0=S/\M ops.size=S'/\∀j,j<ops.size->fs[j]? =some (F j):=by
 obtain⟨E,V,M,F,e1,e2,e3,e4,e5,e6⟩:=G0 h;refine⟨E,V,M,F,⟨λj o ho=>(e6 j o (by simpa using ho)).1,λj o ho hw=>?_,λj o ho hw=>(e6 j o (by simpa using ho)).2.2 hw⟩,e1,by simpa using e2,e3,by simpa using e4,λj hj=>e5.2 j (by simpa using hj)⟩;have:=(e6 j o (by simpa using ho)).2.1 hw;simpa using this
theorem run_store{ops:Array Oper}{n0:Nat}{E:Nat->cj}{V:Nat->DV}{M:Nat->ai}{F:Nat->dz}(h:Wd P ty aI call yf ops n0 E V M F)(id:Nat):∀i,i<=ops.size->
  (M i)[id]? =og (λj=>touch F j id) (λj=>(M (j+1))[id]?) ((M 0)[id]?) (λ_=>true) i/\(M i).length=og (top F) (λj=>(M (j+1)).length) (M 0).length (λ_=>true) i
 |0,_=>⟨rfl,rfl⟩
 |i+1,hi=>by
  have ho:ops[i]? =some ops[i]:=cD ab;obtain⟨RR,Up⟩:=run_store h id i ab;unfold og;simp only[Bool.true_and];rw[<-RR,<-Up];cases hw:cI ops (E i) ops[i]with
  |false=>obtain⟨h1,h2,h3⟩:=h.no i _ ho hw;rw[h2];simp
  |true=>
   have hs:=h.yes i _ ho hw;cases rV:(F i).ids with
   |none=>have:=Xe hs rV;simp[touch,top,rV,this]
   |some l=>obtain⟨A,w⟩:=Xf hs rV;constructor;split;rfl;rename_i hnt;rw[w.res];exact w.out _ _ (λ_=>rfl) λ⟨q2,q1⟩=>hnt (by simp[touch,q2,rV,q1]);rw[w.res,w.len];simp[top,rV]
theorem afX{b:Array Nat}{fs:cY}(h:uU b fs=true){i j:Nat}{f g:dz}(hi:fs[i]? =some f)(hj:fs[j]? =some g)(hne:i≠j)(hm:f.meets g=true):(b.getD j 0).testBit i=true\/(b.getD i 0).testBit j=true:=by
 unfold uU at h;simp only[aX]at h;have h1:=h (f,i) (by rw[zP];exact hi) (g,j) (by rw[zP];exact hj);have h2:(i==j)=false:=by simpa using hne
 simp only[h2,hm,gQ,Bool.or_false,Bool.false_or,j9]at h1;exact h1
end Go.Di
namespace Go.Di
open Go Go.Conc Go.Co
variable {P:Program} {aa:Machine->Trace->Prop} {x y:Cx} {i:Nat} {l l0 l':cj} {T:ai}
def Cx.only (x:Cx)(i:Nat)(l:cj):Cx:={x with μ:=λ_=>x.μ i,κ:=λ_=>0,S:=[.cells l]}
theorem E1{x y:Cx}(hF:∀b o,x.Fz b o->y.Fz b o/\y.w.cell? ⟨b,o,none⟩=x.w.cell? ⟨b,o,none⟩){l:cj}{arr:Array Value}(hl:(l.map DV.aO).all DV.ct=true)(h:ig x l arr):ig y (l.map DV.aO) arr:=by refine⟨by simpa using h.1,λj c hj=>?_⟩;have hm:=aX.1 hl c (cB hj);simp only[dG,ah]at hj;obtain⟨c',h2,rfl⟩:=hj;exact(h.2 j c' h2).aO.nD hF hm
theorem Bl{x y:Cx}(hF:∀b o,x.Fz b o->y.Fz b o/\y.w.cell? ⟨b,o,none⟩=x.w.cell? ⟨b,o,none⟩){l:cj}(hl:(l.map DV.strip).all DV.pure=true){j:Nat}{c:DV}{v:Value}(hj:(l.map DV.strip)[j]? =some c)(h:∀c',l[j]? =some c'->RV x c' v):RV y c v:=by have hm:=aX.1 hl c (cB hj);simp only[dG,ah]at hj;obtain⟨c',h2,rfl⟩:=hj;exact(h c' h2).strip.pure_mono hF hm
theorem qm{l:cj}{k:Nat}{b:DB}(h:([.cells l]:ai)[k]? =some b):k=0/\b=.cells l:=by grind
theorem X2(hR:Rel x)(hi:x.S[i]? =some (.cells l))(hl:(l.map DV.aO).all DV.ct=true):Rel (x.only i (l.map DV.aO)):=by refine⟨λid l2 h=>?_,λid e s n h=>?_,λid b h hb=>?_,λj k hj hk _=>?_,hR.AE,λid h o hF=>?_,λid e s n h=>?_,λid e s l z h=>?_⟩;obtain⟨rfl,h2⟩:=qm h;cases h2;obtain⟨arr,e,h1,h2,h3⟩:=hR.cells i l hi;refine⟨arr,e,h1,?_⟩;exact E1 (x:=x) (y:=x.only i (l.map DV.aO)) (λb o h=>⟨h,rfl⟩) hl ⟨h2,h3⟩;exact nomatch (qm h).2;obtain⟨-,rfl⟩:=qm h;cases hb;obtain⟨b,hb,-⟩:=hj;obtain⟨c,hc,-⟩:=hk;rw[(qm hb).1,(qm hc).1];exact hR.sep i ⟨l,hi⟩ o hF;exact nomatch (qm h).2;exact nomatch (qm h).2
def Cx.back (x y:Cx)(i:Nat)(l':cj):Cx:={w:=y.w,μ:=x.μ,κ:=x.κ,Fz:=y.Fz,S:=x.S.set i (.cells l')}
theorem fZ{S:ai}{i k:Nat}{b c d:DB}(hi:S[i]? =some d)(h:(S.set i c)[k]? =some b):(k=i/\b=c)\/(k≠i/\S[k]? =some b):=by grind
theorem lU{S:ai}{i k:Nat}{c:DB}(h:k≠i):(S.set i c)[k]? =S[k]? :=by grind
theorem GV{S:ai}{i:Nat}{c d:DB}(hi:S[i]? =some d):(S.set i c)[i]? =some c:=by grind
theorem vw(hR:Rel x)(hi:x.S[i]? =some (.cells l))(M:cg (x.only i l0) y){id:Nat}{b:DB}{o:Obj}(hb:x.S[id]? =some b)(hne:b≠.none)(hid:id≠i)(ho:x.w.heap[x.μ id]? =some o):y.w.heap[x.μ id]? =x.w.heap[x.μ id]? :=by refine M.old _ (aN.1 ho).1 λk _ he=>?_;exact hid (hR.inj i id ⟨_,hi,ae⟩ ⟨b,hb,hne⟩ he).symm
theorem Hu(hR:Rel x)(hi:x.S[i]? =some (.cells l))(M:cg (x.only i l0) y):cg x (x.back y i l') where
 size:=M.size
 env:=M.env
 fz:=M.fz
 Ke:=λb o h=>(M.Ke b o h).imp id λh=>h.imp id λ⟨k,_,he⟩=>⟨i,⟨_,hi,ae⟩,he⟩
 old:=λb hb hn=>M.old b hb λk _ he=>hn i ⟨_,hi,ae⟩ he
 len:=by simp[Cx.back]
 cells:=λid l2 h=>⟨rfl,by
  by_cases he:id=i;subst he;exact⟨l',GV hi⟩
  exact⟨l2,(lU he).trans h⟩⟩
 eH:=λid b h hb=>by
  have he:id≠i:=by rintro rfl;rw[hi]at h;cases h;cases hb
  obtain⟨o,ho,-⟩:=hR.eH id b h hb;exact⟨rfl,⟨b,(lU he).trans h,fD hb⟩,λ_=>vw hR hi M h (fJ hb) he ho⟩
 ej:=λt e s n h=>by
  have he:t≠i:=by rintro rfl;rw[hi]at h;cases h
  exact⟨n,(lU he).trans h,ak _,λ_=>⟨rfl,rfl⟩⟩
 live:=λk ⟨b,hb,hne⟩=>.inl ⟨by rcases fZ hi hb with ⟨rfl,-⟩|⟨-,h⟩;exact⟨_,hi,ae⟩;exact⟨b,h,hne⟩,rfl⟩
 ops:=λt e s l z h=>by
  have he:t≠i:=by rintro rfl;rw[hi]at h;cases h
  exact⟨l,z,(lU he).trans h,ak _,λe=>⟨rfl,e⟩,λ_=>⟨rfl,rfl⟩⟩
theorem X6(hR:Rel x)(hi:x.S[i]? =some (.cells l))(Dz:Rel y)(M:cg (x.only i l0) y)(hy:y.S[0]? =some (.cells l'))(kP:(l'.map DV.aO).all DV.ct=true):Rel (x.back y i (l'.map DV.aO)):=by
 have MB:=Hu (l':=l'.map DV.aO) hR hi M;have hμ:y.μ 0=x.μ i:=(M.cells 0 l0 rfl).1;have hF:∀b o,y.Fz b o->x.Fz b o\/x.w.heap.size<=b\/b=x.μ i:=λb o h=>(M.Ke b o h).imp id λh=>h.imp id λ⟨_,_,he⟩=>he.symm;refine⟨λid l2 h=>?_,λid e s n h=>?_,λid b h hb=>?_,λj k hj hk he=>?_,Dz.AE,λid h o hf=>?_,λid e s n h o hf=>?_,λid e s l1 z h=>?_⟩;rcases fZ hi h with ⟨rfl,h2⟩|⟨he,h2⟩;cases h2;obtain⟨arr,e,h1,h2,h3⟩:=Dz.cells 0 l' hy;exact⟨arr,e,by rw[hμ]at h1;exact h1,E1 (x:=y) (y:=x.back y id (l'.map DV.aO)) (λb o h=>⟨h,rfl⟩) kP ⟨h2,h3⟩⟩;obtain⟨arr,e,h1,h3,h4⟩:=hR.cells id l2 h2;exact⟨arr,e,(vw hR hi M h2 ae he h1).trans h1,h3,λj c hc=>(h4 j c hc).mono MB⟩;rcases fZ hi h with ⟨rfl,h2⟩|⟨he,h2⟩;cases h2;obtain⟨arr,h1,h3⟩:=hR.ej id e s n h2;exact⟨arr,(vw hR hi M h2 ae he h1).trans h1,h3⟩;rcases fZ hi h with ⟨rfl,h2⟩|⟨he,h2⟩;subst h2;cases hb
 obtain⟨o,h1,h3⟩:=hR.eH id b h2 hb;exact⟨o,(vw hR hi M h2 (fJ hb) he h1).trans h1,h3.mono MB⟩;have lv:∀{k},Live (x.back y i (l'.map DV.aO)).S k->Live x.S k:=λ{k}⟨b,hb,hne⟩=>by rcases fZ hi hb with ⟨rfl,-⟩|⟨-,h⟩;exact⟨_,hi,ae⟩;exact⟨b,h,hne⟩
 exact hR.inj j k (lv hj) (lv hk) he;obtain⟨l2,h⟩:=h;obtain⟨l3,h3⟩:∃l3,x.S[id]? =some (.cells l3):=by
  rcases fZ hi h with ⟨rfl,-⟩|⟨-,h2⟩
  grind
  grind
 obtain⟨arr,e,h4,-⟩:=hR.cells id l3 h3;rcases hF _ _ hf with h5|h5|h5;exact hR.sep id ⟨l3,h3⟩ o h5;have:=(aN.1 h4).1;change x.w.heap.size<=x.μ id at h5;omega;refine Dz.sep 0 ⟨l',hy⟩ o ?_;rw[hμ,<-h5];exact hf;rcases fZ hi h with ⟨rfl,h2⟩|⟨he,h2⟩;cases h2;obtain⟨arr,h4,-⟩:=hR.ej id e s n h2;rcases hF _ _ hf with h5|h5|h5;exact hR.oV id e s n h2 o h5;have:=(aN.1 h4).1;change x.w.heap.size<=x.μ id at h5;omega;exact absurd (hR.inj id i ⟨_,h2,ae⟩ ⟨_,hi,ae⟩ h5) he;rcases fZ hi h with ⟨rfl,h2⟩|⟨he,h2⟩;cases h2;obtain⟨arr,h4,h3,h6,h7,h8,h9,uG⟩:=hR.ops id e s l1 z h2;refine⟨arr,(vw hR hi M h2 ae he h4).trans h4,h3,h6,h7,λj c hc=>⟨(h8 j c hc).1,(h8 j c hc).2.mono MB⟩,λhz j hj=>(M.fz _ _ (h9 hz j hj)).1,λhz o hf=>?_⟩;rcases hF _ _ hf with h5|h5|h5;exact uG hz o h5;have:=(aN.1 h4).1;change x.w.heap.size<=x.μ id at h5;omega;exact absurd (hR.inj id i ⟨_,h2,ae⟩ ⟨_,hi,ae⟩ h5) he
theorem O4{f:FuncId}{off:Nat}{rest:cj}{vals:Array Value}{v:DV}(hR:Rel x)(hi:x.S[i]? =some (.cells l))(hp:(rest.map DV.strip).all DV.pure=true)(ha:ig x (.ptr i off::rest) vals)
  (h:ig (x.only i l0) (.ptr 0 off::rest.map DV.strip) vals->fS P aa (x.only i l0) f vals λy u=>y.S=.cells l'::T/\Rel y/\cg (x.only i l0) y/\RV y v u) (kP:(l'.map DV.aO).all DV.ct=true) (hv:v.strip.pure=true):
  fS P aa x f vals λz u=>z.S=x.S.set i (.cells (l'.map DV.aO))/\Rel z/\cg x z/\RV z v.strip u:=by
 have ha':ig (x.only i l0) (.ptr 0 off::rest.map DV.strip) vals:=by
  refine⟨by simpa using ha.1,λj c hc=>?_⟩;cases j with
  |zero=>
   simp only[eu,aG]at hc;subst hc;have:=ha.2 0 _ rfl;generalize vals.getD 0 undef=u at this;cases this with
   |ptr _=>exact RV.ptr (x:=x.only i l0) (id:=0) (l:=l0) rfl
  |succ j=>exact Bl (x:=x) (y:=x.only i l0) (λb o h=>⟨h,rfl⟩) hp (by simpa using hc) λc' h1=>ha.2 (j+1) c' (by simpa using h1)
 obtain⟨h1,h2⟩:=h ha';refine⟨h1,λfr cs hn=>h2 fr cs λy u ⟨q1,q2,q3,q4⟩=>?_⟩;have hy:y.S[0]? =some (.cells l'):=by rw[q1];rfl
 exact hn (x.back y i (l'.map DV.aO)) u ⟨rfl,X6 hR hi q2 q3 hy kP,Hu hR hi q3,q4.strip.pure_mono (x:=y) (y:=x.back y i (l'.map DV.aO)) (λb o h=>⟨h,rfl⟩) hv⟩
theorem Zg{call:bG}(hc:iF P aa call):iF P aa (K9 call):=by intro f args S v S' h x vals hR hS ha;subst hS;unfold K9 at h;split at h;rename_i i v1 l1 ho;cases h;unfold pZ at ho;split at ho;rename_i i off rest;split at ho;rename_i l hi;split at ho;rename_i UO;simp only[aD]at UO;split at ho;rename_i v2 l' T mH;split at ho;rename_i hq;simp only[aD]at hq;cases ho;exact O4 (l0:=l.map DV.aO) hR hi UO.1 ha (λPu=>hc _ _ _ _ _ mH (x.only _ _) vals (X2 hR hi UO.2) rfl Pu) hq.2 hq.1;cases ho;cases ho;cases ho;cases ho;cases ho;exact Ze hc _ _ _ _ _ h x vals hR rfl ha
def Cx.opn (x y:Cx)(aC t:Nat)(b:DB)(F:Nat->Nat->Prop):Cx:={w:=y.w,μ:=λi=>if i=aC then y.μ t else x.μ i,κ:=λi=>if i=aC then y.κ t else x.κ i,Fz:=F,S:=x.S.set aC b}
section
variable {aC t n sz:Nat} {e:TypeId} {rows:cj} {bl:DB} {F:Nat->Nat->Prop}
theorem QE(M:cg x.bare y)(ht:y.S[t]? =some (.tail e sz n)):x.w.heap.size<=y.μ t:=by rcases M.live t ⟨_,ht,ae⟩with ⟨⟨b,hb,-⟩,-⟩|h;simp[Cx.bare]at hb;exact h
theorem wo(M:cg x.bare y){b:Nat}(hb:b<x.w.heap.size):y.w.heap[b]? =x.w.heap[b]? :=M.old b hb λi ⟨c,hc,_⟩=>by simp[Cx.bare]at hc
theorem QD(M:cg x.bare y){b o:Nat}(h:y.Fz b o):x.Fz b o\/x.w.heap.size<=b:=by rcases M.Ke b o h with h|h|⟨i,⟨c,hc,-⟩,-⟩;exact .inl h;exact .inr h;simp[Cx.bare]at hc
theorem L4(hR:Rel x)(M:cg x.bare y)(hn:x.S[aC]? =some .none)(ht:y.S[t]? =some (.tail e sz n))(hF:(∀b o,F b o->y.Fz b o)/\∀b o,y.Fz b o->b<x.w.heap.size->F b o):cg x (x.opn y aC t bl F) where
 size:=M.size
 env:=M.env
 fz:=λb o h=>by obtain⟨v,hv⟩:=hR.AE b o h;have h1:=World.block_lt_of_cell? x.w ⟨b,o,none⟩ hv;exact⟨hF.2 _ _ (M.fz b o h).1 h1,(M.fz b o h).2⟩
 Ke:=λb o h=>(QD M (hF.1 _ _ h)).imp id .inl
 old:=λb hb _=>wo M hb
 len:=by simp[Cx.opn]
 cells:=λid l h=>by
  have he:id≠aC:=by rintro rfl;rw[hn]at h;cases h
  exact⟨if_neg he,l,(lU he).trans h⟩
 eH:=λid b h hb=>by
  have he:id≠aC:=by rintro rfl;rw[hn]at h;cases h;cases hb
  obtain⟨o,ho,-⟩:=hR.eH id b h hb;exact⟨if_neg he,⟨b,(lU he).trans h,fD hb⟩,λ_=>wo M (aN.1 ho).1⟩
 ej:=λk e s n h=>by
  have he:k≠aC:=by rintro rfl;rw[hn]at h;cases h
  exact⟨n,(lU he).trans h,ak _,λ_=>⟨if_neg he,if_neg he⟩⟩
 live:=λk ⟨b,hb,hne⟩=>by rcases fZ hn hb with ⟨rfl,-⟩|⟨he,h⟩;exact .inr (by show _<=(if k=k then _ else _);rw[if_pos rfl];exact QE M ht);exact .inl ⟨⟨b,h,hne⟩,if_neg he⟩
 ops:=λk e s l z h=>by
  have he:k≠aC:=by rintro rfl;rw[hn]at h;cases h
  exact⟨l,z,(lU he).trans h,ak _,λe=>⟨rfl,e⟩,λ_=>⟨if_neg he,if_neg he⟩⟩
def aiI(y:Cx)(t:Nat)(F:Nat->Nat->Prop):DB->Prop
 |.tail e s m=>(∃arr,y.w.heap[y.μ t]? =some (.cells arr e (0,0))/\arr.size=y.κ t*s/\m<=arr.size/\y.κ t<=maxLen)/\∀o,F (y.μ t) o->o<m
 |_=>False
theorem abt(hR:Rel x)(M:cg x.bare y)(Dz:Rel y)(hn:x.S[aC]? =some .none)(ht:y.S[t]? =some (.tail e sz n))(hF:(∀b o,F b o->y.Fz b o)/\∀b o,y.Fz b o->b<x.w.heap.size->F b o)(hnw:aiI y t F bl):Rel (x.opn y aC t bl F):=by
 have MB:=L4 (bl:=bl) hR M hn ht hF;have yP:=QE M ht;have mu:∀{id},id≠aC->(x.opn y aC t bl F).μ id=x.μ id:=λhe=>if_neg he;have ka:∀{id},id≠aC->(x.opn y aC t bl F).κ id=x.κ id:=λhe=>if_neg he;have mun:(x.opn y aC t bl F).μ aC=y.μ t:=if_pos rfl;have kan:(x.opn y aC t bl F).κ aC=y.κ t:=if_pos rfl;have hF0:=hF;have hF:∀{b o},(x.opn y aC t bl F).Fz b o->b<x.w.heap.size->x.Fz b o:=λh hb=>(QD M (hF.1 _ _ h)).elim id λh=>ab
 have lv:∀{k},Live (x.opn y aC t bl F).S k->k=aC\/(k≠aC/\Live x.S k):=λ{k}⟨b,hb,hne⟩=>by
  rcases fZ hn hb with ⟨rfl,-⟩|⟨he,h⟩
  grind
  exact .inr ⟨he,b,h,hne⟩
 have lt:∀{k},Live x.S k->x.μ k<x.w.heap.size:=λ{k}⟨b,hb,hne⟩=>by
  cases b with
  |none=>exact absurd rfl hne
  |cells l=>obtain⟨arr,e,h1,-⟩:=hR.cells k l hb;exact(aN.1 h1).1
  |tail e s n=>obtain⟨arr,h1,-⟩:=hR.ej k e s n hb;exact(aN.1 h1).1
  |map es=>obtain⟨o,h1,-⟩:=hR.eH k _ hb rfl;exact(aN.1 h1).1
  |defer=>obtain⟨o,h1,-⟩:=hR.eH k _ hb rfl;exact(aN.1 h1).1
  |loop r=>obtain⟨o,h1,-⟩:=hR.eH k _ hb rfl;exact(aN.1 h1).1
  |op e s l z=>obtain⟨arr,h1,-⟩:=hR.ops k e s l z hb;exact(aN.1 h1).1
 refine⟨λid l h=>?_,λid e s m h=>?_,λid b h hb=>?_,λj k hj hk he=>?_,λb o h=>Dz.AE b o (hF0.1 _ _ h),λid h o hf=>?_,λid e s m h o hf=>?_,λid e1 s l1 z h=>?_⟩;rcases fZ hn h with ⟨rfl,h2⟩|⟨he,h2⟩;subst h2;exact hnw.elim
 obtain⟨arr,e1,h3,h4,h5⟩:=hR.cells id l h2;exact⟨arr,e1,by rw[mu he];exact(wo M (aN.1 h3).1).trans h3,h4,λj c hj=>(h5 j c hj).mono MB⟩;rcases fZ hn h with ⟨rfl,h2⟩|⟨he,h2⟩;subst h2;rw[mun,kan];exact hnw.1
 obtain⟨arr,h3,h4⟩:=hR.ej id e s m h2;exact⟨arr,by rw[mu he];exact(wo M (aN.1 h3).1).trans h3,by rw[ka he];exact h4⟩;rcases fZ hn h with ⟨rfl,h2⟩|⟨he,h2⟩;subst h2;cases b<;>first|exact False.elim hnw|cases hb
 obtain⟨o,h3,h4⟩:=hR.eH id b h2 hb;exact⟨o,by rw[mu he];exact(wo M (aN.1 h3).1).trans h3,h4.mono MB⟩;rcases lv hj with rfl|⟨hj1,hj2⟩<;>rcases lv hk with rfl|⟨vU,Nc⟩;rfl
 grind
 grind
 rw[mu hj1,mu vU]at he;exact hR.inj j k hj2 Nc he;obtain⟨l,h⟩:=h;rcases fZ hn h with ⟨rfl,h2⟩|⟨he,h2⟩;subst h2;exact hnw.elim
 rw[mu he]at hf;exact hR.sep id ⟨l,h2⟩ o (hF hf (lt ⟨_,h2,ae⟩));rcases fZ hn h with ⟨rfl,h2⟩|⟨he,h2⟩;subst h2;rw[mun]at hf;exact hnw.2 o hf
 rw[mu he]at hf;exact hR.oV id e s m h2 o (hF hf (lt ⟨_,h2,ae⟩));rcases fZ hn h with ⟨rfl,h2⟩|⟨he,h2⟩;subst h2;exact hnw.elim
 obtain⟨arr,h3,h4,h5,h6,h7,h8,h9⟩:=hR.ops id e1 s l1 z h2;have hlt:x.μ id<x.w.heap.size:=lt ⟨_,h2,ae⟩;refine⟨arr,by rw[mu he];exact(wo M (aN.1 h3).1).trans h3,by rw[ka he];exact h4,h5,by rw[ka he];exact h6,λj c hj=>⟨(h7 j c hj).1,(h7 j c hj).2.mono MB⟩,λhz j hj=>by rw[mu he];exact(MB.fz _ _ (h8 hz j hj)).1,λhz o hf=>?_⟩;rw[mu he]at hf;exact h9 hz o (hF hf hlt)
end
theorem Ys{call:bG}{aC:Nat}(hc:iF P aa call):iF P aa (xo call aC):=by
 intro g args S v S' h x vals hR hS ha;subst hS;unfold xo at h;split at h;rename_i rows e s hn ho;cases h;unfold Vd at ho;split at ho;rename_i hp;unfold R6 at ho;split at ho;rename_i rs t ff S1 mH;split at ho;rename_i e1 s1 n ht;split at ho;rename_i hq;cases ho;have ha':ig x.bare (args.map DV.strip) vals:=⟨by simpa using ha.1,λj c hj=>Bl (x:=x) (y:=x.bare) (λb o h=>⟨h,rfl⟩) hp hj λc' h1=>ha.2 j c' h1⟩;obtain⟨h1,h2⟩:=hc _ _ _ _ _ mH x.bare vals hR.bare rfl ha';refine⟨h1,λfr cs hx=>h2 fr cs λy u ⟨q1,q2,q3,q4⟩=>?_⟩;rw[<-q1]at ht;cases q4 with
 |@sl _ _ _ A cap s' vs hv hr k1 k2 k3 ksp k4=>obtain⟨e2,s2,n2,t1,t2,t3,t4⟩:=k4 t rfl;rw[ht]at t1;cases t1;have hF:(∀b o,y.Fz b o->y.Fz b o)/\∀b o,y.Fz b o->b<x.w.heap.size->y.Fz b o:=⟨λ_ _ h=>h,λ_ _ h _=>h⟩;have hS:(x.opn y aC t (.tail e s (rows.length*s)) y.Fz).S[aC]? =some (.tail e s (rows.length*s)):=GV hn;obtain⟨z1,z2,z3,z4,z5⟩:=q2.ej t e s n ht;refine hx (x.opn y aC t (.tail e s (rows.length*s)) y.Fz) _ ⟨rfl,abt hR q3 q2 hn ht hF ⟨⟨z1,z2,z3,ab,z5⟩,λo h=>by have:=q2.oV t e s n ht o h;omega⟩,L4 hR q3 hn ht hF,.sl (s:=s') (vs:=vs) ⟨hv.1,λj c hj=>hv.2 j c hj⟩ (λj c hj=>RV.nD (x:=y) (y:=x.opn y aC t (.tail e s (rows.length*s)) y.Fz) (λb o h=>⟨h,rfl⟩) (hr j c hj) (hv.2 j c hj).1) k1 ⟨ae,λb hb=>by cases hb⟩ k3 ksp λk hk=>?_⟩;cases hk;refine⟨e,s,_,hS,ak _,t3,λ_=>?_⟩;obtain⟨hA,KE⟩:=t4 hq.symm;exact⟨by rw[hA];show _=some (Addr.mk (if aC=aC then _ else _) _ _);rw[if_pos rfl],by rw[KE];show _=(if aC=aC then _ else _);rw[if_pos rfl]⟩
 cases ho;cases ho
 grind
 cases ho;cases ho;rename_i rows hn ho;cases h;rw[Wv hn];unfold Vd at ho;split at ho;rename_i hp;unfold R6 at ho;split at ho
 grind
 rename_i f S1 mH;split at ho;rename_i hf;have ha':ig x.bare (args.map DV.strip) vals:=⟨by simpa using ha.1,λj c hj=>Bl (x:=x) (y:=x.bare) (λb o h=>⟨h,rfl⟩) hp hj λc' h1=>ha.2 j c' h1⟩;obtain⟨h1,h2⟩:=hc _ _ _ _ _ mH x.bare vals hR.bare rfl ha';refine⟨h1,λfr cs hx=>h2 fr cs λy u ⟨q1,q2,q3,q4⟩=>hx (x.behind y) _ ⟨rfl,hR.behind q3 q2,vJ hR q3,?_⟩⟩;cases q4 with
 |@sl _ _ _ A cap s' vs hv hr k1 k2 k3 ksp k4=>exact .sl (s:=s') (vs:=vs) ⟨hv.1,λj c hj=>(by simp[flat]at hj)⟩ (λj c hj=>(by simp[flat]at hj)) k1 ⟨λ_=>k2.1 hf,λb hb=>(by cases hb)⟩ k3 ksp λk hk=>(by cases hk)
 cases ho;cases ho;cases ho;cases h
end Go.Di
namespace Go.Di
open Go Go.Conc Go.Co
open Go.ConcN (upd upd_same upd_ne)
variable {P:Program} {aa:Machine->Trace->Prop} {ty:gb} {x:Cx} {aI:b9} {call:bG} {yf:ez}
structure PY (ops:Array Oper) (M:Nat->ai) (F:Nat->dz) (L:Nat->Bool) (S:ai):Prop where
 get:∀id,S[id]? =og (λj=>touch F j id) (λj=>(M (j+1))[id]?) ((M 0)[id]?) L ops.size
 len:S.length=og (top F) (λj=>(M (j+1)).length) (M 0).length L ops.size
theorem Y3{ops:Array Oper}{n0:Nat}{E:Nat->cj}{V:Nat->DV}{M:Nat->ai}{F:Nat->dz}(h:Wd P ty aI call yf ops n0 E V M F)(rU:Lc ops)(aek:∀i j,i<ops.size->j<ops.size->i≠j->(F i).meets (F j)=true->((Region.before ops).getD j 0).testBit i=true\/((Region.before ops).getD i 0).testBit j=true)
  {L:Nat->Bool} (hL:Closed ops L) {i:Nat} {o:Oper} (ho:ops[i]? =some o) (hi:L i=false) (yO:∀e∈o.after,Region.binds .any e=true->L e.on=true) {T:ai} (hT:PY ops M F L T) (hw:cI ops (E i) o=true):
  ∃T',aJ P ty aI call yf (jA (E i)) o T (n0+i)=some (V i,T',F i)/\PY ops M F (upd L i true) T':=by
 have hio:i<ops.size:=(aN.1 ho).1;have hs:=h.yes i o ho hw;have ajb:∀j,j<ops.size->j≠i->(F i).meets (F j)=true->(L j=true↔j<i):=λj hj hne hm=>QC rU hL ho hi yO (Ne.symm hne) (aek i j hio hj (Ne.symm hne) hm);have up1:∀j,j<ops.size->(j≠i->(F i).meets (F j)=true)->(upd L i true j=true↔j<i+1):=by
  intro j hj hm;by_cases jy:j=i;subst jy;simp[upd_same]
  rw[upd_ne _ _ jy,ajb j hj jy (hm jy)];omega
 have eT:∀id,(∀j,j<ops.size->j≠i->touch F j id=true->(F i).meets (F j)=true)->T[id]? =(M i)[id]? :=by
  intro id hm;rw[hT.get id,(run_store h id i ab).1];refine iK ab λj hj ht=>?_;by_cases jy:j=i
  grind
  grind
 have ai8:(∀j,j<ops.size->j≠i->top F j=true->(F i).meets (F j)=true)->T.length=(M i).length:=by
  intro hm;rw[hT.len,(run_store h 0 i ab).2];refine iK ab λj hj ht=>?_;by_cases jy:j=i
  grind
  grind
 have tch:∀j id,touch F j id=true->(F j).wr=true/\((F j).ids=none\/∃l,(F j).ids=some l/\id∈l):=by
  intro j id ht;unfold touch at ht;simp only[aD]at ht;refine⟨ht.1,?_⟩;cases rV:(F j).ids with
  |none=>exact .inl rfl
  |some l=>rw[rV]at ht;exact .inr ⟨l,rfl,by simpa using ht.2⟩
 have tp:∀j,top F j=true->(F j).wr=true/\(F j).ids=none:=by intro j ht;unfold top at ht;simpa using ht
 cases rV:(F i).ids with
 |none=>
  have hwr:=Xe hs rV;have gd:∀j id,touch F j id=true->(F i).meets (F j)=true:=by
   intro j id ht;obtain⟨h1,h2⟩:=tch j id ht;unfold dz.meets;rw[hwr,rV];rcases h2 with h2|⟨l,h2,h3⟩;simp[h2]
   grind
  have hTM:T=M i:=nR λid=>eT id λj _ _ ht=>gd j id ht;subst hTM;refine⟨M (i+1),hs,⟨λid=>?_,?_⟩⟩;have ht:touch F i id=true:=by simp[touch,hwr,rV]
  rw[iK (i:=i+1) ab λj hj htj=>up1 j hj λ_=>gd j id htj,yy (W:=λj=>touch F j id) ht];have ht:top F i=true:=by simp[top,hwr,rV]
  rw[iK (i:=i+1) ab λj hj htj=>up1 j hj λ_=>by obtain⟨h1,h2⟩:=tp j htj;simp[dz.meets,hwr,rV,h2],yy (W:=top F) ht]
 |some l=>
  obtain⟨A,w⟩:=Xf hs rV;have sU:∀j id,id∈l->touch F j id=true->(F i).meets (F j)=true:=by intro j id hid ht;obtain⟨h1,h2⟩:=tch j id ht;unfold dz.meets;rw[h1,rV];rcases h2 with h2|⟨l',h2,h3⟩;simp[h2];exact List.ne_nil_of_mem hid;simp[h2];exact⟨id,hid,h3⟩
  have hlen:l≠[]->T.length=(M i).length:=λhne=>ai8 λj hj jy ht=>by obtain⟨h1,h2⟩:=tp j ht;simp[dz.meets,h1,rV,h2,hne]
  have hrun:=w.loc T hlen λid hid=>eT id λj _ _ ht=>sU j id hid ht;refine⟨A T,hrun,⟨λid=>?_,?_⟩⟩;cases ht:touch F i id with
  |true=>
   obtain⟨h1,h2⟩:=tch i id ht;have hid:id∈l:=by
    rcases h2 with h2|⟨l',h2,h3⟩;rw[rV]at h2;cases h2
    rw[rV]at h2;cases h2;exact h3
   rw[iK (i:=i+1) ab λj hj htj=>up1 j hj λ_=>sU j id hid htj,yy (W:=λj=>touch F j id) ht,w.res];exact w.inn T id hid (hlen (List.ne_nil_of_mem hid)) (eT id λj _ _ htj=>sU j id hid htj)
  |false=>rw[ov (W:=λj=>touch F j id) ht,<-hT.get id];exact w.out T id hlen λ⟨q2,q1⟩=>by simp[touch,q2,rV,q1]at ht
  have ht:top F i=false:=by simp[top,rV]
  rw[ov (W:=top F) ht,w.len];exact hT.len
def Cx.pad (x:Cx)(n:Nat):Cx:={x with S:=x.S++List.replicate n .none}
theorem o5{S:ai}{n id:Nat}{b:DB}(h:(S++List.replicate n DB.none)[id]? =some b)(hb:b≠.none):S[id]? =some b:=by grind
theorem zZ{S:ai}{n id:Nat}{b:DB}(h:S[id]? =some b):(S++List.replicate n DB.none)[id]? =some b:=by grind
theorem z8(x:Cx)(n:Nat):cg x (x.pad n):=
 ⟨ak _,⟨rfl,rfl⟩,λ_ _ h=>⟨h,rfl⟩,λ_ _ h=>.inl h,λ_ _ _=>rfl,by simp[Cx.pad],λ_ l h=>⟨rfl,l,zZ h⟩,λ_ b h hb=>⟨rfl,⟨b,zZ h,fD hb⟩,λ_=>rfl⟩,λ_ _ _ n h=>⟨n,zZ h,ak _,λ_=>⟨rfl,rfl⟩⟩,λ_ ⟨b,h,hb⟩=>.inl ⟨⟨b,o5 h hb,hb⟩,rfl⟩,λ_ _ _ l z h=>⟨l,z,zZ h,ak _,λe=>⟨rfl,e⟩,λ_=>⟨rfl,rfl⟩⟩⟩
theorem abr(hR:Rel x)(n:Nat):Rel (x.pad n) where
 cells:=λid l hl=>by obtain⟨arr,e,h1,h2,h3⟩:=hR.cells id l (o5 hl ae);exact⟨arr,e,h1,h2,λj c hc=>(h3 j c hc).mono (z8 x n)⟩
 ej:=λid e s m hl=>hR.ej id e s m (o5 hl ae)
 eH:=λid b hl hb=>by obtain⟨o,h1,h2⟩:=hR.eH id b (o5 hl (fJ hb)) hb;exact⟨o,h1,h2.mono (z8 x n)⟩
 inj:=λi j ⟨b,h,hb⟩⟨c,k,kb⟩ he=>hR.inj i j ⟨b,o5 h hb,hb⟩ ⟨c,o5 k kb,kb⟩ he
 AE:=hR.AE
 sep:=λid ⟨l,hl⟩=>hR.sep id ⟨l,o5 hl ae⟩
 oV:=λid e s m hl=>hR.oV id e s m (o5 hl ae)
 ops:=λid e s l z hl=>by obtain⟨arr,h1,h2,h3,h4,h5,h6⟩:=hR.ops id e s l z (o5 hl ae);exact⟨arr,h1,h2,h3,h4,λj c hc=>⟨(h5 j c hc).1,(h5 j c hc).2.mono (z8 x n)⟩,h6⟩
theorem OI(hP:Plain P)(fN:kM P ty)(hc:iF P aa call)(hi:Cb P aa aI)(sY:B9 P aa yf){ops:Array Oper}{b:Frame}{k:List Item}{cs:List Frame}(hk:b.kind≠.early)(Kh:mJ ops (Region.before ops)=true)
  {env aL:cj} {S':ai} {fs:cY} {n0:Nat} {a:Act} (h:uq P ty aI call yf ops n0 ops.toList 0 env x.S=some (aL,S',fs)) (hmt:uU (Region.before ops) fs=true) (hR:Rel x) (he:ig x env a.tmps)
  (hn:∀y a',y.S=S'->Rel y->cg x y->ig y aL a'.tmps->a'.defers=a.defers->jh P aa () (G (b.atR a' k) cs) y.w) (t:Nat):jh P aa () (G (b.atR a (.inRegion ops (Region.linearise .any ops t)::k)) cs) x.w:=by
 have rU:=LO Kh;obtain⟨E,V,M,F,hrun,e1,e2,e3,e4,e5⟩:=afG h;have aek:∀i j,i<ops.size->j<ops.size->i≠j->(F i).meets (F j)=true->((Region.before ops).getD j 0).testBit i=true\/((Region.before ops).getD i 0).testBit j=true:=λi j hi hj hne hm=>afX hmt (e5 i hi) (e5 j hj) hne hm;have eL:∀{α:Type}(W:Nat->Bool)(R:Nat->α)(d:α) n,og W R d (λ_=>false) n=d:=by
  intro α W R d n;induction n with
  |zero=>rfl
  |succ n ih=>unfold og;simp[ih]
 refine xG rU (σ:=Act×Cx) (λtodo s=>Rel s.2->cg x s.2->s.1.defers=a.defers->jh P aa () (G (b.atR s.1 (.inRegion ops todo::k)) cs) s.2.w)
  (λL s=>PY ops M F L s.2.S/\∃qF,ig s.2 qF s.1.tmps/\GI ops V L ops.size (E 0) qF) ?_ ?_ t (a,x) ⟨⟨λid=>by rw[eL,e3],by rw[eL,e3]⟩,env,he,λt=>?_⟩ hR (cg.refl x) rfl
 rintro L ⟨a1,y⟩ i o ⟨Nd,qF,xg,Z3⟩ sV ho UC yO rest DT Dz UZ Nt;simp only at xg Dz UZ Nt Nd⊢;obtain⟨q1,q2⟩:=Cr rU Kh hrun.env sV Z3 ho UC yO;have hw:=Ai q1;have Zn:=Be xg ops o;have hE2:=HS (V:=V) ho Z3 q2;by_cases hwt:cI ops (E i) o=true;obtain⟨T',hT1,hT2⟩:=Y3 hrun rU aek sV ho UC yO Nd hwt;rw[<-JW (HQ q1)]at hT1;obtain⟨rG,cl,sV,Se,hstep⟩:=acm hT1;have hcc:iF P aa cl:=by rcases sV with rfl|rfl;exact Zg hc;exact Ys hc
 refine VQ hP fN hcc hi sY hk ho (by rw[Zn,hw];exact hwt) Dz Se xg hstep λz u zS zR zM zV=>?_;have pP:=A0 (xg.mono zM) (dst:=o.dst) zV;exact DT (a1.put o.dst u,z) ⟨by rw[zS];exact hT2,_,pP.1,hE2⟩ zR (UZ.trans zM) (pP.2.trans Nt);have hwf:cI ops (E i) o=false:=by simpa using hwt
 obtain⟨hv,hM,hF⟩:=hrun.no i o ho hwf;have pP:=A0 xg (dst:=o.dst) (d:=V i) (v:=undef) (by rw[hv];exact .val rfl);have ajQ:PY ops M F (upd L i true) y.S:=by
  refine⟨λid=>?_,?_⟩;rw[ov (W:=λj=>touch F j id) (by simp[touch,hF])];exact Nd.get id
  rw[ov (W:=top F) (by simp[top,hF])];exact Nd.len
 exact gq hP (λw=>⟨_,vH ho (by rw[Zn,hw];exact hwf)⟩) (DT (a1.put o.dst undef,y) ⟨ajQ,_,pP.1,hE2⟩ Dz UZ (pP.2.trans Nt));rintro L ⟨a1,y⟩ ⟨Nd,qF,xg,Z3⟩ gd Dz UZ Nt;have ajB:qF=aL:=by refine nR λt=>?_;rw[Z3 t,<-e2,Db hrun.env ops.size (ak _) t];congr 1;funext d;rw[mc (i:=ops.size) (ak _) λj hj _=>by simp[gd j hj,hj]]
 have ajf:y.S=S':=by refine nR λid=>?_;have:=Nd.get id;simp only at this;rw[this,<-e4,(run_store hrun id ops.size (ak _)).1];exact iK (ak _) λj hj _=>by simp[gd j hj,hj]
 subst ajB;exact gq hP (λw=>⟨_,rO⟩) (hn y a1 ajf Dz UZ xg Nt);rw[e1];have:∀n,oe ops V (λ_=>false) t n=none:=by
  intro n;induction n with
  |zero=>rfl
  |succ n ih=>unfold oe;simp[ih]
 rw[this];simp
theorem WA(hP:Plain P)(hm:P.follows .mixedOrders=true)(fN:kM P ty)(hc:iF P aa call)(hi:Cb P aa aI)(sY:B9 P aa yf)(id:Nat)(ops:Array Oper)(draw:Bool):y9 P aa ty aI call yf id ops draw:=by
 cases draw with
 |false=>exact S3 hP fN hc hi sY id ops
 |true=>
  intro env aL S' x a b k cs h hk hR he hn;simp only[qT,if_true]at h;split at h;cases h;rename_i hd;have Kh:mJ ops (Region.before ops)=true:=by simpa using hd
  refine jk hP λn=>?_;refine⟨_,_,_,_,OK hm,?_⟩;split at h;rename_i qF h1;cases h;split at h1;cases h1;exact OJ (x:=x.dr _) hP fN hc hi sY hk Kh h1 (hR.dr _) (he.mono (fQ x _)) (λy a' q1 q2 q3 q4 q5=>hn y a' q1 q2 ((fQ x _).trans q3) q4 q5) _;split at h;rename_i qF S1 fs h1;split at h;rename_i hmt;cases h;have M1:=(fQ x ((x.w.at n).drawn+1)).trans (z8 _ ops.size);exact OI (x:=(x.dr ((x.w.at n).drawn+1)).pad ops.size) hP fN hc hi sY hk Kh h1 hmt (abr (hR.dr _) _) (he.mono M1) (λy a' q1 q2 q3 q4 q5=>hn y a' q1 q2 (M1.trans q3) q4 q5) _;cases h;cases h
def u6(P:Program)(aa:Machine->Trace->Prop)(bI:b9):Prop:=
 ∀f args v,bI f args=some v->args.all DV.pure=true->v.pure=true->∀x vals,Rel x->ig x args vals->fS P aa x f vals λy u=>y.S=x.S/\Rel y/\cg x y/\RV y v u
theorem Og{bI:b9}(ht:u6 P aa bI)(hc:iF P aa call):Cb P aa (kV bI call):=by
 intro f args v h hp;unfold kV at h;split at h;rename_i v' h1;split at h;rename_i hv;cases h;exact⟨hv,ht f args v h1 hp hv⟩;cases h;split at h;rename_i v' S' h1;split at h;rename_i hv;cases h;refine⟨hv,λx vals hR ha=>?_⟩;have ha':ig x.bare args vals:=⟨ha.1,λj c hj=>(ha.2 j c hj).pure_mono (x:=x) (y:=x.bare) (λb o h=>⟨h,rfl⟩) (aX.1 hp c (cB hj))⟩;obtain⟨h2,h3⟩:=hc f args [] v' S' h1 x.bare vals hR.bare rfl ha';refine⟨h2,λfr cs hn=>h3 fr cs λy0 u ⟨p1,p2,p3,p4⟩=>?_⟩;obtain⟨y,r1,r2,q2,r4⟩:=acd p2 v';have q3:=p3.trans r4;have q4:RV y (uV (IA S' v') v') u:=by rw[<-p1,<-r2];exact YL q2 (p4.mono r4)
 have hb:=hR.behind q3 q2;rw[<-r1];exact hn (x.behind y) u ⟨rfl,hb,vJ hR q3,q4.strip.pure_mono (x:=y) (y:=x.behind y) (λb o h=>⟨h,rfl⟩) hv⟩;cases h;cases h
theorem EN(hP:Plain P)(hm:P.follows .mixedOrders=true)(fN:kM P ty){bI:b9}(ht:u6 P aa bI){L:Nat}:∀n,iF P aa (dI P ty bI L n).1/\B9 P aa (dI P ty bI L n).2
 |0=>⟨λf args S v S' h=>by simp[dI]at h,λid args S v S' h=>by simp[dI]at h⟩
 |n+1=>by obtain⟨ihc,ihy⟩:=EN hP hm fN ht (L:=L) n;have hi:=Og ht ihc;have mW:∀id ops draw,y9 P aa ty (kV bI (dI P ty bI L n).1) (dI P ty bI L n).1 (dI P ty bI L n).2 id ops draw:=λid ops draw=>WA hP hm fN ihc hi ihy id ops draw;refine⟨λf args S v S' h x vals hR hS ha=>?_,SQ hP ihc mW⟩;simp only[dI]at h;split at h;rename_i fn hf;exact Zi hP fN ihc mW hf h hR hS ha;cases h
end Go.Di
