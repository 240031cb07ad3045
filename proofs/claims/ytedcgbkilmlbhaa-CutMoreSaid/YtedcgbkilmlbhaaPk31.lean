import Derived.Test.YtedcgbkilmlbhaaPk30
namespace Go.Di
open Go Go.Conc Go.Co
open Go.ConcN (upd upd_same upd_ne)
variable {P:Program} {aa:Machine->Trace->Prop} {ty:fR} {x:Cx} {aK:bR} {call:bt} {yf:ej}
def appW(w:Option (Nat×DB))(S:ai):ai:=match w with
 |none=>S
 |some (i,b)=>S.set i b
theorem qA{S:ai}{i:Nat}(h:i<S.length)(b:DB):eU S i b=S.set i b:=by unfold eU;rw[if_pos h]
theorem gP{S:ai}{i:Nat}{b:DB}(h:S[i]? =some b):i<S.length:=(aA.1 h).1
def vS:Op->Prop
 |.alloc _|.box .. |.makeMap .. |.load .. |.store .. |.lookup .. |.mapUpdate .. |.makeSlice .. |.buildSlice .. |.fieldAddr .. |.indexAddr .. =>False
 |.call {callee:=.builtin .append,.. }=>False
 |.call {callee:=.builtin _,.. }=>True
 |.call _=>False
 |_=>True
theorem map_fst{β:Type}(q:Option β)(f:β->DV)(S T:ai):q.map (λc=>(f c,S))=((q.map (λc=>(f c,T))).map (·.1)).map (·,S):=by cases q<;>rfl
theorem EN{ρ:Operand->Option DV}{o:Oper}(hop:vS o.op)(S:ai)(aF:Nat):ah P ty aK call yf ρ o S aF=((ah P ty aK call yf ρ o [] 0).map (·.1)).map (·,S):=by
 obtain⟨dst,op,type,pos,after,guard⟩:=o;cases op<;>simp only[vS]at hop
 case call c=>
  obtain⟨callee,args,ats⟩:=c;cases callee with
  |builtin b=>
   simp only[ah];generalize args.toList=l;generalize ats.toList=m;split;.split<;>first|rfl|exact map_fst (f:=id) _ S []
   .exact hop.elim
   .split<;>first|rfl|exact map_fst (f:=id) _ S []
   .split<;>first|rfl|exact map_fst (f:=id) _ S []
   rfl
  |value f=>exact hop.elim
  |invoke r m=>exact hop.elim
 case makeFunc fn fs cs=>cases fn<;>simp only[ah]<;>(repeat' split)<;>rfl
 all_goals simp only[ah]
 all_goals (repeat' split)
 all_goals first
  |rfl
  |exact map_fst (f:=id) _ S []
  |exact map_fst _ _ S []
theorem D8{ρ:Operand->Option DV}{o:Oper}(hop:vS o.op){S S':ai}{aF:Nat}{v:DV}(h:ah P ty aK call yf ρ o S aF=some (v,S')):S'=S/\∀T qm,ah P ty aK call yf ρ o T qm=some (v,T):=by rw[EN hop]at h;simp only[af,az]at h;obtain⟨d,h1,h2,h3⟩:=h;refine⟨h3.symm,λT qm=>?_⟩;rw[EN hop];simp only[af,az];exact⟨d,h1,h2,trivial⟩
structure Eff (P:Program) (ty:fR) (aK:bR) (call:bt) (yf:ej) (ρ:Operand->Option DV) (o:Oper) (S:ai) (aF:Nat) (v:DV) (S':ai) (f:de) (F:List Nat) (w:Option (Nat×DB)):Prop where
 res:S'=appW w S
 FI:∀i b,w=some (i,b)->i∈F/\f.wr=true/\i<S.length
 loc:∀T,(F≠[]->T.length=S.length)->(∀x∈F,T[x]? =S[x]?)->aM P ty aK call yf ρ o T aF=some (v,appW w T,f)
theorem Sc{S T:ai}{t:TypeId}{id off:Nat}(h:T[id]? =S[id]?):lE ty T t (.ptr id off)=lE ty S t (.ptr id off):=by
 unfold lE;cases ty t with
 |none=>rfl
 |some d=>simp only[h]
theorem NX{S T:ai}{t:TypeId}{rows:List DV}{i off:Nat}:lE ty T t (.fq rows i off)=lE ty S t (.fq rows i off):=by unfold lE;cases ty t<;>rfl
theorem Ih{S T:ai}{id n:Nat}(h:T[id]? =S[id]?):CE T id n=CE S id n:=by unfold CE;rw[h]
theorem NW{S T:ai}{t:TypeId}{id n off:Nat}(h:T[id]? =S[id]?):lE ty T t (.gu id n off)=lE ty S t (.gu id n off):=by
 unfold lE;cases ty t with
 |none=>rfl
 |some d=>simp only[Ih h]
theorem sj{ρ:Operand->Option DV}{dst:Option Tmp}{t type:TypeId}{a:Operand}{f:Nat}{pos:String}{after:Array Edge}{guard:Option (Nat×Bool)}{S S' T:ai}{aF:Nat}{v:DV}(hT:∀id n off,ρ a=some (.gu id n off)->T[id]? =S[id]?)
  (h:ah P ty aK call yf ρ ⟨dst,.fieldAddr t a f,type,pos,after,guard⟩ S aF=some (v,S')):S'=S/\∀qm,ah P ty aK call yf ρ ⟨dst,.fieldAddr t a f,type,pos,after,guard⟩ T qm=some (v,T):=by
 simp only[ah]at h⊢;split at h
 .rename_i hk ha;split at h
  .rename_i hf;split at h;.rename_i hs;cases h;exact⟨rfl,λ_=>by simp only[hk,ha,hf,if_pos hs]⟩
   cases h
  cases h
 .rename_i hk ha;split at h
  .rename_i hf;split at h;.rename_i hs;cases h;exact⟨rfl,λ_=>by simp only[hk,ha,hf,if_pos hs]⟩
   cases h
  cases h
 .rename_i hk ha;split at h
  .rename_i hf hop;split at h;.rename_i hs;cases h;exact⟨rfl,λ_=>by simp only[hk,ha,hf,Ih (hT _ _ _ ha),hop,if_pos hs]⟩
   cases h
  cases h
 cases h
theorem sg{ρ:Operand->Option DV}{dst:Option Tmp}{t type:TypeId}{a i:Operand}{pos:String}{after:Array Edge}{guard:Option (Nat×Bool)}{S S' T:ai}{aF:Nat}{v:DV}(hT:∀id n ag,ρ a=some (.jS id n ag)->T[id]? =S[id]?)
  (h:ah P ty aK call yf ρ ⟨dst,.indexAddr t a i,type,pos,after,guard⟩ S aF=some (v,S')):S'=S/\∀qm,ah P ty aK call yf ρ ⟨dst,.indexAddr t a i,type,pos,after,guard⟩ T qm=some (v,T):=by
 simp only[ah]at h⊢;split at h
 .rename_i hk ha hi;split at h
  .rename_i h0;split at h
   .rename_i r hr;split at h;.rename_i hs;cases h;exact⟨rfl,λ_=>by simp only[hk,ha,hi,if_pos h0,hr,if_pos hs]⟩
    cases h
   cases h
  cases h
 .rename_i hk ha hi;split at h;.rename_i h0;cases h;exact⟨rfl,λ_=>by simp only[hk,ha,hi,if_pos h0]⟩
  cases h
 .rename_i hk ha hi;split at h;.rename_i h0;cases h;exact⟨rfl,λ_=>by simp only[hk,ha,hi,if_pos h0]⟩
  cases h
 .rename_i hk ha hi;split at h
  .rename_i hop;split at h;.rename_i h0;cases h;exact⟨rfl,λ_=>by simp only[hk,ha,hi,Ih (hT _ _ _ ha),hop,if_pos h0]⟩
   cases h
  cases h
 cases h
theorem Hu{ρ:Operand->Option DV}{o:Oper}{t:TypeId}{n:Nat}{ps:Array (Nat×Operand)}{S S':ai}{aF:Nat}{v:DV}(ho:o.op=.buildSlice t n ps)(hh:ty.h o≠1)
  (h:ah P ty aK call yf ρ o S aF=some (v,S')):S'=S/\∀(T:ai)(qm:Nat),ah P ty aK call yf ρ o T qm=some (v,T):=by
 simp only[ah,ho]at h⊢;split at h
 .rename_i hk hl;split at h
  .rename_i he;split at h
   .rename_i hc;split at h
    .rename_i hf;split at h;.rename_i hp;cases h;exact⟨rfl,λT qm=>by simp only[if_pos hc,if_pos hp]⟩
     cases h
    cases h
   cases h
  cases h
 cases h
theorem L9{S S':ai}{aF:Nat}{t:TypeId}{a b v:DV}(h:jW ty S aF t a b=some (v,S'))(hn:aF<S.length):∃w,S'=appW w S/\(∀i c,w=some (i,c)->(i=aF\/∃r tk f,a=.sl r (some tk) f/\i=tk)/\i<S.length)/\
  ∀T:ai,T.length=S.length->(∀r tk f,a=.sl r (some tk) f->T[tk]? =S[tk]?)->jW ty T aF t a b=some (v,appW w T):=by
 unfold jW at h⊢;split at h
 .rename_i e s lR agg sz z rows tok full news Fv ab8 htt;split at h;.rename_i wC;cases h;exact⟨none,rfl,by simp,λT _ _=>by simp only[wC,if_true];rfl⟩
  rename_i wC;split at h
  .rename_i hte;split at h
   .rename_i hc;cases tok with
    |none=>
     simp only at h;split at h
     .rename_i hf;cases h;refine⟨some (aF,.tail e s ((rows.length+news.length)*s)),qA hn _,λi c hw=>?_,λT hT _=>?_⟩;.cases hw;exact⟨.inl rfl,hn⟩
      simp only[wC,hc,hf,if_true,aI,if_false];rw[qA (by omega)];rfl
     cases h
    |some tk=>
     simp only at h;split at h
     .rename_i e' s' n' hS;split at h
      .rename_i Ah;cases h;refine⟨some (tk,.tail e s ((rows.length+news.length)*s)),rfl,λi c hw=>?_,λT hT hl=>?_⟩;.cases hw;exact⟨.inr ⟨rows,tk,full,rfl,rfl⟩,gP hS⟩
       have hT2:T[tk]? =some (.tail e' s' n'):=(hl rows tk full rfl).trans hS;simp only[wC,hc,hT2,Ah,if_true,aI,if_false];rfl
      cases h
     cases h
   cases h
  cases h
 cases h
theorem GL{g:FuncId}{args:List DV}{S:ai}{i:Nat}{v:DV}{l:List DV}(h:pQ call g args S=some (i,v,l)):i<S.length/\∀T:ai,T[i]? =S[i]? ->pQ call g args T=some (i,v,l):=by
 unfold pQ at h⊢;split at h
 .rename_i j off rest;split at h
  .rename_i l0 hj;split at h
   .rename_i hc;split at h
    .rename_i v2 l' T2 lZ;split at h;.rename_i hq;cases h;refine⟨gP hj,λT hT=>?_⟩;rw[hj]at hT;simp only[hT,if_pos hc,lZ,if_pos hq]
     cases h
    cases h
   cases h
  cases h
 cases h
theorem RR{g:FuncId}{args:List DV}{S S':ai}{aF:Nat}{v:DV}(h:yB call aF g args S=some (v,S')):∃b,S[aF]? =some .none/\S'=S.set aF b/\∀T:ai,T[aF]? =some .none->yB call aF g args T=some (v,T.set aF b):=by
 unfold yB at h⊢;split at h;.rename_i rows e s hn ho;cases h;exact⟨_,hn,rfl,λT hT=>by rw[hT,ho]⟩
 cases h
def aco(P:Program)(ty:fR)(aK:bR)(call:bt)(yf:ej)(ρ:Operand->Option DV)(o:Oper)(S:ai):Prop:=
 ∃c args ats g fs cs xs R v S1,o.op=.call ⟨.value c,args,ats⟩/\ρ c=some (.fn g fs cs)/\evs ρ args.toList=some xs/\¬ty.h o=1/\¬((fs++xs++cs).map DV.strip).all DV.pure=true/\pQ call g (fs++xs++cs) S=none/\ov call g (fs++xs++cs) S=some (R,v,S1)
theorem aaX{ρ:Operand->Option DV}{o:Oper}{S S':ai}{aF:Nat}{v:DV}{f:de}(h:aM P ty aK call yf ρ o S aF=some (v,S',f)){F:List Nat}(hF:f.ids=some F)(hm:¬aco P ty aK call yf ρ o S):∃w,Eff P ty aK call yf ρ o S aF v S' f F w:=by
 obtain⟨dst,op,type,pos,after,guard⟩:=o;have plain:∀(hop:vS op),(ah P ty aK call yf ρ ⟨dst,op,type,pos,after,guard⟩ S aF).map (λr=>(r.1,r.2,(⟨some [],false⟩:de)))=some (v,S',f)->(∀T,aM P ty aK call yf ρ ⟨dst,op,type,pos,after,guard⟩ T aF=(ah P ty aK call yf ρ ⟨dst,op,type,pos,after,guard⟩ T aF).map (λr=>(r.1,r.2,(⟨some [],false⟩:de))))->∃w,Eff P ty aK call yf ρ ⟨dst,op,type,pos,after,guard⟩ S aF v S' f F w:=by intro hop h1 h2;simp only[af,az]at h1;obtain⟨⟨d,S1⟩,h3,rfl,rfl,rfl⟩:=h1;obtain⟨h4,h5⟩:=D8 hop h3;exact⟨none,h4,by simp,λT _ _=>by rw[h2,h5 T aF];rfl⟩
 cases op
 case alloc e=>
  simp only[aM]at h;split at h
  .rename_i hS;have hlt:=gP hS;simp only[ah]at h;split at h;.rename_i hk;cases h;cases hF;refine⟨some (aF,_),qA hlt _,λi b hw=>by cases hw;exact⟨by simp,rfl,hlt⟩,λT hT hx=>?_⟩;have:=hx aF (by simp);have hl:=hT (by simp);simp only[aM,this,hS,ah,hk,ay];rw[qA (by omega)];rfl
   cases h
  cases h
 case box e a=>
  simp only[aM]at h;split at h
  .rename_i hS;have hlt:=gP hS;simp only[ah]at h;split at h;.rename_i hk;cases h;cases hF;refine⟨some (aF,_),qA hlt _,λi b hw=>by cases hw;exact⟨by simp,rfl,hlt⟩,λT hT hx=>?_⟩;have:=hx aF (by simp);have hl:=hT (by simp);simp only[aM,this,hS,ah,hk,ay];rw[qA (by omega)];rfl
   cases h
  cases h
 case makeMap t r=>
  cases r with
  |some a=>
   simp only[aM]at h;split at h;.simp[ah]at h
   cases h
  |none=>
   simp only[aM]at h;split at h;.rename_i hS;have hlt:=gP hS;simp only[ah]at h;cases h;cases hF;refine⟨some (aF,_),qA hlt _,λi b hw=>by cases hw;exact⟨by simp,rfl,hlt⟩,λT hT hx=>?_⟩;have:=hx aF (by simp);have hl:=hT (by simp);simp only[aM,this,hS,ah,ay];rw[qA (by omega)];rfl
   cases h
 case store t a b=>
  simp only[aM]at h;split at h
  .rename_i id off ha;simp only[ah,ha]at h;split at h
   .rename_i a' v' h1 h2;cases h1;unfold pX at h;split at h
    .rename_i td iT sD hk hpe;cases hpe;split at h
     .rename_i l hl;split at h;.rename_i hc;simp only[qG,af,sW,az]at h;obtain⟨l',h3,rfl,rfl,rfl⟩:=h;cases hF;refine⟨some (id,.cells l'),rfl,λi b hw=>by cases hw;exact⟨by simp,rfl,gP hl⟩,λT hT hx=>?_⟩;have:=hx id (by simp);simp only[aM,ha,ah,h2,pX,hk,this,hl,hc,if_true,h3,ay];rfl
      cases h
     cases h
    .rename_i hpe;cases hpe
    cases h
   cases h
  .rename_i id n off ha;simp only[ah,ha]at h;split at h
   .rename_i a' v' h1 h2;cases h1;unfold pX at h;split at h;.rename_i hpe;cases hpe
    .rename_i td iT n' sD hk hpe;cases hpe;split at h
     .rename_i e s l hop;have hl:=(mF hop).1;split at h;.rename_i hc;simp only[qG,af,sW,az]at h;obtain⟨l',h3,rfl,rfl,rfl⟩:=h;cases hF;refine⟨some (id,.op e s l' false),rfl,λi b hw=>by cases hw;exact⟨by simp,rfl,gP hl⟩,λT hT hx=>?_⟩;have:=hx id (by simp);simp only[aM,ha,ah,h2,pX,hk,Ih this,hop,hc,if_true,h3,ay];rfl
      cases h
     cases h
    cases h
   cases h
  cases h
 case makeSlice t a b=>simp only[aM]at h;cases h
 case buildSlice t n ps=>
  simp only[aM]at h;split at h;.cases h
  rename_i hh;simp only[af,az]at h;obtain⟨⟨d,S1⟩,h3,rfl,rfl,rfl⟩:=h;cases hF;obtain⟨h4,h5⟩:=Hu rfl hh h3;refine⟨none,h4,by simp,λT hT hx=>?_⟩;simp only[aM,h5 T aF,ay];rfl
 case fieldAddr t a f'=>
  simp only[aM]at h;split at h;.rename_i id n off ha;simp only[af,az]at h;obtain⟨⟨d,S1⟩,h3,rfl,rfl,rfl⟩:=h;cases hF;refine⟨none,(sj (T:=S) (λ_ _ _ _=>rfl) h3).1,by simp,λT hT hx=>?_⟩;have h5:=(sj (T:=T) (λiT n' sD he=>by rw[ha]at he;cases he;exact hx id (by simp)) h3).2 aF;simp only[aM,ha,h5,ay];rfl
  rename_i hno;simp only[af,az]at h;obtain⟨⟨d,S1⟩,h3,rfl,rfl,rfl⟩:=h;cases hF;refine⟨none,(sj (T:=S) (λ_ _ _ _=>rfl) h3).1,by simp,λT hT hx=>?_⟩;have h5:=(sj (T:=T) (λiT n' sD he=>absurd he (hno _ _ _)) h3).2 aF;simp only[aM,h5,ay];rfl
 case indexAddr t a i=>
  simp only[aM]at h;split at h;.rename_i id n ag ha;simp only[af,az]at h;obtain⟨⟨d,S1⟩,h3,rfl,rfl,rfl⟩:=h;cases hF;refine⟨none,(sg (T:=S) (λ_ _ _ _=>rfl) h3).1,by simp,λT hT hx=>?_⟩;have h5:=(sg (T:=T) (λiT n' sD he=>by rw[ha]at he;cases he;exact hx id (by simp)) h3).2 aF;simp only[aM,ha,h5,ay];rfl
  rename_i hno;simp only[af,az]at h;obtain⟨⟨d,S1⟩,h3,rfl,rfl,rfl⟩:=h;cases hF;refine⟨none,(sg (T:=S) (λ_ _ _ _=>rfl) h3).1,by simp,λT hT hx=>?_⟩;have h5:=(sg (T:=T) (λiT n' sD he=>absurd he (hno _ _ _)) h3).2 aF;simp only[aM,h5,ay];rfl
 case load t a=>
  simp only[aM]at h;split at h;.rename_i id off ha;simp only[ah,ha]at h;simp only[qG,af,sW,az]at h;obtain⟨d,h3,rfl,rfl,rfl⟩:=h;cases hF;refine⟨none,rfl,by simp,λT hT hx=>?_⟩;have:=hx id (by simp);simp only[aM,ha,ah,Sc this,h3,ay];rfl
  .rename_i id n off ha;simp only[ah,ha]at h;simp only[qG,af,sW,az]at h;obtain⟨d,h3,rfl,rfl,rfl⟩:=h;cases hF;refine⟨none,rfl,by simp,λT hT hx=>?_⟩;have:=hx id (by simp);simp only[aM,ha,ah,NW this,h3,ay];rfl
  rename_i hno TJ;simp only[ah]at h;split at h
  .rename_i a' ha;simp only[qG,af,sW,az]at h;obtain⟨d,h3,rfl,rfl,rfl⟩:=h;cases hF;refine⟨none,rfl,by simp,λT hT hx=>?_⟩;have hld:lE ty T t a'=some d:=by
    cases a' with
    |ptr id off=>exact absurd ha (hno id off)
    |gu id n off=>exact absurd ha (TJ id n off)
    |fq rows i off=>rw[<-h3];exact NX
    |_=>unfold lE at h3;split at h3<;>simp_all
   cases a' with
   |ptr id off=>exact absurd ha (hno id off)
   |gu id n off=>exact absurd ha (TJ id n off)
   |_=>simp only[aM,ha,ah,hld,ay];rfl
  cases h
 case lookup t m k ok=>
  simp only[aM]at h;split at h
  .rename_i id ha;simp only[ah,ha]at h;split at h
   .rename_i kv hm hk;cases hm;split at h;.rename_i es hS;simp only[qG,af,sW,az]at h;obtain⟨d,h3,rfl,rfl,rfl⟩:=h;cases hF;refine⟨none,rfl,by simp,λT hT hx=>?_⟩;have:=hx id (by simp);simp only[aM,ha,ah,hk,this,hS,h3,ay];rfl
    cases h
   cases h
  cases h
 case mapUpdate t m k a=>
  simp only[aM]at h;split at h
  .rename_i id ha;simp only[ah,ha]at h;split at h
   .rename_i iT kv vv hm hk hv;cases hm;split at h
    .rename_i es hS;split at h;.rename_i r hr;simp only[qG,af,sW,az]at h;obtain⟨es',h3,rfl,rfl,rfl⟩:=h;cases hF;refine⟨some (id,.map es'),rfl,λi b hw=>by cases hw;exact⟨by simp,rfl,gP hS⟩,λT hT hx=>?_⟩;have:=hx id (by simp);simp only[aM,ha,ah,hk,hv,this,hS,hr,h3,ay];rfl
     cases h
    cases h
   cases h
  cases h
 case call c=>
  obtain⟨callee,args,ats⟩:=c;cases callee with
  |invoke r m=>simp[aM,ah]at h
  |value g=>
   simp only[aM]at h;split at h
   .rename_i g' fs cs xs hf Qy;split at h;.rename_i hh;simp only[af,az]at h;obtain⟨⟨d,S1⟩,h3,rfl,rfl,rfl⟩:=h;cases hF;obtain⟨b,hn,hS,hT⟩:=RR h3;exact⟨some (aF,b),hS,λ_ _ hw=>by cases hw;exact⟨by simp,rfl,gP hn⟩,λT _ hx=>by simp only[aM,hf,Qy,if_pos hh,hT T ((hx aF (by simp)).trans hn),ay];rfl⟩
    rename_i hh;split at h;.rename_i hp;simp only[af,az]at h;obtain⟨d,h3,rfl,rfl,rfl⟩:=h;cases hF;exact⟨none,rfl,by simp,λT hT hx=>by simp only[aM,hf,Qy,if_neg hh,hp,if_true,h3,ay];rfl⟩
    rename_i hp;split at h;.rename_i i v1 l1 ho;cases h;cases hF;obtain⟨hi,hT⟩:=GL ho;exact⟨some (i,.cells l1),rfl,λ_ _ hw=>by cases hw;exact⟨by simp,rfl,hi⟩,λT _ hx=>by simp only[aM,hf,Qy,if_neg hh,if_neg hp,hT T (hx i (by simp))];rfl⟩
    rename_i ho;split at h;.rename_i R v1 S1 hmu;exact(hm ⟨g,args,ats,_,_,_,_,R,v1,S1,rfl,hf,Qy,hh,hp,ho,hmu⟩).elim
    simp only[af,az]at h;obtain⟨r,h3,rfl,rfl,rfl⟩:=h;cases hF
   .simp only[af,az]at h;obtain⟨r,h3,rfl,rfl,rfl⟩:=h;cases hF
   cases h
  |builtin b=>
   by_cases hb:b=.append
   .subst hb;simp only[aM]at h;split at h;.cases h
    rename_i hh;split at h;.cases h
    rename_i hsl;have afn:∀a da,args.toList[0]? =some a->ρ a=some da->Dl (some da)=false:=λa da h0 h1=>by
     have:args[0]? =some a:=by rw[<-kV];exact h0
     rw[this]at hsl;rw[<-h1];simpa using hsl
    have hstep:∀T:ai,ah P ty aK call yf ρ ⟨dst,.call ⟨.builtin .append,args,ats⟩,type,pos,after,guard⟩ T aF=match args.toList,ats.toList with
      |[x,y],[t,u]=>if t=u then match ρ x,ρ y with
        |some a,some b=>jW ty T aF t a b
        |_,_=>none
       else none
      |_,_=>none:=λT=>by
     simp only[ah];generalize args.toList=l at afn;generalize ats.toList=m
     match l,m with
     |[x,y],[t,u]=>
      dsimp only;cases hx:ρ x with
      |none=>rfl
      |some a=>
       cases ρ y with
       |none=>rfl
       |some b=>have h0:=afn x a rfl hx;cases a<;>first|(simp[Dl]at h0;done)|rfl|(dsimp only;split<;>first|exact absurd ‹_› hh|rfl)
     |[],_=>rfl
     |[_],_=>rfl
     |_::_::_::_,_=>rfl
     |[_,_],[]=>rfl
     |[_,_],[_]=>rfl
     |[_,_],_::_::_::_=>rfl
    have main:∀(r:DV×ai)(F:List Nat),ah P ty aK call yf ρ ⟨dst,.call ⟨.builtin .append,args,ats⟩,type,pos,after,guard⟩ S aF=some r->S[aF]? =some .none->aF∈F->(∀rw tk fl,(args[0]?).bind ρ=some (.sl rw (some tk) fl)->tk∈F)->(∀T:ai,T[aF]? =some .none->aM P ty aK call yf ρ ⟨dst,.call ⟨.builtin .append,args,ats⟩,type,pos,after,guard⟩ T aF=(ah P ty aK call yf ρ ⟨dst,.call ⟨.builtin .append,args,ats⟩,type,pos,after,guard⟩ T aF).map (λr=>(r.1,r.2,(⟨some F,true⟩:de))))->
      ∃w,Eff P ty aK call yf ρ ⟨dst,.call ⟨.builtin .append,args,ats⟩,type,pos,after,guard⟩ S aF r.1 r.2 ⟨some F,true⟩ F w:=by
     intro r F hr hS hnF htk HF;rw[hstep]at hr;split at hr
     .rename_i a b t u mS TP;split at hr
      .rename_i QA;split at hr
       .rename_i da db ha o8;obtain⟨w,w1,w2,w3⟩:=L9 (v:=r.1) (S':=r.2) hr (gP hS);have Fs:(args[0]?).bind ρ=some da:=by
         have:args[0]? =some a:=by rw[<-kV,mS];rfl
         rw[this];exact ha
        refine⟨w,w1,λi c hw=>?_,λT hT hx=>?_⟩
        .obtain⟨h1,h2⟩:=w2 i c hw;rcases h1 with rfl|⟨rw',tk,fl,rfl,rfl⟩;.exact⟨hnF,rfl,h2⟩
         exact⟨htk _ _ _ Fs,rfl,h2⟩
        have hl:=hT (List.ne_nil_of_mem hnF);have hT2:=(hx aF hnF).trans hS;have:=w3 T hl λrw' tk fl wz=>hx tk (htk rw' tk fl (by rw[Fs,wz]));rw[HF T hT2,hstep,mS,TP];simp only[if_pos QA,ha,o8,this,ay]
       cases hr
      cases hr
     cases hr
    split at h;.rename_i rw' tk fl hS o8;simp only[af,az]at h;obtain⟨r,h3,rfl,rfl,rfl⟩:=h;cases hF;exact main r [tk,aF] h3 hS (by simp) (λ_ _ _ he=>by rw[o8]at he;cases he;simp) λT hT=>by simp only[aM,if_neg hh,hT,o8,Dl,aI,if_false]
    .rename_i hS hno;simp only[af,az]at h;obtain⟨r,h3,rfl,rfl,rfl⟩:=h;cases hF;refine main r [aF] h3 hS (by simp) (λrw' tk fl he=>absurd he (hno rw' tk fl)) λT hT=>?_;simp only[aM,if_neg hh,if_neg hsl,hT]
    cases h
   have hop:vS (.call ⟨.builtin b,args,ats⟩):=by cases b<;>first|trivial|exact absurd rfl hb
   have HF:∀T,aM P ty aK call yf ρ ⟨dst,.call ⟨.builtin b,args,ats⟩,type,pos,after,guard⟩ T aF=(ah P ty aK call yf ρ ⟨dst,.call ⟨.builtin b,args,ats⟩,type,pos,after,guard⟩ T aF).map (λr=>(r.1,r.2,(⟨some [],false⟩:de))):=λT=>by cases b<;>first|rfl|exact absurd rfl hb
   rw[HF]at h;exact plain hop h HF
 all_goals exact plain trivial h λT=>rfl
structure afN (P:Program) (ty:fR) (aK:bR) (call:bt) (yf:ej) (ρ:Operand->Option DV) (o:Oper) (S:ai) (aF:Nat) (v:DV) (S':ai) (f:de) (F:List Nat) (A:ai->ai):Prop where
 res:S'=A S
 loc:∀T,(F≠[]->T.length=S.length)->(∀x∈F,T[x]? =S[x]?)->aM P ty aK call yf ρ o T aF=some (v,A T,f)
 len:∀T:ai,(A T).length=T.length
 out:∀(T:ai) id,(F≠[]->T.length=S.length)->¬(f.wr=true/\id∈F)->(A T)[id]? =T[id]?
 inn:∀(T:ai) id,id∈F->T.length=S.length->T[id]? =S[id]? ->(A T)[id]? =(A S)[id]?
theorem Qb{S T:ai}:∀{R:List Nat},(∀i∈R,T[i]? =S[i]?)->R.flatMap (HR T)=R.flatMap (HR S)
 |[],_=>rfl
 |i::R,h=>by
  have e:HR T i=HR S i:=by unfold HR;rw[h i (fH ..)]
  rw[cT,cT,e,Qb λj hj=>h j (jZ _ hj)]
theorem I3{S T:ai}{R:List Nat}(h:∀i∈rI S R,T[i]? =S[i]?):rI T R=rI S R:=by unfold rI;rw[Qb λi hi=>h i (qM _ hi)]
theorem WE{S T:ai}{args:List DV}(h:∀i∈jC S args,T[i]? =S[i]?):jC T args=jC S args:=by have h2:∀i∈rI S (rI S (args.flatMap Al)),T[i]? =S[i]? :=λi hi=>h i (qM _ hi);have h1:∀i∈rI S (args.flatMap Al),T[i]? =S[i]? :=λi hi=>h2 i (qM _ hi);unfold jC;rw[I3 h1,I3 h2,I3 h]
theorem aaB{S T:ai}(h:T.length=S.length)(i:Nat):(T[i]?).isSome=(S[i]?).isSome:=by
 by_cases h1:i<T.length;.rw[bP h1,bP (h▸h1)];rfl
 rw[fI (by omega),fI (by omega)]
theorem aaw{S T:ai}{R:List Nat}(hl:T.length=S.length)(h:∀i∈R,T[i]? =S[i]?):tI T R=tI S R:=by
 refine mA λi=>?_;simp only[tI,o5];by_cases hi:i∈R;.rw[h i hi]
 have e:R.contains i=false:=by simpa using hi
 have:=aaB hl i;rw[e];cases h1:T[i]?<;>cases h2:S[i]?<;>simp[h1,h2]at this⊢
theorem ag9{S T:ai}{R:List Nat}{Q:List Nat}(h:∀i∈R,T[i]? =S[i]?):R.all (kS T Q)=R.all (kS S Q):=by rw[Bool.eq_iff_iff,aX,aX];exact⟨λk i hi=>by have:=k i hi;unfold kS at this⊢;rwa [h i hi]at this,λk i hi=>by have:=k i hi;unfold kS at this⊢;rwa [h i hi]⟩
theorem R4{g:FuncId}{args:List DV}{S S1:ai}{R:List Nat}{v:DV}(h:ov call g args S=some (R,v,S1)):R≠[]/\∀T:ai,T.length=S.length->(∀x∈R,T[x]? =S[x]?)->ov call g args T=some (R,v,S1):=by
 have h0:=h;unfold ov at h;split at h
 .rename_i hq;split at h
  .split at h
   .cases h;refine⟨λe=>?_,λT hl hT=>?_⟩;.rw[e]at hq;simp at hq
    unfold ov at h0⊢;rw[WE hT,aaw hl hT,ag9 hT];exact h0
   cases h
  cases h
 cases h
theorem ag7{ρ:Operand->Option DV}{o:Oper}{S S':ai}{aF:Nat}{v:DV}{f:de}{F:List Nat}{w:Option (Nat×DB)}(h:Eff P ty aK call yf ρ o S aF v S' f F w):afN P ty aK call yf ρ o S aF v S' f F (appW w) where
 res:=h.res
 loc:=h.loc
 len:=λT=>by cases w<;>simp[appW]
 out:=λT id hl hn=>by
  cases w with
  |none=>rfl
  |some p=>obtain⟨i,b⟩:=p;obtain⟨q1,q2,-⟩:=h.FI i b rfl;simp only[appW];rw[aH,if_neg];rintro rfl;exact hn ⟨q2,q1⟩
 inn:=λT id hi hl hT=>by
  cases w with
  |none=>exact hT
  |some p=>obtain⟨i,b⟩:=p;simp only[appW];rw[aH,aH,hl,hT]
theorem W6{g:FuncId}{args:List DV}{S S1 T:ai}{R:List Nat}{v v2:DV}{i:Nat}{l:List DV}(h:ov call g args S=some (R,v,S1))(ho:pQ call g args T=some (i,v2,l)):i∈R:=by
 unfold ov at h;split at h
 .split at h
  .split at h
   .cases h;unfold pQ at ho;split at ho
    .rename_i j off rest;split at ho
     .split at ho
      .split at ho
       .split at ho;.cases ho;unfold jC rI;simp[Al]
        cases ho
       cases ho
      cases ho
     cases ho
    cases ho
   cases h
  cases h
 cases h
theorem VE{ρ:Operand->Option DV}{o:Oper}{S S':ai}{aF:Nat}{v:DV}{f:de}(h:aM P ty aK call yf ρ o S aF=some (v,S',f)){F:List Nat}(hF:f.ids=some F):∃A,afN P ty aK call yf ρ o S aF v S' f F A:=by
 by_cases hm:aco P ty aK call yf ρ o S
 .obtain⟨c,args,ats,g,fs,cs,xs,R,v1,S1,k1,k2,k3,k4,k5,k6,k7⟩:=hm;obtain⟨dst,op,type,pos,after,guard⟩:=o;simp only at k1;subst k1;simp only[aM,k2,k3,if_neg k4,if_neg k5,k6,k7,aB,az]at h;obtain⟨rfl,rfl,rfl⟩:=h;cases hF;obtain⟨hne,kZ⟩:=R4 k7;refine⟨λT=>lH T S1 F,rfl,λT hl hT=>?_,λT=>by simp[lH],λT id _ hn=>iX λhi=>hn ⟨rfl,hi⟩,λT id hi hl hT=>?_⟩
  .have k6':pQ call g (fs++xs++cs) T=none:=by
    cases e:pQ call g (fs++xs++cs) T with
    |none=>rfl
    |some p=>obtain⟨i,v2,l2⟩:=p;obtain⟨-,hT2⟩:=GL e;have hi:i∈F:=W6 k7 e;rw[hT2 S (hT i hi).symm]at k6;cases k6
   simp only[aM,k2,k3,if_neg k4,if_neg k5,k6',kZ T (hl hne) hT]
  simp only[lH,o5,hT]
 obtain⟨w,hw⟩:=aaX h hF hm;exact⟨_,ag7 hw⟩
end Go.Di
namespace Go.Di
open Go Go.Conc Go.Co
open Go.ConcN (upd upd_same upd_ne)
variable {P:Program} {aa:Machine->Trace->Prop} {ty:fR} {x:Cx} {aK:bR} {call:bt} {yf:ej}
theorem Jk{ρ ρ':Operand->Option DV}{o:Oper}{S:ai}{aF:Nat}(h:∀a∈o.op.operands,ρ a=ρ' a):aM P ty aK call yf ρ o S aF=aM P ty aK call yf ρ' o S aF:=by
 have hs:=zT (P:=P) (ty:=ty) (aK:=aK) (call:=call) (yf:=yf) (S:=S) (aF:=aF) h;unfold aM;split;.rw[hs]
 .rw[hs]
 .rw[hs]
 .rename_i t a v hop;rw[hop]at h;rw[h a (by simp[Op.operands]),hs]
 .rename_i t a v hop;rw[hop]at h;rw[h a (by simp[Op.operands]),hs]
 .rename_i t a v hop;rw[hop]at h;rw[h a (by simp[Op.operands]),hs]
 .rw[hs]
 .rfl
 .rename_i t m k ok hop;rw[hop]at h;rw[h m (by simp[Op.operands]),hs]
 .rename_i t m k v hop;rw[hop]at h;rw[h m (by simp[Op.operands]),hs]
 .rename_i t a hop;rw[hop]at h;rw[h a (by simp[Op.operands]),hs]
 .rename_i args ats hop;rw[hop]at h;have:(args[0]?).bind ρ=(args[0]?).bind ρ':=by
   cases ha:args[0]? with
   |none=>rfl
   |some a=>exact h a (by simp[Op.operands,Call.operands,Array.mem_of_getElem? ha])
  rw[this,hs]
 .rename_i f args ats hop;rw[hop]at h;have h1:ρ f=ρ' f:=h f (by simp[Op.operands,Call.operands]);have h2:=nk (ρ:=ρ) (ρ':=ρ') (l:=args.toList) λa ha=>h a (by simp[Op.operands,Call.operands]at ha⊢;exact .inr ha);rw[h1,h2]
 rw[hs]
def abk:Op->Prop
 |.call {callee:=.value _,.. }=>False
 |_=>True
theorem eu{c1 c2:bt}{ρ:Operand->Option DV}{o:Oper}{S:ai}{aF:Nat}(h:abk o.op):ah P ty aK c1 yf ρ o S aF=ah P ty aK c2 yf ρ o S aF:=by
 obtain⟨dst,op,type,pos,after,guard⟩:=o;cases op
 case call c=>
  obtain⟨callee,args,ats⟩:=c;cases callee with
  |value f=>exact h.elim
  |builtin b=>simp only[ah]
  |invoke r m=>simp only[ah]
 case makeFunc fn a b=>cases fn<;>simp only[ah]
 case makeMap t r=>cases r<;>simp only[ah]
 all_goals first
  |rfl
  |simp only[ah]
theorem aaW{ρ:Operand->Option DV}{o:Oper}{S S':ai}{aF:Nat}{v:DV}{f:de}(h:aM P ty aK call yf ρ o S aF=some (v,S',f)):∃qm cl,(cl=Kj call\/cl=yB call aF)/\Fi S qm/\ah P ty aK cl yf ρ o S qm=some (v,S'):=by
 suffices hs:(∃qm,Fi S qm/\ah P ty aK (Kj call) yf ρ o S qm=some (v,S'))\/∃qm,Fi S qm/\ah P ty aK (yB call aF) yf ρ o S qm=some (v,S')by
  rcases hs with ⟨n,h1,h2⟩|⟨n,h1,h2⟩;.exact⟨n,_,.inl rfl,h1,h2⟩
  exact⟨n,_,.inr rfl,h1,h2⟩
 obtain⟨dst,op,type,pos,after,guard⟩:=o;have mp:∀{q:Option (DV×ai)}{g:DV×ai->de},q.map (λr=>(r.1,r.2,g r))=some (v,S',f)->q=some (v,S'):=by intro q g hq;simp only[af,az]at hq;obtain⟨⟨a,b⟩,h1,h2,h3,-⟩:=hq;rw[h1,<-h2,<-h3]
 have plain:∀{q:ai->Nat->Option (DV×ai)},(∀n m,q S n=q S m)->q S aF=some (v,S')->∃qm,Fi S qm/\q S qm=some (v,S'):=λhq h=>⟨S.length,.inl rfl,by rw[hq _ aF];exact h⟩;cases op
 case alloc e=>
  simp only[aM]at h;split at h;.rename_i hS;exact .inl ⟨aF,.inr hS,(eu (c2:=call) (by trivial)).trans (mp h)⟩
  cases h
 case box e a=>
  simp only[aM]at h;split at h;.rename_i hS;exact .inl ⟨aF,.inr hS,(eu (c2:=call) (by trivial)).trans (mp h)⟩
  cases h
 case makeMap e a=>
  simp only[aM]at h;split at h;.rename_i hS;exact .inl ⟨aF,.inr hS,(eu (c2:=call) (by trivial)).trans (mp h)⟩
  cases h
 case store t a b=>
  simp only[aM]at h;split at h;.exact .inl ⟨S.length,.inl rfl,(eu (c2:=call) (by trivial)).trans (mp h)⟩
  .exact .inl ⟨S.length,.inl rfl,(eu (c2:=call) (by trivial)).trans (mp h)⟩
  cases h
 case makeSlice t a b=>simp only[aM]at h;cases h
 case buildSlice t n ps=>
  simp only[aM]at h;split at h;.cases h
  rename_i hh;obtain⟨h1,h2⟩:=Hu rfl hh (mp h);subst h1;exact .inl ⟨S'.length,.inl rfl,(eu (c2:=call) (by trivial)).trans (h2 _ _)⟩
 case fieldAddr t a i=>
  simp only[aM]at h;split at h;all_goals
   obtain⟨h1,h2⟩:=sj (T:=S) (λ_ _ _ _=>rfl) (mp h);subst h1;exact .inl ⟨S'.length,.inl rfl,(eu (c2:=call) (by trivial)).trans (h2 _)⟩
 case indexAddr t a i=>
  simp only[aM]at h;split at h;all_goals
   obtain⟨h1,h2⟩:=sg (T:=S) (λ_ _ _ _=>rfl) (mp h);subst h1;exact .inl ⟨S'.length,.inl rfl,(eu (c2:=call) (by trivial)).trans (h2 _)⟩
 case load t a=>
  simp only[aM]at h;split at h;.exact .inl ⟨S.length,.inl rfl,(eu (c2:=call) (by trivial)).trans (mp h)⟩
  .exact .inl ⟨S.length,.inl rfl,(eu (c2:=call) (by trivial)).trans (mp h)⟩
  exact .inl ⟨S.length,.inl rfl,(eu (c2:=call) (by trivial)).trans (mp h)⟩
 case lookup t m k ok=>
  simp only[aM]at h;split at h;.exact .inl ⟨S.length,.inl rfl,(eu (c2:=call) (by trivial)).trans (mp h)⟩
  cases h
 case mapUpdate t m k a=>
  simp only[aM]at h;split at h;.exact .inl ⟨S.length,.inl rfl,(eu (c2:=call) (by trivial)).trans (mp h)⟩
  cases h
 case call c=>
  obtain⟨callee,args,ats⟩:=c;cases callee with
  |invoke r m=>simp[aM,ah]at h
  |value g=>
   simp only[aM]at h;by_cases h1:ty.h ⟨dst,.call ⟨.value g,args,ats⟩,type,pos,after,guard⟩=1
   .refine .inr ⟨S.length,.inl rfl,?_⟩;simp only[ah];split at h;.rw[if_pos h1]at h;rw[h1];exact mp h
    .exact mp h
    cases h
   refine .inl ⟨S.length,.inl rfl,?_⟩;simp only[ah];split at h
   .rename_i g' fs cs xs hf Qy;split at h;.exact absurd ‹_› h1
    rename_i hh;simp only[wO];split at h;.rename_i hp;simp only[af,az]at h;obtain⟨d,h3,rfl,rfl,-⟩:=h;rw[if_pos hp,h3]
    rename_i hp;rw[if_neg hp];unfold Kj;split at h;.rename_i ho;cases h;rfl
    unfold OR;split at h;.rename_i ho;cases h;rfl
    exact mp h
   .exact mp h
   cases h
  |builtin b=>
   by_cases hb:b=.append
   .subst hb;simp only[aM]at h;split at h;.cases h
    split at h;.cases h
    split at h;.rename_i hS _;exact .inl ⟨aF,.inr hS,(eu (c2:=call) (by trivial)).trans (mp h)⟩
    .rename_i hS _;exact .inl ⟨aF,.inr hS,(eu (c2:=call) (by trivial)).trans (mp h)⟩
    cases h
   have HF:aM P ty aK call yf ρ ⟨dst,.call ⟨.builtin b,args,ats⟩,type,pos,after,guard⟩ S aF=(ah P ty aK call yf ρ ⟨dst,.call ⟨.builtin b,args,ats⟩,type,pos,after,guard⟩ S aF).map (λr=>(r.1,r.2,(⟨some [],false⟩:de))):=by cases b<;>first|rfl|exact absurd rfl hb
   rw[HF]at h;have hop:vS (.call ⟨.builtin b,args,ats⟩):=by cases b<;>first|trivial|exact absurd rfl hb
   obtain⟨h1,h2⟩:=D8 hop (mp h);subst h1;exact .inl ⟨S'.length,.inl rfl,(eu (c2:=call) (by trivial)).trans (h2 _ _)⟩
 all_goals
  simp only[aM]at h;obtain⟨h1,h2⟩:=D8 (by trivial) (mp h);subst h1;exact .inl ⟨S'.length,.inl rfl,(eu (c2:=call) (by trivial)).trans (h2 _ _)⟩
theorem VD{ρ:Operand->Option DV}{o:Oper}{S S':ai}{aF:Nat}{v:DV}{f:de}(h:aM P ty aK call yf ρ o S aF=some (v,S',f))(hf:f.ids=none):f.wr=true:=by
 have mp:∀{q:Option (DV×ai)}{l:List Nat}{b:Bool},q.map (λr=>(r.1,r.2,(⟨some l,b⟩:de)))=some (v,S',f)->False:=by intro q l b hq;simp only[af,az]at hq;obtain⟨_,-,-,-,rfl⟩:=hq;cases hf
 have mt:∀{q:Option (DV×ai)},q.map (λr=>(r.1,r.2,(⟨none,true⟩:de)))=some (v,S',f)->f.wr=true:=by intro q hq;simp only[af,az]at hq;obtain⟨_,-,-,-,rfl⟩:=hq;rfl
 unfold aM at h;split at h
 case h_13=>
  split at h
  .simp only at h;split at h;.exact(mp h).elim
   split at h;.simp only[af,az]at h;obtain⟨_,-,-,-,rfl⟩:=h;cases hf
   split at h;.cases h;cases hf
   split at h;.cases h;cases hf
   exact mt h
  .exact mt h
  cases h
 all_goals (repeat' split at h)
 all_goals first
  |exact(mp h).elim
  |cases h
def touch(F:Nat->de)(j id:Nat):Bool:=(F j).wr&&match(F j).ids with
 |none=>true
 |some l=>l.contains id
def top(F:Nat->de)(j:Nat):Bool:=(F j).wr&&(F j).ids.isNone
def nU{α:Type}(W:Nat->Bool)(R:Nat->α)(d:α)(L:Nat->Bool):Nat->α
 |0=>d
 |n+1=>if L n&&W n then R n else nU W R d L n
theorem iB{α:Type}{W:Nat->Bool}{R:Nat->α}{d:α}{L:Nat->Bool}{i:Nat}:∀{n:Nat},i<=n->(∀j,j<n->W j=true->(L j=true↔j<i))->nU W R d L n=nU W R d (λ_=>true) i
 |0,h,_=>by
  have:i=0:=by omega
  subst this;rfl
 |n+1,h,hj=>by
  by_cases o7:i=n+1
  .subst o7;unfold nU;by_cases hd:W n=true;.have:=(hj n (by omega) hd).2 (by omega);simp only[this,hd,fT,if_true]
   simp only[aC,hd,and_false,if_false,aI];exact iB (ak _) λj h1 h2=>⟨λ_=>h1,λ_=>(hj j (qI h1) h2).2 (qI h1)⟩
  have hle:i<=n:=by omega
  rw[<-iB hle λj h1 h2=>hj j (by omega) h2]
  conv=>lhs;unfold nU
  by_cases hd:W n=true
  .have:L n=false:=by
    cases hLn:L n with
    |false=>rfl
    |true=>have:=(hj n (by omega) hd).1 hLn;omega
   rw[this];simp
  simp[hd]
theorem nX{α:Type}{W:Nat->Bool}{R:Nat->α}{d:α}{L:Nat->Bool}{i:Nat}(hd:W i=false):∀n,nU W R d (upd L i true) n=nU W R d L n
 |0=>rfl
 |n+1=>by
  unfold nU;rw[nX hd n];by_cases h:n=i;.subst h;simp[hd]
  rw[upd_ne _ _ h]
theorem xV{α:Type}{W:Nat->Bool}{R:Nat->α}{d:α}{i:Nat}(hd:W i=true):nU W R d (λ_=>true) (i+1)=R i:=by unfold nU;simp[hd]
structure UQ (P:Program) (ty:fR) (aK:bR) (call:bt) (yf:ej) (ops:Array Oper) (n0:Nat) (E:Nat->List DV) (V:Nat->DV) (M:Nat->ai) (F:Nat->de):Prop where
 env:OV ops V E
 yes:∀j o,ops[j]? =some o->cD ops (E j) o=true->aM P ty aK call yf (jr (E j)) o (M j) (n0+j)=some (V j,M (j+1),F j)
 no:∀j o,ops[j]? =some o->cD ops (E j) o=false->V j=bF/\M (j+1)=M j/\F j=⟨some [],false⟩
theorem GC{ops:Array Oper}{n0:Nat}:∀{r:List Oper}{i:Nat}{env aL:List DV}{S S':ai}{fs:List de},tG P ty aK call yf ops n0 r i env S=some (aL,S',fs)->
  ∃(E:Nat->List DV)(V:Nat->DV)(M:Nat->ai)(F:Nat->de),E 0=env/\E r.length=aL/\M 0=S/\M r.length=S'/\(fs.length=r.length/\∀j,j<r.length->fs[j]? =some (F j))/\
   ∀j o,r[j]? =some o->E (j+1)=ku (E j) o.dst (V j)/\(cD ops (E j) o=true->aM P ty aK call yf (jr (E j)) o (M j) (n0+(i+j))=some (V j,M (j+1),F j))/\(cD ops (E j) o=false->V j=bF/\M (j+1)=M j/\F j=⟨some [],false⟩)
 |[],i,env,aL,S,S',fs,h=>by simp only[tG,aB,az]at h;obtain⟨rfl,rfl,rfl⟩:=h;exact⟨λ_=>env,λ_=>bF,λ_=>S,λ_=>⟨some [],false⟩,rfl,rfl,rfl,rfl,⟨rfl,by simp⟩,by simp⟩
 |o::r,i,env,aL,S,S',fs,h=>by
  unfold tG at h;have key:∀v S1 f rK xk TQ,tG P ty aK call yf ops n0 r (i+1) (ku env o.dst v) S1=some (rK,xk,TQ)->(cD ops env o=true->aM P ty aK call yf (jr env) o S (n0+i)=some (v,S1,f))->(cD ops env o=false->v=bF/\S1=S/\f=⟨some [],false⟩)->some (rK,xk,f::TQ)=some (aL,S',fs)->
    ∃(E:Nat->List DV)(V:Nat->DV)(M:Nat->ai)(F:Nat->de),E 0=env/\E (o::r).length=aL/\M 0=S/\M (o::r).length=S'/\(fs.length=(o::r).length/\∀j,j<(o::r).length->fs[j]? =some (F j))/\
     ∀j o',(o::r)[j]? =some o'->E (j+1)=ku (E j) o'.dst (V j)/\(cD ops (E j) o'=true->aM P ty aK call yf (jr (E j)) o' (M j) (n0+(i+j))=some (V j,M (j+1),F j))/\(cD ops (E j) o'=false->V j=bF/\M (j+1)=M j/\F j=⟨some [],false⟩):=by
   intro v S1 f rK xk TQ h1 h2 h3 h4;cases h4;obtain⟨E,V,M,F,e1,e2,e3,e4,e5,e6⟩:=GC h1;refine⟨λn=>match n with|0=>env|n+1=>E n,λn=>match n with|0=>v|n+1=>V n,λn=>match n with|0=>S|n+1=>M n,λn=>match n with|0=>f|n+1=>F n,rfl,by simpa using e2,rfl,by simpa using e4,⟨by simp[e5.1],λj hj=>?_⟩,λj o' mK=>?_⟩
   .cases j with
    |zero=>rfl
    |succ j=>simpa using e5.2 j (by simpa using hj)
   cases j with
   |zero=>simp only[bY,aB]at mK;subst mK;exact⟨e1,λhw=>by have:=h2 hw;rw[<-e3]at this;exact this,λhw=>by have:=h3 hw;rw[<-e3]at this;exact this⟩
   |succ j=>
    have:=e6 j o' (by simpa using mK);have e:i+(j+1)=i+1+j:=by omega
    rw[e];exact this
  split at h
  .rename_i hw;split at h
   .rename_i v S1 f h1;split at h;.rename_i rK xk TQ h2;exact key v S1 f _ _ _ h2 (λ_=>h1) (λhf=>by rw[hw]at hf;cases hf) h
    cases h
   cases h
  rename_i hw;split at h;.rename_i rK xk TQ h2;exact key bF S ⟨some [],false⟩ _ _ _ h2 (λht=>absurd ht hw) (λ_=>⟨rfl,rfl,rfl⟩) h
  cases h
theorem aee{ops:Array Oper}{n0:Nat}{env aL:List DV}{S S':ai}{fs:List de}(h:tG P ty aK call yf ops n0 ops.toList 0 env S=some (aL,S',fs)):
  ∃(E:Nat->List DV)(V:Nat->DV)(M:Nat->ai)(F:Nat->de),UQ P ty aK call yf ops n0 E V M F/\E 0=env/\E ops.size=aL/\M 0=S/\M ops.size=S'/\∀j,j<ops.size->fs[j]? =some (F j):=by
 obtain⟨E,V,M,F,e1,e2,e3,e4,e5,e6⟩:=GC h;refine⟨E,V,M,F,⟨λj o ho=>(e6 j o (by simpa using ho)).1,λj o ho hw=>?_,λj o ho hw=>(e6 j o (by simpa using ho)).2.2 hw⟩,e1,by simpa using e2,e3,by simpa using e4,λj hj=>e5.2 j (by simpa using hj)⟩;have:=(e6 j o (by simpa using ho)).2.1 hw;simpa using this
theorem run_store{ops:Array Oper}{n0:Nat}{E:Nat->List DV}{V:Nat->DV}{M:Nat->ai}{F:Nat->de}(h:UQ P ty aK call yf ops n0 E V M F)(id:Nat):∀i,i<=ops.size->
  (M i)[id]? =nU (λj=>touch F j id) (λj=>(M (j+1))[id]?) ((M 0)[id]?) (λ_=>true) i/\(M i).length=nU (top F) (λj=>(M (j+1)).length) (M 0).length (λ_=>true) i
 |0,_=>⟨rfl,rfl⟩
 |i+1,hi=>by
  have ho:ops[i]? =some ops[i]:=ct (by omega);obtain⟨Qx,SC⟩:=run_store h id i (by omega);unfold nU;simp only[Bool.true_and];rw[<-Qx,<-SC];cases hw:cD ops (E i) ops[i]with
  |false=>obtain⟨h1,h2,h3⟩:=h.no i _ ho hw;rw[h2];simp
  |true=>
   have hs:=h.yes i _ ho hw;cases rF:(F i).ids with
   |none=>have:=VD hs rF;simp[touch,top,rF,this]
   |some l=>
    obtain⟨A,w⟩:=VE hs rF;constructor
    .split;.rfl
     rename_i hnt;rw[w.res];exact w.out _ _ (λ_=>rfl) λ⟨q2,q1⟩=>hnt (by simp[touch,q2,rF,q1])
    rw[w.res,w.len];simp[top,rF]
theorem aex{b:Array Nat}{fs:List de}(h:ur b fs=true){i j:Nat}{f g:de}(hi:fs[i]? =some f)(hj:fs[j]? =some g)(hne:i≠j)(hm:f.meets g=true):(b.getD j 0).testBit i=true\/(b.getD i 0).testBit j=true:=by
 unfold ur at h;simp only[aX]at h;have h1:=h (f,i) (by rw[vR];exact hi) (g,j) (by rw[vR];exact hj);have h2:(i==j)=false:=by simpa using hne
 simp only[h2,hm,gn,Bool.or_false,Bool.false_or,gY]at h1;exact h1
end Go.Di
