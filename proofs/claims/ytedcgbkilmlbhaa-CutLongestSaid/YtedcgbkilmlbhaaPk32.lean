import Derived.Test.YtedcgbkilmlbhaaPk31
namespace Go.Di
open Go Go.Conc Go.Co
open Go.ConcN (upd upd_same upd_ne)
variable {P:Program} {aa:Machine->Trace->Prop} {ty:fP} {x:Cx} {aI:bS} {call:bt} {yf:ew}
def appW(w:Option (Nat×DB))(S:ai):ai:=match w with
 |none=>S
 |some (i,b)=>S.set i b
theorem qH{S:ai}{i:Nat}(h:i<S.length)(b:DB):eW S i b=S.set i b:=by unfold eW;rw[if_pos h]
theorem hU{S:ai}{i:Nat}{b:DB}(h:S[i]? =some b):i<S.length:=(az.1 h).1
def wo:Op->Prop
 |.alloc _|.box .. |.makeMap .. |.load .. |.store .. |.lookup .. |.mapUpdate .. |.makeSlice .. |.buildSlice .. |.fieldAddr .. |.indexAddr .. =>False
 |.call {callee:=.builtin .append,.. }=>False
 |.call {callee:=.builtin _,.. }=>True
 |.call _=>False
 |_=>True
theorem map_fst{β:Type}(q:Option β)(f:β->DV)(S T:ai):q.map (λc=>(f c,S))=((q.map (λc=>(f c,T))).map (·.1)).map (·,S):=by cases q<;>rfl
theorem E2{ρ:Operand->Option DV}{o:Oper}(hop:wo o.op)(S:ai)(aD:Nat):ah P ty aI call yf ρ o S aD=((ah P ty aI call yf ρ o [] 0).map (·.1)).map (·,S):=by
 obtain⟨dst,op,type,pos,after,guard⟩:=o;cases op<;>simp only[wo]at hop
 case call c=>
  obtain⟨callee,args,ats⟩:=c;cases callee with
  |builtin b=>
   simp only[ah];generalize args.toList=l;generalize ats.toList=m;split;.split<;>first|rfl|exact map_fst (f:=id) _ S []
   .exact hop.elim
   .split<;>first|rfl|exact map_fst (f:=id) _ S []
   .split<;>first|rfl|exact map_fst (f:=id) _ S []
   rfl
  |value f=>exact hop.elim
  |invoke r m=>exact hop.elim
 case makeFunc fn fs cs=>cases fn<;>simp only[ah]<;>(repeat' split)<;>rfl
 all_goals simp only[ah]
 all_goals (repeat' split)
 all_goals first
  |rfl
  |exact map_fst (f:=id) _ S []
  |exact map_fst _ _ S []
theorem Em{ρ:Operand->Option DV}{o:Oper}(hop:wo o.op){S S':ai}{aD:Nat}{v:DV}(h:ah P ty aI call yf ρ o S aD=some (v,S')):S'=S/\∀T qx,ah P ty aI call yf ρ o T qx=some (v,T):=by rw[E2 hop]at h;simp only[af,ay]at h;obtain⟨d,h1,h2,h3⟩:=h;refine⟨h3.symm,λT qx=>?_⟩;rw[E2 hop];simp only[af,ay];exact⟨d,h1,h2,trivial⟩
structure Eff (P:Program) (ty:fP) (aI:bS) (call:bt) (yf:ew) (ρ:Operand->Option DV) (o:Oper) (S:ai) (aD:Nat) (v:DV) (S':ai) (f:dm) (F:List Nat) (w:Option (Nat×DB)):Prop where
 res:S'=appW w S
 FQ:∀i b,w=some (i,b)->i∈F/\f.wr=true/\i<S.length
 loc:∀T,(F≠[]->T.length=S.length)->(∀x∈F,T[x]? =S[x]?)->aJ P ty aI call yf ρ o T aD=some (v,appW w T,f)
theorem Sw{S T:ai}{t:TypeId}{id off:Nat}(h:T[id]? =S[id]?):lH ty T t (.ptr id off)=lH ty S t (.ptr id off):=by
 unfold lH;cases ty t with
 |none=>rfl
 |some d=>simp only[h]
theorem Ob{S T:ai}{t:TypeId}{rows:List DV}{i off:Nat}:lH ty T t (.fF rows i off)=lH ty S t (.fF rows i off):=by unfold lH;cases ty t<;>rfl
theorem Ir{S T:ai}{id n:Nat}(h:T[id]? =S[id]?):CS T id n=CS S id n:=by unfold CS;rw[h]
theorem Oa{S T:ai}{t:TypeId}{id n off:Nat}(h:T[id]? =S[id]?):lH ty T t (.gD id n off)=lH ty S t (.gD id n off):=by
 unfold lH;cases ty t with
 |none=>rfl
 |some d=>simp only[Ir h]
theorem sI{ρ:Operand->Option DV}{dst:Option Tmp}{t type:TypeId}{a:Operand}{f:Nat}{pos:String}{after:Array Edge}{guard:Option (Nat×Bool)}{S S' T:ai}{aD:Nat}{v:DV}(hT:∀id n off,ρ a=some (.gD id n off)->T[id]? =S[id]?)
  (h:ah P ty aI call yf ρ ⟨dst,.fieldAddr t a f,type,pos,after,guard⟩ S aD=some (v,S')):S'=S/\∀qx,ah P ty aI call yf ρ ⟨dst,.fieldAddr t a f,type,pos,after,guard⟩ T qx=some (v,T):=by
 simp only[ah]at h⊢;split at h
 .rename_i hk ha;split at h
  .rename_i hf;split at h;.rename_i hs;cases h;exact⟨rfl,λ_=>by simp only[hk,ha,hf,if_pos hs]⟩
   cases h
  cases h
 .rename_i hk ha;split at h
  .rename_i hf;split at h;.rename_i hs;cases h;exact⟨rfl,λ_=>by simp only[hk,ha,hf,if_pos hs]⟩
   cases h
  cases h
 .rename_i hk ha;split at h
  .rename_i hf hop;split at h;.rename_i hs;cases h;exact⟨rfl,λ_=>by simp only[hk,ha,hf,Ir (hT _ _ _ ha),hop,if_pos hs]⟩
   cases h
  cases h
 cases h
theorem sG{ρ:Operand->Option DV}{dst:Option Tmp}{t type:TypeId}{a i:Operand}{pos:String}{after:Array Edge}{guard:Option (Nat×Bool)}{S S' T:ai}{aD:Nat}{v:DV}(hT:∀id n ag,ρ a=some (.jx id n ag)->T[id]? =S[id]?)
  (h:ah P ty aI call yf ρ ⟨dst,.indexAddr t a i,type,pos,after,guard⟩ S aD=some (v,S')):S'=S/\∀qx,ah P ty aI call yf ρ ⟨dst,.indexAddr t a i,type,pos,after,guard⟩ T qx=some (v,T):=by
 simp only[ah]at h⊢;split at h
 .rename_i hk ha hi;split at h
  .rename_i h0;split at h
   .rename_i r hr;split at h;.rename_i hs;cases h;exact⟨rfl,λ_=>by simp only[hk,ha,hi,if_pos h0,hr,if_pos hs]⟩
    cases h
   cases h
  cases h
 .rename_i hk ha hi;split at h;.rename_i h0;cases h;exact⟨rfl,λ_=>by simp only[hk,ha,hi,if_pos h0]⟩
  cases h
 .rename_i hk ha hi;split at h;.rename_i h0;cases h;exact⟨rfl,λ_=>by simp only[hk,ha,hi,if_pos h0]⟩
  cases h
 .rename_i hk ha hi;split at h
  .rename_i hop;split at h;.rename_i h0;cases h;exact⟨rfl,λ_=>by simp only[hk,ha,hi,Ir (hT _ _ _ ha),hop,if_pos h0]⟩
   cases h
  cases h
 cases h
theorem HJ{ρ:Operand->Option DV}{o:Oper}{t:TypeId}{n:Nat}{ps:Array (Nat×Operand)}{S S':ai}{aD:Nat}{v:DV}(ho:o.op=.buildSlice t n ps)(hh:ty.h o≠1)
  (h:ah P ty aI call yf ρ o S aD=some (v,S')):S'=S/\∀(T:ai)(qx:Nat),ah P ty aI call yf ρ o T qx=some (v,T):=by
 simp only[ah,ho]at h⊢;split at h
 .rename_i hk hl;split at h
  .rename_i he;split at h
   .rename_i hc;split at h
    .rename_i hf;split at h;.rename_i hp;cases h;exact⟨rfl,λT qx=>by simp only[if_pos hc,if_pos hp]⟩
     cases h
    cases h
   cases h
  cases h
 cases h
theorem Mt{S S':ai}{aD:Nat}{t:TypeId}{a b v:DV}(h:jZ ty S aD t a b=some (v,S'))(hn:aD<S.length):∃w,S'=appW w S/\(∀i c,w=some (i,c)->(i=aD\/∃r tk f,a=.sl r (some tk) f/\i=tk)/\i<S.length)/\
  ∀T:ai,T.length=S.length->(∀r tk f,a=.sl r (some tk) f->T[tk]? =S[tk]?)->jZ ty T aD t a b=some (v,appW w T):=by
 unfold jZ at h⊢;split at h
 .rename_i e s lU agg sz z rows tok full news FI ace htt;split at h;.rename_i wS;cases h;exact⟨none,rfl,by simp,λT _ _=>by simp only[wS,if_true];rfl⟩
  rename_i wS;split at h
  .rename_i hte;split at h
   .rename_i hc;cases tok with
    |none=>
     simp only at h;split at h
     .rename_i hf;cases h;refine⟨some (aD,.tail e s ((rows.length+news.length)*s)),qH hn _,λi c hw=>?_,λT hT _=>?_⟩;.cases hw;exact⟨.inl rfl,hn⟩
      simp only[wS,hc,hf,if_true,aG,if_false];rw[qH (by omega)];rfl
     cases h
    |some tk=>
     simp only at h;split at h
     .rename_i e' s' n' hS;split at h
      .rename_i Aw;cases h;refine⟨some (tk,.tail e s ((rows.length+news.length)*s)),rfl,λi c hw=>?_,λT hT hl=>?_⟩;.cases hw;exact⟨.inr ⟨rows,tk,full,rfl,rfl⟩,hU hS⟩
       have hT2:T[tk]? =some (.tail e' s' n'):=(hl rows tk full rfl).trans hS;simp only[wS,hc,hT2,Aw,if_true,aG,if_false];rfl
      cases h
     cases h
   cases h
  cases h
 cases h
theorem GW{g:FuncId}{args:List DV}{S:ai}{i:Nat}{v:DV}{l:List DV}(h:pV call g args S=some (i,v,l)):i<S.length/\∀T:ai,T[i]? =S[i]? ->pV call g args T=some (i,v,l):=by
 unfold pV at h⊢;split at h
 .rename_i j off rest;split at h
  .rename_i l0 hj;split at h
   .rename_i hc;split at h
    .rename_i v2 l' T2 mh;split at h;.rename_i hq;cases h;refine⟨hU hj,λT hT=>?_⟩;rw[hj]at hT;simp only[hT,if_pos hc,mh,if_pos hq]
     cases h
    cases h
   cases h
  cases h
 cases h
theorem Sa{g:FuncId}{args:List DV}{S S':ai}{k aD:Nat}{v:DV}(h:yL call k aD g args S=some (v,S')):∃b,S[aD]? =some .none/\S'=S.set aD b/\∀T:ai,T[aD]? =some .none->yL call k aD g args T=some (v,T.set aD b):=by
 unfold yL at h⊢;split at h;.rename_i l e rows hn ho;cases h;exact⟨_,hn,rfl,λT hT=>by rw[hT,ho]⟩
 cases h
def acw(P:Program)(ty:fP)(aI:bS)(call:bt)(yf:ew)(ρ:Operand->Option DV)(o:Oper)(S:ai):Prop:=
 ∃c args ats g fs cs xs R v S1,o.op=.call ⟨.value c,args,ats⟩/\ρ c=some (.fn g fs cs)/\evs ρ args.toList=some xs/\¬ty.h o=1/\¬((fs++xs++cs).map DV.strip).all DV.pure=true/\pV call g (fs++xs++cs) S=none/\oB call g (fs++xs++cs) S=some (R,v,S1)
theorem aa5{ρ:Operand->Option DV}{o:Oper}{S S':ai}{aD:Nat}{v:DV}{f:dm}(h:aJ P ty aI call yf ρ o S aD=some (v,S',f)){F:List Nat}(hF:f.ids=some F)(hm:¬acw P ty aI call yf ρ o S):∃w,Eff P ty aI call yf ρ o S aD v S' f F w:=by
 obtain⟨dst,op,type,pos,after,guard⟩:=o;have plain:∀(hop:wo op),(ah P ty aI call yf ρ ⟨dst,op,type,pos,after,guard⟩ S aD).map (λr=>(r.1,r.2,(⟨some [],false⟩:dm)))=some (v,S',f)->(∀T,aJ P ty aI call yf ρ ⟨dst,op,type,pos,after,guard⟩ T aD=(ah P ty aI call yf ρ ⟨dst,op,type,pos,after,guard⟩ T aD).map (λr=>(r.1,r.2,(⟨some [],false⟩:dm))))->∃w,Eff P ty aI call yf ρ ⟨dst,op,type,pos,after,guard⟩ S aD v S' f F w:=by intro hop h1 h2;simp only[af,ay]at h1;obtain⟨⟨d,S1⟩,h3,rfl,rfl,rfl⟩:=h1;obtain⟨h4,h5⟩:=Em hop h3;exact⟨none,h4,by simp,λT _ _=>by rw[h2,h5 T aD];rfl⟩
 cases op
 case alloc e=>
  simp only[aJ]at h;split at h
  .rename_i hS;have hlt:=hU hS;simp only[ah]at h;split at h;.rename_i hk;cases h;cases hF;refine⟨some (aD,_),qH hlt _,λi b hw=>by cases hw;exact⟨by simp,rfl,hlt⟩,λT hT hx=>?_⟩;have:=hx aD (by simp);have hl:=hT (by simp);simp only[aJ,this,hS,ah,hk,av];rw[qH (by omega)];rfl
   cases h
  cases h
 case box e a=>
  simp only[aJ]at h;split at h
  .rename_i hS;have hlt:=hU hS;simp only[ah]at h;split at h;.rename_i hk;cases h;cases hF;refine⟨some (aD,_),qH hlt _,λi b hw=>by cases hw;exact⟨by simp,rfl,hlt⟩,λT hT hx=>?_⟩;have:=hx aD (by simp);have hl:=hT (by simp);simp only[aJ,this,hS,ah,hk,av];rw[qH (by omega)];rfl
   cases h
  cases h
 case makeMap t r=>
  cases r with
  |some a=>
   simp only[aJ]at h;split at h;.simp[ah]at h
   cases h
  |none=>
   simp only[aJ]at h;split at h;.rename_i hS;have hlt:=hU hS;simp only[ah]at h;cases h;cases hF;refine⟨some (aD,_),qH hlt _,λi b hw=>by cases hw;exact⟨by simp,rfl,hlt⟩,λT hT hx=>?_⟩;have:=hx aD (by simp);have hl:=hT (by simp);simp only[aJ,this,hS,ah,av];rw[qH (by omega)];rfl
   cases h
 case store t a b=>
  simp only[aJ]at h;split at h
  .rename_i id off ha;simp only[ah,ha]at h;split at h
   .rename_i a' v' h1 h2;cases h1;unfold qc at h;split at h
    .rename_i td jd sQ hk OH;cases OH;split at h
     .rename_i l hl;split at h;.rename_i hc;simp only[qP,af,tf,ay]at h;obtain⟨l',h3,rfl,rfl,rfl⟩:=h;cases hF;refine⟨some (id,.cells l'),rfl,λi b hw=>by cases hw;exact⟨by simp,rfl,hU hl⟩,λT hT hx=>?_⟩;have:=hx id (by simp);simp only[aJ,ha,ah,h2,qc,hk,this,hl,hc,if_true,h3,av];rfl
      cases h
     cases h
    .rename_i OH;cases OH
    cases h
   cases h
  .rename_i id n off ha;simp only[ah,ha]at h;split at h
   .rename_i a' v' h1 h2;cases h1;unfold qc at h;split at h;.rename_i OH;cases OH
    .rename_i td jd n' sQ hk OH;cases OH;split at h
     .rename_i e s l hop;have hl:=(mJ hop).1;split at h;.rename_i hc;simp only[qP,af,tf,ay]at h;obtain⟨l',h3,rfl,rfl,rfl⟩:=h;cases hF;refine⟨some (id,.op e s l' false),rfl,λi b hw=>by cases hw;exact⟨by simp,rfl,hU hl⟩,λT hT hx=>?_⟩;have:=hx id (by simp);simp only[aJ,ha,ah,h2,qc,hk,Ir this,hop,hc,if_true,h3,av];rfl
      cases h
     cases h
    cases h
   cases h
  cases h
 case makeSlice t a b=>simp only[aJ]at h;cases h
 case buildSlice t n ps=>
  simp only[aJ]at h;split at h;.cases h
  rename_i hh;simp only[af,ay]at h;obtain⟨⟨d,S1⟩,h3,rfl,rfl,rfl⟩:=h;cases hF;obtain⟨h4,h5⟩:=HJ rfl hh h3;refine⟨none,h4,by simp,λT hT hx=>?_⟩;simp only[aJ,h5 T aD,av];rfl
 case fieldAddr t a f'=>
  simp only[aJ]at h;split at h;.rename_i id n off ha;simp only[af,ay]at h;obtain⟨⟨d,S1⟩,h3,rfl,rfl,rfl⟩:=h;cases hF;refine⟨none,(sI (T:=S) (λ_ _ _ _=>rfl) h3).1,by simp,λT hT hx=>?_⟩;have h5:=(sI (T:=T) (λjd n' sQ he=>by rw[ha]at he;cases he;exact hx id (by simp)) h3).2 aD;simp only[aJ,ha,h5,av];rfl
  rename_i hno;simp only[af,ay]at h;obtain⟨⟨d,S1⟩,h3,rfl,rfl,rfl⟩:=h;cases hF;refine⟨none,(sI (T:=S) (λ_ _ _ _=>rfl) h3).1,by simp,λT hT hx=>?_⟩;have h5:=(sI (T:=T) (λjd n' sQ he=>absurd he (hno _ _ _)) h3).2 aD;simp only[aJ,h5,av];rfl
 case indexAddr t a i=>
  simp only[aJ]at h;split at h;.rename_i id n ag ha;simp only[af,ay]at h;obtain⟨⟨d,S1⟩,h3,rfl,rfl,rfl⟩:=h;cases hF;refine⟨none,(sG (T:=S) (λ_ _ _ _=>rfl) h3).1,by simp,λT hT hx=>?_⟩;have h5:=(sG (T:=T) (λjd n' sQ he=>by rw[ha]at he;cases he;exact hx id (by simp)) h3).2 aD;simp only[aJ,ha,h5,av];rfl
  rename_i hno;simp only[af,ay]at h;obtain⟨⟨d,S1⟩,h3,rfl,rfl,rfl⟩:=h;cases hF;refine⟨none,(sG (T:=S) (λ_ _ _ _=>rfl) h3).1,by simp,λT hT hx=>?_⟩;have h5:=(sG (T:=T) (λjd n' sQ he=>absurd he (hno _ _ _)) h3).2 aD;simp only[aJ,h5,av];rfl
 case load t a=>
  simp only[aJ]at h;split at h;.rename_i id off ha;simp only[ah,ha]at h;simp only[qP,af,tf,ay]at h;obtain⟨d,h3,rfl,rfl,rfl⟩:=h;cases hF;refine⟨none,rfl,by simp,λT hT hx=>?_⟩;have:=hx id (by simp);simp only[aJ,ha,ah,Sw this,h3,av];rfl
  .rename_i id n off ha;simp only[ah,ha]at h;simp only[qP,af,tf,ay]at h;obtain⟨d,h3,rfl,rfl,rfl⟩:=h;cases hF;refine⟨none,rfl,by simp,λT hT hx=>?_⟩;have:=hx id (by simp);simp only[aJ,ha,ah,Oa this,h3,av];rfl
  rename_i hno Ua;simp only[ah]at h;split at h
  .rename_i a' ha;simp only[qP,af,tf,ay]at h;obtain⟨d,h3,rfl,rfl,rfl⟩:=h;cases hF;refine⟨none,rfl,by simp,λT hT hx=>?_⟩;have hld:lH ty T t a'=some d:=by
    cases a' with
    |ptr id off=>exact absurd ha (hno id off)
    |gD id n off=>exact absurd ha (Ua id n off)
    |fF rows i off=>rw[<-h3];exact Ob
    |_=>unfold lH at h3;split at h3<;>simp_all
   cases a' with
   |ptr id off=>exact absurd ha (hno id off)
   |gD id n off=>exact absurd ha (Ua id n off)
   |_=>simp only[aJ,ha,ah,hld,av];rfl
  cases h
 case lookup t m k ok=>
  simp only[aJ]at h;split at h
  .rename_i id ha;simp only[ah,ha]at h;split at h
   .rename_i kv hm hk;cases hm;split at h;.rename_i es hS;simp only[qP,af,tf,ay]at h;obtain⟨d,h3,rfl,rfl,rfl⟩:=h;cases hF;refine⟨none,rfl,by simp,λT hT hx=>?_⟩;have:=hx id (by simp);simp only[aJ,ha,ah,hk,this,hS,h3,av];rfl
    cases h
   cases h
  cases h
 case mapUpdate t m k a=>
  simp only[aJ]at h;split at h
  .rename_i id ha;simp only[ah,ha]at h;split at h
   .rename_i jd kv vv hm hk hv;cases hm;split at h
    .rename_i es hS;split at h;.rename_i r hr;simp only[qP,af,tf,ay]at h;obtain⟨es',h3,rfl,rfl,rfl⟩:=h;cases hF;refine⟨some (id,.map es'),rfl,λi b hw=>by cases hw;exact⟨by simp,rfl,hU hS⟩,λT hT hx=>?_⟩;have:=hx id (by simp);simp only[aJ,ha,ah,hk,hv,this,hS,hr,h3,av];rfl
     cases h
    cases h
   cases h
  cases h
 case call c=>
  obtain⟨callee,args,ats⟩:=c;cases callee with
  |invoke r m=>simp[aJ,ah]at h
  |value g=>
   simp only[aJ]at h;split at h
   .rename_i g' fs cs xs hf QO;split at h;.rename_i hh;simp only[af,ay]at h;obtain⟨⟨d,S1⟩,h3,rfl,rfl,rfl⟩:=h;cases hF;obtain⟨b,hn,hS,hT⟩:=Sa h3;exact⟨some (aD,b),hS,λ_ _ hw=>by cases hw;exact⟨by simp,rfl,hU hn⟩,λT _ hx=>by simp only[aJ,hf,QO,if_pos hh,hT T ((hx aD (by simp)).trans hn),av];rfl⟩
    rename_i hh;split at h;.rename_i hp;simp only[af,ay]at h;obtain⟨d,h3,rfl,rfl,rfl⟩:=h;cases hF;exact⟨none,rfl,by simp,λT hT hx=>by simp only[aJ,hf,QO,if_neg hh,hp,if_true,h3,av];rfl⟩
    rename_i hp;split at h;.rename_i i v1 l1 ho;cases h;cases hF;obtain⟨hi,hT⟩:=GW ho;exact⟨some (i,.cells l1),rfl,λ_ _ hw=>by cases hw;exact⟨by simp,rfl,hi⟩,λT _ hx=>by simp only[aJ,hf,QO,if_neg hh,if_neg hp,hT T (hx i (by simp))];rfl⟩
    rename_i ho;split at h;.rename_i R v1 S1 hmu;exact(hm ⟨g,args,ats,_,_,_,_,R,v1,S1,rfl,hf,QO,hh,hp,ho,hmu⟩).elim
    simp only[af,ay]at h;obtain⟨r,h3,rfl,rfl,rfl⟩:=h;cases hF
   .simp only[af,ay]at h;obtain⟨r,h3,rfl,rfl,rfl⟩:=h;cases hF
   cases h
  |builtin b=>
   by_cases hb:b=.append
   .subst hb;simp only[aJ]at h;split at h;.cases h
    rename_i hh;split at h;.cases h
    rename_i hsl;have afp:∀a da,args.toList[0]? =some a->ρ a=some da->DD (some da)=false:=λa da h0 h1=>by
     have:args[0]? =some a:=by rw[<-kY];exact h0
     rw[this]at hsl;rw[<-h1];simpa using hsl
    have hstep:∀T:ai,ah P ty aI call yf ρ ⟨dst,.call ⟨.builtin .append,args,ats⟩,type,pos,after,guard⟩ T aD=match args.toList,ats.toList with
      |[x,y],[t,u]=>if t=u then match ρ x,ρ y with
        |some a,some b=>jZ ty T aD t a b
        |_,_=>none
       else none
      |_,_=>none:=λT=>by
     simp only[ah];generalize args.toList=l at afp;generalize ats.toList=m
     match l,m with
     |[x,y],[t,u]=>
      dsimp only;cases hx:ρ x with
      |none=>rfl
      |some a=>
       cases ρ y with
       |none=>rfl
       |some b=>have h0:=afp x a rfl hx;cases a<;>first|(simp[DD]at h0;done)|rfl|(dsimp only;split<;>first|exact absurd ‹_› hh|rfl)
     |[],_=>rfl
     |[_],_=>rfl
     |_::_::_::_,_=>rfl
     |[_,_],[]=>rfl
     |[_,_],[_]=>rfl
     |[_,_],_::_::_::_=>rfl
    have main:∀(r:DV×ai)(F:List Nat),ah P ty aI call yf ρ ⟨dst,.call ⟨.builtin .append,args,ats⟩,type,pos,after,guard⟩ S aD=some r->S[aD]? =some .none->aD∈F->(∀rw tk fl,(args[0]?).bind ρ=some (.sl rw (some tk) fl)->tk∈F)->(∀T:ai,T[aD]? =some .none->aJ P ty aI call yf ρ ⟨dst,.call ⟨.builtin .append,args,ats⟩,type,pos,after,guard⟩ T aD=(ah P ty aI call yf ρ ⟨dst,.call ⟨.builtin .append,args,ats⟩,type,pos,after,guard⟩ T aD).map (λr=>(r.1,r.2,(⟨some F,true⟩:dm))))->
      ∃w,Eff P ty aI call yf ρ ⟨dst,.call ⟨.builtin .append,args,ats⟩,type,pos,after,guard⟩ S aD r.1 r.2 ⟨some F,true⟩ F w:=by
     intro r F hr hS hnF htk HR;rw[hstep]at hr;split at hr
     .rename_i a b t u mY Ue;split at hr
      .rename_i QT;split at hr
       .rename_i da db ha pE;obtain⟨w,w1,w2,w3⟩:=Mt (v:=r.1) (S':=r.2) hr (hU hS);have FF:(args[0]?).bind ρ=some da:=by
         have:args[0]? =some a:=by rw[<-kY,mY];rfl
         rw[this];exact ha
        refine⟨w,w1,λi c hw=>?_,λT hT hx=>?_⟩
        .obtain⟨h1,h2⟩:=w2 i c hw;rcases h1 with rfl|⟨rw',tk,fl,rfl,rfl⟩;.exact⟨hnF,rfl,h2⟩
         exact⟨htk _ _ _ FF,rfl,h2⟩
        have hl:=hT (List.ne_nil_of_mem hnF);have hT2:=(hx aD hnF).trans hS;have:=w3 T hl λrw' tk fl wN=>hx tk (htk rw' tk fl (by rw[FF,wN]));rw[HR T hT2,hstep,mY,Ue];simp only[if_pos QT,ha,pE,this,av]
       cases hr
      cases hr
     cases hr
    split at h;.rename_i rw' tk fl hS pE;simp only[af,ay]at h;obtain⟨r,h3,rfl,rfl,rfl⟩:=h;cases hF;exact main r [tk,aD] h3 hS (by simp) (λ_ _ _ he=>by rw[pE]at he;cases he;simp) λT hT=>by simp only[aJ,if_neg hh,hT,pE,DD,aG,if_false]
    .rename_i hS hno;simp only[af,ay]at h;obtain⟨r,h3,rfl,rfl,rfl⟩:=h;cases hF;refine main r [aD] h3 hS (by simp) (λrw' tk fl he=>absurd he (hno rw' tk fl)) λT hT=>?_;simp only[aJ,if_neg hh,if_neg hsl,hT]
    cases h
   have hop:wo (.call ⟨.builtin b,args,ats⟩):=by cases b<;>first|trivial|exact absurd rfl hb
   have HR:∀T,aJ P ty aI call yf ρ ⟨dst,.call ⟨.builtin b,args,ats⟩,type,pos,after,guard⟩ T aD=(ah P ty aI call yf ρ ⟨dst,.call ⟨.builtin b,args,ats⟩,type,pos,after,guard⟩ T aD).map (λr=>(r.1,r.2,(⟨some [],false⟩:dm))):=λT=>by cases b<;>first|rfl|exact absurd rfl hb
   rw[HR]at h;exact plain hop h HR
 all_goals exact plain trivial h λT=>rfl
structure afR (P:Program) (ty:fP) (aI:bS) (call:bt) (yf:ew) (ρ:Operand->Option DV) (o:Oper) (S:ai) (aD:Nat) (v:DV) (S':ai) (f:dm) (F:List Nat) (A:ai->ai):Prop where
 res:S'=A S
 loc:∀T,(F≠[]->T.length=S.length)->(∀x∈F,T[x]? =S[x]?)->aJ P ty aI call yf ρ o T aD=some (v,A T,f)
 len:∀T:ai,(A T).length=T.length
 out:∀(T:ai) id,(F≠[]->T.length=S.length)->¬(f.wr=true/\id∈F)->(A T)[id]? =T[id]?
 inn:∀(T:ai) id,id∈F->T.length=S.length->T[id]? =S[id]? ->(A T)[id]? =(A S)[id]?
theorem Qw{S T:ai}:∀{R:List Nat},(∀i∈R,T[i]? =S[i]?)->R.flatMap (H9 T)=R.flatMap (H9 S)
 |[],_=>rfl
 |i::R,h=>by
  have e:H9 T i=H9 S i:=by unfold H9;rw[h i (gv ..)]
  rw[cM,cM,e,Qw λj hj=>h j (nO _ hj)]
theorem Je{S T:ai}{R:List Nat}(h:∀i∈rS S R,T[i]? =S[i]?):rS T R=rS S R:=by unfold rS;rw[Qw λi hi=>h i (qU _ hi)]
theorem W3{S T:ai}{args:List DV}(h:∀i∈jH S args,T[i]? =S[i]?):jH T args=jH S args:=by have h2:∀i∈rS S (rS S (args.flatMap AB)),T[i]? =S[i]? :=λi hi=>h i (qU _ hi);have h1:∀i∈rS S (args.flatMap AB),T[i]? =S[i]? :=λi hi=>h2 i (qU _ hi);unfold jH;rw[Je h1,Je h2,Je h]
theorem aaG{S T:ai}(h:T.length=S.length)(i:Nat):(T[i]?).isSome=(S[i]?).isSome:=by
 by_cases h1:i<T.length;.rw[bQ h1,bQ (h▸h1)];rfl
 rw[fu (by omega),fu (by omega)]
theorem aaB{S T:ai}{R:List Nat}(hl:T.length=S.length)(h:∀i∈R,T[i]? =S[i]?):tN T R=tN S R:=by
 refine mD λi=>?_;simp only[tN,o9];by_cases hi:i∈R;.rw[h i hi]
 have e:R.contains i=false:=by simpa using hi
 have:=aaG hl i;rw[e];cases h1:T[i]?<;>cases h2:S[i]?<;>simp[h1,h2]at this⊢
theorem ahb{S T:ai}{R:List Nat}{Q:List Nat}(h:∀i∈R,T[i]? =S[i]?):R.all (kV T Q)=R.all (kV S Q):=by rw[Bool.eq_iff_iff,aT,aT];exact⟨λk i hi=>by have:=k i hi;unfold kV at this⊢;rwa [h i hi]at this,λk i hi=>by have:=k i hi;unfold kV at this⊢;rwa [h i hi]⟩
theorem Sk{g:FuncId}{args:List DV}{S S1:ai}{R:List Nat}{v:DV}(h:oB call g args S=some (R,v,S1)):R≠[]/\∀T:ai,T.length=S.length->(∀x∈R,T[x]? =S[x]?)->oB call g args T=some (R,v,S1):=by
 have h0:=h;unfold oB at h;split at h
 .rename_i hq;split at h
  .split at h
   .cases h;refine⟨λe=>?_,λT hl hT=>?_⟩;.rw[e]at hq;simp at hq
    unfold oB at h0⊢;rw[W3 hT,aaB hl hT,ahb hT];exact h0
   cases h
  cases h
 cases h
theorem ag8{ρ:Operand->Option DV}{o:Oper}{S S':ai}{aD:Nat}{v:DV}{f:dm}{F:List Nat}{w:Option (Nat×DB)}(h:Eff P ty aI call yf ρ o S aD v S' f F w):afR P ty aI call yf ρ o S aD v S' f F (appW w) where
 res:=h.res
 loc:=h.loc
 len:=λT=>by cases w<;>simp[appW]
 out:=λT id hl hn=>by
  cases w with
  |none=>rfl
  |some p=>obtain⟨i,b⟩:=p;obtain⟨q1,q2,-⟩:=h.FQ i b rfl;simp only[appW];rw[aF,if_neg];rintro rfl;exact hn ⟨q2,q1⟩
 inn:=λT id hi hl hT=>by
  cases w with
  |none=>exact hT
  |some p=>obtain⟨i,b⟩:=p;simp only[appW];rw[aF,aF,hl,hT]
theorem Xn{g:FuncId}{args:List DV}{S S1 T:ai}{R:List Nat}{v v2:DV}{i:Nat}{l:List DV}(h:oB call g args S=some (R,v,S1))(ho:pV call g args T=some (i,v2,l)):i∈R:=by
 unfold oB at h;split at h
 .split at h
  .split at h
   .cases h;unfold pV at ho;split at ho
    .rename_i j off rest;split at ho
     .split at ho
      .split at ho
       .split at ho;.cases ho;unfold jH rS;simp[AB]
        cases ho
       cases ho
      cases ho
     cases ho
    cases ho
   cases h
  cases h
 cases h
theorem VV{ρ:Operand->Option DV}{o:Oper}{S S':ai}{aD:Nat}{v:DV}{f:dm}(h:aJ P ty aI call yf ρ o S aD=some (v,S',f)){F:List Nat}(hF:f.ids=some F):∃A,afR P ty aI call yf ρ o S aD v S' f F A:=by
 by_cases hm:acw P ty aI call yf ρ o S
 .obtain⟨c,args,ats,g,fs,cs,xs,R,v1,S1,k1,k2,k3,k4,k5,k6,k7⟩:=hm;obtain⟨dst,op,type,pos,after,guard⟩:=o;simp only at k1;subst k1;simp only[aJ,k2,k3,if_neg k4,if_neg k5,k6,k7,aB,ay]at h;obtain⟨rfl,rfl,rfl⟩:=h;cases hF;obtain⟨hne,lu⟩:=Sk k7;refine⟨λT=>lK T S1 F,rfl,λT hl hT=>?_,λT=>by simp[lK],λT id _ hn=>jg λhi=>hn ⟨rfl,hi⟩,λT id hi hl hT=>?_⟩
  .have k6':pV call g (fs++xs++cs) T=none:=by
    cases e:pV call g (fs++xs++cs) T with
    |none=>rfl
    |some p=>obtain⟨i,v2,l2⟩:=p;obtain⟨-,hT2⟩:=GW e;have hi:i∈F:=Xn k7 e;rw[hT2 S (hT i hi).symm]at k6;cases k6
   simp only[aJ,k2,k3,if_neg k4,if_neg k5,k6',lu T (hl hne) hT]
  simp only[lK,o9,hT]
 obtain⟨w,hw⟩:=aa5 h hF hm;exact⟨_,ag8 hw⟩
end Go.Di
namespace Go.Di
open Go Go.Conc Go.Co
open Go.ConcN (upd upd_same upd_ne)
variable {P:Program} {aa:Machine->Trace->Prop} {ty:fP} {x:Cx} {aI:bS} {call:bt} {yf:ew}
theorem Jw{ρ ρ':Operand->Option DV}{o:Oper}{S:ai}{aD:Nat}(h:∀a∈o.op.operands,ρ a=ρ' a):aJ P ty aI call yf ρ o S aD=aJ P ty aI call yf ρ' o S aD:=by
 have hs:=Ab (P:=P) (ty:=ty) (aI:=aI) (call:=call) (yf:=yf) (S:=S) (aD:=aD) h;unfold aJ;split;.rw[hs]
 .rw[hs]
 .rw[hs]
 .rename_i t a v hop;rw[hop]at h;rw[h a (by simp[Op.operands]),hs]
 .rename_i t a v hop;rw[hop]at h;rw[h a (by simp[Op.operands]),hs]
 .rename_i t a v hop;rw[hop]at h;rw[h a (by simp[Op.operands]),hs]
 .rw[hs]
 .rfl
 .rename_i t m k ok hop;rw[hop]at h;rw[h m (by simp[Op.operands]),hs]
 .rename_i t m k v hop;rw[hop]at h;rw[h m (by simp[Op.operands]),hs]
 .rename_i t a hop;rw[hop]at h;rw[h a (by simp[Op.operands]),hs]
 .rename_i args ats hop;rw[hop]at h;have:(args[0]?).bind ρ=(args[0]?).bind ρ':=by
   cases ha:args[0]? with
   |none=>rfl
   |some a=>exact h a (by simp[Op.operands,Call.operands,Array.mem_of_getElem? ha])
  rw[this,hs]
 .rename_i f args ats hop;rw[hop]at h;have h1:ρ f=ρ' f:=h f (by simp[Op.operands,Call.operands]);have h2:=nw (ρ:=ρ) (ρ':=ρ') (l:=args.toList) λa ha=>h a (by simp[Op.operands,Call.operands]at ha⊢;exact .inr ha);rw[h1,h2]
 rw[hs]
def abo:Op->Prop
 |.call {callee:=.value _,.. }=>False
 |_=>True
theorem eB{c1 c2:bt}{ρ:Operand->Option DV}{o:Oper}{S:ai}{aD:Nat}(h:abo o.op):ah P ty aI c1 yf ρ o S aD=ah P ty aI c2 yf ρ o S aD:=by
 obtain⟨dst,op,type,pos,after,guard⟩:=o;cases op
 case call c=>
  obtain⟨callee,args,ats⟩:=c;cases callee with
  |value f=>exact h.elim
  |builtin b=>simp only[ah]
  |invoke r m=>simp only[ah]
 case makeFunc fn a b=>cases fn<;>simp only[ah]
 case makeMap t r=>cases r<;>simp only[ah]
 all_goals first
  |rfl
  |simp only[ah]
theorem aa4{ρ:Operand->Option DV}{o:Oper}{S S':ai}{aD:Nat}{v:DV}{f:dm}(h:aJ P ty aI call yf ρ o S aD=some (v,S',f)):∃qx cl,(cl=KA call\/cl=yL call (ty.TH o) aD)/\Fy S qx/\ah P ty aI cl yf ρ o S qx=some (v,S'):=by
 suffices hs:(∃qx,Fy S qx/\ah P ty aI (KA call) yf ρ o S qx=some (v,S'))\/∃qx,Fy S qx/\ah P ty aI (yL call (ty.TH o) aD) yf ρ o S qx=some (v,S')by
  rcases hs with ⟨n,h1,h2⟩|⟨n,h1,h2⟩;.exact⟨n,_,.inl rfl,h1,h2⟩
  exact⟨n,_,.inr rfl,h1,h2⟩
 obtain⟨dst,op,type,pos,after,guard⟩:=o;have mp:∀{q:Option (DV×ai)}{g:DV×ai->dm},q.map (λr=>(r.1,r.2,g r))=some (v,S',f)->q=some (v,S'):=by intro q g hq;simp only[af,ay]at hq;obtain⟨⟨a,b⟩,h1,h2,h3,-⟩:=hq;rw[h1,<-h2,<-h3]
 have plain:∀{q:ai->Nat->Option (DV×ai)},(∀n m,q S n=q S m)->q S aD=some (v,S')->∃qx,Fy S qx/\q S qx=some (v,S'):=λhq h=>⟨S.length,.inl rfl,by rw[hq _ aD];exact h⟩;cases op
 case alloc e=>
  simp only[aJ]at h;split at h;.rename_i hS;exact .inl ⟨aD,.inr hS,(eB (c2:=call) (by trivial)).trans (mp h)⟩
  cases h
 case box e a=>
  simp only[aJ]at h;split at h;.rename_i hS;exact .inl ⟨aD,.inr hS,(eB (c2:=call) (by trivial)).trans (mp h)⟩
  cases h
 case makeMap e a=>
  simp only[aJ]at h;split at h;.rename_i hS;exact .inl ⟨aD,.inr hS,(eB (c2:=call) (by trivial)).trans (mp h)⟩
  cases h
 case store t a b=>
  simp only[aJ]at h;split at h;.exact .inl ⟨S.length,.inl rfl,(eB (c2:=call) (by trivial)).trans (mp h)⟩
  .exact .inl ⟨S.length,.inl rfl,(eB (c2:=call) (by trivial)).trans (mp h)⟩
  cases h
 case makeSlice t a b=>simp only[aJ]at h;cases h
 case buildSlice t n ps=>
  simp only[aJ]at h;split at h;.cases h
  rename_i hh;obtain⟨h1,h2⟩:=HJ rfl hh (mp h);subst h1;exact .inl ⟨S'.length,.inl rfl,(eB (c2:=call) (by trivial)).trans (h2 _ _)⟩
 case fieldAddr t a i=>
  simp only[aJ]at h;split at h;all_goals
   obtain⟨h1,h2⟩:=sI (T:=S) (λ_ _ _ _=>rfl) (mp h);subst h1;exact .inl ⟨S'.length,.inl rfl,(eB (c2:=call) (by trivial)).trans (h2 _)⟩
 case indexAddr t a i=>
  simp only[aJ]at h;split at h;all_goals
   obtain⟨h1,h2⟩:=sG (T:=S) (λ_ _ _ _=>rfl) (mp h);subst h1;exact .inl ⟨S'.length,.inl rfl,(eB (c2:=call) (by trivial)).trans (h2 _)⟩
 case load t a=>
  simp only[aJ]at h;split at h;.exact .inl ⟨S.length,.inl rfl,(eB (c2:=call) (by trivial)).trans (mp h)⟩
  .exact .inl ⟨S.length,.inl rfl,(eB (c2:=call) (by trivial)).trans (mp h)⟩
  exact .inl ⟨S.length,.inl rfl,(eB (c2:=call) (by trivial)).trans (mp h)⟩
 case lookup t m k ok=>
  simp only[aJ]at h;split at h;.exact .inl ⟨S.length,.inl rfl,(eB (c2:=call) (by trivial)).trans (mp h)⟩
  cases h
 case mapUpdate t m k a=>
  simp only[aJ]at h;split at h;.exact .inl ⟨S.length,.inl rfl,(eB (c2:=call) (by trivial)).trans (mp h)⟩
  cases h
 case call c=>
  obtain⟨callee,args,ats⟩:=c;cases callee with
  |invoke r m=>simp[aJ,ah]at h
  |value g=>
   simp only[aJ]at h;by_cases h1:ty.h ⟨dst,.call ⟨.value g,args,ats⟩,type,pos,after,guard⟩=1
   .refine .inr ⟨S.length,.inl rfl,?_⟩;simp only[ah];split at h;.rw[if_pos h1]at h;rw[h1];exact mp h
    .exact mp h
    cases h
   refine .inl ⟨S.length,.inl rfl,?_⟩;simp only[ah];split at h
   .rename_i g' fs cs xs hf QO;split at h;.exact absurd ‹_› h1
    rename_i hh;simp only[xh];split at h;.rename_i hp;simp only[af,ay]at h;obtain⟨d,h3,rfl,rfl,-⟩:=h;rw[if_pos hp,h3]
    rename_i hp;rw[if_neg hp];unfold KA;split at h;.rename_i ho;cases h;rfl
    unfold Pa;split at h;.rename_i ho;cases h;rfl
    exact mp h
   .exact mp h
   cases h
  |builtin b=>
   by_cases hb:b=.append
   .subst hb;simp only[aJ]at h;split at h;.cases h
    split at h;.cases h
    split at h;.rename_i hS _;exact .inl ⟨aD,.inr hS,(eB (c2:=call) (by trivial)).trans (mp h)⟩
    .rename_i hS _;exact .inl ⟨aD,.inr hS,(eB (c2:=call) (by trivial)).trans (mp h)⟩
    cases h
   have HR:aJ P ty aI call yf ρ ⟨dst,.call ⟨.builtin b,args,ats⟩,type,pos,after,guard⟩ S aD=(ah P ty aI call yf ρ ⟨dst,.call ⟨.builtin b,args,ats⟩,type,pos,after,guard⟩ S aD).map (λr=>(r.1,r.2,(⟨some [],false⟩:dm))):=by cases b<;>first|rfl|exact absurd rfl hb
   rw[HR]at h;have hop:wo (.call ⟨.builtin b,args,ats⟩):=by cases b<;>first|trivial|exact absurd rfl hb
   obtain⟨h1,h2⟩:=Em hop (mp h);subst h1;exact .inl ⟨S'.length,.inl rfl,(eB (c2:=call) (by trivial)).trans (h2 _ _)⟩
 all_goals
  simp only[aJ]at h;obtain⟨h1,h2⟩:=Em (by trivial) (mp h);subst h1;exact .inl ⟨S'.length,.inl rfl,(eB (c2:=call) (by trivial)).trans (h2 _ _)⟩
theorem VU{ρ:Operand->Option DV}{o:Oper}{S S':ai}{aD:Nat}{v:DV}{f:dm}(h:aJ P ty aI call yf ρ o S aD=some (v,S',f))(hf:f.ids=none):f.wr=true:=by
 have mp:∀{q:Option (DV×ai)}{l:List Nat}{b:Bool},q.map (λr=>(r.1,r.2,(⟨some l,b⟩:dm)))=some (v,S',f)->False:=by intro q l b hq;simp only[af,ay]at hq;obtain⟨_,-,-,-,rfl⟩:=hq;cases hf
 have mt:∀{q:Option (DV×ai)},q.map (λr=>(r.1,r.2,(⟨none,true⟩:dm)))=some (v,S',f)->f.wr=true:=by intro q hq;simp only[af,ay]at hq;obtain⟨_,-,-,-,rfl⟩:=hq;rfl
 unfold aJ at h;split at h
 case h_13=>
  split at h
  .simp only at h;split at h;.exact(mp h).elim
   split at h;.simp only[af,ay]at h;obtain⟨_,-,-,-,rfl⟩:=h;cases hf
   split at h;.cases h;cases hf
   split at h;.cases h;cases hf
   exact mt h
  .exact mt h
  cases h
 all_goals (repeat' split at h)
 all_goals first
  |exact(mp h).elim
  |cases h
def touch(F:Nat->dm)(j id:Nat):Bool:=(F j).wr&&match(F j).ids with
 |none=>true
 |some l=>l.contains id
def top(F:Nat->dm)(j:Nat):Bool:=(F j).wr&&(F j).ids.isNone
def oc{α:Type}(W:Nat->Bool)(R:Nat->α)(d:α)(L:Nat->Bool):Nat->α
 |0=>d
 |n+1=>if L n&&W n then R n else oc W R d L n
theorem iI{α:Type}{W:Nat->Bool}{R:Nat->α}{d:α}{L:Nat->Bool}{i:Nat}:∀{n:Nat},i<=n->(∀j,j<n->W j=true->(L j=true↔j<i))->oc W R d L n=oc W R d (λ_=>true) i
 |0,h,_=>by
  have:i=0:=by omega
  subst this;rfl
 |n+1,h,hj=>by
  by_cases pz:i=n+1
  .subst pz;unfold oc;by_cases hd:W n=true;.have:=(hj n (by omega) hd).2 (by omega);simp only[this,hd,fV,if_true]
   simp only[aA,hd,and_false,if_false,aG];exact iI (aj _) λj h1 h2=>⟨λ_=>h1,λ_=>(hj j (qR h1) h2).2 (qR h1)⟩
  have hle:i<=n:=by omega
  rw[<-iI hle λj h1 h2=>hj j (by omega) h2]
  conv=>lhs;unfold oc
  by_cases hd:W n=true
  .have:L n=false:=by
    cases hLn:L n with
    |false=>rfl
    |true=>have:=(hj n (by omega) hd).1 hLn;omega
   rw[this];simp
  simp[hd]
theorem oe{α:Type}{W:Nat->Bool}{R:Nat->α}{d:α}{L:Nat->Bool}{i:Nat}(hd:W i=false):∀n,oc W R d (upd L i true) n=oc W R d L n
 |0=>rfl
 |n+1=>by
  unfold oc;rw[oe hd n];by_cases h:n=i;.subst h;simp[hd]
  rw[upd_ne _ _ h]
theorem yg{α:Type}{W:Nat->Bool}{R:Nat->α}{d:α}{i:Nat}(hd:W i=true):oc W R d (λ_=>true) (i+1)=R i:=by unfold oc;simp[hd]
structure U7 (P:Program) (ty:fP) (aI:bS) (call:bt) (yf:ew) (ops:Array Oper) (n0:Nat) (E:Nat->List DV) (V:Nat->DV) (M:Nat->ai) (F:Nat->dm):Prop where
 env:Pg ops V E
 yes:∀j o,ops[j]? =some o->cI ops (E j) o=true->aJ P ty aI call yf (jy (E j)) o (M j) (n0+j)=some (V j,M (j+1),F j)
 no:∀j o,ops[j]? =some o->cI ops (E j) o=false->V j=bE/\M (j+1)=M j/\F j=⟨some [],false⟩
theorem GM{ops:Array Oper}{n0:Nat}:∀{r:List Oper}{i:Nat}{env aK:List DV}{S S':ai}{fs:List dm},tL P ty aI call yf ops n0 r i env S=some (aK,S',fs)->
  ∃(E:Nat->List DV)(V:Nat->DV)(M:Nat->ai)(F:Nat->dm),E 0=env/\E r.length=aK/\M 0=S/\M r.length=S'/\(fs.length=r.length/\∀j,j<r.length->fs[j]? =some (F j))/\
   ∀j o,r[j]? =some o->E (j+1)=kC (E j) o.dst (V j)/\(cI ops (E j) o=true->aJ P ty aI call yf (jy (E j)) o (M j) (n0+(i+j))=some (V j,M (j+1),F j))/\(cI ops (E j) o=false->V j=bE/\M (j+1)=M j/\F j=⟨some [],false⟩)
 |[],i,env,aK,S,S',fs,h=>by simp only[tL,aB,ay]at h;obtain⟨rfl,rfl,rfl⟩:=h;exact⟨λ_=>env,λ_=>bE,λ_=>S,λ_=>⟨some [],false⟩,rfl,rfl,rfl,rfl,⟨rfl,by simp⟩,by simp⟩
 |o::r,i,env,aK,S,S',fs,h=>by
  unfold tL at h;have key:∀v S1 f rU xE Uf,tL P ty aI call yf ops n0 r (i+1) (kC env o.dst v) S1=some (rU,xE,Uf)->(cI ops env o=true->aJ P ty aI call yf (jy env) o S (n0+i)=some (v,S1,f))->(cI ops env o=false->v=bE/\S1=S/\f=⟨some [],false⟩)->some (rU,xE,f::Uf)=some (aK,S',fs)->
    ∃(E:Nat->List DV)(V:Nat->DV)(M:Nat->ai)(F:Nat->dm),E 0=env/\E (o::r).length=aK/\M 0=S/\M (o::r).length=S'/\(fs.length=(o::r).length/\∀j,j<(o::r).length->fs[j]? =some (F j))/\
     ∀j o',(o::r)[j]? =some o'->E (j+1)=kC (E j) o'.dst (V j)/\(cI ops (E j) o'=true->aJ P ty aI call yf (jy (E j)) o' (M j) (n0+(i+j))=some (V j,M (j+1),F j))/\(cI ops (E j) o'=false->V j=bE/\M (j+1)=M j/\F j=⟨some [],false⟩):=by
   intro v S1 f rU xE Uf h1 h2 h3 h4;cases h4;obtain⟨E,V,M,F,e1,e2,e3,e4,e5,e6⟩:=GM h1;refine⟨λn=>match n with|0=>env|n+1=>E n,λn=>match n with|0=>v|n+1=>V n,λn=>match n with|0=>S|n+1=>M n,λn=>match n with|0=>f|n+1=>F n,rfl,by simpa using e2,rfl,by simpa using e4,⟨by simp[e5.1],λj hj=>?_⟩,λj o' mP=>?_⟩
   .cases j with
    |zero=>rfl
    |succ j=>simpa using e5.2 j (by simpa using hj)
   cases j with
   |zero=>simp only[cg,aB]at mP;subst mP;exact⟨e1,λhw=>by have:=h2 hw;rw[<-e3]at this;exact this,λhw=>by have:=h3 hw;rw[<-e3]at this;exact this⟩
   |succ j=>
    have:=e6 j o' (by simpa using mP);have e:i+(j+1)=i+1+j:=by omega
    rw[e];exact this
  split at h
  .rename_i hw;split at h
   .rename_i v S1 f h1;split at h;.rename_i rU xE Uf h2;exact key v S1 f _ _ _ h2 (λ_=>h1) (λhf=>by rw[hw]at hf;cases hf) h
    cases h
   cases h
  rename_i hw;split at h;.rename_i rU xE Uf h2;exact key bE S ⟨some [],false⟩ _ _ _ h2 (λht=>absurd ht hw) (λ_=>⟨rfl,rfl,rfl⟩) h
  cases h
theorem ael{ops:Array Oper}{n0:Nat}{env aK:List DV}{S S':ai}{fs:List dm}(h:tL P ty aI call yf ops n0 ops.toList 0 env S=some (aK,S',fs)):
  ∃(E:Nat->List DV)(V:Nat->DV)(M:Nat->ai)(F:Nat->dm),U7 P ty aI call yf ops n0 E V M F/\E 0=env/\E ops.size=aK/\M 0=S/\M ops.size=S'/\∀j,j<ops.size->fs[j]? =some (F j):=by
 obtain⟨E,V,M,F,e1,e2,e3,e4,e5,e6⟩:=GM h;refine⟨E,V,M,F,⟨λj o ho=>(e6 j o (by simpa using ho)).1,λj o ho hw=>?_,λj o ho hw=>(e6 j o (by simpa using ho)).2.2 hw⟩,e1,by simpa using e2,e3,by simpa using e4,λj hj=>e5.2 j (by simpa using hj)⟩;have:=(e6 j o (by simpa using ho)).2.1 hw;simpa using this
theorem run_store{ops:Array Oper}{n0:Nat}{E:Nat->List DV}{V:Nat->DV}{M:Nat->ai}{F:Nat->dm}(h:U7 P ty aI call yf ops n0 E V M F)(id:Nat):∀i,i<=ops.size->
  (M i)[id]? =oc (λj=>touch F j id) (λj=>(M (j+1))[id]?) ((M 0)[id]?) (λ_=>true) i/\(M i).length=oc (top F) (λj=>(M (j+1)).length) (M 0).length (λ_=>true) i
 |0,_=>⟨rfl,rfl⟩
 |i+1,hi=>by
  have ho:ops[i]? =some ops[i]:=cr (by omega);obtain⟨QN,SR⟩:=run_store h id i (by omega);unfold oc;simp only[Bool.true_and];rw[<-QN,<-SR];cases hw:cI ops (E i) ops[i]with
  |false=>obtain⟨h1,h2,h3⟩:=h.no i _ ho hw;rw[h2];simp
  |true=>
   have hs:=h.yes i _ ho hw;cases rP:(F i).ids with
   |none=>have:=VU hs rP;simp[touch,top,rP,this]
   |some l=>
    obtain⟨A,w⟩:=VV hs rP;constructor
    .split;.rfl
     rename_i hnt;rw[w.res];exact w.out _ _ (λ_=>rfl) λ⟨q2,q1⟩=>hnt (by simp[touch,q2,rP,q1])
    rw[w.res,w.len];simp[top,rP]
theorem aeC{b:Array Nat}{fs:List dm}(h:uA b fs=true){i j:Nat}{f g:dm}(hi:fs[i]? =some f)(hj:fs[j]? =some g)(hne:i≠j)(hm:f.meets g=true):(b.getD j 0).testBit i=true\/(b.getD i 0).testBit j=true:=by
 unfold uA at h;simp only[aT]at h;have h1:=h (f,i) (by rw[wm];exact hi) (g,j) (by rw[wm];exact hj);have h2:(i==j)=false:=by simpa using hne
 simp only[h2,hm,gr,Bool.or_false,Bool.false_or,gP]at h1;exact h1
end Go.Di
