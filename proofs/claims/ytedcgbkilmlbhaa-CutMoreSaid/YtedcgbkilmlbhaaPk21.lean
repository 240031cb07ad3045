import Derived.Test.YtedcgbkilmlbhaaPk20
import Derived.Laws.BitsLemmas
set_option maxHeartbeats 1000000
set_option maxRecDepth 8000
namespace Go.Di
open Go
variable {P:Program} {ty:fR} {x:Cx} {w':World} {ρd:Operand->Option DV} {ρ:Operand->Value} {o:Oper} {aF:Nat}
theorem Bb(hR:Rel x)(hn:Fi x.S aF){k s n:Nat}{e:TypeId}{l:List DV}{arr:Array Value}{agg:Bool}(hp:pK x.w w' (.cells arr e (0,0)))(hsz:arr.size=k*s)(hl:l.length<=arr.size)(hk:k<=maxLen)(hc:∀j c,l[j]? =some c->c.ck=true/\RV x c (arr.getD j undef))(SH:n*s=l.length):
  ∃y,y.w=w'/\y.S=eU x.S aF (.op e s l false)/\Rel y/\bV x y/\RV y (.jS aF n agg) (.slice (some ⟨x.w.heap.size,0,none⟩) n k):=by
 have mP:=mZ (k:=k) (F:=λ_=>False) (b:=.op e s l false) hR hn hp (by simp) (.inr (.inr (.inr ⟨e,s,l,arr,rfl,rfl,hsz,hl,hk,by simp,hc⟩)));refine⟨_,rfl,rfl,mP,jN hR hn hp,?_⟩;refine RV.jS (e:=e) (s:=s) (l:=l) (z:=false) (by show(eU _ _ _)[_]? =_;rw[bG hn.le,if_pos rfl]) (by omega) λ_=>?_;exact⟨by rw[show(x.fresh w' aF k (λ_=>False) (.op e s l false)).μ aF=x.w.heap.size from if_pos rfl],(if_pos rfl:(if aF=aF then k else _)=k).symm⟩
theorem RU(fu:kC P ty)(hR:Rel x)(hn:Fi x.S aF)(hρ:yy x ρd ρ){t e:TypeId}{n s lR sz sz':Nat}{agg:Bool}{k:TK}{z0:Option (List DV)}{z cs:List DV}{ps:Array (Nat×Operand)}{l:List (Nat×DV)}(h:ty t=some ⟨.slice e s lR agg,sz,z0⟩)(hl:kE ρd ps.toList=some l)(he:ty e=some ⟨k,sz',some z⟩)
  (hs:0<s) (Ci:n*s<=16777216) (hf:lG (λi=>some (i*s,s)) ((List.replicate n z).flatten) (l.map λ(i,v)=>(i,v.strip))=some cs) (hp:cs.all DV.ck=true):
  Yields x ((do pure (.value (<-Instr.buildSlice t n (ps.map λp=>(p.1,ρ p.2)))):Sem Next).run P x.w) (.jS aF n agg) (eU x.S aF (.op e s cs false)):=by
 obtain⟨arr,h6,om,hrun⟩:=Ht fu hR hρ h hl he hs Ci hf;have Te:n<=n*s:=Nat.le_mul_of_pos_right n hs;obtain⟨y,y1,y2,y3,y4,y5⟩:=Bb (n:=n) (agg:=agg) hR hn (gO x.w (.cells arr e)) (k:=n) (s:=s) (by rw[h6.1,om]) (by rw[h6.1];exact ak _) (by unfold maxLen;omega) (λj c hc=>⟨aX.1 hp c (cr hc),h6.2 j c hc⟩) om.symm;exact iu (by rw[y1];exact hrun) y2 y3 y4 y5
theorem Jt(fu:kC P ty)(hR:Rel x)(hn:Fi x.S aF){t e:TypeId}{s lR sz sz':Nat}{agg:Bool}{k:TK}{z0:Option (List DV)}{z:List DV}{kd kd':IntKind}{n:Int}(h:ty t=some ⟨.slice e s lR agg,sz,z0⟩)(he:ty e=some ⟨k,sz',some z⟩)
  (h0:0<=n) (hs:0<s) (Ci:n<=140737488355328-4096) (hb:n.toNat*lR<=fQ) (hp:(z.map DV.aO).all DV.ck=true):
  Yields x ((do pure (.value (<-Instr.makeSlice t (.int kd n) (.int kd' n))):Sem Next).run P x.w) (.jS aF n.toNat agg) (eU x.S aF (.op e s (List.replicate n.toNat (z.map DV.aO)).flatten false)):=by
 obtain⟨hk,i,hi,-,-⟩:=b9 (fu t _ h);obtain⟨hu,ie,uc,sB,hby,HH⟩:=mE hk;obtain⟨-,ie',Dg,-,hz⟩:=b9 (fu e _ he);rw[uc]at Dg;cases Dg;obtain⟨zv,h1,h2,hzl⟩:=jO hz;obtain⟨h3,h4⟩:=iK (x:=x) h2;have SD:zv.cells.size=s:=by rw[<-sB,<-hzl];simpa using h3
 have HS:z.length=s:=by rw[hzl,sB]
 have h4':∀j c,(z.map DV.aO)[j]? =some c->RV x c (zv.cells.toList.getD j undef):=λj c hc=>by simp only[cM,af]at hc;obtain⟨c',h1,rfl⟩:=hc;exact(h4 j c' h1).aO
 have CH:=Gr (n:=n.toNat) (z:=z.map DV.aO) hs (by rw[List.length_map];exact HS) SD h4';generalize FH:(Array.range (n.toNat*s)).map (zv.cells[·% zv.cells.size]!)=arr at*;have hlen:(List.replicate n.toNat (z.map DV.aO)).flatten.length=n.toNat*s:=by simp[HS]
 obtain⟨y,y1,y2,y3,y4,y5⟩:=Bb (n:=n.toNat) (agg:=agg) hR hn (gO x.w (.cells arr e)) (k:=n.toNat) (s:=s) (by rw[CH.1,hlen]) (by rw[CH.1];exact ak _) (by unfold maxLen;omega) (λj c hc=>⟨by have hm:=cr hc;simp only[List.mem_flatten,List.mem_replicate]at hm;obtain⟨l,⟨-,rfl⟩,hm⟩:=hm;exact aX.1 hp c hm,CH.2 j c hc⟩) hlen.symm;refine iu (v:=.slice (some ⟨x.w.heap.size,0,none⟩) n.toNat n.toNat) ?_ y2 y3 y4 y5;rw[y1];have hw:IntKind.i64.wrap n=n:=by rw[IntKind.wrap_i64];omega
 have hbz:((ie.bytes:Int)*n)<=140737488355328:=by
  have e1:n=(n.toNat:Int):=by omega
  rw[e1,hby,<-Int.natCast_mul,Nat.mul_comm];unfold fQ at hb;omega
 have e48:(2:Int)^48=281474976710656:=by decide
 have c1:¬(n<0):=by omega
 have c2:¬(281474976710656<(ie.bytes:Int)*n):=by omega
 subst sB;have hnw:(newRow e arr).run P x.w=.ok ⟨x.w.heap.size,0,none⟩ (x.w.alloc (.cells arr e)):=by simp[newRow]
 have c3:¬(2^48<(ie.bytes:Int)*n):=by rw[e48];exact c2
 have xw:∀z0:Array Value,(Array.range (n.toNat*ie.size)).map (z0[·% z0.size]!)=arr->(do let a<-newRow e ((Array.range (n.toNat*ie.size)).map (z0[·% z0.size]!));pure (Value.slice (some a) n.toNat n.toNat):Sem Value).run P x.w=.ok (.slice (some ⟨x.w.heap.size,0,none⟩) n.toNat n.toNat) (x.w.alloc (.cells arr e)):=λz0 h=>by rw[h,Sem.run_bind,hnw,Result.andThen_ok,Sem.run_pure]
 unfold Instr.makeSlice;simp only[Sem.run_bind,run_underlying hu,Result.andThen_ok,asInt,asIntOf,Sem.run_pure,typeInfo,run_program,uc,hw,jl c1,jl c3,Bool.or_false,gt_iff_lt,jl (Int.lt_irrefl n),aI,if_false,run_askRoom,run_sizeOf uc];by_cases JG:n.toNat*ie.size=0;.have:=xw #[] (by rw[<-FH,JG];simp);simpa only[if_pos JG,Sem.run_bind,Sem.run_pure,Result.andThen_ok]using this
 have:=xw zv.cells FH;simpa only[if_neg JG,zeroValue,typeInfo,run_program,uc,h1,Sem.run_bind,Sem.run_pure,Result.andThen_ok]using this
theorem ES(fu:kC P ty)(hR:Rel x)(hn:Fi x.S aF){t u:TypeId}{a b d:DV}{va vb:Value}{S':ai}(ha:RV x a va)(hb:RV x b vb)(h:oS ty x.S aF t a b=some (d,S')):
  Yields x ((do pure (.value (<-Builtin.append_ #[t,t] u #[va,vb])):Sem Next).run P x.w) d S':=by
 unfold oS at h;split at h
 rotate_left
 .cases h
 rename_i e s lR agg sz z0 news Fv ab8 htt;obtain⟨hk,it,-,-,-⟩:=b9 (fu t _ htt);obtain⟨hu,ie,uc,sB,Fh,-⟩:=mE hk;have JL:=hb;cases hb with
 |@sl _ _ _ A2 tW s2 vs2 S8 Mp m1 m2 m3 m4 m5=>
  split at h
  rotate_left
  .cases h
  rename_i hte;obtain⟨z,hiz,SD⟩:∃z,ie.zero=some z/\z.cells.size=s:=by obtain⟨-,ie',Dg,JJ,CH⟩:=b9 (fu e _ hte);rw[uc]at Dg;cases Dg;obtain⟨z,q1,q2,q3⟩:=jO CH;have:=(iK (x:=x) q2).1;exact⟨z,q1,by rw[<-sB,<-q3];simpa using this⟩
  have emp:∀(A:Option Addr)(n cap:Nat),n<=cap->news=[]->(Builtin.append_ #[t,t] u #[.slice A n cap,.slice A2 news.length tW]).run P x.w=.ok (.slice A n cap) x.w:=by rintro A n cap k1 rfl;subst sB;cases A<;>cases A2<;>simp[Builtin.append_,run_underlying hu,run_sizeOf uc,Builtin.lenOf,Builtin.firstCells,loadCells,loadCellsFrom,storeCells,k1]
  have grown:∀(n cap:Nat),n+news.length<=140737488355328-4096->∀(w1:List Value),w1.length=n*s->∀(oe:List Value),oe.length=news.length*s->∀(k:Nat),k=grownCap x.w (n+news.length) cap e->k<=maxLen/\n+news.length<=k/\
    (w1.toArray++oe.toArray++Builtin.zeroCells z.cells (k-(n+news.length))).size=k*s:=by
   intro n cap hlen w1 Oo oe qS k hk;have JK:=grownCap_ge x.w (n+news.length) cap e;have hle:=grownCap_le_maxLen x.w (n+news.length) cap e (by simp only[maxLen];omega);subst hk;refine⟨hle,JK,?_⟩;simp only[Array.size_append,mB,size_zeroCells,SD,Oo,qS,<-jX];congr 1;omega
  have abL:news≠[]->(∀r∈news,r.cells.length=s)->0<news.length/\∃(b2 o2:Nat)(oe:List Value),A2=some ⟨b2,o2,none⟩/\oe.length=news.length*s/\(flat news).length=news.length*s/\(∀c∈flat news,c.ck=true)/\(∀j c,(flat news)[j]? =some c->RV x c (oe.getD j undef))/\
    (∀j v,oe[j]? =some v->x.w.cell? ((⟨b2,o2,none⟩:Addr).add j)=some v)/\∀u∈oe,u.oneCell'=true:=by
   intro hne mR;have hm:0<news.length:=List.length_pos_iff.2 hne;obtain⟨-,-,-,-,-,acW,YD,oe,qS,FE,Ah,Gj⟩:=uO JL mR;obtain⟨ad2,rfl⟩:∃ad2,A2=some ad2:=by
    cases A2 with
    |none=>have:=m3 rfl;omega
    |some ad=>exact⟨ad,rfl⟩
   have Cu:=jG mR;obtain⟨b2,o2,sp2⟩:=ad2;have acV:sp2=none:=acW _ rfl (by omega);subst acV;refine⟨hm,b2,o2,oe,rfl,qS,Cu,YD,FE,λj v hv=>?_,Gj⟩;have hj:j<(flat news).length:=by rw[Cu,<-qS];exact(aA.1 hv).1
   obtain⟨b',o',q1,-,q2⟩:=Ah j _ (bP hj);cases q1;rw[iS,q2];simp[aP,hv]
  split at h
  .rename_i id n ag;cases ha with
   |@jS _ _ _ e1 s1 l1 z1 A cap hS1 hn1 hA1=>
    split at h
    rotate_left
    .cases h
    rename_i pS;simp only[aC,cq,aX]at pS;obtain⟨⟨⟨⟨hs,-⟩,mX⟩,hlen⟩,mR⟩:=pS;split at h
    rotate_left
    .cases h
    rename_i e' s' l hop;split at h
    rotate_left
    .cases h
    rename_i Ah;simp only[aC,cq]at Ah;obtain⟨c1,c2⟩:=Ah;rw[c1,c2]at hop;obtain⟨hS,HD⟩:=mF hop;obtain⟨rfl,rfl,rfl,rfl⟩:e=e1/\s=s1/\l=l1/\false=z1:=by rw[hS]at hS1;cases hS1;exact⟨rfl,rfl,rfl,rfl⟩
    obtain⟨rfl,rfl⟩:=hA1 HD;obtain⟨cur,t1,t2,t3,t4,t5,-,-⟩:=hR.ops id _ _ _ _ hS;have hnκ:n<=x.κ id:=Nat.le_of_mul_le_mul_right (show n*s<=x.κ id*s by omega) hs;split at h;.rename_i wC;cases h;exact aZ hR (emp _ _ _ hnκ (by simpa using wC)) (.jS hS hn1 λ_=>⟨rfl,rfl⟩)
    rename_i wC;cases h;obtain⟨hm,b2,o2,oe,rfl,qS,Cu,YD,FE,rq,Gj⟩:=abL (by simpa using wC) mR;have ab1:(l++flat news).length=(n+news.length)*s:=by rw[bU,Cu,jX];omega
    have Bn:∀c∈l++flat news,c.ck=true:=λc hc=>by
     rcases eY.1 hc with hc|hc;.obtain⟨j,hj⟩:=sX.1 hc;exact(t5 j c hj).1
     exact YD c hc
    have hlt:l.length<(l++flat news).length:=by rw[bU,Cu];have:=Nat.mul_pos hm hs;omega
    have ahC:ia x (flat news) oe.toArray:=⟨by simp[qS,Cu],λj c hc=>by simpa [bz,aP]using FE j c hc⟩;by_cases hroom:n+news.length<=x.κ id
    .have HV:n*s+oe.length<=cur.size:=by rw[qS,t2,<-jX];exact fU _ hroom
     have hrun:=run_append_room (P:=P) x.w t u e ie hu uc (x.μ id) n (x.κ id) cur t1 ⟨b2,o2,none⟩ news.length tW oe (by rw[qS,sB]) rq Gj hroom (by rw[sB];exact HV);rw[sB,HD]at hrun;have hp:=IW (off:=l.length) t3 (λj c hc=>(t5 j c hc).2) ahC (ak _) (by rw[Cu];omega);have hsz:(cur.toList.take l.length++oe++cur.toList.drop (l.length+oe.length)).toArray.size=cur.size:=by simp;omega
     rw[List.drop_of_length_le (show l.length<=l.length+(flat news).length by omega),dZ,iH,mB]at hp;generalize FH:(cur.toList.take l.length++oe++cur.toList.drop (l.length+oe.length)).toArray=arr at*;have mP:=CP (F:=λ_=>False) (arr:=arr) (b:=.op e s (l++flat news) false) hR hS (.inr (.inr ⟨e,s,_,_,rfl,rfl,by omega,by simp,by rw[hsz];exact t2,by rw[hsz,ab1,t2];exact fU _ hroom,λj c hc=>⟨Bn c (cr hc),hp j c hc⟩⟩));have M:=uT (F:=λ_=>False) (arr:=arr) (b:=.op e s (l++flat news) false) hR hS (.inr (.inr ⟨e,s,_,_,rfl,rfl,by omega⟩));refine iu hrun (y:=x.upd id arr (λ_=>False) (.op e s (l++flat news) false)) rfl mP M (.jS (e:=e) (s:=s) (l:=l++flat news) (z:=false) (by show(x.S.set _ _)[_]? =_;rw[gW hS,if_pos rfl]) (by omega) λ_=>⟨rfl,rfl⟩)
    have sH:∀j,j<n*s->∃v,cur[j]? =some v:=λj hj=>⟨cur[j]'(by omega),ct _⟩;have Oo:(cur.toList.take (n*s)).length=n*s:=by simp;omega
    obtain⟨g1,g2,g3⟩:=grown n (x.κ id) hlen _ Oo _ qS _ rfl;have hrun:=run_append_grow (P:=P) x.w t u e ie z hu uc hiz ⟨x.μ id,0,none⟩ n (x.κ id) (cur.toList.take (n*s)) (by rw[Oo,sB]) (λj v hv=>by
      have hj:j<n*s:=by rw[<-Oo];exact(aA.1 hv).1
      rw[qJ,if_pos hj]at hv;rw[iS];simp only[World.cell?,t1,jk];simpa using hv) ⟨b2,o2,none⟩ news.length tW oe (by rw[qS,sB]) rq (by omega) (by omega) (growslice_fits (by omega) (by rw[Fh];exact mX))
    generalize hk0:grownCap x.w (n+news.length) (x.κ id) e=k at*;obtain⟨v1,v2⟩:=Ba (Z:=Builtin.zeroCells z.cells (k-(n+news.length))) Oo qS;generalize FH:(cur.toList.take (n*s)).toArray++oe.toArray++Builtin.zeroCells z.cells (k-(n+news.length))=arr at*;have hp:pK x.w (x.w.drew.alloc (.cells arr e)) (.cells arr e (0,0)):=⟨rfl,rfl,rfl⟩;have hcc:∀j c,(l++flat news)[j]? =some c->c.ck=true/\RV x c (arr.getD j undef):=λj c hc=>by
     refine⟨Bn c (cr hc),?_⟩;by_cases hj:j<l.length;.rw[ee hj]at hc;rw[v1 j (by omega)];have:=(t5 j c hc).2;simpa [bz,aP,qJ,show j<n*s by omega]using this
     rw[iI (by omega)]at hc;have hj2:j-l.length<(flat news).length:=(aA.1 hc).1;have e1:j=n*s+(j-l.length):=by omega
     rw[e1,v2 _ (by omega)];exact FE _ c hc
    have mP:=Wy (k:=k) hR hS hp hlt g3 (by rw[g3,ab1];exact fU _ g2) g1 hcc;have M:=GU (k:=k) hR hS hp hlt;refine iu hrun (y:=x.kH (x.w.drew.alloc (.cells arr e)) id k (λ_=>False) (.op e s (l++flat news) false)) rfl mP M (.jS (e:=e) (s:=s) (l:=l++flat news) (z:=false) (by show(x.S.set _ _)[_]? =_;rw[gW hS,if_pos rfl]) (by omega) λ_=>?_);exact⟨congrArg (λb=>some (⟨b,0,none⟩:Addr)) (if_pos rfl:(if id=id then _ else _)=_).symm,(if_pos rfl:(if id=id then k else _)=k).symm⟩
  .rename_i f;cases ha with
   |@sl _ _ _ A cap s1 vs1 Qz ye k1 k2 k3 k4 k5=>
    split at h;.rename_i wC;cases h;exact aZ hR (emp _ _ _ k1 (by simpa using wC)) (.sl Qz ye k1 k2 k3 k4 k5)
    rename_i wC;split at h
    rotate_left
    .cases h
    rename_i pS;simp only[aC,cq,aX]at pS;obtain⟨⟨⟨⟨⟨ahQ,hs⟩,-⟩,mX⟩,hlen⟩,mR⟩:=pS;cases h;obtain⟨hm,b2,o2,oe,rfl,qS,Cu,YD,FE,rq,Gj⟩:=abL (by simpa using wC) mR;have JS:cap=0:=k2.1 ahQ;subst JS;obtain⟨g1,g2,g3⟩:=grown 0 0 (by omega) [] (by simp) _ qS _ rfl;have hrun:(Builtin.append_ #[t,t] u #[.slice A ([]:List DV).length 0,.slice (some ⟨b2,o2,none⟩) news.length tW]).run P x.w=
      .ok (.slice (some ⟨x.w.heap.size,0,none⟩) news.length (grownCap x.w news.length 0 e)) (x.w.drew.alloc (.cells (oe.toArray++Builtin.zeroCells z.cells (grownCap x.w news.length 0 e-news.length)) e)):=by
     cases A with
     |none=>exact run_append_nil (P:=P) x.w t u e ie z hu uc hiz ⟨b2,o2,none⟩ news.length tW oe (by rw[qS,sB]) rq hm (by omega) (by rw[Fh];unfold fQ at mX;omega)
     |some ad=>have:=run_append_grow (P:=P) x.w t u e ie z hu uc hiz ad 0 0 [] (by simp) (by simp) ⟨b2,o2,none⟩ news.length tW oe (by rw[qS,sB]) rq (by omega) (by omega) (growslice_fits (by omega) (by rw[Fh,jk];exact mX));simpa using this
    simp only[jk]at g1 g2 g3;generalize hk0:grownCap x.w news.length 0 e=k at*;have v2:∀j,j<news.length*s->(oe.toArray++Builtin.zeroCells z.cells (k-news.length)).getD j undef=oe.getD j undef:=λj hj=>by rw[bz,zg (by simp;omega)];simp[aP]
    have g3':(oe.toArray++Builtin.zeroCells z.cells (k-news.length)).size=k*s:=by simpa using g3
    obtain⟨y,y1,y2,y3,y4,y5⟩:=Bb (n:=news.length) (agg:=agg) hR hn (w':=x.w.drew.alloc (.cells (oe.toArray++Builtin.zeroCells z.cells (k-news.length)) e)) (e:=e) (l:=flat news) (k:=k) (s:=s) ⟨rfl,rfl,rfl⟩ g3' (by rw[g3',Cu];exact fU _ g2) g1 (λj c hc=>⟨YD c (cr hc),by have hj:j<(flat news).length:=(aA.1 hc).1;rw[v2 j (by omega)];exact FE j c hc⟩) Cu.symm;exact iu (by rw[y1];exact hrun) y2 y3 y4 y5
  cases h
theorem look_ok(hR:Rel x){d:DV}{v:Value}(h:RV x d v):RV x (kI x.S d) v:=by
 cases h with
 |@jS id n agg e1 s1 l1 z1 A cap hS hn hA=>
  unfold kI;dsimp only;split
  .rename_i e s l hop;obtain⟨CJ,HD⟩:=mF hop;obtain⟨rfl,rfl,rfl,rfl⟩:e=e1/\s=s1/\l=l1/\true=z1:=by rw[CJ]at hS;cases hS;exact⟨rfl,rfl,rfl,rfl⟩
   split
   .rename_i hc;simp only[aC,gY,dX,cq]at hc;obtain⟨rfl,rfl⟩:=hA HD;obtain⟨arr,h1,h2,h3,-,h4,h5,-⟩:=hR.ops id e s l true hS;obtain⟨xe,hrl⟩:=He hc.1 hc.2 (λc hm=>by obtain⟨j,hj⟩:=sX.1 hm;exact(h4 j c hj).1) n HD.symm;have hrn:(rowsOf s agg l n).length=n:=by simp[rowsOf]
    suffices hk:RV x (.sl (rowsOf s agg l n) none ⟨false,some false⟩) (.slice (some ⟨x.μ id,0,none⟩) (rowsOf s agg l n).length (x.κ id))by rw[hrn]at hk;exact hk
    refine RV.sl (tok:=none) (DR hrl (λc hm=>?_) (by rw[xe];exact h3) h1 λj hj=>h5 rfl j (by rw[xe]at hj;exact hj)) (λj c hc=>?_) ?_ ⟨by simp,λb h=>by cases h;rfl⟩ (by simp) (λad h _=>by cases h;rfl) (λt ht=>nomatch ht);.rw[xe]at hm;obtain⟨j,hj⟩:=sX.1 hm;exact(h4 j c hj).1
    .rw[xe]at hc;exact(h4 j c hc).2
    rw[hrn];exact Nat.le_of_mul_le_mul_right (show n*s<=x.κ id*s by omega) hc.1
   exact .jS hS hn hA
  exact .jS hS hn hA
 |val h=>exact .val h
 |agg h hl=>exact .agg h hl
 |tup h hl=>exact .tup h hl
 |sl hv hr h1 h2 h3 hsp h4=>exact .sl hv hr h1 h2 h3 hsp h4
 |ptr h=>exact .ptr h
 |fq hv hr=>exact .fq hv hr
 |fn h1 h2 h3 h4=>exact .fn h1 h2 h3 h4
 |map h=>exact .map h
 |od h=>exact .od h
 |gu h h1 h2=>exact .gu h h1 h2
theorem Np(hR:Rel x)(d:DV):∃y,y.w=x.w/\y.S=yt x.S d/\Rel y/\bV x y:=by
 unfold yt;split
 .rename_i id n ag;split;.rename_i e s l hop;obtain⟨hS,-⟩:=mF hop;exact⟨x.close id e s l,rfl,rfl,Rw hR hS,EW hS⟩
  exact⟨x,rfl,rfl,hR,bV.refl x⟩
 exact⟨x,rfl,rfl,hR,bV.refl x⟩
theorem P7:∀(l:List DV){x:Cx},Rel x->∃y,y.w=x.w/\y.S=l.foldl yt x.S/\Rel y/\bV x y
 |[],x,hR=>⟨x,rfl,rfl,hR,bV.refl x⟩
 |d::l,x,hR=>by obtain⟨y,y1,y2,y3,y4⟩:=Np hR d;obtain⟨z,z1,z2,z3,z4⟩:=P7 l y3;exact⟨z,z1.trans y1,by rw[z2,y2,gp],z3,y4.trans z4⟩
theorem P9(hR:Rel x)(d:DV):∃y,y.w=x.w/\y.S=tV x.S d/\Rel y/\bV x y:=by
 have o:tV x.S d=yt x.S d->∃y,y.w=x.w/\y.S=tV x.S d/\Rel y/\bV x y:=λe=>by rw[e];exact Np hR d
 cases d
 case agg l=>exact P7 _ hR
 all_goals exact o rfl
theorem P4:∀(l:List DV){x:Cx},Rel x->∃y,y.w=x.w/\y.S=l.foldl tV x.S/\Rel y/\bV x y
 |[],x,hR=>⟨x,rfl,rfl,hR,bV.refl x⟩
 |d::l,x,hR=>by obtain⟨y,y1,y2,y3,y4⟩:=P9 hR d;obtain⟨z,z1,z2,z3,z4⟩:=P4 l y3;exact⟨z,z1.trans y1,by rw[z2,y2,gp],z3,y4.trans z4⟩
theorem aaP(hR:Rel x)(d:DV):∃y,y.w=x.w/\y.S=HW x.S d/\Rel y/\bV x y:=by
 have o:HW x.S d=tV x.S d->∃y,y.w=x.w/\y.S=HW x.S d/\Rel y/\bV x y:=λe=>by rw[e];exact P9 hR d
 cases d
 case tup l=>exact P4 _ hR
 all_goals exact o rfl
theorem Xq(hR:Rel x){l:List DV}{vs:Array Value}(h:∀j c,l[j]? =some c->RV x c (vs.getD j undef))(j:Nat)(c:DV)(hj:(l.map (kI x.S))[j]? =some c):RV x c (vs.getD j undef):=by simp only[cM,af]at hj;obtain⟨c',h2,rfl⟩:=hj;exact look_ok hR (h j c' h2)
theorem Ld(hR:Rel x){d:DV}{v:Value}(h:RV x d v):RV x (tJ x.S d) v:=by
 cases h with
 |agg h1 h2=>exact .agg (by simpa using h1) (Xq hR h2)
 |val h=>exact look_ok hR (.val h)
 |tup h1 h2=>exact look_ok hR (.tup h1 h2)
 |sl hv hr h1 h2 h3 hsp h4=>exact look_ok hR (.sl hv hr h1 h2 h3 hsp h4)
 |ptr h=>exact look_ok hR (.ptr h)
 |fq hv hr=>exact look_ok hR (.fq hv hr)
 |fn h1 h2 h3 h4=>exact look_ok hR (.fn h1 h2 h3 h4)
 |map h=>exact look_ok hR (.map h)
 |od h=>exact look_ok hR (.od h)
 |jS h h1 h2=>exact look_ok hR (.jS h h1 h2)
 |gu h h1 h2=>exact look_ok hR (.gu h h1 h2)
theorem Xr(hR:Rel x){d:DV}{v:Value}(h:RV x d v):RV x (uu x.S d) v:=by
 cases d
 case tup l=>
  cases h with
  |tup h1 h2=>refine .tup (by simpa using h1) λj c hj=>?_;simp only[cM,af]at hj;obtain⟨c',h3,rfl⟩:=hj;exact Ld hR (h2 j c' h3)
 all_goals exact Ld hR h
theorem I8{env:List DV}:∀(l:List Operand){x:Cx},Rel x->∃y,y.w=x.w/\y.S=l.foldl (rG env) x.S/\Rel y/\bV x y
 |[],x,hR=>⟨x,rfl,rfl,hR,bV.refl x⟩
 |a::l,x,hR=>by
  rw[gp];cases he:jr env a with
  |none=>rw[show rG env x.S a=x.S by unfold rG;rw[he]];exact I8 l hR
  |some d=>rw[show rG env x.S a=yt x.S d by unfold rG;rw[he]];obtain⟨y,y1,y2,y3,y4⟩:=Np hR d;obtain⟨z,z1,z2,z3,z4⟩:=I8 (env:=env) l y3;exact⟨z,z1.trans y1,by rw[z2,y2],z3,y4.trans z4⟩
theorem aej{env:List DV}{arr:Array Value}(o:Oper)(hR:Rel x)(he:ia x env arr):∃y,y.w=x.w/\y.S=(FB ty o env x.S).2/\Rel y/\bV x y/\ia y (FB ty o env x.S).1 arr:=by
 unfold FB;split;.obtain⟨y,y1,y2,y3,y4⟩:=I8 (env:=env) o.op.operands.toList hR;refine⟨y,y1,y2,y3,y4,by simpa using he.1,λj c hc=>?_⟩;simp only[cM,af]at hc;obtain⟨c',h1,rfl⟩:=hc;rw[<-y2];exact look_ok y3 ((he.2 j c' h1).mono y4)
 exact⟨x,rfl,rfl,hR,bV.refl x,he⟩
end Go.Di
namespace Go.Di
open Go
variable {P:Program} {ty:fR} {x:Cx} {w':World} {aK:bR} {call:bt} {yf:ej} {ρd:Operand->Option DV} {ρ:Operand->Value} {o:Oper} {aF:Nat}
theorem G9{s:Nat}:∀{rows:List DV}(_:∀r∈rows,r.cells.length=s)(h:Nat),flat (rows.take h)=(flat rows).take (h*s)
 |[],_,h=>by simp[flat]
 |r::rows,hs,0=>by simp[flat]
 |r::rows,hs,h+1=>by
  have h0:=hs r (by simp);have ih:=G9 (rows:=rows) (λr hr=>hs r (by simp[hr])) h;simp only[flat]at ih;simp only[List.take_succ_cons,flat,cT,ih];have e1:r.cells.take ((h+1)*s)=r.cells:=List.take_of_length_le (by rw[h0,mo];omega);have e2:(h+1)*s-s=h*s:=by rw[mo];omega
  rw[List.take_append,h0,e1,e2]
theorem Hi{s:Nat}:∀{rows:List DV}(_:∀r∈rows,r.cells.length=s)(l:Nat),flat (rows.drop l)=(flat rows).drop (l*s)
 |[],_,l=>by simp[flat]
 |r::rows,hs,0=>by simp
 |r::rows,hs,l+1=>by
  have h0:=hs r (by simp);have ih:=Hi (rows:=rows) (λr hr=>hs r (by simp[hr])) l;simp only[flat]at ih;simp only[List.drop_succ_cons,flat,cT,ih];have e1:r.cells.drop ((l+1)*s)=[]:=List.drop_of_length_le (by rw[h0,mo];omega);have e2:(l+1)*s-s=l*s:=by rw[mo];omega
  rw[y6,h0,e1,e2,gZ]
theorem Bg{ρd:Operand->Option DV}{ρ:Operand->Value}(hρ:yy x ρd ρ){a:Operand}{eL n:Nat}{d:Nat}(h:iq ρd (some a) d eL=some n)(y:Nat)(hy:eL<=y)(code:BoundsCode)(w:World):n<=eL/\(Instr.sliceBound (ρ a) y code).run P w=.ok n w:=by
 unfold iq at h;simp only at h;split at h
 .rename_i i hi;split at h;.rename_i hc;cases h;obtain⟨k,hk⟩:=nW hρ hi;refine⟨hc.2,?_⟩;have Ah:0<=i/\i<=(y:Int):=⟨hc.1,by omega⟩;simp only[Instr.sliceBound,hk,asIntOf,Sem.run_bind,Sem.run_pure,Result.andThen_ok,Ah,and_self,if_true]
  cases h
 cases h
theorem Vj{rows:List DV}{tok:Option Nat}{f:SF}{A:Option Addr}{n cap:Nat}(h:RV x (.sl rows tok f) (.slice A n cap)):∀b,MF rows f=some b->A.isNone=b:=by
 intro b hb;cases h with
 |sl hv hr h1 h2 h3 hsp h4=>
  unfold MF at hb;split at hb;.exact h2.2 b hb
  rename_i hne;cases hb;cases A with
  |none=>have:=h3 rfl;have h0:rows=[]:=eS (by omega);exact absurd (by simp[h0]) hne
  |some ad=>rfl
theorem R2(fu:kC P ty){op:BinOp}{t:TypeId}{a b:Operand}{d:DV}(hρ:yy x ρd ρ)(h:Dz ty op t (ρd a) (ρd b)=some d):
  ∃v,(do eqGuard op t a b (ρ a) (ρ b);binOp op t (ρ a) (ρ b):Sem Value).run P x.w=.ok v x.w/\RV x d v:=by
 unfold Dz at h;split at h
 .rename_i rows tok f Fv f2 ha hb;have ra:=hρ a _ ha;have rb:=hρ b _ hb;generalize ρ a=va at ra⊢;generalize ρ b=vb at rb⊢;split at h
  .rename_i e s lR agg sz z c htt hn;obtain⟨hk,it,-,-,-⟩:=b9 (fu t _ htt);obtain⟨hu,-⟩:=mE hk;have ra0:=ra;have rb0:=rb;cases ra with
   |@sl _ _ _ A cap s1 vs1 Qz ye k1 k2 k3 k4 k5=>
    cases rb with
    |@sl _ _ _ A2 tW s2 vs2 S8 Mp m1 m2 m3 m4 m5=>
     have hA:=Vj ra0 c hn;have hA2:=m2.2 true rfl;have:A2=none:=by simpa using hA2
     subst this;have heq:(Op.equal t (.slice A rows.length cap) (.slice none 0 tW)).run P x.w=.ok c x.w:=by subst hA;obtain⟨n,qu⟩:∃n,Op.maxDepth=n+1:=⟨9999,rfl⟩;cases A<;>simp only[Op.equal,qu,Op.equalIn,Sem.run_bind,run_underlying hu,Result.andThen_ok,Sem.run_pure,Option.isNone_none,Option.isNone_some]
     split at h;.cases h;exact⟨.bool c,by simp[eqGuard,binOp,heq],.val rfl⟩
     .cases h;exact⟨.bool (!c),by simp[eqGuard,binOp,heq],.val rfl⟩
     cases h
  cases h
 cases h
theorem W4(fu:kC P ty)(hR:Rel x)(hρ:yy x ρd ρ){t e:TypeId}{s lR sz:Nat}{agg:Bool}{z:Option (List DV)}(htt:ty t=some ⟨.slice e s lR agg,sz,z⟩){rows:List DV}{tok:Option Nat}{full:SF}{va:Value}(ha:RV x (.sl rows tok full) va)(pR:∀r∈rows,r.cells.length=s)
  {lo hi mx:Option Operand} {m h l:Nat} {d:DV} (hm:iq ρd mx rows.length rows.length=some m) (hh:iq ρd hi rows.length m=some h) (hl:iq ρd lo 0 h=some l) (hhm:(hi.isNone&&mx.isSome)=false) (hd:sF rows full l h (mx.map λ_=>m)=some d):
  Yields x ((do pure (.value (<-Instr.sliceAt t va (lo.map ρ) (hi.map ρ) (mx.map ρ))):Sem Next).run P x.w) d x.S:=by
 obtain⟨hk,it,-,-,-⟩:=b9 (fu t _ htt);obtain⟨hu,ie,uc,sB,-,-⟩:=mE hk;have xe:=jG pR;have Fs:=ha;cases ha with
 |@sl _ _ _ A cap s1 vs1 Qz ye k1 k2 k3 k4 k5=>
  obtain⟨-,-,-,-,-,hsp,hpR,ws,hwl,SG,hc,-⟩:=uO Fs pR;have afF:=Vj Fs;have hbm:m<=rows.length/\∃M,(∀w:World,(match mx.map ρ with|some v=>Instr.sliceBound v cap .slice3Acap|none=>pure cap:Sem Nat).run P w=.ok M w)/\m<=M/\M<=cap/\(mx.isSome=true->M=m)/\(mx=none->M=cap/\m=rows.length):=by
   cases mx with
   |none=>simp only[iq,aB]at hm;subst hm;exact⟨ak _,cap,λw=>rfl,k1,ak _,by simp,λ_=>⟨rfl,rfl⟩⟩
   |some a=>have:=λw=>Bg (P:=P) hρ hm cap k1 .slice3Acap w;exact⟨(this default).1,m,λw=>(this w).2,ak _,bD (this default).1 k1,λ_=>rfl,by simp⟩
  obtain⟨hmr,M,hM,hmM,hMc,hMs,hMn⟩:=hbm;have hbh:h<=rows.length/\h<=M/\∀w:World,(match hi.map ρ,mx.map ρ with|some v,some _=>Instr.sliceBound v M .slice3B|some v,none=>Instr.sliceBound v M .sliceAcap|none,none=>pure rows.length|none,some _=>stuck "Slice: max without high":Sem Nat).run P w=.ok h w:=by
   cases hi with
   |none=>
    cases mx with
    |none=>simp only[iq,aB]at hh;subst hh;exact⟨ak _,by rw[(hMn rfl).1];exact k1,λw=>rfl⟩
    |some a=>simp at hhm
   |some b=>
    have q1:=λc w=>Bg (P:=P) hρ hh M hmM c w;have q2:=(q1 .slice3B default).1;refine⟨bD q2 hmr,bD q2 hmM,λw=>?_⟩;cases mx with
    |none=>exact(q1 .sliceAcap w).2
    |some a=>exact(q1 .slice3B w).2
  obtain⟨hhr,hhM,hH⟩:=hbh;have hbl:l<=h/\∀w:World,(match lo.map ρ with|some v=>Instr.sliceBound v h (if(mx.map ρ).isSome then .slice3C else .sliceB)|none=>pure 0:Sem Nat).run P w=.ok l w:=by
   cases lo with
   |none=>simp only[iq,aB]at hl;subst hl;exact⟨kT _,λw=>rfl⟩
   |some a=>have q1:=λc w=>Bg (P:=P) hρ hl h (ak _) c w;exact⟨(q1 .slice3C default).1,λw=>(q1 _ w).2⟩
  obtain⟨hlh,hL⟩:=hbl;have hA':∀A',A'=(if M=l then A else A.map (·.add (l*s)))->(A'=none->M-l=0)/\(∀ad,A'=some ad->0<M-l->ad.spot=none):=by
   intro A' hA;subst hA;split;.exact⟨λ_=>by omega,λ_ _ h=>absurd h (by omega)⟩
   cases A with
   |none=>have:=k3 rfl;exact⟨λ_=>by omega,by simp⟩
   |some ad=>refine⟨by simp,λad' h hp=>?_⟩;simp only[ay,aB]at h;subst h;have:=k4 ad rfl (by omega);obtain⟨b,o,sp⟩:=ad;simp only at this;subst this;rw[iS]
  have afE:∀(acv:Option Nat)(J8:SF),(J8.full=true->M-l=h-l)/\UR J8 A->acv=none->RV x (.sl ((rows.take h).drop l) acv J8) (.slice (if M=l then A else A.map (·.add (l*s))) (h-l) (M-l)):=by
   intro acv J8 yE ahx;subst ahx;obtain⟨hA1,hA2⟩:=hA' _ rfl;have hlen:((rows.take h).drop l).length=h-l:=by simp;omega
   have aeD:∀r∈(rows.take h).drop l,r.cells.length=s:=λr hr=>pR r (zf (List.mem_of_mem_drop hr));have agA:flat ((rows.take h).drop l)=((flat rows).take (h*s)).drop (l*s):=by rw[Hi (λr hr=>pR r (zf hr)),G9 pR]
   have jh:∀j c,(flat ((rows.take h).drop l))[j]? =some c->(flat rows)[l*s+j]? =some c/\l*s+j<h*s:=by
    intro j c SM;rw[agA,vN,qJ]at SM;split at SM;.exact⟨SM,‹_›⟩
    cases SM
   have hv:View x ((rows.take h).drop l) (if M=l then A else A.map (·.add (l*s))) s (λj=>ws.getD (l*s+j) undef):=by
    refine⟨aeD,λj c SM=>?_⟩;obtain⟨q1,q2⟩:=jh j c SM;obtain⟨b,o,r1,r2,r3⟩:=hc _ _ q1;refine⟨hpR c (cr q1),b,o+l*s,?_,by rw[eE];exact r2,by rw[eE];exact r3⟩;have hlt:l<h:=by
     rcases oT l h with h1|h1;.exact h1
     have:h*s<=l*s:=fU _ h1;omega
    rw[if_neg (by omega),r1];simp only[ay,iS]
   have:=RV.sl (tok:=none) (full:=J8) (cap:=M-l) hv (λj c SM=>SG _ _ (jh j c SM).1) (by rw[hlen];omega) ⟨λhf=>by rw[hlen];exact yE.1 hf,λb hb=>by rw[<-yE.2 b hb];split<;>simp⟩ hA1 hA2 (λt ht=>nomatch ht);rw[hlen]at this;exact this
  have hrun:(Instr.sliceAt t (.slice A rows.length cap) (lo.map ρ) (hi.map ρ) (mx.map ρ)).run P x.w=.ok (.slice (if M=l then A else A.map (·.add (l*s))) (h-l) (M-l)) x.w:=by
   have hb:(Instr.sliceBounds true rows.length cap (lo.map ρ) (hi.map ρ) (mx.map ρ)).run P x.w=.ok (l,h,M) x.w:=by
    have hM':=hM x.w;have hH':=hH x.w;have Tt:=hL x.w;unfold Instr.sliceBounds
    revert hM' hH' Tt hhm
    cases mx<;>cases hi<;>cases lo<;>intro hM' hH' Tt hhm<;>
     simp only[mw,ay,Sem.run_pure,Result.ok.injEq,and_true,Option.isSome_some,Option.isSome_none,Option.isNone_none,fT,Bool.true_eq_false,if_true,aI,if_false]at hM' hH' Tt hhm⊢<;>
     (try subst hM')<;>(try subst hH')<;>(try subst Tt)<;>simp only[Sem.run_bind,Result.andThen_ok,Sem.run_pure, *]
   unfold Instr.sliceAt;simp only[Sem.run_bind,run_underlying hu,Result.andThen_ok,Instr.slice,hb,run_sizeOf uc,Sem.run_pure,sB]
  unfold sF at hd;rw[if_pos hlh]at hd;cases mx with
  |none=>simp only[mw,aB]at hd;subst hd;refine aZ hR hrun (afE _ _ ⟨λhf=>?_,afF⟩ rfl);simp only[aC,dX]at hf;rw[(hMn rfl).1,k2.1 hf.1,hf.2]
  |some a=>
   simp only[ay]at hd;by_cases hc:h<=m;.rw[if_pos hc]at hd;simp only[aB]at hd;subst hd;refine aZ hR hrun (afE _ _ ⟨λhf=>?_,afF⟩ rfl);simp only[dX]at hf;rw[hMs rfl,hf]
   rw[if_neg hc]at hd;cases hd
def Op.lone:Op->Bool
 |.call {callee:=.builtin _,.. }=>true
 |.call _=>false
 |_=>true
theorem Ri(fu:kC P ty)(hR:Rel x)(hn:Fi x.S aF)(hρ:yy x ρd ρ)(hop:Op.lone o.op=true){d:DV}{S':ai}(h:ah P ty aK call yf ρd o x.S aF=some (d,S')):Yields x ((execOp ρ o).run P x.w) d S':=by
 obtain⟨dst,op,type,pos,after,guard⟩:=o;cases op with
 |move a=>simp only[ah,af,az]at h;obtain⟨d',h1,rfl,rfl⟩:=h;exact⟨ρ a,x,.inl rfl,rfl,hR,bV.refl x,hρ a _ h1⟩
 |assign a=>simp only[ah,af,az]at h;obtain⟨d',h1,rfl,rfl⟩:=h;exact⟨ρ a,x,.inl rfl,rfl,hR,bV.refl x,hρ a _ h1⟩
 |pick c a b=>
  simp only[ah]at h;split at h
  .rename_i t hc;have hcv:=xz (hρ c _ hc);simp only[af,az]at h;obtain⟨d',h1,rfl,rfl⟩:=h;cases t with
   |true=>exact⟨ρ a,x,.inl (by simp[execOp,hcv,asBool]),rfl,hR,bV.refl x,hρ a _ h1⟩
   |false=>exact⟨ρ b,x,.inl (by simp[execOp,hcv,asBool]),rfl,hR,bV.refl x,hρ b _ h1⟩
  cases h
 |alloc e=>
  simp only[ah]at h;split at h;.rename_i hk;cases h;exact W5 fu hR hn hk
  cases h
 |box e a=>
  simp only[ah]at h;split at h;.rename_i d' h1;cases h;exact aep hR hn (hρ a _ h1)
  cases h
 |build t ps=>
  simp only[ah]at h;split at h;.rename_i hk hl;simp only[af,az]at h;obtain⟨cs,h1,rfl,rfl⟩:=h;exact CB fu hR hρ hk hl h1
  .rename_i hk hl;simp only[af,az]at h;obtain⟨cs,h1,rfl,rfl⟩:=h;exact E7 fu hR hρ hk hl h1
  cases h
 |buildSlice t n ps=>
  simp only[ah]at h;split at h
  .rename_i e s lR agg sz z0 l hk hl;split at h
   .rename_i k sz' z he;split at h
    .rename_i hc;simp only[aC,cq]at hc;split at h
     .rename_i cs hf;split at h
      .rename_i hp;simp only[aC,gY,dX]at hp;split at h;.cases h;exact RU fu hR hn hρ hk hl he hc.1 hc.2 hf hp.1
       cases h;exact FP fu hR hρ hk hl he hc.1 hc.2 hf hp.1 hp.2
      cases h
     cases h
    cases h
   cases h
  cases h
 |makeSlice t a b=>
  simp only[ah]at h;split at h
  .rename_i e s lR agg sz z0 n m hk ha hb;split at h
   .rename_i k sz' z he;split at h;.rename_i hc;simp only[aC,gY,dX,cq]at hc;obtain⟨⟨⟨⟨⟨⟨h0,rfl⟩,hs⟩,-⟩,h1⟩,h2⟩,h3⟩:=hc;cases h;obtain⟨kd,hka⟩:=nW hρ ha;obtain⟨kd',hkb⟩:=nW hρ hb;have h4:=Jt (kd:=kd) (kd':=kd') fu hR hn hk he h0 hs h1 h2 h3;rw[<-hka,<-hkb]at h4;exact h4
    cases h
   cases h
  cases h
 |load t a=>
  simp only[ah]at h;split at h;.rename_i a' h1;simp only[af,az]at h;obtain⟨d',h2,rfl,rfl⟩:=h;obtain⟨v,h3,h4⟩:=Le fu hR (hρ a _ h1) h2;exact aZ hR h3 h4
  cases h
 |store t a v=>
  simp only[ah]at h;split at h;.rename_i a' v' h1 h2;simp only[af,az]at h;obtain⟨S2,h3,rfl,rfl⟩:=h;obtain⟨y,h4,h5,h6,h7⟩:=Rh fu hR (hρ a _ h1) (hρ v _ h2) h3;exact Ko h4 h5 h6 h7
  cases h
 |nilCheck a=>
  simp only[ah]at h;split at h
  .rename_i id off h1;cases h;have:=hρ a _ h1;generalize hv:ρ a=v at this;cases this with
   |ptr hS=>exact⟨_,x,.inl (by simp only[execOp,hv];rfl),rfl,hR,bV.refl x,.ptr hS⟩
  cases h
 |binOp op t a b u=>
  simp only[ah]at h;split at h;.rename_i va vb h1 h2;simp only[af,az]at h;obtain⟨d',h3,rfl,rfl⟩:=h;obtain⟨v,h4,h5⟩:=pn (x:=x) h3 x.w;rw[<-gh hρ h1,<-gh hρ h2]at h4;exact aZ hR h4 h5
  simp only[af,az]at h;obtain⟨d',h3,rfl,rfl⟩:=h;obtain⟨v,h4,h5⟩:=R2 fu hρ h3;exact aZ hR h4 h5
 |unOp op t a=>
  simp only[ah]at h;split at h;.rename_i va h1;simp only[af,az]at h;obtain⟨d',h3,rfl,rfl⟩:=h;obtain⟨v,h4,h5⟩:=pn (x:=x) h3 x.w;rw[<-gh hρ h1]at h4;exact aZ hR h4 h5
  cases h
 |convert s t a=>
  simp only[ah]at h;split at h;.rename_i va h1;simp only[af,az]at h;obtain⟨d',h3,rfl,rfl⟩:=h;obtain⟨v,h4,h5⟩:=pn (x:=x) h3 x.w;rw[<-gh hρ h1]at h4;exact aZ hR h4 h5
  cases h
 |makeFunc fn fs cs=>
  cases fn with
  |func f=>
   simp only[ah]at h;split at h
   .rename_i a b h1 h2;cases h;have e1:=xB hρ h1;have e2:=xB hρ h2;refine aZ hR (v:=.func (.func f) (fs.map ρ) (cs.map ρ)) rfl (.fn (by simpa using e1.1) (by simpa using e2.1) (λj c hc=>?_) (λj c hc=>?_));.have:=e1.2 j c hc;simpa [bz]using this
    have:=e2.2 j c hc;simpa [bz]using this
   cases h
  |_=>simp[ah]at h
 |slice t a lo hi mx=>
  simp only[ah]at h;split at h
  .rename_i s sz z rows tok full hk ha;split at h;.cases h
   rename_i pR;simp only[nI,Bool.not_eq_false,aX,cq]at pR;split at h
   .rename_i m hm;split at h
    .rename_i h' hh;split at h
     .rename_i l hl;split at h;.cases h
      rename_i hhm;simp only[af,az]at h;obtain⟨d',h3,rfl,rfl⟩:=h;exact W4 fu hR hρ hk (hρ a _ ha) pR hm hh hl (by simpa using hhm) h3
     cases h
    cases h
   cases h
  cases h
 |fieldAddr t a f=>
  simp only[ah]at h;split at h
  .rename_i fs sz z id off hk ha;split at h
   .rename_i o s agg hf;split at h
    .rename_i hs;cases h;have:=hρ a _ ha;generalize hv:ρ a=v at this;cases this with
     |ptr hS=>exact aZ hR (by rw[hv];exact tj fu hk hf hs _ _ _) (.ptr hS)
    cases h
   cases h
  .rename_i fs sz z rows i off hk ha;split at h
   .rename_i o s agg hf;split at h
    .rename_i hs;cases h;have:=hρ a _ ha;generalize hv:ρ a=v at this;cases this with
     |fq Qz S8=>refine aZ hR (by rw[hv];exact tj fu hk hf hs _ _ _) ?_;rw[eE,eE];exact .fq Qz S8
    cases h
   cases h
  .rename_i fs sz z id n off hk ha;split at h
   .rename_i o s agg q hf hop;obtain⟨e,s',l,zz⟩:=q;obtain⟨hS,HD⟩:=mF hop;split at h
    .rename_i hs;cases h;have:=hρ a _ ha;generalize hv:ρ a=v at this;cases this with
     |@gu _ _ _ e1 s1 l1 z1 _ CJ Ci hA=>
      obtain⟨rfl,rfl,rfl,rfl⟩:e=e1/\s'=s1/\l=l1/\zz=z1:=by rw[hS]at CJ;cases CJ;exact⟨rfl,rfl,rfl,rfl⟩
      have hA:=hA HD;subst hA;exact aZ hR (by rw[hv];exact tj fu hk hf hs _ _ _) (.gu hS Ci λ_=>rfl)
    cases h
   cases h
  cases h
 |field t a f=>
  simp only[ah]at h;split at h
  .rename_i fs sz z l hk ha;split at h;.rename_i off s agg hf;simp only[af,az]at h;obtain⟨d',h3,rfl,rfl⟩:=h;obtain⟨arr,hv,SG⟩:=Pe (hρ a _ ha);obtain⟨tZ,i,hi,-,-⟩:=b9 (fu t _ hk);obtain⟨fields,hu,hfs,hff⟩:=AK tZ;obtain⟨fd,h4,h5,inf,h6,h7,h8,d0,h9⟩:=hff f _ hf;simp only at h5 h7 h8;obtain⟨v,ue,HI⟩:=Px (x:=x) h6 h9 h7 h8 SG h3 x.w;refine aZ hR (v:=v) ?_ HI;simp only[Instr.field,hv,Sem.run_bind,run_underlying hu,Result.andThen_ok,h4,asAgg,Sem.run_pure,h5,ue]
   cases h
  cases h
 |indexAddr t a i=>
  simp only[ah]at h;split at h
  .rename_i e s lR agg sz z rows tok full n hk ha hi;split at h
   .rename_i h0;split at h
    .rename_i r hr;split at h
     .rename_i hs;cases h;obtain⟨kd,SJ⟩:=nW hρ hi;have:=hρ a _ ha;generalize hv:ρ a=v at this;cases this with
      |@sl _ _ _ A cap s1 vs Qz S8 k1 k2 k3 k4 k5=>
       have hlt:n.toNat<rows.length:=(aA.1 hr).1;cases A with
       |none=>have:=k3 rfl;omega
       |some ad=>
        obtain⟨b,o,sp⟩:=ad;have:sp=none:=k4 _ rfl (by omega);subst this;have Me:s1=s:=by rw[<-hs];exact(Qz.1 r (cr hr)).symm
        subst Me;refine aZ hR (by rw[hv,SJ];exact ER fu hk h0 hlt _ _ _) ?_;have:=RV.fq (i:=n.toNat) (off:=0) Qz S8;simpa using this
     cases h
    cases h
   cases h
  .rename_i k s agg sz z id off n hk ha hi;split at h
   .rename_i h0;cases h;obtain⟨kd,SJ⟩:=nW hρ hi;have:=hρ a _ ha;generalize hv:ρ a=v at this;cases this with
    |ptr hS=>exact aZ hR (by rw[hv,SJ];exact BV fu hk h0.1 h0.2 _ _ _) (.ptr hS)
   cases h
  .rename_i k s agg sz z rows j off n hk ha hi;split at h
   .rename_i h0;cases h;obtain⟨kd,SJ⟩:=nW hρ hi;have:=hρ a _ ha;generalize hv:ρ a=v at this;cases this with
    |fq Qz S8=>refine aZ hR (by rw[hv,SJ];exact BV fu hk h0.1 h0.2 _ _ _) ?_;rw[eE,eE];exact .fq Qz S8
   cases h
  .rename_i e s lR agg sz z id m ag n hk ha hi;split at h
   .rename_i q1 s' l zz hop;obtain⟨hS,HD⟩:=mF hop;split at h
    .rename_i h0;obtain⟨h0,h1,rfl⟩:=h0;cases h;obtain⟨kd,SJ⟩:=nW hρ hi;have:=hρ a _ ha;generalize hv:ρ a=v at this;cases this with
     |@jS _ _ _ e1 s1 l1 z1 _ _ CJ Ci hA=>
      obtain⟨rfl,rfl,rfl,rfl⟩:q1=e1/\s'=s1/\l=l1/\zz=z1:=by rw[hS]at CJ;cases CJ;exact⟨rfl,rfl,rfl,rfl⟩
      obtain⟨rfl,rfl⟩:=hA HD;exact aZ hR (by rw[hv,SJ];exact ER fu hk h0 h1 _ _ _) (.gu hS (by omega) λ_=>by rw[jk])
    cases h
   cases h
  cases h
 |index t a i=>
  simp only[ah]at h;split at h
  .rename_i k s agg sz z l n hk ha hi;split at h;.rename_i h0;simp only[af,az]at h;obtain⟨d',h3,rfl,rfl⟩:=h;obtain⟨kd,SJ⟩:=nW hρ hi;obtain⟨arr,hv,SG⟩:=Pe (hρ a _ ha);obtain⟨tZ,it,Yb,-,-⟩:=b9 (fu t _ hk);obtain⟨e,hu,ie,uc,sB,HH,d0,hu2⟩:=zk tZ;obtain⟨v,ue,HI⟩:=Px (x:=x) uc hu2 sB HH SG h3 x.w;refine aZ hR (v:=v) ?_ HI;have hc:0<=n/\n<(k:Int):=⟨h0.1,by omega⟩;simp only[Instr.index,hv,SJ,asIntOf,Sem.run_bind,Sem.run_pure,run_underlying hu,Result.andThen_ok,hc,and_self,if_true,run_sizeOf uc,sB,ue]
   cases h
  cases h
 |makeMap t r=>
  cases r with
  |none=>simp only[ah,aB,az]at h;obtain⟨rfl,rfl⟩:=h;exact NT hR hn
  |some a=>simp[ah]at h
 |lookup t m k ok=>
  simp only[ah]at h;split at h
  .rename_i id kv hm hk;split at h
   .rename_i es hS;simp only[af,qO,az]at h;obtain⟨d',⟨v,h1,h2⟩,rfl,rfl⟩:=h;have:=hρ m _ hm;generalize hv:ρ m=vm at this;cases this with
    |map _=>have h3:=RS hR hS h1 h2;rw[<-hv,<-gh hρ hk]at h3;exact h3
   cases h
  cases h
 |mapUpdate t m k a=>
  simp only[ah]at h;split at h
  .rename_i id kv vv hm hk ha;split at h
   .rename_i es hS;split at h
    .rename_i r hr;simp only[af,az]at h;obtain⟨es',h1,rfl,rfl⟩:=h;have:=hρ m _ hm;generalize hv:ρ m=vm at this;cases this with
     |map _=>have h3:=Js hR hS hr h1;rw[<-hv,<-gh hρ hk,<-gh hρ ha]at h3;exact h3
    cases h
   cases h
  cases h
 |extract a i=>
  simp only[ah]at h;split at h
  .rename_i l ha;simp only[af,az]at h;obtain⟨d',h3,rfl,rfl⟩:=h;have:=hρ a _ ha;generalize hv:ρ a=v at this;cases this with
   |@tup _ vs hs hr=>
    have hlt:i<vs.size:=by rw[hs];exact(aA.1 h3).1
    refine aZ hR (v:=vs[i]) (by rw[hv];simp[Instr.extract,hlt]) ?_;simpa [bz,hlt]using hr i _ h3
  cases h
 |call c=>
  obtain⟨callee,args,ats⟩:=c;cases callee with
  |builtin b=>
   simp only[ah]at h;have hex:∀w:World,(execOp ρ ⟨dst,.call ⟨.builtin b,args,ats⟩,type,pos,after,guard⟩).run P w=(Go.builtin b ats type (args.map λ|.const _=>true|_=>false) (args.map ρ)).run P w:=λw=>by simp only[execOp,resolve,Sem.run_bind,Sem.run_pure,Result.andThen_ok,invoke];rfl
   rw[hex];split at h
   .rename_i a t mS TP;have ea:args=#[a]:=by rw[<-zc (xs:=args),mS]
    have et:ats=#[t]:=by rw[<-zc (xs:=ats),TP]
    subst ea et;split at h
    .rename_i e s lR agg sz z rows tok full hk ha;cases h;obtain⟨tZ,it,Yb,-,-⟩:=b9 (fu t _ hk);obtain⟨hu,-⟩:=mE tZ;have:=hρ a _ ha;generalize hv:ρ a=v at this;cases this with
     |sl _ _ _ _ _ _ _=>exact aZ hR (v:=.int .i64 rows.length) (by simp[Builtin.len_,hv,run_underlying hu,goInt]) (.val rfl)
    .rename_i e s lR agg sz z id n ag hk ha;cases h;obtain⟨tZ,it,Yb,-,-⟩:=b9 (fu t _ hk);obtain⟨hu,-⟩:=mE tZ;have:=hρ a _ ha;generalize hv:ρ a=v at this;cases this with
     |jS _ _ _=>exact aZ hR (v:=.int .i64 n) (by simp[Builtin.len_,hv,run_underlying hu,goInt]) (.val rfl)
    .rename_i n s agg sz z hk;cases h;obtain⟨tZ,it,Yb,-,-⟩:=b9 (fu t _ hk);obtain⟨e,hu,-⟩:=zk tZ;exact aZ hR (v:=.int .i64 n) (by simp[Builtin.len_,run_underlying hu,goInt]) (.val rfl)
    .rename_i v ha hno;simp only[af,az]at h;obtain⟨d',h3,rfl,rfl⟩:=h;obtain⟨v',h4,h5⟩:=pn (x:=x) h3 x.w;have:=xz (hρ a _ ha);refine aZ hR (v:=v') ?_ h5;simpa [this]using h4
    cases h
   .rename_i a b t u mS TP;have ea:args=#[a,b]:=by rw[<-zc (xs:=args),mS]
    have et:ats=#[t,u]:=by rw[<-zc (xs:=ats),TP]
    subst ea et;split at h
    .rename_i QA;subst QA;split at h
     .rename_i da db ha hb;have e2:Array.map ρ #[a,b]=#[ρ a,ρ b]:=by simp
      rw[e2];split at h;.exact ES (u:=type) fu hR hn (hρ a _ ha) (hρ b _ hb) h
      split at h;.exact ES (u:=type) fu hR hn (hρ a _ ha) (hρ b _ hb) h
      exact RX (u:=type) fu hR hn (hρ a _ ha) (hρ b _ hb) h
     cases h
    cases h
   .rename_i xs mS;split at h
    .rename_i vs h1;simp only[af,az]at h;obtain⟨d',h3,rfl,rfl⟩:=h;simp only[qO]at h1;obtain⟨ds,h4,h5⟩:=h1;have h6:=xB hρ h4;have h7:=AR (x:=x) (vs:=args.toList.map ρ) h5 (by simpa using h6.1) λj c hc=>by simpa [bz,aP]using h6.2 j c hc
     obtain⟨v',h8,h9⟩:=pn (x:=x) h3 x.w;refine aZ hR (v:=v') ?_ h9;have e2:(List.map ρ args.toList).toArray=Array.map ρ args:=Array.toList_inj.1 (by simp);rw[<-h7,e2]at h8;exact h8
    cases h
   .rename_i xs mS;split at h
    .rename_i vs h1;simp only[af,az]at h;obtain⟨d',h3,rfl,rfl⟩:=h;simp only[qO]at h1;obtain⟨ds,h4,h5⟩:=h1;have h6:=xB hρ h4;have h7:=AR (x:=x) (vs:=args.toList.map ρ) h5 (by simpa using h6.1) λj c hc=>by simpa [bz,aP]using h6.2 j c hc
     obtain⟨v',h8,h9⟩:=pn (x:=x) h3 x.w;refine aZ hR (v:=v') ?_ h9;have e2:(List.map ρ args.toList).toArray=Array.map ρ args:=Array.toList_inj.1 (by simp);rw[<-h7,e2]at h8;exact h8
    cases h
   cases h
  |_=>simp[Op.lone]at hop
 |_=>simp[ah]at h
end Go.Di
