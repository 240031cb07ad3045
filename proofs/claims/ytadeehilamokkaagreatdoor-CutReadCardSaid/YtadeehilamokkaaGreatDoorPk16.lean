import Derived.Test.YtadeehilamokkaaGreatDoorPk15
import Derived.Laws.BitsLemmas
set_option maxRecDepth 8000
namespace Go.Di
open Go
variable {P:Program} {ty:fo} {x:Cx} {w':World} {ρd:Operand->Option DV} {ρ:Operand->Value} {o:Oper} {aB:Nat}
theorem AE(hR:Rel x)(hn:E3 x.S aB){k s n:Nat}{e:TypeId}{l:cj}{arr:Array Value}{agg:Bool}(hp:nN x.w w' (.cells arr e (0,0)))(hsz:arr.size=k*s)(hl:l.length<=arr.size)(hk:k<=maxLen)(hc:∀j c,l[j]? =some c->c.bS=true/\RV x c (arr.getD j undef))(Yy:n*s=l.length):
  ∃y,y.w=w'/\y.S=eE x.S aB (.op e s l false)/\Rel y/\bE x y/\RV y (.jl aB n agg) (.slice (some ⟨x.w.heap.size,0,none⟩) n k):=by
 have jM:=lU (k:=k) (F:=λ_=>False) (b:=.op e s l false) hR hn hp ab (.inr (.inr (.inr ⟨e,s,l,arr,rfl,rfl,hsz,hl,hk,ab,hc⟩)));refine⟨_,rfl,rfl,jM,jg hR hn hp,?_⟩;refine RV.jl (e:=e) (s:=s) (l:=l) (z:=false) (by show(eE _ _ _)[_]? =_;rw[bC hn.le,if_pos rfl]) U λ_=>?_;exact⟨by rw[show(x.fresh w' aB k (λ_=>False) (.op e s l false)).μ aB=x.w.heap.size from if_pos rfl],(if_pos rfl:(if aB=aB then k else _)=k).symm⟩
theorem RQ(eV:jP P ty)(hR:Rel x)(hn:E3 x.S aB)(hρ:wF x ρd ρ){t e:TypeId}{n s kN sz sz':Nat}{agg:Bool}{k:TK}{z0:Option cj}{z cs:cj}{ps:Array (Nat×Operand)}{l:List (Nat×DV)}(h:ty t=some ⟨.slice e s kN agg,sz,z0⟩)(hl:jR ρd ps.toList=some l)(he:ty e=some ⟨k,sz',some z⟩)
  (hs:0<s) (Jc:n*s<=16777216) (hf:kE (λi=>some (i*s,s)) ((List.replicate n z).flatten) (l.map λ(i,v)=>(i,v.strip))=some cs) (hp:cs.all DV.bS=true):
  Yields x ((do pure (.value (<-Instr.buildSlice t n (ps.map λp=>(p.1,ρ p.2)))):Sem Next).run P x.w) (.jl aB n agg) (eE x.S aB (.op e s cs false)):=by
 obtain⟨arr,h6,nK,hrun⟩:=GX eV hR hρ h hl he hs Jc hf;have TD:n<=n*s:=Nat.le_mul_of_pos_right n hs;obtain⟨y,y1,y2,y3,y4,y5⟩:=AE (n:=n) (agg:=agg) hR hn (gA x.w (.cells arr e)) (k:=n) (s:=s) (by rw[h6.1,nK]) (by rw[h6.1];exact ai _) (by unfold maxLen;omega) (λj c hc=>⟨aR.1 hp c (bV hc),h6.2 j c hc⟩) nK.symm;exact gq (by rw[y1];exact hrun) y2 y3 y4 y5
theorem I1(eV:jP P ty)(hR:Rel x)(hn:E3 x.S aB){t e:TypeId}{s kN sz sz':Nat}{agg:Bool}{k:TK}{z0:Option cj}{z:cj}{kd kd':IntKind}{n:Int}(h:ty t=some ⟨.slice e s kN agg,sz,z0⟩)(he:ty e=some ⟨k,sz',some z⟩)
  (h0:0<=n) (hs:0<s) (Jc:n<=140737488355328-4096) (hb:n.toNat*kN<=fE) (hp:(z.map DV.aL).all DV.bS=true):
  Yields x ((do pure (.value (<-Instr.makeSlice t (.int kd n) (.int kd' n))):Sem Next).run P x.w) (.jl aB n.toNat agg) (eE x.S aB (.op e s (List.replicate n.toNat (z.map DV.aL)).flatten false)):=by
 obtain⟨hk,i,hi,-,-⟩:=bW (eV t _ h);obtain⟨hu,ie,sZ,q8,hby,Hj⟩:=lu hk;obtain⟨-,ie',CZ,-,hz⟩:=bW (eV e _ he);rw[sZ]at CZ;cases CZ;obtain⟨zv,h1,h2,hzl⟩:=ji hz;obtain⟨h3,h4⟩:=gX (x:=x) h2;have SP:zv.cells.size=s:=by rw[<-q8,<-hzl];simpa using h3
 have Hy:z.length=s:=by rw[hzl,q8]
 have h4':∀j c,(z.map DV.aL)[j]? =some c->RV x c (zv.cells.toList.getD j undef):=λj c hc=>by simp only[cI,af]at hc;obtain⟨c',h1,rfl⟩:=hc;exact(h4 j c' h1).aL
 have Cc:=F3 (n:=n.toNat) (z:=z.map DV.aL) hs (by rw[List.length_map];exact Hy) SP h4';generalize HF:(Array.range (n.toNat*s)).map (zv.cells[·% zv.cells.size]!)=arr at*;have hlen:(List.replicate n.toNat (z.map DV.aL)).flatten.length=n.toNat*s:=by simp[Hy]
 obtain⟨y,y1,y2,y3,y4,y5⟩:=AE (n:=n.toNat) (agg:=agg) hR hn (gA x.w (.cells arr e)) (k:=n.toNat) (s:=s) (by rw[Cc.1,hlen]) (by rw[Cc.1];exact ai _) (by unfold maxLen;omega) (λj c hc=>⟨by have hm:=bV hc;simp only[List.mem_flatten,List.mem_replicate]at hm;obtain⟨l,⟨-,rfl⟩,hm⟩:=hm;exact aR.1 hp c hm,Cc.2 j c hc⟩) hlen.symm;refine gq (v:=.slice (some ⟨x.w.heap.size,0,none⟩) n.toNat n.toNat) ?_ y2 y3 y4 y5;rw[y1];have hw:IntKind.i64.wrap n=n:=by rw[IntKind.wrap_i64];omega
 have hbz:((ie.bytes:Int)*n)<=140737488355328:=by
  have e1:n=(n.toNat:Int):=U
  rw[e1,hby,<-Int.natCast_mul,Nat.mul_comm];unfold fE at hb;omega
 have e48:(2:Int)^48=281474976710656:=ae
 have c1:¬(n<0):=U
 have c2:¬(281474976710656<(ie.bytes:Int)*n):=U
 subst q8;have hnw:(newRow e arr).run P x.w=.ok ⟨x.w.heap.size,0,none⟩ (x.w.alloc (.cells arr e)):=by simp[newRow]
 have c3:¬(2^48<(ie.bytes:Int)*n):=by rw[e48];exact c2
 have sR:∀z0:Array Value,(Array.range (n.toNat*ie.size)).map (z0[·% z0.size]!)=arr->(do let a<-newRow e ((Array.range (n.toNat*ie.size)).map (z0[·% z0.size]!));pure (Value.slice (some a) n.toNat n.toNat):Sem Value).run P x.w=.ok (.slice (some ⟨x.w.heap.size,0,none⟩) n.toNat n.toNat) (x.w.alloc (.cells arr e)):=λz0 h=>by rw[h,Sem.run_bind,hnw,Result.andThen_ok,Sem.run_pure]
 unfold Instr.makeSlice;simp only[Sem.run_bind,run_underlying hu,Result.andThen_ok,asInt,asIntOf,Sem.run_pure,typeInfo,run_program,sZ,hw,rN c1,rN c3,Bool.or_false,gt_iff_lt,rN (Int.lt_irrefl n),aJ,if_false,run_askRoom,run_sizeOf sZ];by_cases G8:n.toNat*ie.size=0;have:=sR #[] (by rw[<-HF,G8];simp);simpa only[if_pos G8,Sem.run_bind,Sem.run_pure,Result.andThen_ok]using this;have:=sR zv.cells HF;simpa only[if_neg G8,zeroValue,typeInfo,run_program,sZ,h1,Sem.run_bind,Sem.run_pure,Result.andThen_ok]using this
theorem EG(eV:jP P ty)(hR:Rel x)(hn:E3 x.S aB){t u:TypeId}{a b d:DV}{va vb:Value}{S':aj}(ha:RV x a va)(hb:RV x b vb)(h:nU ty x.S aB t a b=some (d,S')):
  Yields x ((do pure (.value (<-Builtin.append_ #[t,t] u #[va,vb])):Sem Next).run P x.w) d S':=by
 unfold nU at h;split at h
 rotate_left
 cases h;rename_i e s kN agg sz z0 news abZ abJ htt;obtain⟨hk,it,-,-,-⟩:=bW (eV t _ htt);obtain⟨hu,ie,sZ,q8,Cg,-⟩:=lu hk;have CQ:=hb;cases hb with
 |@sl _ _ _ A2 sU s2 vs2 X2 Jm m1 m2 m3 m4 m5=>
  split at h
  rotate_left
  cases h;rename_i hte;obtain⟨z,hiz,SP⟩:∃z,ie.zero=some z/\z.cells.size=s:=by obtain⟨-,ie',CZ,Hf,Cc⟩:=bW (eV e _ hte);rw[sZ]at CZ;cases CZ;obtain⟨z,q1,q2,q3⟩:=ji Cc;have:=(gX (x:=x) q2).1;exact⟨z,q1,by rw[<-q8,<-q3];simpa using this⟩
  have emp:∀(A:Option Addr)(n cap:Nat),n<=cap->news=[]->(Builtin.append_ #[t,t] u #[.slice A n cap,.slice A2 news.length sU]).run P x.w=.ok (.slice A n cap) x.w:=by rintro A n cap k1 rfl;subst q8;cases A<;>cases A2<;>simp[Builtin.append_,run_underlying hu,run_sizeOf sZ,Builtin.lenOf,Builtin.firstCells,loadCells,loadCellsFrom,storeCells,k1]
  have grown:∀(n cap:Nat),n+news.length<=140737488355328-4096->∀(w1:List Value),w1.length=n*s->∀(nk:List Value),nk.length=news.length*s->∀(k:Nat),k=grownCap x.w (n+news.length) cap e->k<=maxLen/\n+news.length<=k/\
    (w1.toArray++nk.toArray++Builtin.zeroCells z.cells (k-(n+news.length))).size=k*s:=by
   intro n cap hlen w1 L4 nk uB k hk;have Hi:=grownCap_ge x.w (n+news.length) cap e;have hle:=grownCap_le_maxLen x.w (n+news.length) cap e (by simp only[maxLen];omega);subst hk;refine⟨hle,Hi,?_⟩;simp only[Array.size_append,iK,size_zeroCells,SP,L4,uB,<-j7];congr 1;omega
  have abn:news≠[]->(∀r∈news,r.cells.length=s)->0<news.length/\∃(b2 o2:Nat)(nk:List Value),A2=some ⟨b2,o2,none⟩/\nk.length=news.length*s/\(flat news).length=news.length*s/\(∀c∈flat news,c.bS=true)/\(∀j c,(flat news)[j]? =some c->RV x c (nk.getD j undef))/\
    (∀j v,nk[j]? =some v->x.w.cell? ((⟨b2,o2,none⟩:Addr).add j)=some v)/\∀u∈nk,u.oneCell'=true:=by
   intro hne mV;have hm:0<news.length:=List.length_pos_iff.2 hne;obtain⟨-,-,-,-,-,acp,hpN,nk,uB,HA,zo,FW⟩:=tM CQ mV;obtain⟨ad2,rfl⟩:∃ad2,A2=some ad2:=by
    cases A2 with
    |none=>have:=m3 rfl;omega
    |some ad=>exact⟨ad,rfl⟩
   have BX:=gK mV;obtain⟨b2,o2,sp2⟩:=ad2;have aco:sp2=none:=acp _ rfl U;subst aco;refine⟨hm,b2,o2,nk,rfl,uB,BX,hpN,HA,λj v hv=>?_,FW⟩;have hj:j<(flat news).length:=by rw[BX,<-uB];exact(aI.1 hv).1
   obtain⟨b',o',q1,-,q2⟩:=zo j _ (bn hj);cases q1;rw[ij,q2];simp[aP,hv]
  split at h
  .rename_i id n ag;cases ha with
   |@jl _ _ _ e1 s1 l1 z1 A cap hS1 hn1 hA1=>
    split at h
    rotate_left
    cases h;rename_i oH;simp only[aC,bP,aR]at oH;obtain⟨⟨⟨⟨hs,-⟩,lS⟩,hlen⟩,mV⟩:=oH;split at h
    rotate_left
    cases h;rename_i e' s' l hop;split at h
    rotate_left
    cases h;rename_i zo;simp only[aC,bP]at zo;obtain⟨c1,c2⟩:=zo;rw[c1,c2]at hop;obtain⟨hS,Hh⟩:=lC hop;obtain⟨rfl,rfl,rfl,rfl⟩:e=e1/\s=s1/\l=l1/\false=z1:=by rw[hS]at hS1;cases hS1;exact⟨rfl,rfl,rfl,rfl⟩
    obtain⟨rfl,rfl⟩:=hA1 Hh;obtain⟨cur,t1,t2,t3,t4,t5,-,-⟩:=hR.ops id _ _ _ _ hS;have hnκ:n<=x.κ id:=Nat.le_of_mul_le_mul_right (show n*s<=x.κ id*s by omega) hs;split at h;rename_i vA;cases h;exact aQ hR (emp _ _ _ hnκ (by simpa using vA)) (.jl hS hn1 λ_=>⟨rfl,rfl⟩);rename_i vA;cases h;obtain⟨hm,b2,o2,nk,rfl,uB,BX,hpN,HA,qp,FW⟩:=abn (by simpa using vA) mV;have abD:(l++flat news).length=(n+news.length)*s:=by rw[dM,BX,j7];omega
    have BN:∀c∈l++flat news,c.bS=true:=λc hc=>by
     rcases gV.1 hc with hc|hc;obtain⟨j,hj⟩:=rQ.1 hc;exact(t5 j c hj).1
     grind
    have hlt:l.length<(l++flat news).length:=by rw[dM,BX];have:=Nat.mul_pos hm hs;omega
    have ahn:fZ x (flat news) nk.toArray:=⟨by simp[uB,BX],λj c hc=>by simpa [aU,aP]using HA j c hc⟩;by_cases hroom:n+news.length<=x.κ id;have HD:n*s+nk.length<=cur.size:=by rw[uB,t2,<-j7];exact gp _ hroom
    have hrun:=run_append_room (P:=P) x.w t u e ie hu sZ (x.μ id) n (x.κ id) cur t1 ⟨b2,o2,none⟩ news.length sU nk (by rw[uB,q8]) qp FW hroom (by rw[q8];exact HD);rw[q8,Hh]at hrun;have hp:=Ir (off:=l.length) t3 (λj c hc=>(t5 j c hc).2) ahn (ai _) (by rw[BX];omega);have hsz:(cur.toList.take l.length++nk++cur.toList.drop (l.length+nk.length)).toArray.size=cur.size:=by simp;omega
    rw[List.drop_of_length_le (show l.length<=l.length+(flat news).length by omega),iJ,mF,iK]at hp;generalize HF:(cur.toList.take l.length++nk++cur.toList.drop (l.length+nk.length)).toArray=arr at*;have jM:=Cv (F:=λ_=>False) (arr:=arr) (b:=.op e s (l++flat news) false) hR hS (.inr (.inr ⟨e,s,_,_,rfl,rfl,U,ab,by rw[hsz];exact t2,by rw[hsz,abD,t2];exact gp _ hroom,λj c hc=>⟨BN c (bV hc),hp j c hc⟩⟩));have M:=tU (F:=λ_=>False) (arr:=arr) (b:=.op e s (l++flat news) false) hR hS (.inr (.inr ⟨e,s,_,_,rfl,rfl,U⟩));refine gq hrun (y:=x.upd id arr (λ_=>False) (.op e s (l++flat news) false)) rfl jM M (.jl (e:=e) (s:=s) (l:=l++flat news) (z:=false) (by show(x.S.set _ _)[_]? =_;rw[gE hS,if_pos rfl]) U λ_=>⟨rfl,rfl⟩);have jT:∀j,j<n*s->∃v,cur[j]? =some v:=λj hj=>⟨cur[j]' U,bX _⟩;have L4:(cur.toList.take (n*s)).length=n*s:=by simp;omega
    obtain⟨g1,g2,g3⟩:=grown n (x.κ id) hlen _ L4 _ uB _ rfl;have hrun:=run_append_grow (P:=P) x.w t u e ie z hu sZ hiz ⟨x.μ id,0,none⟩ n (x.κ id) (cur.toList.take (n*s)) (by rw[L4,q8]) (λj v hv=>by
      have hj:j<n*s:=by rw[<-L4];exact(aI.1 hv).1
      rw[pX,if_pos hj]at hv;rw[ij];simp only[World.cell?,t1,eN];simpa using hv) ⟨b2,o2,none⟩ news.length sU nk (by rw[uB,q8]) qp U U (growslice_fits U (by rw[Cg];exact lS))
    generalize hk0:grownCap x.w (n+news.length) (x.κ id) e=k at*;obtain⟨v1,v2⟩:=AD (Z:=Builtin.zeroCells z.cells (k-(n+news.length))) L4 uB;generalize HF:(cur.toList.take (n*s)).toArray++nk.toArray++Builtin.zeroCells z.cells (k-(n+news.length))=arr at*;have hp:nN x.w (x.w.drew.alloc (.cells arr e)) (.cells arr e (0,0)):=⟨rfl,rfl,rfl⟩;have hcc:∀j c,(l++flat news)[j]? =some c->c.bS=true/\RV x c (arr.getD j undef):=λj c hc=>by
     refine⟨BN c (bV hc),?_⟩;by_cases hj:j<l.length;rw[eC hj]at hc;rw[v1 j U];have:=(t5 j c hc).2;simpa [aU,aP,pX,show j<n*s by omega]using this
     grind
    have jM:=WA (k:=k) hR hS hp hlt g3 (by rw[g3,abD];exact gp _ g2) g1 hcc;have M:=Gw (k:=k) hR hS hp hlt;refine gq hrun (y:=x.jY (x.w.drew.alloc (.cells arr e)) id k (λ_=>False) (.op e s (l++flat news) false)) rfl jM M (.jl (e:=e) (s:=s) (l:=l++flat news) (z:=false) (by show(x.S.set _ _)[_]? =_;rw[gE hS,if_pos rfl]) U λ_=>?_);exact⟨congrArg (λb=>some (⟨b,0,none⟩:Addr)) (if_pos rfl:(if id=id then _ else _)=_).symm,(if_pos rfl:(if id=id then k else _)=k).symm⟩
  .rename_i f;cases ha with
   |@sl _ _ _ A cap s1 vs1 Qo zn k1 k2 k3 k4 k5=>
    split at h;rename_i vA;cases h;exact aQ hR (emp _ _ _ k1 (by simpa using vA)) (.sl Qo zn k1 k2 k3 k4 k5);rename_i vA;split at h
    rotate_left
    cases h;rename_i oH;simp only[aC,bP,aR]at oH;obtain⟨⟨⟨⟨⟨ahE,hs⟩,-⟩,lS⟩,hlen⟩,mV⟩:=oH;cases h;obtain⟨hm,b2,o2,nk,rfl,uB,BX,hpN,HA,qp,FW⟩:=abn (by simpa using vA) mV;have BZ:cap=0:=k2.1 ahE;subst BZ;obtain⟨g1,g2,g3⟩:=grown 0 0 U [] ab _ uB _ rfl;have hrun:(Builtin.append_ #[t,t] u #[.slice A ([]:cj).length 0,.slice (some ⟨b2,o2,none⟩) news.length sU]).run P x.w=
      .ok (.slice (some ⟨x.w.heap.size,0,none⟩) news.length (grownCap x.w news.length 0 e)) (x.w.drew.alloc (.cells (nk.toArray++Builtin.zeroCells z.cells (grownCap x.w news.length 0 e-news.length)) e)):=by
     cases A with
     |none=>exact run_append_nil (P:=P) x.w t u e ie z hu sZ hiz ⟨b2,o2,none⟩ news.length sU nk (by rw[uB,q8]) qp hm U (by rw[Cg];unfold fE at lS;omega)
     |some ad=>have:=run_append_grow (P:=P) x.w t u e ie z hu sZ hiz ad 0 0 [] ab ab ⟨b2,o2,none⟩ news.length sU nk (by rw[uB,q8]) qp U U (growslice_fits U (by rw[Cg,eN];exact lS));simpa using this
    simp only[eN]at g1 g2 g3;generalize hk0:grownCap x.w news.length 0 e=k at*;have v2:∀j,j<news.length*s->(nk.toArray++Builtin.zeroCells z.cells (k-news.length)).getD j undef=nk.getD j undef:=λj hj=>by rw[aU,yA (by simp;omega)];simp[aP]
    have g3':(nk.toArray++Builtin.zeroCells z.cells (k-news.length)).size=k*s:=by simpa using g3
    obtain⟨y,y1,y2,y3,y4,y5⟩:=AE (n:=news.length) (agg:=agg) hR hn (w':=x.w.drew.alloc (.cells (nk.toArray++Builtin.zeroCells z.cells (k-news.length)) e)) (e:=e) (l:=flat news) (k:=k) (s:=s) ⟨rfl,rfl,rfl⟩ g3' (by rw[g3',BX];exact gp _ g2) g1 (λj c hc=>⟨hpN c (bV hc),by have hj:j<(flat news).length:=(aI.1 hc).1;rw[v2 j U];exact HA j c hc⟩) BX.symm;exact gq (by rw[y1];exact hrun) y2 y3 y4 y5
  cases h
theorem look_ok(hR:Rel x){d:DV}{v:Value}(h:RV x d v):RV x (iD x.S d) v:=by
 cases h with
 |@jl id n agg e1 s1 l1 z1 A cap hS hn hA=>
  unfold iD;dsimp only;split;rename_i e s l hop;obtain⟨Ci,Hh⟩:=lC hop;obtain⟨rfl,rfl,rfl,rfl⟩:e=e1/\s=s1/\l=l1/\true=z1:=by rw[Ci]at hS;cases hS;exact⟨rfl,rfl,rfl,rfl⟩
  split;rename_i hc;simp only[aC,jw,dL,bP]at hc;obtain⟨rfl,rfl⟩:=hA Hh;obtain⟨arr,h1,h2,h3,-,h4,h5,-⟩:=hR.ops id e s l true hS;obtain⟨xy,Yw⟩:=GJ hc.1 hc.2 (λc hm=>by obtain⟨j,hj⟩:=rQ.1 hm;exact(h4 j c hj).1) n Hh.symm;have hrn:(rowsOf s agg l n).length=n:=by simp[rowsOf]
  suffices hk:RV x (.sl (rowsOf s agg l n) none ⟨false,some false⟩) (.slice (some ⟨x.μ id,0,none⟩) (rowsOf s agg l n).length (x.κ id))by rw[hrn]at hk;exact hk
  refine RV.sl (tok:=none) (Du Yw (λc hm=>?_) (by rw[xy];exact h3) h1 λj hj=>h5 rfl j (by rw[xy]at hj;exact hj)) (λj c hc=>?_) ?_ ⟨ab,λb h=>by cases h;rfl⟩ ab (λad h _=>by cases h;rfl) (λt ht=>nomatch ht);rw[xy]at hm;obtain⟨j,hj⟩:=rQ.1 hm;exact(h4 j c hj).1
  grind
  rw[hrn];exact Nat.le_of_mul_le_mul_right (show n*s<=x.κ id*s by omega) hc.1;exact .jl hS hn hA;exact .jl hS hn hA
 |val h=>exact .val h
 |agg h hl=>exact .agg h hl
 |tup h hl=>exact .tup h hl
 |sl hv hr h1 h2 h3 hsp h4=>exact .sl hv hr h1 h2 h3 hsp h4
 |ptr h=>exact .ptr h
 |eU hv hr=>exact .eU hv hr
 |fn h1 h2 h3 h4=>exact .fn h1 h2 h3 h4
 |map h=>exact .map h
 |nj h=>exact .nj h
 |fS h h1 h2=>exact .fS h h1 h2
theorem M3(hR:Rel x)(d:DV):∃y,y.w=x.w/\y.S=xG x.S d/\Rel y/\bE x y:=by unfold xG;split;rename_i id n ag;split;rename_i e s l hop;obtain⟨hS,-⟩:=lC hop;exact⟨x.close id e s l,rfl,rfl,Gk hR hS,xb hS⟩;exact⟨x,rfl,rfl,hR,bE.refl x⟩;exact⟨x,rfl,rfl,hR,bE.refl x⟩
theorem PV:∀(l:cj){x:Cx},Rel x->∃y,y.w=x.w/\y.S=l.foldl xG x.S/\Rel y/\bE x y
 |[],x,hR=>⟨x,rfl,rfl,hR,bE.refl x⟩
 |d::l,x,hR=>by obtain⟨y,y1,y2,y3,y4⟩:=M3 hR d;obtain⟨z,z1,z2,z3,z4⟩:=PV l y3;exact⟨z,z1.trans y1,by rw[z2,y2,nX],z3,y4.trans z4⟩
theorem PY(hR:Rel x)(d:DV):∃y,y.w=x.w/\y.S=sS x.S d/\Rel y/\bE x y:=by
 have o:sS x.S d=xG x.S d->∃y,y.w=x.w/\y.S=sS x.S d/\Rel y/\bE x y:=λe=>by rw[e];exact M3 hR d
 cases d
 case agg l=>exact PV _ hR
 all_goals exact o rfl
theorem PS:∀(l:cj){x:Cx},Rel x->∃y,y.w=x.w/\y.S=l.foldl sS x.S/\Rel y/\bE x y
 |[],x,hR=>⟨x,rfl,rfl,hR,bE.refl x⟩
 |d::l,x,hR=>by obtain⟨y,y1,y2,y3,y4⟩:=PY hR d;obtain⟨z,z1,z2,z3,z4⟩:=PS l y3;exact⟨z,z1.trans y1,by rw[z2,y2,nX],z3,y4.trans z4⟩
theorem aaC(hR:Rel x)(d:DV):∃y,y.w=x.w/\y.S=HH x.S d/\Rel y/\bE x y:=by
 have o:HH x.S d=sS x.S d->∃y,y.w=x.w/\y.S=HH x.S d/\Rel y/\bE x y:=λe=>by rw[e];exact PY hR d
 cases d
 case tup l=>exact PS _ hR
 all_goals exact o rfl
theorem KR(hR:Rel x){l:cj}{vs:Array Value}(h:∀j c,l[j]? =some c->RV x c (vs.getD j undef))(j:Nat)(c:DV)(hj:(l.map (iD x.S))[j]? =some c):RV x c (vs.getD j undef):=by simp only[cI,af]at hj;obtain⟨c',h2,rfl⟩:=hj;exact look_ok hR (h j c' h2)
theorem KS(hR:Rel x){d:DV}{v:Value}(h:RV x d v):RV x (sK x.S d) v:=by
 cases h with
 |agg h1 h2=>exact .agg (by simpa using h1) (KR hR h2)
 |val h=>exact look_ok hR (.val h)
 |tup h1 h2=>exact look_ok hR (.tup h1 h2)
 |sl hv hr h1 h2 h3 hsp h4=>exact look_ok hR (.sl hv hr h1 h2 h3 hsp h4)
 |ptr h=>exact look_ok hR (.ptr h)
 |eU hv hr=>exact look_ok hR (.eU hv hr)
 |fn h1 h2 h3 h4=>exact look_ok hR (.fn h1 h2 h3 h4)
 |map h=>exact look_ok hR (.map h)
 |nj h=>exact look_ok hR (.nj h)
 |jl h h1 h2=>exact look_ok hR (.jl h h1 h2)
 |fS h h1 h2=>exact look_ok hR (.fS h h1 h2)
theorem Xm(hR:Rel x){d:DV}{v:Value}(h:RV x d v):RV x (tf x.S d) v:=by
 cases d
 case tup l=>
  cases h with
  |tup h1 h2=>refine .tup (by simpa using h1) λj c hj=>?_;simp only[cI,af]at hj;obtain⟨c',h3,rfl⟩:=hj;exact KS hR (h2 j c' h3)
 all_goals exact KS hR h
theorem IB{env:cj}:∀(l:List Operand){x:Cx},Rel x->∃y,y.w=x.w/\y.S=l.foldl (qz env) x.S/\Rel y/\bE x y
 |[],x,hR=>⟨x,rfl,rfl,hR,bE.refl x⟩
 |a::l,x,hR=>by
  rw[nX];cases he:iN env a with
  |none=>rw[show qz env x.S a=x.S by unfold qz;rw[he]];exact IB l hR
  |some d=>rw[show qz env x.S a=xG x.S d by unfold qz;rw[he]];obtain⟨y,y1,y2,y3,y4⟩:=M3 hR d;obtain⟨z,z1,z2,z3,z4⟩:=IB (env:=env) l y3;exact⟨z,z1.trans y1,by rw[z2,y2],z3,y4.trans z4⟩
theorem adx{env:cj}{arr:Array Value}(o:Oper)(hR:Rel x)(he:fZ x env arr):∃y,y.w=x.w/\y.S=(Fb ty o env x.S).2/\Rel y/\bE x y/\fZ y (Fb ty o env x.S).1 arr:=by unfold Fb;split;obtain⟨y,y1,y2,y3,y4⟩:=IB (env:=env) o.op.operands.toList hR;refine⟨y,y1,y2,y3,y4,by simpa using he.1,λj c hc=>?_⟩;simp only[cI,af]at hc;obtain⟨c',h1,rfl⟩:=hc;rw[<-y2];exact look_ok y3 ((he.2 j c' h1).mono y4);exact⟨x,rfl,rfl,hR,bE.refl x,he⟩
theorem PX:∀(l:cx){x:Cx},Rel x->∃y,y.w=x.w/\y.S=l.foldl Zf x.S/\Rel y/\bE x y
 |[],x,hR=>⟨x,rfl,rfl,hR,bE.refl x⟩
 |i::l,x,hR=>by
  have key:∃y,y.w=x.w/\y.S=Zf x.S i/\Rel y/\bE x y:=by unfold Zf;split;rename_i e s l' hS;exact⟨x.close i e s l',rfl,rfl,Gk hR hS,xb hS⟩;exact⟨x,rfl,rfl,hR,bE.refl x⟩
  obtain⟨y,y1,y2,y3,y4⟩:=key;obtain⟨z,z1,z2,z3,z4⟩:=PX l y3;exact⟨z,z1.trans y1,by rw[z2,y2,nX],z3,y4.trans z4⟩
theorem Xn{S:aj}{b:DB}(h:∀l,b≠.cells l):nF S b=b:=by
 cases b with
 |cells l=>exact absurd rfl (h l)
 |_=>rfl
theorem Xl(hR:Rel x):∃y,y.w=x.w/\y.S=x.S.map (nF x.S)/\Rel y/\bE x y:=by
 have hg:∀(i:Nat)(b:DB),(x.S.map (nF x.S))[i]? =some b->∃b0,x.S[i]? =some b0/\nF x.S b0=b:=λi b h=>by simpa [cI]using h
 have hs:∀(i:Nat)(b:DB),x.S[i]? =some b->(x.S.map (nF x.S))[i]? =some (nF x.S b):=λi b h=>by simp[cI,h]
 have hq:∀(i:Nat)(b:DB),(∀l,b≠.cells l)->(x.S.map (nF x.S))[i]? =some b->x.S[i]? =some b:=λi b hb h=>by
  obtain⟨b0,h1,h2⟩:=hg i b h;cases b0 with
  |cells l=>exact absurd h2.symm (hb _)
  |_=>rw[h1,<-h2];rfl
 have Yz:∀i,Live (x.S.map (nF x.S)) i↔Live x.S i:=λi=>⟨λ⟨b,h1,h2⟩=>by obtain⟨b0,h3,rfl⟩:=hg i b h1;exact⟨b0,h3,λe=>h2 (by rw[e];rfl)⟩,λ⟨b,h1,h2⟩=>⟨_,hs i b h1,by cases b<;>simp[nF]at h2⊢⟩⟩;have M:bE x {x with S:=x.S.map (nF x.S)}:=
  ⟨ai _,⟨rfl,rfl⟩,λ_ _ h=>⟨h,rfl⟩,λ_ _ h=>.inl h,λ_ _ _=>rfl,ab,λ_ l h=>⟨rfl,_,hs _ _ h⟩,λ_ b h hb=>⟨rfl,⟨b,by rw[hs _ _ h,Xn (λl e=>by subst e;cases hb)],dG hb⟩,λ_=>rfl⟩,λ_ _ _ n h=>⟨n,hs _ _ h,ai _,λ_=>⟨rfl,rfl⟩⟩,λi h=>.inl ⟨(Yz i).1 h,rfl⟩,λ_ _ _ l z h=>⟨l,z,hs _ _ h,ai _,λe=>⟨rfl,e⟩,λ_=>⟨rfl,rfl⟩⟩⟩
 refine⟨{x with S:=x.S.map (nF x.S)},rfl,rfl,?_,M⟩;refine⟨λid l hl=>?_,λid e s n hl=>hR.cQ id e s n (hq _ _ ab hl),λid b hl hb=>?_,λi j hi hj=>hR.inj i j ((Yz i).1 hi) ((Yz j).1 hj),hR.wo,λid ⟨l,hl⟩=>?_,λid e s n hl=>hR.mQ id e s n (hq _ _ ab hl),λid e s l z hl=>?_,hR.glob⟩;obtain⟨b0,h1,h2⟩:=hg id _ hl;cases b0 with
 |cells l0=>simp only[nF,DB.cells.injEq]at h2;subst h2;obtain⟨arr,e,h3,h4,h5⟩:=hR.cells id l0 h1;exact⟨arr,e,h3,by simpa using h4,λj c hc=>(KR hR h5 j c hc).mono M⟩
 |_=>simp[nF]at h2
 obtain⟨o,h1,h2⟩:=hR.dn id b (hq _ _ (λl e=>by subst e;cases hb) hl) hb;exact⟨o,h1,h2.mono M⟩;obtain⟨b0,h1,h2⟩:=hg id _ hl;cases b0 with
 |cells l0=>exact hR.sep id ⟨l0,h1⟩
 |_=>simp[nF]at h2
 obtain⟨arr,h1,h2,h3,h4,h5,h6⟩:=hR.ops id e s l z (hq _ _ ab hl);exact⟨arr,h1,h2,h3,h4,λj c hc=>⟨(h5 j c hc).1,(h5 j c hc).2.mono M⟩,h6⟩
theorem ZR{env:cj}{arr:Array Value}(hR:Rel x)(he:fZ x env arr):∃y,y.w=x.w/\y.S=(C1 x.S).map (nF (C1 x.S))/\Rel y/\bE x y/\fZ y (env.map (iD (C1 x.S))) arr:=by obtain⟨y,y1,y2,y3,y4⟩:=PX (List.range x.S.length) hR;obtain⟨z,z1,z2,z3,z4⟩:=Xl y3;have e:y.S=C1 x.S:=y2;refine⟨z,z1.trans y1,by rw[z2,e],z3,y4.trans z4,by simpa using he.1,λj c hc=>?_⟩;simp only[cI,af]at hc;obtain⟨c',h1,rfl⟩:=hc;rw[<-e];exact(look_ok y3 ((he.2 j c' h1).mono y4)).mono z4
end Go.Di
