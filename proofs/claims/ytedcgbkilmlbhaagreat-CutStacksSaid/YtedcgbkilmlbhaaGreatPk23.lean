import Derived.Test.YtedcgbkilmlbhaaGreatPk22
import Derived.Laws.BitsLemmas
set_option maxHeartbeats 1000000
set_option maxRecDepth 8000
namespace Go.Di
open Go
variable {P:Program} {ty:gb} {x:Cx} {w':World} {ρd:Operand->Option DV} {ρ:Operand->Value} {o:Oper} {aC:Nat}
theorem BG(hR:Rel x)(hn:FI x.S aC){k s n:Nat}{e:TypeId}{l:cj}{arr:Array Value}{agg:Bool}(hp:pS x.w w' (.cells arr e (0,0)))(hsz:arr.size=k*s)(hl:l.length<=arr.size)(hk:k<=maxLen)(hc:∀j c,l[j]? =some c->c.ct=true/\RV x c (arr.getD j undef))(ZW:n*s=l.length):
  ∃y,y.w=w'/\y.S=fu x.S aC (.op e s l false)/\Rel y/\cg x y/\RV y (.jX aC n agg) (.slice (some ⟨x.w.heap.size,0,none⟩) n k):=by
 have mY:=nu (k:=k) (F:=λ_=>False) (b:=.op e s l false) hR hn hp ae (.inr (.inr (.inr ⟨e,s,l,arr,rfl,rfl,hsz,hl,hk,ae,hc⟩)));refine⟨_,rfl,rfl,mY,jS hR hn hp,?_⟩;refine RV.jX (e:=e) (s:=s) (l:=l) (z:=false) (by show(fu _ _ _)[_]? =_;rw[bN hn.le,if_pos rfl]) ab λ_=>?_;exact⟨by rw[show(x.fresh w' aC k (λ_=>False) (.op e s l false)).μ aC=x.w.heap.size from if_pos rfl],(if_pos rfl:(if aC=aC then k else _)=k).symm⟩
theorem Tu(fN:kM P ty)(hR:Rel x)(hn:FI x.S aC)(hρ:yT x ρd ρ){t e:TypeId}{n s mh sz sz':Nat}{agg:Bool}{k:TK}{z0:Option cj}{z cs:cj}{ps:Array (Nat×Operand)}{l:List (Nat×DV)}(h:ty t=some ⟨.slice e s mh agg,sz,z0⟩)(hl:kO ρd ps.toList=some l)(he:ty e=some ⟨k,sz',some z⟩)
  (hs:0<s) (AK:n*s<=16777216) (hf:lS (λi=>some (i*s,s)) ((List.replicate n z).flatten) (l.map λ(i,v)=>(i,v.strip))=some cs) (hp:cs.all DV.ct=true):
  Yields x ((do pure (.value (<-Instr.buildSlice t n (ps.map λp=>(p.1,ρ p.2)))):Sem Next).run P x.w) (.jX aC n agg) (fu x.S aC (.op e s cs false)):=by
 obtain⟨arr,h6,rS,hrun⟩:=HW fN hR hρ h hl he hs AK hf;have UQ:n<=n*s:=Nat.le_mul_of_pos_right n hs;obtain⟨y,y1,y2,y3,y4,y5⟩:=BG (n:=n) (agg:=agg) hR hn (hU x.w (.cells arr e)) (k:=n) (s:=s) (by rw[h6.1,rS]) (by rw[h6.1];exact ak _) (by unfold maxLen;omega) (λj c hc=>⟨aX.1 hp c (cB hc),h6.2 j c hc⟩) rS.symm;exact iG (by rw[y1];exact hrun) y2 y3 y4 y5
theorem J6(fN:kM P ty)(hR:Rel x)(hn:FI x.S aC){t e:TypeId}{s mh sz sz':Nat}{agg:Bool}{k:TK}{z0:Option cj}{z:cj}{kd kd':IntKind}{n:Int}(h:ty t=some ⟨.slice e s mh agg,sz,z0⟩)(he:ty e=some ⟨k,sz',some z⟩)
  (h0:0<=n) (hs:0<s) (AK:n<=140737488355328-4096) (hb:n.toNat*mh<=ga) (hp:(z.map DV.aO).all DV.ct=true):
  Yields x ((do pure (.value (<-Instr.makeSlice t (.int kd n) (.int kd' n))):Sem Next).run P x.w) (.jX aC n.toNat agg) (fu x.S aC (.op e s (List.replicate n.toNat (z.map DV.aO)).flatten false)):=by
 obtain⟨hk,i,hi,-,-⟩:=cu (fN t _ h);obtain⟨hu,ie,uN,sZ,hby,Ic⟩:=mQ hk;obtain⟨-,ie',DJ,-,hz⟩:=cu (fN e _ he);rw[uN]at DJ;cases DJ;obtain⟨zv,h1,h2,hzl⟩:=jU hz;obtain⟨h3,h4⟩:=iQ (x:=x) h2;have Uq:zv.cells.size=s:=by rw[<-sZ,<-hzl];simpa using h3
 have It:z.length=s:=by rw[hzl,sZ]
 have h4':∀j c,(z.map DV.aO)[j]? =some c->RV x c (zv.cells.toList.getD j undef):=λj c hc=>by simp only[dG,ah]at hc;obtain⟨c',h1,rfl⟩:=hc;exact(h4 j c' h1).aO
 have C4:=GL (n:=n.toNat) (z:=z.map DV.aO) hs (by rw[List.length_map];exact It) Uq h4';generalize Iz:(Array.range (n.toNat*s)).map (zv.cells[·% zv.cells.size]!)=arr at*;have hlen:(List.replicate n.toNat (z.map DV.aO)).flatten.length=n.toNat*s:=by simp[It]
 obtain⟨y,y1,y2,y3,y4,y5⟩:=BG (n:=n.toNat) (agg:=agg) hR hn (hU x.w (.cells arr e)) (k:=n.toNat) (s:=s) (by rw[C4.1,hlen]) (by rw[C4.1];exact ak _) (by unfold maxLen;omega) (λj c hc=>⟨by have hm:=cB hc;simp only[List.mem_flatten,List.mem_replicate]at hm;obtain⟨l,⟨-,rfl⟩,hm⟩:=hm;exact aX.1 hp c hm,C4.2 j c hc⟩) hlen.symm;refine iG (v:=.slice (some ⟨x.w.heap.size,0,none⟩) n.toNat n.toNat) ?_ y2 y3 y4 y5;rw[y1];have hw:IntKind.i64.wrap n=n:=by rw[IntKind.wrap_i64];omega
 have hbz:((ie.bytes:Int)*n)<=140737488355328:=by
  have e1:n=(n.toNat:Int):=ab
  rw[e1,hby,<-Int.natCast_mul,Nat.mul_comm];unfold ga at hb;omega
 have e48:(2:Int)^48=281474976710656:=an
 have c1:¬(n<0):=ab
 have c2:¬(281474976710656<(ie.bytes:Int)*n):=ab
 subst sZ;have hnw:(newRow e arr).run P x.w=.ok ⟨x.w.heap.size,0,none⟩ (x.w.alloc (.cells arr e)):=by simp[newRow]
 have c3:¬(2^48<(ie.bytes:Int)*n):=by rw[e48];exact c2
 have xT:∀z0:Array Value,(Array.range (n.toNat*ie.size)).map (z0[·% z0.size]!)=arr->(do let a<-newRow e ((Array.range (n.toNat*ie.size)).map (z0[·% z0.size]!));pure (Value.slice (some a) n.toNat n.toNat):Sem Value).run P x.w=.ok (.slice (some ⟨x.w.heap.size,0,none⟩) n.toNat n.toNat) (x.w.alloc (.cells arr e)):=λz0 h=>by rw[h,Sem.run_bind,hnw,Result.andThen_ok,Sem.run_pure]
 unfold Instr.makeSlice;simp only[Sem.run_bind,run_underlying hu,Result.andThen_ok,asInt,asIntOf,Sem.run_pure,typeInfo,run_program,uN,hw,gR c1,gR c3,Bool.or_false,gt_iff_lt,gR (Int.lt_irrefl n),aK,if_false,run_askRoom,run_sizeOf uN];by_cases Kn:n.toNat*ie.size=0;have:=xT #[] (by rw[<-Iz,Kn];simp);simpa only[if_pos Kn,Sem.run_bind,Sem.run_pure,Result.andThen_ok]using this;have:=xT zv.cells Iz;simpa only[if_neg Kn,zeroValue,typeInfo,run_program,uN,h1,Sem.run_bind,Sem.run_pure,Result.andThen_ok]using this
theorem Ff(fN:kM P ty)(hR:Rel x)(hn:FI x.S aC){t u:TypeId}{a b d:DV}{va vb:Value}{S':ai}(ha:RV x a va)(hb:RV x b vb)(h:pg ty x.S aC t a b=some (d,S')):
  Yields x ((do pure (.value (<-Builtin.append_ #[t,t] u #[va,vb])):Sem Next).run P x.w) d S':=by
 unfold pg at h;split at h
 rotate_left
 cases h;rename_i e s mh agg sz z0 news FP adu htt;obtain⟨hk,it,-,-,-⟩:=cu (fN t _ htt);obtain⟨hu,ie,uN,sZ,FH,-⟩:=mQ hk;have Kv:=hb;cases hb with
 |@sl _ _ _ A2 uK s2 vs2 Zo Kq m1 m2 m3 m4 m5=>
  split at h
  rotate_left
  cases h;rename_i hte;obtain⟨z,hiz,Uq⟩:∃z,ie.zero=some z/\z.cells.size=s:=by obtain⟨-,ie',DJ,Kp,C4⟩:=cu (fN e _ hte);rw[uN]at DJ;cases DJ;obtain⟨z,q1,q2,q3⟩:=jU C4;have:=(iQ (x:=x) q2).1;exact⟨z,q1,by rw[<-sZ,<-q3];simpa using this⟩
  have emp:∀(A:Option Addr)(n cap:Nat),n<=cap->news=[]->(Builtin.append_ #[t,t] u #[.slice A n cap,.slice A2 news.length uK]).run P x.w=.ok (.slice A n cap) x.w:=by rintro A n cap k1 rfl;subst sZ;cases A<;>cases A2<;>simp[Builtin.append_,run_underlying hu,run_sizeOf uN,Builtin.lenOf,Builtin.firstCells,loadCells,loadCellsFrom,storeCells,k1]
  have grown:∀(n cap:Nat),n+news.length<=140737488355328-4096->∀(w1:List Value),w1.length=n*s->∀(oA:List Value),oA.length=news.length*s->∀(k:Nat),k=grownCap x.w (n+news.length) cap e->k<=maxLen/\n+news.length<=k/\
    (w1.toArray++oA.toArray++Builtin.zeroCells z.cells (k-(n+news.length))).size=k*s:=by
   intro n cap hlen w1 Po oA uM k hk;have FG:=grownCap_ge x.w (n+news.length) cap e;have hle:=grownCap_le_maxLen x.w (n+news.length) cap e (by simp only[maxLen];omega);subst hk;refine⟨hle,FG,?_⟩;simp only[Array.size_append,mO,size_zeroCells,Uq,Po,uM,<-j8];congr 1;omega
  have ac6:news≠[]->(∀r∈news,r.cells.length=s)->0<news.length/\∃(b2 o2:Nat)(oA:List Value),A2=some ⟨b2,o2,none⟩/\oA.length=news.length*s/\(flat news).length=news.length*s/\(∀c∈flat news,c.ct=true)/\(∀j c,(flat news)[j]? =some c->RV x c (oA.getD j undef))/\
    (∀j v,oA[j]? =some v->x.w.cell? ((⟨b2,o2,none⟩:Addr).add j)=some v)/\∀u∈oA,u.oneCell'=true:=by
   intro hne om;have hm:0<news.length:=List.length_pos_iff.2 hne;obtain⟨-,-,-,-,-,aed,hpN,oA,uM,Iv,AO,GD⟩:=vq Kv om;obtain⟨ad2,rfl⟩:∃ad2,A2=some ad2:=by
    cases A2 with
    |none=>have:=m3 rfl;omega
    |some ad=>exact⟨ad,rfl⟩
   have CS:=iH om;obtain⟨b2,o2,sp2⟩:=ad2;have aec:sp2=none:=aed _ rfl ab;subst aec;refine⟨hm,b2,o2,oA,rfl,uM,CS,hpN,Iv,λj v hv=>?_,GD⟩;have hj:j<(flat news).length:=by rw[CS,<-uM];exact(aM.1 hv).1
   obtain⟨b',o',q1,-,q2⟩:=AO j _ (cq hj);cases q1;rw[iY,q2];simp[aU,hv]
  split at h
  .rename_i id n ag;cases ha with
   |@jX _ _ _ e1 s1 l1 z1 A cap hS1 hn1 hA1=>
    split at h
    rotate_left
    cases h;rename_i qd;simp only[aD,cA,aX]at qd;obtain⟨⟨⟨⟨hs,-⟩,nk⟩,hlen⟩,om⟩:=qd;split at h
    rotate_left
    cases h;rename_i e' s' l hop;split at h
    rotate_left
    cases h;rename_i AO;simp only[aD,cA]at AO;obtain⟨c1,c2⟩:=AO;rw[c1,c2]at hop;obtain⟨hS,Ib⟩:=mR hop;obtain⟨rfl,rfl,rfl,rfl⟩:e=e1/\s=s1/\l=l1/\false=z1:=by rw[hS]at hS1;cases hS1;exact⟨rfl,rfl,rfl,rfl⟩
    obtain⟨rfl,rfl⟩:=hA1 Ib;obtain⟨cur,t1,t2,t3,t4,t5,-,-⟩:=hR.ops id _ _ _ _ hS;have hnκ:n<=x.κ id:=Nat.le_of_mul_le_mul_right (show n*s<=x.κ id*s by omega) hs;split at h;rename_i wY;cases h;exact bk hR (emp _ _ _ hnκ (by simpa using wY)) (.jX hS hn1 λ_=>⟨rfl,rfl⟩);rename_i wY;cases h;obtain⟨hm,b2,o2,oA,rfl,uM,CS,hpN,Iv,rN,GD⟩:=ac6 (by simpa using wY) om;have adm:(l++flat news).length=(n+news.length)*s:=by rw[cn,CS,j8];omega
    have CI:∀c∈l++flat news,c.ct=true:=λc hc=>by
     rcases eG.1 hc with hc|hc;obtain⟨j,hj⟩:=tL.1 hc;exact(t5 j c hj).1
     grind
    have hlt:l.length<(l++flat news).length:=by rw[cn,CS];have:=Nat.mul_pos hm hs;omega
    have ajj:ig x (flat news) oA.toArray:=⟨by simp[uM,CS],λj c hc=>by simpa [bF,aU]using Iv j c hc⟩;by_cases hroom:n+news.length<=x.κ id;have Iy:n*s+oA.length<=cur.size:=by rw[uM,t2,<-j8];exact fH _ hroom
    have hrun:=run_append_room (P:=P) x.w t u e ie hu uN (x.μ id) n (x.κ id) cur t1 ⟨b2,o2,none⟩ news.length uK oA (by rw[uM,sZ]) rN GD hroom (by rw[sZ];exact Iy);rw[sZ,Ib]at hrun;have hp:=Jt (off:=l.length) t3 (λj c hc=>(t5 j c hc).2) ajj (ak _) (by rw[CS];omega);have hsz:(cur.toList.take l.length++oA++cur.toList.drop (l.length+oA.length)).toArray.size=cur.size:=by simp;omega
    rw[List.drop_of_length_le (show l.length<=l.length+(flat news).length by omega),dW,fR,mO]at hp;generalize Iz:(cur.toList.take l.length++oA++cur.toList.drop (l.length+oA.length)).toArray=arr at*;have mY:=Dc (F:=λ_=>False) (arr:=arr) (b:=.op e s (l++flat news) false) hR hS (.inr (.inr ⟨e,s,_,_,rfl,rfl,ab,ae,by rw[hsz];exact t2,by rw[hsz,adm,t2];exact fH _ hroom,λj c hc=>⟨CI c (cB hc),hp j c hc⟩⟩));have M:=vA (F:=λ_=>False) (arr:=arr) (b:=.op e s (l++flat news) false) hR hS (.inr (.inr ⟨e,s,_,_,rfl,rfl,ab⟩));refine iG hrun (y:=x.upd id arr (λ_=>False) (.op e s (l++flat news) false)) rfl mY M (.jX (e:=e) (s:=s) (l:=l++flat news) (z:=false) (by show(x.S.set _ _)[_]? =_;rw[iu hS,if_pos rfl]) ab λ_=>⟨rfl,rfl⟩);have s9:∀j,j<n*s->∃v,cur[j]? =some v:=λj hj=>⟨cur[j]' ab,cD _⟩;have Po:(cur.toList.take (n*s)).length=n*s:=by simp;omega
    obtain⟨g1,g2,g3⟩:=grown n (x.κ id) hlen _ Po _ uM _ rfl;have hrun:=run_append_grow (P:=P) x.w t u e ie z hu uN hiz ⟨x.μ id,0,none⟩ n (x.κ id) (cur.toList.take (n*s)) (by rw[Po,sZ]) (λj v hv=>by
      have hj:j<n*s:=by rw[<-Po];exact(aM.1 hv).1
      rw[wD,if_pos hj]at hv;rw[iY];simp only[World.cell?,t1,iw];simpa using hv) ⟨b2,o2,none⟩ news.length uK oA (by rw[uM,sZ]) rN ab ab (growslice_fits ab (by rw[FH];exact nk))
    generalize hk0:grownCap x.w (n+news.length) (x.κ id) e=k at*;obtain⟨v1,v2⟩:=BF (Z:=Builtin.zeroCells z.cells (k-(n+news.length))) Po uM;generalize Iz:(cur.toList.take (n*s)).toArray++oA.toArray++Builtin.zeroCells z.cells (k-(n+news.length))=arr at*;have hp:pS x.w (x.w.drew.alloc (.cells arr e)) (.cells arr e (0,0)):=⟨rfl,rfl,rfl⟩;have hcc:∀j c,(l++flat news)[j]? =some c->c.ct=true/\RV x c (arr.getD j undef):=λj c hc=>by
     refine⟨CI c (cB hc),?_⟩;by_cases hj:j<l.length;rw[fI hj]at hc;rw[v1 j ab];have:=(t5 j c hc).2;simpa [bF,aU,wD,show j<n*s by omega]using this
     grind
    have mY:=X3 (k:=k) hR hS hp hlt g3 (by rw[g3,adm];exact fH _ g2) g1 hcc;have M:=Ht (k:=k) hR hS hp hlt;refine iG hrun (y:=x.kS (x.w.drew.alloc (.cells arr e)) id k (λ_=>False) (.op e s (l++flat news) false)) rfl mY M (.jX (e:=e) (s:=s) (l:=l++flat news) (z:=false) (by show(x.S.set _ _)[_]? =_;rw[iu hS,if_pos rfl]) ab λ_=>?_);exact⟨congrArg (λb=>some (⟨b,0,none⟩:Addr)) (if_pos rfl:(if id=id then _ else _)=_).symm,(if_pos rfl:(if id=id then k else _)=k).symm⟩
  .rename_i f;cases ha with
   |@sl _ _ _ A cap s1 vs1 RU xg k1 k2 k3 k4 k5=>
    split at h;rename_i wY;cases h;exact bk hR (emp _ _ _ k1 (by simpa using wY)) (.sl RU xg k1 k2 k3 k4 k5);rename_i wY;split at h
    rotate_left
    cases h;rename_i qd;simp only[aD,cA,aX]at qd;obtain⟨⟨⟨⟨⟨ajA,hs⟩,-⟩,nk⟩,hlen⟩,om⟩:=qd;cases h;obtain⟨hm,b2,o2,oA,rfl,uM,CS,hpN,Iv,rN,GD⟩:=ac6 (by simpa using wY) om;have KE:cap=0:=k2.1 ajA;subst KE;obtain⟨g1,g2,g3⟩:=grown 0 0 ab [] ae _ uM _ rfl;have hrun:(Builtin.append_ #[t,t] u #[.slice A ([]:cj).length 0,.slice (some ⟨b2,o2,none⟩) news.length uK]).run P x.w=
      .ok (.slice (some ⟨x.w.heap.size,0,none⟩) news.length (grownCap x.w news.length 0 e)) (x.w.drew.alloc (.cells (oA.toArray++Builtin.zeroCells z.cells (grownCap x.w news.length 0 e-news.length)) e)):=by
     cases A with
     |none=>exact run_append_nil (P:=P) x.w t u e ie z hu uN hiz ⟨b2,o2,none⟩ news.length uK oA (by rw[uM,sZ]) rN hm ab (by rw[FH];unfold ga at nk;omega)
     |some ad=>have:=run_append_grow (P:=P) x.w t u e ie z hu uN hiz ad 0 0 [] ae ae ⟨b2,o2,none⟩ news.length uK oA (by rw[uM,sZ]) rN ab ab (growslice_fits ab (by rw[FH,iw];exact nk));simpa using this
    simp only[iw]at g1 g2 g3;generalize hk0:grownCap x.w news.length 0 e=k at*;have v2:∀j,j<news.length*s->(oA.toArray++Builtin.zeroCells z.cells (k-news.length)).getD j undef=oA.getD j undef:=λj hj=>by rw[bF,zO (by simp;omega)];simp[aU]
    have g3':(oA.toArray++Builtin.zeroCells z.cells (k-news.length)).size=k*s:=by simpa using g3
    obtain⟨y,y1,y2,y3,y4,y5⟩:=BG (n:=news.length) (agg:=agg) hR hn (w':=x.w.drew.alloc (.cells (oA.toArray++Builtin.zeroCells z.cells (k-news.length)) e)) (e:=e) (l:=flat news) (k:=k) (s:=s) ⟨rfl,rfl,rfl⟩ g3' (by rw[g3',CS];exact fH _ g2) g1 (λj c hc=>⟨hpN c (cB hc),by have hj:j<(flat news).length:=(aM.1 hc).1;rw[v2 j ab];exact Iv j c hc⟩) CS.symm;exact iG (by rw[y1];exact hrun) y2 y3 y4 y5
  cases h
theorem look_ok(hR:Rel x){d:DV}{v:Value}(h:RV x d v):RV x (kT x.S d) v:=by
 cases h with
 |@jX id n agg e1 s1 l1 z1 A cap hS hn hA=>
  unfold kT;dsimp only;split;rename_i e s l hop;obtain⟨C6,Ib⟩:=mR hop;obtain⟨rfl,rfl,rfl,rfl⟩:e=e1/\s=s1/\l=l1/\true=z1:=by rw[C6]at hS;cases hS;exact⟨rfl,rfl,rfl,rfl⟩
  split;rename_i hc;simp only[aD,j9,ee,cA]at hc;obtain⟨rfl,rfl⟩:=hA Ib;obtain⟨arr,h1,h2,h3,-,h4,h5,-⟩:=hR.ops id e s l true hS;obtain⟨AM,Zq⟩:=HL hc.1 hc.2 (λc hm=>by obtain⟨j,hj⟩:=tL.1 hm;exact(h4 j c hj).1) n Ib.symm;have hrn:(rowsOf s agg l n).length=n:=by simp[rowsOf]
  suffices hk:RV x (.sl (rowsOf s agg l n) none ⟨false,some false⟩) (.slice (some ⟨x.μ id,0,none⟩) (rowsOf s agg l n).length (x.κ id))by rw[hrn]at hk;exact hk
  refine RV.sl (tok:=none) (Eg Zq (λc hm=>?_) (by rw[AM];exact h3) h1 λj hj=>h5 rfl j (by rw[AM]at hj;exact hj)) (λj c hc=>?_) ?_ ⟨ae,λb h=>by cases h;rfl⟩ ae (λad h _=>by cases h;rfl) (λt ht=>nomatch ht);rw[AM]at hm;obtain⟨j,hj⟩:=tL.1 hm;exact(h4 j c hj).1
  grind
  rw[hrn];exact Nat.le_of_mul_le_mul_right (show n*s<=x.κ id*s by omega) hc.1;exact .jX hS hn hA;exact .jX hS hn hA
 |val h=>exact .val h
 |agg h hl=>exact .agg h hl
 |tup h hl=>exact .tup h hl
 |sl hv hr h1 h2 h3 hsp h4=>exact .sl hv hr h1 h2 h3 hsp h4
 |ptr h=>exact .ptr h
 |fM hv hr=>exact .fM hv hr
 |fn h1 h2 h3 h4=>exact .fn h1 h2 h3 h4
 |map h=>exact .map h
 |oz h=>exact .oz h
 |gF h h1 h2=>exact .gF h h1 h2
theorem On(hR:Rel x)(d:DV):∃y,y.w=x.w/\y.S=yQ x.S d/\Rel y/\cg x y:=by unfold yQ;split;rename_i id n ag;split;rename_i e s l hop;obtain⟨hS,-⟩:=mR hop;exact⟨x.close id e s l,rfl,rfl,SY hR hS,Fi hS⟩;exact⟨x,rfl,rfl,hR,cg.refl x⟩;exact⟨x,rfl,rfl,hR,cg.refl x⟩
theorem Ri:∀(l:cj){x:Cx},Rel x->∃y,y.w=x.w/\y.S=l.foldl yQ x.S/\Rel y/\cg x y
 |[],x,hR=>⟨x,rfl,rfl,hR,cg.refl x⟩
 |d::l,x,hR=>by obtain⟨y,y1,y2,y3,y4⟩:=On hR d;obtain⟨z,z1,z2,z3,z4⟩:=Ri l y3;exact⟨z,z1.trans y1,by rw[z2,y2,gh],z3,y4.trans z4⟩
theorem Rk(hR:Rel x)(d:DV):∃y,y.w=x.w/\y.S=uJ x.S d/\Rel y/\cg x y:=by
 have o:uJ x.S d=yQ x.S d->∃y,y.w=x.w/\y.S=uJ x.S d/\Rel y/\cg x y:=λe=>by rw[e];exact On hR d
 cases d
 case agg l=>exact Ri _ hR
 all_goals exact o rfl
theorem Rf:∀(l:cj){x:Cx},Rel x->∃y,y.w=x.w/\y.S=l.foldl uJ x.S/\Rel y/\cg x y
 |[],x,hR=>⟨x,rfl,rfl,hR,cg.refl x⟩
 |d::l,x,hR=>by obtain⟨y,y1,y2,y3,y4⟩:=Rk hR d;obtain⟨z,z1,z2,z3,z4⟩:=Rf l y3;exact⟨z,z1.trans y1,by rw[z2,y2,gh],z3,y4.trans z4⟩
theorem acd(hR:Rel x)(d:DV):∃y,y.w=x.w/\y.S=IA x.S d/\Rel y/\cg x y:=by
 have o:IA x.S d=uJ x.S d->∃y,y.w=x.w/\y.S=IA x.S d/\Rel y/\cg x y:=λe=>by rw[e];exact Rk hR d
 cases d
 case tup l=>exact Rf _ hR
 all_goals exact o rfl
theorem YK(hR:Rel x){l:cj}{vs:Array Value}(h:∀j c,l[j]? =some c->RV x c (vs.getD j undef))(j:Nat)(c:DV)(hj:(l.map (kT x.S))[j]? =some c):RV x c (vs.getD j undef):=by simp only[dG,ah]at hj;obtain⟨c',h2,rfl⟩:=hj;exact look_ok hR (h j c' h2)
theorem Mb(hR:Rel x){d:DV}{v:Value}(h:RV x d v):RV x (uv x.S d) v:=by
 cases h with
 |agg h1 h2=>exact .agg (by simpa using h1) (YK hR h2)
 |val h=>exact look_ok hR (.val h)
 |tup h1 h2=>exact look_ok hR (.tup h1 h2)
 |sl hv hr h1 h2 h3 hsp h4=>exact look_ok hR (.sl hv hr h1 h2 h3 hsp h4)
 |ptr h=>exact look_ok hR (.ptr h)
 |fM hv hr=>exact look_ok hR (.fM hv hr)
 |fn h1 h2 h3 h4=>exact look_ok hR (.fn h1 h2 h3 h4)
 |map h=>exact look_ok hR (.map h)
 |oz h=>exact look_ok hR (.oz h)
 |jX h h1 h2=>exact look_ok hR (.jX h h1 h2)
 |gF h h1 h2=>exact look_ok hR (.gF h h1 h2)
theorem YL(hR:Rel x){d:DV}{v:Value}(h:RV x d v):RV x (uV x.S d) v:=by
 cases d
 case tup l=>
  cases h with
  |tup h1 h2=>refine .tup (by simpa using h1) λj c hj=>?_;simp only[dG,ah]at hj;obtain⟨c',h3,rfl⟩:=hj;exact Mb hR (h2 j c' h3)
 all_goals exact Mb hR h
theorem JG{env:cj}:∀(l:List Operand){x:Cx},Rel x->∃y,y.w=x.w/\y.S=l.foldl (rW env) x.S/\Rel y/\cg x y
 |[],x,hR=>⟨x,rfl,rfl,hR,cg.refl x⟩
 |a::l,x,hR=>by
  rw[gh];cases he:jA env a with
  |none=>rw[show rW env x.S a=x.S by unfold rW;rw[he]];exact JG l hR
  |some d=>rw[show rW env x.S a=yQ x.S d by unfold rW;rw[he]];obtain⟨y,y1,y2,y3,y4⟩:=On hR d;obtain⟨z,z1,z2,z3,z4⟩:=JG (env:=env) l y3;exact⟨z,z1.trans y1,by rw[z2,y2],z3,y4.trans z4⟩
theorem afL{env:cj}{arr:Array Value}(o:Oper)(hR:Rel x)(he:ig x env arr):∃y,y.w=x.w/\y.S=(FT ty o env x.S).2/\Rel y/\cg x y/\ig y (FT ty o env x.S).1 arr:=by unfold FT;split;obtain⟨y,y1,y2,y3,y4⟩:=JG (env:=env) o.op.operands.toList hR;refine⟨y,y1,y2,y3,y4,by simpa using he.1,λj c hc=>?_⟩;simp only[dG,ah]at hc;obtain⟨c',h1,rfl⟩:=hc;rw[<-y2];exact look_ok y3 ((he.2 j c' h1).mono y4);exact⟨x,rfl,rfl,hR,cg.refl x,he⟩
end Go.Di
namespace Go.Di
open Go
variable {P:Program} {ty:gb} {x:Cx} {w':World} {aI:b9} {call:bG} {yf:ez} {ρd:Operand->Option DV} {ρ:Operand->Value} {o:Oper} {aC:Nat}
theorem HK{s:Nat}:∀{rows:cj}(_:∀r∈rows,r.cells.length=s)(h:Nat),flat (rows.take h)=(flat rows).take (h*s)
 |[],_,h=>by simp[flat]
 |r::rows,hs,0=>by simp[flat]
 |r::rows,hs,h+1=>by
  have h0:=hs r ae;have ih:=HK (rows:=rows) (λr hr=>hs r (by simp[hr])) h;simp only[flat]at ih;simp only[List.take_succ_cons,flat,cz,ih];have e1:r.cells.take ((h+1)*s)=r.cells:=List.take_of_length_le (by rw[h0,nN];omega);have e2:(h+1)*s-s=h*s:=by rw[nN];omega
  rw[List.take_append,h0,e1,e2]
theorem HO{s:Nat}:∀{rows:cj}(_:∀r∈rows,r.cells.length=s)(l:Nat),flat (rows.drop l)=(flat rows).drop (l*s)
 |[],_,l=>by simp[flat]
 |r::rows,hs,0=>ae
 |r::rows,hs,l+1=>by
  have h0:=hs r ae;have ih:=HO (rows:=rows) (λr hr=>hs r (by simp[hr])) l;simp only[flat]at ih;simp only[List.drop_succ_cons,flat,cz,ih];have e1:r.cells.drop ((l+1)*s)=[]:=List.drop_of_length_le (by rw[h0,nN];omega);have e2:(l+1)*s-s=l*s:=by rw[nN];omega
  rw[zB,h0,e1,e2,jq]
theorem BL{ρd:Operand->Option DV}{ρ:Operand->Value}(hρ:yT x ρd ρ){a:Operand}{eU n:Nat}{d:Nat}(h:iE ρd (some a) d eU=some n)(y:Nat)(hy:eU<=y)(code:BoundsCode)(w:World):n<=eU/\(Instr.sliceBound (ρ a) y code).run P w=.ok n w:=by unfold iE at h;simp only at h;split at h;rename_i i hi;split at h;rename_i hc;cases h;obtain⟨k,hk⟩:=ou hρ hi;refine⟨hc.2,?_⟩;have AO:0<=i/\i<=(y:Int):=⟨hc.1,ab⟩;simp only[Instr.sliceBound,hk,asIntOf,Sem.run_bind,Sem.run_pure,Result.andThen_ok,AO,and_self,if_true];cases h;cases h
theorem WR{rows:cj}{tok:Option Nat}{f:SF}{A:Option Addr}{n cap:Nat}(h:RV x (.sl rows tok f) (.slice A n cap)):∀b,ND rows f=some b->A.isNone=b:=by
 intro b hb;cases h with
 |sl hv hr h1 h2 h3 hsp h4=>
  unfold ND at hb;split at hb;exact h2.2 b hb;rename_i hne;cases hb;cases A with
  |none=>have:=h3 rfl;have h0:rows=[]:=eR ab;exact absurd (by simp[h0]) hne
  |some ad=>rfl
theorem TF(fN:kM P ty){op:BinOp}{t:TypeId}{a b:Operand}{d:DV}(hρ:yT x ρd ρ)(h:D6 ty op t (ρd a) (ρd b)=some d):
  ∃v,(do eqGuard op t a b (ρ a) (ρ b);binOp op t (ρ a) (ρ b):Sem Value).run P x.w=.ok v x.w/\RV x d v:=by
 unfold D6 at h;split at h;rename_i rows tok f FP f2 ha hb;have ra:=hρ a _ ha;have rb:=hρ b _ hb;generalize ρ a=va at ra⊢;generalize ρ b=vb at rb⊢;split at h;rename_i e s mh agg sz z c htt hn;obtain⟨hk,it,-,-,-⟩:=cu (fN t _ htt);obtain⟨hu,-⟩:=mQ hk;have ra0:=ra;have rb0:=rb;cases ra with
 |@sl _ _ _ A cap s1 vs1 RU xg k1 k2 k3 k4 k5=>
  cases rb with
  |@sl _ _ _ A2 uK s2 vs2 Zo Kq m1 m2 m3 m4 m5=>
   have hA:=WR ra0 c hn;have hA2:=m2.2 true rfl;have:A2=none:=by simpa using hA2
   subst this;have heq:(Op.equal t (.slice A rows.length cap) (.slice none 0 uK)).run P x.w=.ok c x.w:=by subst hA;obtain⟨n,qJ⟩:∃n,Op.maxDepth=n+1:=⟨9999,rfl⟩;cases A<;>simp only[Op.equal,qJ,Op.equalIn,Sem.run_bind,run_underlying hu,Result.andThen_ok,Sem.run_pure,Option.isNone_none,Option.isNone_some]
   split at h;cases h;exact⟨.bool c,by simp[eqGuard,binOp,heq],.val rfl⟩;cases h;exact⟨.bool (!c),by simp[eqGuard,binOp,heq],.val rfl⟩;cases h
 cases h;cases h
theorem Yt(fN:kM P ty)(hR:Rel x)(hρ:yT x ρd ρ){t e:TypeId}{s mh sz:Nat}{agg:Bool}{z:Option cj}(htt:ty t=some ⟨.slice e s mh agg,sz,z⟩){rows:cj}{tok:Option Nat}{full:SF}{va:Value}(ha:RV x (.sl rows tok full) va)(qc:∀r∈rows,r.cells.length=s)
  {lo hi mx:Option Operand} {m h l:Nat} {d:DV} (hm:iE ρd mx rows.length rows.length=some m) (hh:iE ρd hi rows.length m=some h) (hl:iE ρd lo 0 h=some l) (hhm:(hi.isNone&&mx.isSome)=false) (hd:s7 rows full l h (mx.map λ_=>m)=some d):
  Yields x ((do pure (.value (<-Instr.sliceAt t va (lo.map ρ) (hi.map ρ) (mx.map ρ))):Sem Next).run P x.w) d x.S:=by
 obtain⟨hk,it,-,-,-⟩:=cu (fN t _ htt);obtain⟨hu,ie,uN,sZ,-,-⟩:=mQ hk;have AM:=iH qc;have Ie:=ha;cases ha with
 |@sl _ _ _ A cap s1 vs1 RU xg k1 k2 k3 k4 k5=>
  obtain⟨-,-,-,-,-,hsp,hpR,ws,hwl,Uu,hc,-⟩:=vq Ie qc;have ag2:=WR Ie;have hbm:m<=rows.length/\∃M,(∀w:World,(match mx.map ρ with|some v=>Instr.sliceBound v cap .slice3Acap|none=>pure cap:Sem Nat).run P w=.ok M w)/\m<=M/\M<=cap/\(mx.isSome=true->M=m)/\(mx=none->M=cap/\m=rows.length):=by
   cases mx with
   |none=>simp only[iE,aG]at hm;subst hm;exact⟨ak _,cap,λw=>rfl,k1,ak _,ae,λ_=>⟨rfl,rfl⟩⟩
   |some a=>have:=λw=>BL (P:=P) hρ hm cap k1 .slice3Acap w;exact⟨(this default).1,m,λw=>(this w).2,ak _,bt (this default).1 k1,λ_=>rfl,ae⟩
  obtain⟨hmr,M,hM,hmM,hMc,hMs,hMn⟩:=hbm;have hbh:h<=rows.length/\h<=M/\∀w:World,(match hi.map ρ,mx.map ρ with|some v,some _=>Instr.sliceBound v M .slice3B|some v,none=>Instr.sliceBound v M .sliceAcap|none,none=>pure rows.length|none,some _=>stuck "Slice: max without high":Sem Nat).run P w=.ok h w:=by
   cases hi with
   |none=>
    cases mx with
    |none=>simp only[iE,aG]at hh;subst hh;exact⟨ak _,by rw[(hMn rfl).1];exact k1,λw=>rfl⟩
    |some a=>simp at hhm
   |some b=>
    have q1:=λc w=>BL (P:=P) hρ hh M hmM c w;have q2:=(q1 .slice3B default).1;refine⟨bt q2 hmr,bt q2 hmM,λw=>?_⟩;cases mx with
    |none=>exact(q1 .sliceAcap w).2
    |some a=>exact(q1 .slice3B w).2
  obtain⟨hhr,hhM,hH⟩:=hbh;have hbl:l<=h/\∀w:World,(match lo.map ρ with|some v=>Instr.sliceBound v h (if(mx.map ρ).isSome then .slice3C else .sliceB)|none=>pure 0:Sem Nat).run P w=.ok l w:=by
   cases lo with
   |none=>simp only[iE,aG]at hl;subst hl;exact⟨j7 _,λw=>rfl⟩
   |some a=>have q1:=λc w=>BL (P:=P) hρ hl h (ak _) c w;exact⟨(q1 .slice3C default).1,λw=>(q1 _ w).2⟩
  obtain⟨hlh,hL⟩:=hbl;have hA':∀A',A'=(if M=l then A else A.map (·.add (l*s)))->(A'=none->M-l=0)/\(∀ad,A'=some ad->0<M-l->ad.spot=none):=by
   intro A' hA;subst hA;split
   grind
   cases A with
   |none=>have:=k3 rfl;exact⟨λ_=>ab,ae⟩
   |some ad=>refine⟨ae,λad' h hp=>?_⟩;simp only[az,aG]at h;subst h;have:=k4 ad rfl ab;obtain⟨b,o,sp⟩:=ad;simp only at this;subst this;rw[iY]
  have ag1:∀(adR:Option Nat)(KY:SF),(KY.full=true->M-l=h-l)/\We KY A->adR=none->RV x (.sl ((rows.take h).drop l) adR KY) (.slice (if M=l then A else A.map (·.add (l*s))) (h-l) (M-l)):=by
   intro adR KY yX ajd;subst ajd;obtain⟨hA1,hA2⟩:=hA' _ rfl;have hlen:((rows.take h).drop l).length=h-l:=by simp;omega
   have af3:∀r∈(rows.take h).drop l,r.cells.length=s:=λr hr=>qc r (zL (List.mem_of_mem_drop hr));have aki:flat ((rows.take h).drop l)=((flat rows).take (h*s)).drop (l*s):=by rw[HO (λr hr=>qc r (zL hr)),HK qc]
   have kW:∀j c,(flat ((rows.take h).drop l))[j]? =some c->(flat rows)[l*s+j]? =some c/\l*s+j<h*s:=by grind
   have hv:View x ((rows.take h).drop l) (if M=l then A else A.map (·.add (l*s))) s (λj=>ws.getD (l*s+j) undef):=by
    refine⟨af3,λj c hcj=>?_⟩;obtain⟨q1,q2⟩:=kW j c hcj;obtain⟨b,o,r1,r2,r3⟩:=hc _ _ q1;refine⟨hpR c (cB q1),b,o+l*s,?_,by rw[gf];exact r2,by rw[gf];exact r3⟩;have hlt:l<h:=by grind
    rw[if_neg ab,r1];simp only[az,iY]
   have:=RV.sl (tok:=none) (full:=KY) (cap:=M-l) hv (λj c hcj=>Uu _ _ (kW j c hcj).1) (by rw[hlen];omega) ⟨λhf=>by rw[hlen];exact yX.1 hf,λb hb=>by rw[<-yX.2 b hb];split<;>simp⟩ hA1 hA2 (λt ht=>nomatch ht);rw[hlen]at this;exact this
  have hrun:(Instr.sliceAt t (.slice A rows.length cap) (lo.map ρ) (hi.map ρ) (mx.map ρ)).run P x.w=.ok (.slice (if M=l then A else A.map (·.add (l*s))) (h-l) (M-l)) x.w:=by
   have hb:(Instr.sliceBounds true rows.length cap (lo.map ρ) (hi.map ρ) (mx.map ρ)).run P x.w=.ok (l,h,M) x.w:=by
    have hM':=hM x.w;have hH':=hH x.w;have U0:=hL x.w;unfold Instr.sliceBounds
    revert hM' hH' U0 hhm
    cases mx<;>cases hi<;>cases lo<;>intro hM' hH' U0 hhm<;>
     simp only[mN,az,Sem.run_pure,Result.ok.injEq,and_true,Option.isSome_some,Option.isSome_none,Option.isNone_none,jo,Bool.true_eq_false,if_true,aK,if_false]at hM' hH' U0 hhm⊢<;>
     (try subst hM')<;>(try subst hH')<;>(try subst U0)<;>simp only[Sem.run_bind,Result.andThen_ok,Sem.run_pure, *]
   unfold Instr.sliceAt;simp only[Sem.run_bind,run_underlying hu,Result.andThen_ok,Instr.slice,hb,run_sizeOf uN,Sem.run_pure,sZ]
  unfold s7 at hd;rw[if_pos hlh]at hd;cases mx with
  |none=>simp only[mN,aG]at hd;subst hd;refine bk hR hrun (ag1 _ _ ⟨λhf=>?_,ag2⟩ rfl);simp only[aD,ee]at hf;rw[(hMn rfl).1,k2.1 hf.1,hf.2]
  |some a=>
   simp only[az]at hd;by_cases hc:h<=m;rw[if_pos hc]at hd;simp only[aG]at hd;subst hd;refine bk hR hrun (ag1 _ _ ⟨λhf=>?_,ag2⟩ rfl);simp only[ee]at hf;rw[hMs rfl,hf]
   grind
def Op.lone:Op->Bool
 |.call {callee:=.builtin _,.. }=>true
 |.call _=>false
 |_=>true
theorem SI(fN:kM P ty)(hR:Rel x)(hn:FI x.S aC)(hρ:yT x ρd ρ)(hop:Op.lone o.op=true){d:DV}{S':ai}(h:af P ty aI call yf ρd o x.S aC=some (d,S')):Yields x ((execOp ρ o).run P x.w) d S':=by
 obtain⟨dst,op,type,pos,after,guard⟩:=o;cases op with
 |move a=>simp only[af,ah,aA]at h;obtain⟨d',h1,rfl,rfl⟩:=h;exact⟨ρ a,x,.inl rfl,rfl,hR,cg.refl x,hρ a _ h1⟩
 |assign a=>simp only[af,ah,aA]at h;obtain⟨d',h1,rfl,rfl⟩:=h;exact⟨ρ a,x,.inl rfl,rfl,hR,cg.refl x,hρ a _ h1⟩
 |pick c a b=>
  simp only[af]at h;split at h;rename_i t hc;have hcv:=xX (hρ c _ hc);simp only[ah,aA]at h;obtain⟨d',h1,rfl,rfl⟩:=h;cases t with
  |true=>exact⟨ρ a,x,.inl (by simp[execOp,hcv,asBool]),rfl,hR,cg.refl x,hρ a _ h1⟩
  |false=>exact⟨ρ b,x,.inl (by simp[execOp,hcv,asBool]),rfl,hR,cg.refl x,hρ b _ h1⟩
  cases h
 |alloc e=>simp only[af]at h;split at h;rename_i hk;cases h;exact Yu fN hR hn hk;cases h
 |box e a=>simp only[af]at h;split at h;rename_i d' h1;cases h;exact afR hR hn (hρ a _ h1);cases h
 |build t ps=>simp only[af]at h;split at h;rename_i hk hl;simp only[ah,aA]at h;obtain⟨cs,h1,rfl,rfl⟩:=h;exact C0 fN hR hρ hk hl h1;rename_i hk hl;simp only[ah,aA]at h;obtain⟨cs,h1,rfl,rfl⟩:=h;exact Fy fN hR hρ hk hl h1;cases h
 |buildSlice t n ps=>simp only[af]at h;split at h;rename_i e s mh agg sz z0 l hk hl;split at h;rename_i k sz' z he;split at h;rename_i hc;simp only[aD,cA]at hc;split at h;rename_i cs hf;split at h;rename_i hp;simp only[aD,j9,ee]at hp;split at h;cases h;exact Tu fN hR hn hρ hk hl he hc.1 hc.2 hf hp.1;cases h;exact F7 fN hR hρ hk hl he hc.1 hc.2 hf hp.1 hp.2;cases h;cases h;cases h;cases h;cases h
 |makeSlice t a b=>simp only[af]at h;split at h;rename_i e s mh agg sz z0 n m hk ha hb;split at h;rename_i k sz' z he;split at h;rename_i hc;simp only[aD,j9,ee,cA]at hc;obtain⟨⟨⟨⟨⟨⟨h0,rfl⟩,hs⟩,-⟩,h1⟩,h2⟩,h3⟩:=hc;cases h;obtain⟨kd,hka⟩:=ou hρ ha;obtain⟨kd',hkb⟩:=ou hρ hb;have h4:=J6 (kd:=kd) (kd':=kd') fN hR hn hk he h0 hs h1 h2 h3;rw[<-hka,<-hkb]at h4;exact h4;cases h;cases h;cases h
 |load t a=>simp only[af]at h;split at h;rename_i a' h1;simp only[ah,aA]at h;obtain⟨d',h2,rfl,rfl⟩:=h;obtain⟨v,h3,h4⟩:=Mc fN hR (hρ a _ h1) h2;exact bk hR h3 h4;cases h
 |store t a v=>simp only[af]at h;split at h;rename_i a' v' h1 h2;simp only[ah,aA]at h;obtain⟨S2,h3,rfl,rfl⟩:=h;obtain⟨y,h4,h5,h6,h7⟩:=SH fN hR (hρ a _ h1) (hρ v _ h2) h3;exact Le h4 h5 h6 h7;cases h
 |nilCheck a=>
  simp only[af]at h;split at h;rename_i id off h1;cases h;have:=hρ a _ h1;generalize hv:ρ a=v at this;cases this with
  |ptr hS=>exact⟨_,x,.inl (by simp only[execOp,hv];rfl),rfl,hR,cg.refl x,.ptr hS⟩
  cases h
 |binOp op t a b u=>simp only[af]at h;split at h;rename_i va vb h1 h2;simp only[ah,aA]at h;obtain⟨d',h3,rfl,rfl⟩:=h;obtain⟨v,h4,h5⟩:=pM (x:=x) h3 x.w;rw[<-gv hρ h1,<-gv hρ h2]at h4;exact bk hR h4 h5;simp only[ah,aA]at h;obtain⟨d',h3,rfl,rfl⟩:=h;obtain⟨v,h4,h5⟩:=TF fN hρ h3;exact bk hR h4 h5
 |unOp op t a=>simp only[af]at h;split at h;rename_i va h1;simp only[ah,aA]at h;obtain⟨d',h3,rfl,rfl⟩:=h;obtain⟨v,h4,h5⟩:=pM (x:=x) h3 x.w;rw[<-gv hρ h1]at h4;exact bk hR h4 h5;cases h
 |convert s t a=>simp only[af]at h;split at h;rename_i va h1;simp only[ah,aA]at h;obtain⟨d',h3,rfl,rfl⟩:=h;obtain⟨v,h4,h5⟩:=pM (x:=x) h3 x.w;rw[<-gv hρ h1]at h4;exact bk hR h4 h5;cases h
 |makeFunc fn fs cs=>
  cases fn with
  |func f=>simp only[af]at h;split at h;rename_i a b h1 h2;cases h;have e1:=xZ hρ h1;have e2:=xZ hρ h2;refine bk hR (v:=.func (.func f) (fs.map ρ) (cs.map ρ)) rfl (.fn (by simpa using e1.1) (by simpa using e2.1) (λj c hc=>?_) (λj c hc=>?_));have:=e1.2 j c hc;simpa [bF]using this;have:=e2.2 j c hc;simpa [bF]using this;cases h
  |_=>simp[af]at h
 |slice t a lo hi mx=>simp only[af]at h;split at h;rename_i s sz z rows tok full hk ha;split at h;cases h;rename_i qc;simp only[pz,Bool.not_eq_false,aX,cA]at qc;split at h;rename_i m hm;split at h;rename_i h' hh;split at h;rename_i l hl;split at h;cases h;rename_i hhm;simp only[ah,aA]at h;obtain⟨d',h3,rfl,rfl⟩:=h;exact Yt fN hR hρ hk (hρ a _ ha) qc hm hh hl (by simpa using hhm) h3;cases h;cases h;cases h;cases h
 |fieldAddr t a f=>
  simp only[af]at h;split at h;rename_i fs sz z id off hk ha;split at h;rename_i o s agg hf;split at h;rename_i hs;cases h;have:=hρ a _ ha;generalize hv:ρ a=v at this;cases this with
  |ptr hS=>exact bk hR (by rw[hv];exact ue fN hk hf hs _ _ _) (.ptr hS)
  cases h;cases h;rename_i fs sz z rows i off hk ha;split at h;rename_i o s agg hf;split at h;rename_i hs;cases h;have:=hρ a _ ha;generalize hv:ρ a=v at this;cases this with
  |fM RU Zo=>refine bk hR (by rw[hv];exact ue fN hk hf hs _ _ _) ?_;rw[gf,gf];exact .fM RU Zo
  cases h;cases h;rename_i fs sz z id n off hk ha;split at h;rename_i o s agg q hf hop;obtain⟨e,s',l,zz⟩:=q;obtain⟨hS,Ib⟩:=mR hop;split at h;rename_i hs;cases h;have:=hρ a _ ha;generalize hv:ρ a=v at this;cases this with
  |@gF _ _ _ e1 s1 l1 z1 _ C6 AK hA=>
   obtain⟨rfl,rfl,rfl,rfl⟩:e=e1/\s'=s1/\l=l1/\zz=z1:=by rw[hS]at C6;cases C6;exact⟨rfl,rfl,rfl,rfl⟩
   have hA:=hA Ib;subst hA;exact bk hR (by rw[hv];exact ue fN hk hf hs _ _ _) (.gF hS AK λ_=>rfl)
  cases h;cases h;cases h
 |field t a f=>simp only[af]at h;split at h;rename_i fs sz z l hk ha;split at h;rename_i off s agg hf;simp only[ah,aA]at h;obtain⟨d',h3,rfl,rfl⟩:=h;obtain⟨arr,hv,Uu⟩:=Qk (hρ a _ ha);obtain⟨vU,i,hi,-,-⟩:=cu (fN t _ hk);obtain⟨fields,hu,hfs,hff⟩:=Bg vU;obtain⟨fd,h4,h5,inf,h6,h7,h8,d0,h9⟩:=hff f _ hf;simp only at h5 h7 h8;obtain⟨v,uG,Ig⟩:=QA (x:=x) h6 h9 h7 h8 Uu h3 x.w;refine bk hR (v:=v) ?_ Ig;simp only[Instr.field,hv,Sem.run_bind,run_underlying hu,Result.andThen_ok,h4,asAgg,Sem.run_pure,h5,uG];cases h;cases h
 |indexAddr t a i=>
  simp only[af]at h;split at h;rename_i e s mh agg sz z rows tok full n hk ha hi;split at h;rename_i h0;split at h;rename_i r hr;split at h;rename_i hs;cases h;obtain⟨kd,Ux⟩:=ou hρ hi;have:=hρ a _ ha;generalize hv:ρ a=v at this;cases this with
  |@sl _ _ _ A cap s1 vs RU Zo k1 k2 k3 k4 k5=>
   have hlt:n.toNat<rows.length:=(aM.1 hr).1;cases A with
   |none=>have:=k3 rfl;omega
   |some ad=>
    obtain⟨b,o,sp⟩:=ad;have:sp=none:=k4 _ rfl ab;subst this;have FK:s1=s:=by rw[<-hs];exact(RU.1 r (cB hr)).symm
    subst FK;refine bk hR (by rw[hv,Ux];exact Fe fN hk h0 hlt _ _ _) ?_;have:=RV.fM (i:=n.toNat) (off:=0) RU Zo;simpa using this
  cases h;cases h;cases h;rename_i k s agg sz z id off n hk ha hi;split at h;rename_i h0;cases h;obtain⟨kd,Ux⟩:=ou hρ hi;have:=hρ a _ ha;generalize hv:ρ a=v at this;cases this with
  |ptr hS=>exact bk hR (by rw[hv,Ux];exact Cq fN hk h0.1 h0.2 _ _ _) (.ptr hS)
  cases h;rename_i k s agg sz z rows j off n hk ha hi;split at h;rename_i h0;cases h;obtain⟨kd,Ux⟩:=ou hρ hi;have:=hρ a _ ha;generalize hv:ρ a=v at this;cases this with
  |fM RU Zo=>refine bk hR (by rw[hv,Ux];exact Cq fN hk h0.1 h0.2 _ _ _) ?_;rw[gf,gf];exact .fM RU Zo
  cases h;rename_i e s mh agg sz z id m ag n hk ha hi;split at h;rename_i q1 s' l zz hop;obtain⟨hS,Ib⟩:=mR hop;split at h;rename_i h0;obtain⟨h0,h1,rfl⟩:=h0;cases h;obtain⟨kd,Ux⟩:=ou hρ hi;have:=hρ a _ ha;generalize hv:ρ a=v at this;cases this with
  |@jX _ _ _ e1 s1 l1 z1 _ _ C6 AK hA=>
   obtain⟨rfl,rfl,rfl,rfl⟩:q1=e1/\s'=s1/\l=l1/\zz=z1:=by rw[hS]at C6;cases C6;exact⟨rfl,rfl,rfl,rfl⟩
   obtain⟨rfl,rfl⟩:=hA Ib;exact bk hR (by rw[hv,Ux];exact Fe fN hk h0 h1 _ _ _) (.gF hS ab λ_=>by rw[iw])
  cases h;cases h;cases h
 |index t a i=>simp only[af]at h;split at h;rename_i k s agg sz z l n hk ha hi;split at h;rename_i h0;simp only[ah,aA]at h;obtain⟨d',h3,rfl,rfl⟩:=h;obtain⟨kd,Ux⟩:=ou hρ hi;obtain⟨arr,hv,Uu⟩:=Qk (hρ a _ ha);obtain⟨vU,it,hit,-,-⟩:=cu (fN t _ hk);obtain⟨e,hu,ie,uN,sZ,Ic,d0,hu2⟩:=zQ vU;obtain⟨v,uG,Ig⟩:=QA (x:=x) uN hu2 sZ Ic Uu h3 x.w;refine bk hR (v:=v) ?_ Ig;have hc:0<=n/\n<(k:Int):=⟨h0.1,ab⟩;simp only[Instr.index,hv,Ux,asIntOf,Sem.run_bind,Sem.run_pure,run_underlying hu,Result.andThen_ok,hc,and_self,if_true,run_sizeOf uN,sZ,uG];cases h;cases h
 |makeMap t r=>
  cases r with
  |none=>simp only[af,aG,aA]at h;obtain⟨rfl,rfl⟩:=h;exact OR hR hn
  |some a=>simp[af]at h
 |lookup t m k ok=>
  simp only[af]at h;split at h;rename_i id kv hm hk;split at h;rename_i es hS;simp only[ah,mP,aA]at h;obtain⟨d',⟨v,h1,h2⟩,rfl,rfl⟩:=h;have:=hρ m _ hm;generalize hv:ρ m=vm at this;cases this with
  |map _=>have h3:=Tt hR hS h1 h2;rw[<-hv,<-gv hρ hk]at h3;exact h3
  cases h;cases h
 |mapUpdate t m k a=>
  simp only[af]at h;split at h;rename_i id kv vv hm hk ha;split at h;rename_i es hS;split at h;rename_i r hr;simp only[ah,aA]at h;obtain⟨es',h1,rfl,rfl⟩:=h;have:=hρ m _ hm;generalize hv:ρ m=vm at this;cases this with
  |map _=>have h3:=J5 hR hS hr h1;rw[<-hv,<-gv hρ hk,<-gv hρ ha]at h3;exact h3
  cases h;cases h;cases h
 |extract a i=>
  simp only[af]at h;split at h;rename_i l ha;simp only[ah,aA]at h;obtain⟨d',h3,rfl,rfl⟩:=h;have:=hρ a _ ha;generalize hv:ρ a=v at this;cases this with
  |@tup _ vs hs hr=>
   have hlt:i<vs.size:=by rw[hs];exact(aM.1 h3).1
   refine bk hR (v:=vs[i]) (by rw[hv];simp[Instr.extract,hlt]) ?_;simpa [bF,hlt]using hr i _ h3
  cases h
 |call c=>
  obtain⟨callee,args,ats⟩:=c;cases callee with
  |builtin b=>
   simp only[af]at h;have hex:∀w:World,(execOp ρ ⟨dst,.call ⟨.builtin b,args,ats⟩,type,pos,after,guard⟩).run P w=(Go.builtin b ats type (args.map λ|.const _=>true|_=>false) (args.map ρ)).run P w:=λw=>by simp only[execOp,resolve,Sem.run_bind,Sem.run_pure,Result.andThen_ok,invoke];rfl
   rw[hex];split at h;rename_i a t qN aax;have ea:args=#[a]:=by rw[<-zK (xs:=args),qN]
   have et:ats=#[t]:=by rw[<-zK (xs:=ats),aax]
   subst ea et;split at h;rename_i e s mh agg sz z rows tok full hk ha;cases h;obtain⟨vU,it,hit,-,-⟩:=cu (fN t _ hk);obtain⟨hu,-⟩:=mQ vU;have:=hρ a _ ha;generalize hv:ρ a=v at this;cases this with
   |sl _ _ _ _ _ _ _=>exact bk hR (v:=.int .i64 rows.length) (by simp[Builtin.len_,hv,run_underlying hu,goInt]) (.val rfl)
   rename_i e s mh agg sz z id n ag hk ha;cases h;obtain⟨vU,it,hit,-,-⟩:=cu (fN t _ hk);obtain⟨hu,-⟩:=mQ vU;have:=hρ a _ ha;generalize hv:ρ a=v at this;cases this with
   |jX _ _ _=>exact bk hR (v:=.int .i64 n) (by simp[Builtin.len_,hv,run_underlying hu,goInt]) (.val rfl)
   rename_i n s agg sz z hk;cases h;obtain⟨vU,it,hit,-,-⟩:=cu (fN t _ hk);obtain⟨e,hu,-⟩:=zQ vU;exact bk hR (v:=.int .i64 n) (by simp[Builtin.len_,run_underlying hu,goInt]) (.val rfl);rename_i v ha hno;simp only[ah,aA]at h;obtain⟨d',h3,rfl,rfl⟩:=h;obtain⟨v',h4,h5⟩:=pM (x:=x) h3 x.w;have:=xX (hρ a _ ha);refine bk hR (v:=v') ?_ h5;simpa [this]using h4;cases h;rename_i a b t u qN aax;have ea:args=#[a,b]:=by rw[<-zK (xs:=args),qN]
   have et:ats=#[t,u]:=by rw[<-zK (xs:=ats),aax]
   subst ea et;split at h;rename_i Ut;subst Ut;split at h;rename_i da db ha hb;have e2:Array.map ρ #[a,b]=#[ρ a,ρ b]:=ae
   rw[e2];split at h;exact Ff (u:=type) fN hR hn (hρ a _ ha) (hρ b _ hb) h;split at h;exact Ff (u:=type) fN hR hn (hρ a _ ha) (hρ b _ hb) h;exact Tw (u:=type) fN hR hn (hρ a _ ha) (hρ b _ hb) h;cases h;cases h;rename_i xs qN;split at h;rename_i vs h1;simp only[ah,aA]at h;obtain⟨d',h3,rfl,rfl⟩:=h;simp only[mP]at h1;obtain⟨ds,h4,h5⟩:=h1;have h6:=xZ hρ h4;have h7:=Bm (x:=x) (vs:=args.toList.map ρ) h5 (by simpa using h6.1) λj c hc=>by simpa [bF,aU]using h6.2 j c hc
   obtain⟨v',h8,h9⟩:=pM (x:=x) h3 x.w;refine bk hR (v:=v') ?_ h9;have e2:(List.map ρ args.toList).toArray=Array.map ρ args:=Array.toList_inj.1 ae;rw[<-h7,e2]at h8;exact h8;cases h;rename_i xs qN;split at h;rename_i vs h1;simp only[ah,aA]at h;obtain⟨d',h3,rfl,rfl⟩:=h;simp only[mP]at h1;obtain⟨ds,h4,h5⟩:=h1;have h6:=xZ hρ h4;have h7:=Bm (x:=x) (vs:=args.toList.map ρ) h5 (by simpa using h6.1) λj c hc=>by simpa [bF,aU]using h6.2 j c hc
   obtain⟨v',h8,h9⟩:=pM (x:=x) h3 x.w;refine bk hR (v:=v') ?_ h9;have e2:(List.map ρ args.toList).toArray=Array.map ρ args:=Array.toList_inj.1 ae;rw[<-h7,e2]at h8;exact h8;cases h;cases h
  |_=>simp[Op.lone]at hop
 |_=>simp[af]at h
end Go.Di
