import Derived.Test.YtedcgbkilmlbhaaPk21
import Derived.Laws.BitsLemmas
set_option maxHeartbeats 1000000
set_option maxRecDepth 8000
namespace Go.Di
open Go
variable {P:Program} {ty:fP} {x:Cx} {w':World} {ρd:Operand->Option DV} {ρ:Operand->Value} {o:Oper} {aD:Nat}
theorem Bu(hR:Rel x)(hn:Fy x.S aD){k s n:Nat}{e:TypeId}{l:List DV}{arr:Array Value}{agg:Bool}(hp:pP x.w w' (.cells arr e (0,0)))(hsz:arr.size=k*s)(hl:l.length<=arr.size)(hk:k<=maxLen)(hc:∀j c,l[j]? =some c->c.bY=true/\RV x c (arr.getD j undef))(SX:n*s=l.length):
  ∃y,y.w=w'/\y.S=eW x.S aD (.op e s l false)/\Rel y/\bU x y/\RV y (.jx aD n agg) (.slice (some ⟨x.w.heap.size,0,none⟩) n k):=by
 have mS:=nk (k:=k) (F:=λ_=>False) (b:=.op e s l false) hR hn hp (by simp) (.inr (.inr (.inr ⟨e,s,l,arr,rfl,rfl,hsz,hl,hk,by simp,hc⟩)));refine⟨_,rfl,rfl,mS,jS hR hn hp,?_⟩;refine RV.jx (e:=e) (s:=s) (l:=l) (z:=false) (by show(eW _ _ _)[_]? =_;rw[bF hn.le,if_pos rfl]) (by omega) λ_=>?_;exact⟨by rw[show(x.fresh w' aD k (λ_=>False) (.op e s l false)).μ aD=x.w.heap.size from if_pos rfl],(if_pos rfl:(if aD=aD then k else _)=k).symm⟩
theorem Sc(fG:kG P ty)(hR:Rel x)(hn:Fy x.S aD)(hρ:yK x ρd ρ){t e:TypeId}{n s lU sz sz':Nat}{agg:Bool}{k:TK}{z0:Option (List DV)}{z cs:List DV}{ps:Array (Nat×Operand)}{l:List (Nat×DV)}(h:ty t=some ⟨.slice e s lU agg,sz,z0⟩)(hl:kI ρd ps.toList=some l)(he:ty e=some ⟨k,sz',some z⟩)
  (hs:0<s) (CA:n*s<=16777216) (hf:lJ (λi=>some (i*s,s)) ((List.replicate n z).flatten) (l.map λ(i,v)=>(i,v.strip))=some cs) (hp:cs.all DV.bY=true):
  Yields x ((do pure (.value (<-Instr.buildSlice t n (ps.map λp=>(p.1,ρ p.2)))):Sem Next).run P x.w) (.jx aD n agg) (eW x.S aD (.op e s cs false)):=by
 obtain⟨arr,h6,ov,hrun⟩:=HI fG hR hρ h hl he hs CA hf;have Ts:n<=n*s:=Nat.le_mul_of_pos_right n hs;obtain⟨y,y1,y2,y3,y4,y5⟩:=Bu (n:=n) (agg:=agg) hR hn (gZ x.w (.cells arr e)) (k:=n) (s:=s) (by rw[h6.1,ov]) (by rw[h6.1];exact aj _) (by unfold maxLen;omega) (λj c hc=>⟨aT.1 hp c (b9 hc),h6.2 j c hc⟩) ov.symm;exact iD (by rw[y1];exact hrun) y2 y3 y4 y5
theorem JF(fG:kG P ty)(hR:Rel x)(hn:Fy x.S aD){t e:TypeId}{s lU sz sz':Nat}{agg:Bool}{k:TK}{z0:Option (List DV)}{z:List DV}{kd kd':IntKind}{n:Int}(h:ty t=some ⟨.slice e s lU agg,sz,z0⟩)(he:ty e=some ⟨k,sz',some z⟩)
  (h0:0<=n) (hs:0<s) (CA:n<=140737488355328-4096) (hb:n.toNat*lU<=fU) (hp:(z.map DV.aM).all DV.bY=true):
  Yields x ((do pure (.value (<-Instr.makeSlice t (.int kd n) (.int kd' n))):Sem Next).run P x.w) (.jx aD n.toNat agg) (eW x.S aD (.op e s (List.replicate n.toNat (z.map DV.aM)).flatten false)):=by
 obtain⟨hk,i,hi,-,-⟩:=ck (fG t _ h);obtain⟨hu,ie,um,sO,hby,HS⟩:=mH hk;obtain⟨-,ie',Dw,-,hz⟩:=ck (fG e _ he);rw[um]at Dw;cases Dw;obtain⟨zv,h1,h2,hzl⟩:=jT hz;obtain⟨h3,h4⟩:=iQ (x:=x) h2;have SS:zv.cells.size=s:=by rw[<-sO,<-hzl];simpa using h3
 have Ia:z.length=s:=by rw[hzl,sO]
 have h4':∀j c,(z.map DV.aM)[j]? =some c->RV x c (zv.cells.toList.getD j undef):=λj c hc=>by simp only[cR,af]at hc;obtain⟨c',h1,rfl⟩:=hc;exact(h4 j c' h1).aM
 have CU:=GA (n:=n.toNat) (z:=z.map DV.aM) hs (by rw[List.length_map];exact Ia) SS h4';generalize CL:(Array.range (n.toNat*s)).map (zv.cells[·% zv.cells.size]!)=arr at*;have hlen:(List.replicate n.toNat (z.map DV.aM)).flatten.length=n.toNat*s:=by simp[Ia]
 obtain⟨y,y1,y2,y3,y4,y5⟩:=Bu (n:=n.toNat) (agg:=agg) hR hn (gZ x.w (.cells arr e)) (k:=n.toNat) (s:=s) (by rw[CU.1,hlen]) (by rw[CU.1];exact aj _) (by unfold maxLen;omega) (λj c hc=>⟨by have hm:=b9 hc;simp only[List.mem_flatten,List.mem_replicate]at hm;obtain⟨l,⟨-,rfl⟩,hm⟩:=hm;exact aT.1 hp c hm,CU.2 j c hc⟩) hlen.symm;refine iD (v:=.slice (some ⟨x.w.heap.size,0,none⟩) n.toNat n.toNat) ?_ y2 y3 y4 y5;rw[y1];have hw:IntKind.i64.wrap n=n:=by rw[IntKind.wrap_i64];omega
 have hbz:((ie.bytes:Int)*n)<=140737488355328:=by
  have e1:n=(n.toNat:Int):=by omega
  rw[e1,hby,<-Int.natCast_mul,Nat.mul_comm];unfold fU at hb;omega
 have e48:(2:Int)^48=281474976710656:=by decide
 have c1:¬(n<0):=by omega
 have c2:¬(281474976710656<(ie.bytes:Int)*n):=by omega
 subst sO;have hnw:(newRow e arr).run P x.w=.ok ⟨x.w.heap.size,0,none⟩ (x.w.alloc (.cells arr e)):=by simp[newRow]
 have c3:¬(2^48<(ie.bytes:Int)*n):=by rw[e48];exact c2
 have xK:∀z0:Array Value,(Array.range (n.toNat*ie.size)).map (z0[·% z0.size]!)=arr->(do let a<-newRow e ((Array.range (n.toNat*ie.size)).map (z0[·% z0.size]!));pure (Value.slice (some a) n.toNat n.toNat):Sem Value).run P x.w=.ok (.slice (some ⟨x.w.heap.size,0,none⟩) n.toNat n.toNat) (x.w.alloc (.cells arr e)):=λz0 h=>by rw[h,Sem.run_bind,hnw,Result.andThen_ok,Sem.run_pure]
 unfold Instr.makeSlice;simp only[Sem.run_bind,run_underlying hu,Result.andThen_ok,asInt,asIntOf,Sem.run_pure,typeInfo,run_program,um,hw,qQ c1,qQ c3,Bool.or_false,gt_iff_lt,qQ (Int.lt_irrefl n),aG,if_false,run_askRoom,run_sizeOf um];by_cases JU:n.toNat*ie.size=0;.have:=xK #[] (by rw[<-CL,JU];simp);simpa only[if_pos JU,Sem.run_bind,Sem.run_pure,Result.andThen_ok]using this
 have:=xK zv.cells CL;simpa only[if_neg JU,zeroValue,typeInfo,run_program,um,h1,Sem.run_bind,Sem.run_pure,Result.andThen_ok]using this
theorem E6(fG:kG P ty)(hR:Rel x)(hn:Fy x.S aD){t u:TypeId}{a b d:DV}{va vb:Value}{S':ai}(ha:RV x a va)(hb:RV x b vb)(h:oW ty x.S aD t a b=some (d,S')):
  Yields x ((do pure (.value (<-Builtin.append_ #[t,t] u #[va,vb])):Sem Next).run P x.w) d S':=by
 unfold oW at h;split at h
 rotate_left
 .cases h
 rename_i e s lU agg sz z0 news FI ace htt;obtain⟨hk,it,-,-,-⟩:=ck (fG t _ htt);obtain⟨hu,ie,um,sO,Fw,-⟩:=mH hk;have J1:=hb;cases hb with
 |@sl _ _ _ A2 ud s2 vs2 Yi MD m1 m2 m3 m4 m5=>
  split at h
  rotate_left
  .cases h
  rename_i hte;obtain⟨z,hiz,SS⟩:∃z,ie.zero=some z/\z.cells.size=s:=by obtain⟨-,ie',Dw,JX,CU⟩:=ck (fG e _ hte);rw[um]at Dw;cases Dw;obtain⟨z,q1,q2,q3⟩:=jT CU;have:=(iQ (x:=x) q2).1;exact⟨z,q1,by rw[<-sO,<-q3];simpa using this⟩
  have emp:∀(A:Option Addr)(n cap:Nat),n<=cap->news=[]->(Builtin.append_ #[t,t] u #[.slice A n cap,.slice A2 news.length ud]).run P x.w=.ok (.slice A n cap) x.w:=by rintro A n cap k1 rfl;subst sO;cases A<;>cases A2<;>simp[Builtin.append_,run_underlying hu,run_sizeOf um,Builtin.lenOf,Builtin.firstCells,loadCells,loadCellsFrom,storeCells,k1]
  have grown:∀(n cap:Nat),n+news.length<=140737488355328-4096->∀(w1:List Value),w1.length=n*s->∀(ot:List Value),ot.length=news.length*s->∀(k:Nat),k=grownCap x.w (n+news.length) cap e->k<=maxLen/\n+news.length<=k/\
    (w1.toArray++ot.toArray++Builtin.zeroCells z.cells (k-(n+news.length))).size=k*s:=by
   intro n cap hlen w1 OG ot vA k hk;have JZ:=grownCap_ge x.w (n+news.length) cap e;have hle:=grownCap_le_maxLen x.w (n+news.length) cap e (by simp only[maxLen];omega);subst hk;refine⟨hle,JZ,?_⟩;simp only[Array.size_append,mF,size_zeroCells,SS,OG,vA,<-j3];congr 1;omega
  have abM:news≠[]->(∀r∈news,r.cells.length=s)->0<news.length/\∃(b2 o2:Nat)(ot:List Value),A2=some ⟨b2,o2,none⟩/\ot.length=news.length*s/\(flat news).length=news.length*s/\(∀c∈flat news,c.bY=true)/\(∀j c,(flat news)[j]? =some c->RV x c (ot.getD j undef))/\
    (∀j v,ot[j]? =some v->x.w.cell? ((⟨b2,o2,none⟩:Addr).add j)=some v)/\∀u∈ot,u.oneCell'=true:=by
   intro hne mX;have hm:0<news.length:=List.length_pos_iff.2 hne;obtain⟨-,-,-,-,-,ac0,YP,ot,vA,FN,Aw,Gu⟩:=uV J1 mX;obtain⟨ad2,rfl⟩:∃ad2,A2=some ad2:=by
    cases A2 with
    |none=>have:=m3 rfl;omega
    |some ad=>exact⟨ad,rfl⟩
   have CJ:=jL mX;obtain⟨b2,o2,sp2⟩:=ad2;have acZ:sp2=none:=ac0 _ rfl (by omega);subst acZ;refine⟨hm,b2,o2,ot,rfl,vA,CJ,YP,FN,λj v hv=>?_,Gu⟩;have hj:j<(flat news).length:=by rw[CJ,<-vA];exact(az.1 hv).1
   obtain⟨b',o',q1,-,q2⟩:=Aw j _ (bQ hj);cases q1;rw[jb,q2];simp[aR,hv]
  split at h
  .rename_i id n ag;cases ha with
   |@jx _ _ _ e1 s1 l1 z1 A cap hS1 hn1 hA1=>
    split at h
    rotate_left
    .cases h
    rename_i pX;simp only[aA,cC,aT]at pX;obtain⟨⟨⟨⟨hs,-⟩,ni⟩,hlen⟩,mX⟩:=pX;split at h
    rotate_left
    .cases h
    rename_i e' s' l hop;split at h
    rotate_left
    .cases h
    rename_i Aw;simp only[aA,cC]at Aw;obtain⟨c1,c2⟩:=Aw;rw[c1,c2]at hop;obtain⟨hS,HP⟩:=mJ hop;obtain⟨rfl,rfl,rfl,rfl⟩:e=e1/\s=s1/\l=l1/\false=z1:=by rw[hS]at hS1;cases hS1;exact⟨rfl,rfl,rfl,rfl⟩
    obtain⟨rfl,rfl⟩:=hA1 HP;obtain⟨cur,t1,t2,t3,t4,t5,-,-⟩:=hR.ops id _ _ _ _ hS;have hnκ:n<=x.κ id:=Nat.le_of_mul_le_mul_right (show n*s<=x.κ id*s by omega) hs;split at h;.rename_i wS;cases h;exact aZ hR (emp _ _ _ hnκ (by simpa using wS)) (.jx hS hn1 λ_=>⟨rfl,rfl⟩)
    rename_i wS;cases h;obtain⟨hm,b2,o2,ot,rfl,vA,CJ,YP,FN,rG,Gu⟩:=abM (by simpa using wS) mX;have ab2:(l++flat news).length=(n+news.length)*s:=by rw[cD,CJ,j3];omega
    have BF:∀c∈l++flat news,c.bY=true:=λc hc=>by
     rcases dX.1 hc with hc|hc;.obtain⟨j,hj⟩:=tg.1 hc;exact(t5 j c hj).1
     exact YP c hc
    have hlt:l.length<(l++flat news).length:=by rw[cD,CJ];have:=Nat.mul_pos hm hs;omega
    have ahH:iw x (flat news) ot.toArray:=⟨by simp[vA,CJ],λj c hc=>by simpa [bq,aR]using FN j c hc⟩;by_cases hroom:n+news.length<=x.κ id
    .have Ie:n*s+ot.length<=cur.size:=by rw[vA,t2,<-j3];exact fZ _ hroom
     have hrun:=run_append_room (P:=P) x.w t u e ie hu um (x.μ id) n (x.κ id) cur t1 ⟨b2,o2,none⟩ news.length ud ot (by rw[vA,sO]) rG Gu hroom (by rw[sO];exact Ie);rw[sO,HP]at hrun;have hp:=I7 (off:=l.length) t3 (λj c hc=>(t5 j c hc).2) ahH (aj _) (by rw[CJ];omega);have hsz:(cur.toList.take l.length++ot++cur.toList.drop (l.length+ot.length)).toArray.size=cur.size:=by simp;omega
     rw[List.drop_of_length_le (show l.length<=l.length+(flat news).length by omega),cV,fW,mF]at hp;generalize CL:(cur.toList.take l.length++ot++cur.toList.drop (l.length+ot.length)).toArray=arr at*;have mS:=C3 (F:=λ_=>False) (arr:=arr) (b:=.op e s (l++flat news) false) hR hS (.inr (.inr ⟨e,s,_,_,rfl,rfl,by omega,by simp,by rw[hsz];exact t2,by rw[hsz,ab2,t2];exact fZ _ hroom,λj c hc=>⟨BF c (b9 hc),hp j c hc⟩⟩));have M:=u5 (F:=λ_=>False) (arr:=arr) (b:=.op e s (l++flat news) false) hR hS (.inr (.inr ⟨e,s,_,_,rfl,rfl,by omega⟩));refine iD hrun (y:=x.upd id arr (λ_=>False) (.op e s (l++flat news) false)) rfl mS M (.jx (e:=e) (s:=s) (l:=l++flat news) (z:=false) (by show(x.S.set _ _)[_]? =_;rw[ij hS,if_pos rfl]) (by omega) λ_=>⟨rfl,rfl⟩)
    have sW:∀j,j<n*s->∃v,cur[j]? =some v:=λj hj=>⟨cur[j]'(by omega),cr _⟩;have OG:(cur.toList.take (n*s)).length=n*s:=by simp;omega
    obtain⟨g1,g2,g3⟩:=grown n (x.κ id) hlen _ OG _ vA _ rfl;have hrun:=run_append_grow (P:=P) x.w t u e ie z hu um hiz ⟨x.μ id,0,none⟩ n (x.κ id) (cur.toList.take (n*s)) (by rw[OG,sO]) (λj v hv=>by
      have hj:j<n*s:=by rw[<-OG];exact(az.1 hv).1
      rw[qS,if_pos hj]at hv;rw[jb];simp only[World.cell?,t1,jr];simpa using hv) ⟨b2,o2,none⟩ news.length ud ot (by rw[vA,sO]) rG (by omega) (by omega) (growslice_fits (by omega) (by rw[Fw];exact ni))
    generalize hk0:grownCap x.w (n+news.length) (x.κ id) e=k at*;obtain⟨v1,v2⟩:=Bt (Z:=Builtin.zeroCells z.cells (k-(n+news.length))) OG vA;generalize CL:(cur.toList.take (n*s)).toArray++ot.toArray++Builtin.zeroCells z.cells (k-(n+news.length))=arr at*;have hp:pP x.w (x.w.drew.alloc (.cells arr e)) (.cells arr e (0,0)):=⟨rfl,rfl,rfl⟩;have hcc:∀j c,(l++flat news)[j]? =some c->c.bY=true/\RV x c (arr.getD j undef):=λj c hc=>by
     refine⟨BF c (b9 hc),?_⟩;by_cases hj:j<l.length;.rw[er hj]at hc;rw[v1 j (by omega)];have:=(t5 j c hc).2;simpa [bq,aR,qS,show j<n*s by omega]using this
     rw[iu (by omega)]at hc;have hj2:j-l.length<(flat news).length:=(az.1 hc).1;have e1:j=n*s+(j-l.length):=by omega
     rw[e1,v2 _ (by omega)];exact FN _ c hc
    have mS:=WW (k:=k) hR hS hp hlt g3 (by rw[g3,ab2];exact fZ _ g2) g1 hcc;have M:=G5 (k:=k) hR hS hp hlt;refine iD hrun (y:=x.kN (x.w.drew.alloc (.cells arr e)) id k (λ_=>False) (.op e s (l++flat news) false)) rfl mS M (.jx (e:=e) (s:=s) (l:=l++flat news) (z:=false) (by show(x.S.set _ _)[_]? =_;rw[ij hS,if_pos rfl]) (by omega) λ_=>?_);exact⟨congrArg (λb=>some (⟨b,0,none⟩:Addr)) (if_pos rfl:(if id=id then _ else _)=_).symm,(if_pos rfl:(if id=id then k else _)=k).symm⟩
  .rename_i f;cases ha with
   |@sl _ _ _ A cap s1 vs1 QS wM k1 k2 k3 k4 k5=>
    split at h;.rename_i wS;cases h;exact aZ hR (emp _ _ _ k1 (by simpa using wS)) (.sl QS wM k1 k2 k3 k4 k5)
    rename_i wS;split at h
    rotate_left
    .cases h
    rename_i pX;simp only[aA,cC,aT]at pX;obtain⟨⟨⟨⟨⟨ahX,hs⟩,-⟩,ni⟩,hlen⟩,mX⟩:=pX;cases h;obtain⟨hm,b2,o2,ot,rfl,vA,CJ,YP,FN,rG,Gu⟩:=abM (by simpa using wS) mX;have J8:cap=0:=k2.1 ahX;subst J8;obtain⟨g1,g2,g3⟩:=grown 0 0 (by omega) [] (by simp) _ vA _ rfl;have hrun:(Builtin.append_ #[t,t] u #[.slice A ([]:List DV).length 0,.slice (some ⟨b2,o2,none⟩) news.length ud]).run P x.w=
      .ok (.slice (some ⟨x.w.heap.size,0,none⟩) news.length (grownCap x.w news.length 0 e)) (x.w.drew.alloc (.cells (ot.toArray++Builtin.zeroCells z.cells (grownCap x.w news.length 0 e-news.length)) e)):=by
     cases A with
     |none=>exact run_append_nil (P:=P) x.w t u e ie z hu um hiz ⟨b2,o2,none⟩ news.length ud ot (by rw[vA,sO]) rG hm (by omega) (by rw[Fw];unfold fU at ni;omega)
     |some ad=>have:=run_append_grow (P:=P) x.w t u e ie z hu um hiz ad 0 0 [] (by simp) (by simp) ⟨b2,o2,none⟩ news.length ud ot (by rw[vA,sO]) rG (by omega) (by omega) (growslice_fits (by omega) (by rw[Fw,jr];exact ni));simpa using this
    simp only[jr]at g1 g2 g3;generalize hk0:grownCap x.w news.length 0 e=k at*;have v2:∀j,j<news.length*s->(ot.toArray++Builtin.zeroCells z.cells (k-news.length)).getD j undef=ot.getD j undef:=λj hj=>by rw[bq,zA (by simp;omega)];simp[aR]
    have g3':(ot.toArray++Builtin.zeroCells z.cells (k-news.length)).size=k*s:=by simpa using g3
    obtain⟨y,y1,y2,y3,y4,y5⟩:=Bu (n:=news.length) (agg:=agg) hR hn (w':=x.w.drew.alloc (.cells (ot.toArray++Builtin.zeroCells z.cells (k-news.length)) e)) (e:=e) (l:=flat news) (k:=k) (s:=s) ⟨rfl,rfl,rfl⟩ g3' (by rw[g3',CJ];exact fZ _ g2) g1 (λj c hc=>⟨YP c (b9 hc),by have hj:j<(flat news).length:=(az.1 hc).1;rw[v2 j (by omega)];exact FN j c hc⟩) CJ.symm;exact iD (by rw[y1];exact hrun) y2 y3 y4 y5
  cases h
theorem look_ok(hR:Rel x){d:DV}{v:Value}(h:RV x d v):RV x (kO x.S d) v:=by
 cases h with
 |@jx id n agg e1 s1 l1 z1 A cap hS hn hA=>
  unfold kO;dsimp only;split
  .rename_i e s l hop;obtain⟨CV,HP⟩:=mJ hop;obtain⟨rfl,rfl,rfl,rfl⟩:e=e1/\s=s1/\l=l1/\true=z1:=by rw[CV]at hS;cases hS;exact⟨rfl,rfl,rfl,rfl⟩
   split
   .rename_i hc;simp only[aA,gP,dU,cC]at hc;obtain⟨rfl,rfl⟩:=hA HP;obtain⟨arr,h1,h2,h3,-,h4,h5,-⟩:=hR.ops id e s l true hS;obtain⟨uh,hrl⟩:=Hu hc.1 hc.2 (λc hm=>by obtain⟨j,hj⟩:=tg.1 hm;exact(h4 j c hj).1) n HP.symm;have hrn:(rowsOf s agg l n).length=n:=by simp[rowsOf]
    suffices hk:RV x (.sl (rowsOf s agg l n) none ⟨false,some false⟩) (.slice (some ⟨x.μ id,0,none⟩) (rowsOf s agg l n).length (x.κ id))by rw[hrn]at hk;exact hk
    refine RV.sl (tok:=none) (Ea hrl (λc hm=>?_) (by rw[uh];exact h3) h1 λj hj=>h5 rfl j (by rw[uh]at hj;exact hj)) (λj c hc=>?_) ?_ ⟨by simp,λb h=>by cases h;rfl⟩ (by simp) (λad h _=>by cases h;rfl) (λt ht=>nomatch ht);.rw[uh]at hm;obtain⟨j,hj⟩:=tg.1 hm;exact(h4 j c hj).1
    .rw[uh]at hc;exact(h4 j c hc).2
    rw[hrn];exact Nat.le_of_mul_le_mul_right (show n*s<=x.κ id*s by omega) hc.1
   exact .jx hS hn hA
  exact .jx hS hn hA
 |val h=>exact .val h
 |agg h hl=>exact .agg h hl
 |tup h hl=>exact .tup h hl
 |sl hv hr h1 h2 h3 hsp h4=>exact .sl hv hr h1 h2 h3 hsp h4
 |ptr h=>exact .ptr h
 |fF hv hr=>exact .fF hv hr
 |fn h1 h2 h3 h4=>exact .fn h1 h2 h3 h4
 |map h=>exact .map h
 |oq h=>exact .oq h
 |gD h h1 h2=>exact .gD h h1 h2
theorem ND(hR:Rel x)(d:DV):∃y,y.w=x.w/\y.S=yH x.S d/\Rel y/\bU x y:=by
 unfold yH;split
 .rename_i id n ag;split;.rename_i e s l hop;obtain⟨hS,-⟩:=mJ hop;exact⟨x.close id e s l,rfl,rfl,RN hR hS,E9 hS⟩
  exact⟨x,rfl,rfl,hR,bU.refl x⟩
 exact⟨x,rfl,rfl,hR,bU.refl x⟩
theorem Qq:∀(l:List DV){x:Cx},Rel x->∃y,y.w=x.w/\y.S=l.foldl yH x.S/\Rel y/\bU x y
 |[],x,hR=>⟨x,rfl,rfl,hR,bU.refl x⟩
 |d::l,x,hR=>by obtain⟨y,y1,y2,y3,y4⟩:=ND hR d;obtain⟨z,z1,z2,z3,z4⟩:=Qq l y3;exact⟨z,z1.trans y1,by rw[z2,y2,gu],z3,y4.trans z4⟩
theorem Qt(hR:Rel x)(d:DV):∃y,y.w=x.w/\y.S=uc x.S d/\Rel y/\bU x y:=by
 have o:uc x.S d=yH x.S d->∃y,y.w=x.w/\y.S=uc x.S d/\Rel y/\bU x y:=λe=>by rw[e];exact ND hR d
 cases d
 case agg l=>exact Qq _ hR
 all_goals exact o rfl
theorem Qn:∀(l:List DV){x:Cx},Rel x->∃y,y.w=x.w/\y.S=l.foldl uc x.S/\Rel y/\bU x y
 |[],x,hR=>⟨x,rfl,rfl,hR,bU.refl x⟩
 |d::l,x,hR=>by obtain⟨y,y1,y2,y3,y4⟩:=Qt hR d;obtain⟨z,z1,z2,z3,z4⟩:=Qn l y3;exact⟨z,z1.trans y1,by rw[z2,y2,gu],z3,y4.trans z4⟩
theorem aaV(hR:Rel x)(d:DV):∃y,y.w=x.w/\y.S=Ig x.S d/\Rel y/\bU x y:=by
 have o:Ig x.S d=uc x.S d->∃y,y.w=x.w/\y.S=Ig x.S d/\Rel y/\bU x y:=λe=>by rw[e];exact Qt hR d
 cases d
 case tup l=>exact Qn _ hR
 all_goals exact o rfl
theorem XD(hR:Rel x){l:List DV}{vs:Array Value}(h:∀j c,l[j]? =some c->RV x c (vs.getD j undef))(j:Nat)(c:DV)(hj:(l.map (kO x.S))[j]? =some c):RV x c (vs.getD j undef):=by simp only[cR,af]at hj;obtain⟨c',h2,rfl⟩:=hj;exact look_ok hR (h j c' h2)
theorem Ly(hR:Rel x){d:DV}{v:Value}(h:RV x d v):RV x (tO x.S d) v:=by
 cases h with
 |agg h1 h2=>exact .agg (by simpa using h1) (XD hR h2)
 |val h=>exact look_ok hR (.val h)
 |tup h1 h2=>exact look_ok hR (.tup h1 h2)
 |sl hv hr h1 h2 h3 hsp h4=>exact look_ok hR (.sl hv hr h1 h2 h3 hsp h4)
 |ptr h=>exact look_ok hR (.ptr h)
 |fF hv hr=>exact look_ok hR (.fF hv hr)
 |fn h1 h2 h3 h4=>exact look_ok hR (.fn h1 h2 h3 h4)
 |map h=>exact look_ok hR (.map h)
 |oq h=>exact look_ok hR (.oq h)
 |jx h h1 h2=>exact look_ok hR (.jx h h1 h2)
 |gD h h1 h2=>exact look_ok hR (.gD h h1 h2)
theorem XE(hR:Rel x){d:DV}{v:Value}(h:RV x d v):RV x (uB x.S d) v:=by
 cases d
 case tup l=>
  cases h with
  |tup h1 h2=>refine .tup (by simpa using h1) λj c hj=>?_;simp only[cR,af]at hj;obtain⟨c',h3,rfl⟩:=hj;exact Ly hR (h2 j c' h3)
 all_goals exact Ly hR h
theorem Jl{env:List DV}:∀(l:List Operand){x:Cx},Rel x->∃y,y.w=x.w/\y.S=l.foldl (rQ env) x.S/\Rel y/\bU x y
 |[],x,hR=>⟨x,rfl,rfl,hR,bU.refl x⟩
 |a::l,x,hR=>by
  rw[gu];cases he:jy env a with
  |none=>rw[show rQ env x.S a=x.S by unfold rQ;rw[he]];exact Jl l hR
  |some d=>rw[show rQ env x.S a=yH x.S d by unfold rQ;rw[he]];obtain⟨y,y1,y2,y3,y4⟩:=ND hR d;obtain⟨z,z1,z2,z3,z4⟩:=Jl (env:=env) l y3;exact⟨z,z1.trans y1,by rw[z2,y2],z3,y4.trans z4⟩
theorem aeq{env:List DV}{arr:Array Value}(o:Oper)(hR:Rel x)(he:iw x env arr):∃y,y.w=x.w/\y.S=(FL ty o env x.S).2/\Rel y/\bU x y/\iw y (FL ty o env x.S).1 arr:=by
 unfold FL;split;.obtain⟨y,y1,y2,y3,y4⟩:=Jl (env:=env) o.op.operands.toList hR;refine⟨y,y1,y2,y3,y4,by simpa using he.1,λj c hc=>?_⟩;simp only[cR,af]at hc;obtain⟨c',h1,rfl⟩:=hc;rw[<-y2];exact look_ok y3 ((he.2 j c' h1).mono y4)
 exact⟨x,rfl,rfl,hR,bU.refl x,he⟩
end Go.Di
namespace Go.Di
open Go
variable {P:Program} {ty:fP} {x:Cx} {w':World} {aI:bS} {call:bt} {yf:ew} {ρd:Operand->Option DV} {ρ:Operand->Value} {o:Oper} {aD:Nat}
theorem Ht{s:Nat}:∀{rows:List DV}(_:∀r∈rows,r.cells.length=s)(h:Nat),flat (rows.take h)=(flat rows).take (h*s)
 |[],_,h=>by simp[flat]
 |r::rows,hs,0=>by simp[flat]
 |r::rows,hs,h+1=>by
  have h0:=hs r (by simp);have ih:=Ht (rows:=rows) (λr hr=>hs r (by simp[hr])) h;simp only[flat]at ih;simp only[List.take_succ_cons,flat,cM,ih];have e1:r.cells.take ((h+1)*s)=r.cells:=List.take_of_length_le (by rw[h0,nK];omega);have e2:(h+1)*s-s=h*s:=by rw[nK];omega
  rw[List.take_append,h0,e1,e2]
theorem Hx{s:Nat}:∀{rows:List DV}(_:∀r∈rows,r.cells.length=s)(l:Nat),flat (rows.drop l)=(flat rows).drop (l*s)
 |[],_,l=>by simp[flat]
 |r::rows,hs,0=>by simp
 |r::rows,hs,l+1=>by
  have h0:=hs r (by simp);have ih:=Hx (rows:=rows) (λr hr=>hs r (by simp[hr])) l;simp only[flat]at ih;simp only[List.drop_succ_cons,flat,cM,ih];have e1:r.cells.drop ((l+1)*s)=[]:=List.drop_of_length_le (by rw[h0,nK];omega);have e2:(l+1)*s-s=l*s:=by rw[nK];omega
  rw[zg,h0,e1,e2,gQ]
theorem Bz{ρd:Operand->Option DV}{ρ:Operand->Value}(hρ:yK x ρd ρ){a:Operand}{eP n:Nat}{d:Nat}(h:iB ρd (some a) d eP=some n)(y:Nat)(hy:eP<=y)(code:BoundsCode)(w:World):n<=eP/\(Instr.sliceBound (ρ a) y code).run P w=.ok n w:=by
 unfold iB at h;simp only at h;split at h
 .rename_i i hi;split at h;.rename_i hc;cases h;obtain⟨k,hk⟩:=od hρ hi;refine⟨hc.2,?_⟩;have Aw:0<=i/\i<=(y:Int):=⟨hc.1,by omega⟩;simp only[Instr.sliceBound,hk,asIntOf,Sem.run_bind,Sem.run_pure,Result.andThen_ok,Aw,and_self,if_true]
  cases h
 cases h
theorem Vv{rows:List DV}{tok:Option Nat}{f:SF}{A:Option Addr}{n cap:Nat}(h:RV x (.sl rows tok f) (.slice A n cap)):∀b,MS rows f=some b->A.isNone=b:=by
 intro b hb;cases h with
 |sl hv hr h1 h2 h3 hsp h4=>
  unfold MS at hb;split at hb;.exact h2.2 b hb
  rename_i hne;cases hb;cases A with
  |none=>have:=h3 rfl;have h0:rows=[]:=fA (by omega);exact absurd (by simp[h0]) hne
  |some ad=>rfl
theorem Si(fG:kG P ty){op:BinOp}{t:TypeId}{a b:Operand}{d:DV}(hρ:yK x ρd ρ)(h:DW ty op t (ρd a) (ρd b)=some d):
  ∃v,(do eqGuard op t a b (ρ a) (ρ b);binOp op t (ρ a) (ρ b):Sem Value).run P x.w=.ok v x.w/\RV x d v:=by
 unfold DW at h;split at h
 .rename_i rows tok f FI f2 ha hb;have ra:=hρ a _ ha;have rb:=hρ b _ hb;generalize ρ a=va at ra⊢;generalize ρ b=vb at rb⊢;split at h
  .rename_i e s lU agg sz z c htt hn;obtain⟨hk,it,-,-,-⟩:=ck (fG t _ htt);obtain⟨hu,-⟩:=mH hk;have ra0:=ra;have rb0:=rb;cases ra with
   |@sl _ _ _ A cap s1 vs1 QS wM k1 k2 k3 k4 k5=>
    cases rb with
    |@sl _ _ _ A2 ud s2 vs2 Yi MD m1 m2 m3 m4 m5=>
     have hA:=Vv ra0 c hn;have hA2:=m2.2 true rfl;have:A2=none:=by simpa using hA2
     subst this;have heq:(Op.equal t (.slice A rows.length cap) (.slice none 0 ud)).run P x.w=.ok c x.w:=by subst hA;obtain⟨n,qB⟩:∃n,Op.maxDepth=n+1:=⟨9999,rfl⟩;cases A<;>simp only[Op.equal,qB,Op.equalIn,Sem.run_bind,run_underlying hu,Result.andThen_ok,Sem.run_pure,Option.isNone_none,Option.isNone_some]
     split at h;.cases h;exact⟨.bool c,by simp[eqGuard,binOp,heq],.val rfl⟩
     .cases h;exact⟨.bool (!c),by simp[eqGuard,binOp,heq],.val rfl⟩
     cases h
  cases h
 cases h
theorem Xl(fG:kG P ty)(hR:Rel x)(hρ:yK x ρd ρ){t e:TypeId}{s lU sz:Nat}{agg:Bool}{z:Option (List DV)}(htt:ty t=some ⟨.slice e s lU agg,sz,z⟩){rows:List DV}{tok:Option Nat}{full:SF}{va:Value}(ha:RV x (.sl rows tok full) va)(pW:∀r∈rows,r.cells.length=s)
  {lo hi mx:Option Operand} {m h l:Nat} {d:DV} (hm:iB ρd mx rows.length rows.length=some m) (hh:iB ρd hi rows.length m=some h) (hl:iB ρd lo 0 h=some l) (hhm:(hi.isNone&&mx.isSome)=false) (hd:sU rows full l h (mx.map λ_=>m)=some d):
  Yields x ((do pure (.value (<-Instr.sliceAt t va (lo.map ρ) (hi.map ρ) (mx.map ρ))):Sem Next).run P x.w) d x.S:=by
 obtain⟨hk,it,-,-,-⟩:=ck (fG t _ htt);obtain⟨hu,ie,um,sO,-,-⟩:=mH hk;have uh:=jL pW;have FF:=ha;cases ha with
 |@sl _ _ _ A cap s1 vs1 QS wM k1 k2 k3 k4 k5=>
  obtain⟨-,-,-,-,-,hsp,hpR,ws,hwl,SV,hc,-⟩:=uV FF pW;have afH:=Vv FF;have hbm:m<=rows.length/\∃M,(∀w:World,(match mx.map ρ with|some v=>Instr.sliceBound v cap .slice3Acap|none=>pure cap:Sem Nat).run P w=.ok M w)/\m<=M/\M<=cap/\(mx.isSome=true->M=m)/\(mx=none->M=cap/\m=rows.length):=by
   cases mx with
   |none=>simp only[iB,aB]at hm;subst hm;exact⟨aj _,cap,λw=>rfl,k1,aj _,by simp,λ_=>⟨rfl,rfl⟩⟩
   |some a=>have:=λw=>Bz (P:=P) hρ hm cap k1 .slice3Acap w;exact⟨(this default).1,m,λw=>(this w).2,aj _,bp (this default).1 k1,λ_=>rfl,by simp⟩
  obtain⟨hmr,M,hM,hmM,hMc,hMs,hMn⟩:=hbm;have hbh:h<=rows.length/\h<=M/\∀w:World,(match hi.map ρ,mx.map ρ with|some v,some _=>Instr.sliceBound v M .slice3B|some v,none=>Instr.sliceBound v M .sliceAcap|none,none=>pure rows.length|none,some _=>stuck "Slice: max without high":Sem Nat).run P w=.ok h w:=by
   cases hi with
   |none=>
    cases mx with
    |none=>simp only[iB,aB]at hh;subst hh;exact⟨aj _,by rw[(hMn rfl).1];exact k1,λw=>rfl⟩
    |some a=>simp at hhm
   |some b=>
    have q1:=λc w=>Bz (P:=P) hρ hh M hmM c w;have q2:=(q1 .slice3B default).1;refine⟨bp q2 hmr,bp q2 hmM,λw=>?_⟩;cases mx with
    |none=>exact(q1 .sliceAcap w).2
    |some a=>exact(q1 .slice3B w).2
  obtain⟨hhr,hhM,hH⟩:=hbh;have hbl:l<=h/\∀w:World,(match lo.map ρ with|some v=>Instr.sliceBound v h (if(mx.map ρ).isSome then .slice3C else .sliceB)|none=>pure 0:Sem Nat).run P w=.ok l w:=by
   cases lo with
   |none=>simp only[iB,aB]at hl;subst hl;exact⟨mw _,λw=>rfl⟩
   |some a=>have q1:=λc w=>Bz (P:=P) hρ hl h (aj _) c w;exact⟨(q1 .slice3C default).1,λw=>(q1 _ w).2⟩
  obtain⟨hlh,hL⟩:=hbl;have hA':∀A',A'=(if M=l then A else A.map (·.add (l*s)))->(A'=none->M-l=0)/\(∀ad,A'=some ad->0<M-l->ad.spot=none):=by
   intro A' hA;subst hA;split;.exact⟨λ_=>by omega,λ_ _ h=>absurd h (by omega)⟩
   cases A with
   |none=>have:=k3 rfl;exact⟨λ_=>by omega,by simp⟩
   |some ad=>refine⟨by simp,λad' h hp=>?_⟩;simp only[av,aB]at h;subst h;have:=k4 ad rfl (by omega);obtain⟨b,o,sp⟩:=ad;simp only at this;subst this;rw[jb]
  have afG:∀(acB:Option Nat)(Kr:SF),(Kr.full=true->M-l=h-l)/\U8 Kr A->acB=none->RV x (.sl ((rows.take h).drop l) acB Kr) (.slice (if M=l then A else A.map (·.add (l*s))) (h-l) (M-l)):=by
   intro acB Kr yO ahC;subst ahC;obtain⟨hA1,hA2⟩:=hA' _ rfl;have hlen:((rows.take h).drop l).length=h-l:=by simp;omega
   have aeI:∀r∈(rows.take h).drop l,r.cells.length=s:=λr hr=>pW r (vY (List.mem_of_mem_drop hr));have agA:flat ((rows.take h).drop l)=((flat rows).take (h*s)).drop (l*s):=by rw[Hx (λr hr=>pW r (vY hr)),Ht pW]
   have jm:∀j c,(flat ((rows.take h).drop l))[j]? =some c->(flat rows)[l*s+j]? =some c/\l*s+j<h*s:=by
    intro j c S5;rw[agA,vW,qS]at S5;split at S5;.exact⟨S5,‹_›⟩
    cases S5
   have hv:View x ((rows.take h).drop l) (if M=l then A else A.map (·.add (l*s))) s (λj=>ws.getD (l*s+j) undef):=by
    refine⟨aeI,λj c S5=>?_⟩;obtain⟨q1,q2⟩:=jm j c S5;obtain⟨b,o,r1,r2,r3⟩:=hc _ _ q1;refine⟨hpR c (b9 q1),b,o+l*s,?_,by rw[fo];exact r2,by rw[fo];exact r3⟩;have hlt:l<h:=by
     rcases qN l h with h1|h1;.exact h1
     have:h*s<=l*s:=fZ _ h1;omega
    rw[if_neg (by omega),r1];simp only[av,jb]
   have:=RV.sl (tok:=none) (full:=Kr) (cap:=M-l) hv (λj c S5=>SV _ _ (jm j c S5).1) (by rw[hlen];omega) ⟨λhf=>by rw[hlen];exact yO.1 hf,λb hb=>by rw[<-yO.2 b hb];split<;>simp⟩ hA1 hA2 (λt ht=>nomatch ht);rw[hlen]at this;exact this
  have hrun:(Instr.sliceAt t (.slice A rows.length cap) (lo.map ρ) (hi.map ρ) (mx.map ρ)).run P x.w=.ok (.slice (if M=l then A else A.map (·.add (l*s))) (h-l) (M-l)) x.w:=by
   have hb:(Instr.sliceBounds true rows.length cap (lo.map ρ) (hi.map ρ) (mx.map ρ)).run P x.w=.ok (l,h,M) x.w:=by
    have hM':=hM x.w;have hH':=hH x.w;have TF:=hL x.w;unfold Instr.sliceBounds
    revert hM' hH' TF hhm
    cases mx<;>cases hi<;>cases lo<;>intro hM' hH' TF hhm<;>
     simp only[mA,av,Sem.run_pure,Result.ok.injEq,and_true,Option.isSome_some,Option.isSome_none,Option.isNone_none,fV,Bool.true_eq_false,if_true,aG,if_false]at hM' hH' TF hhm⊢<;>
     (try subst hM')<;>(try subst hH')<;>(try subst TF)<;>simp only[Sem.run_bind,Result.andThen_ok,Sem.run_pure, *]
   unfold Instr.sliceAt;simp only[Sem.run_bind,run_underlying hu,Result.andThen_ok,Instr.slice,hb,run_sizeOf um,Sem.run_pure,sO]
  unfold sU at hd;rw[if_pos hlh]at hd;cases mx with
  |none=>simp only[mA,aB]at hd;subst hd;refine aZ hR hrun (afG _ _ ⟨λhf=>?_,afH⟩ rfl);simp only[aA,dU]at hf;rw[(hMn rfl).1,k2.1 hf.1,hf.2]
  |some a=>
   simp only[av]at hd;by_cases hc:h<=m;.rw[if_pos hc]at hd;simp only[aB]at hd;subst hd;refine aZ hR hrun (afG _ _ ⟨λhf=>?_,afH⟩ rfl);simp only[dU]at hf;rw[hMs rfl,hf]
   rw[if_neg hc]at hd;cases hd
def Op.lone:Op->Bool
 |.call {callee:=.builtin _,.. }=>true
 |.call _=>false
 |_=>true
theorem Rz(fG:kG P ty)(hR:Rel x)(hn:Fy x.S aD)(hρ:yK x ρd ρ)(hop:Op.lone o.op=true){d:DV}{S':ai}(h:ah P ty aI call yf ρd o x.S aD=some (d,S')):Yields x ((execOp ρ o).run P x.w) d S':=by
 obtain⟨dst,op,type,pos,after,guard⟩:=o;cases op with
 |move a=>simp only[ah,af,ay]at h;obtain⟨d',h1,rfl,rfl⟩:=h;exact⟨ρ a,x,.inl rfl,rfl,hR,bU.refl x,hρ a _ h1⟩
 |assign a=>simp only[ah,af,ay]at h;obtain⟨d',h1,rfl,rfl⟩:=h;exact⟨ρ a,x,.inl rfl,rfl,hR,bU.refl x,hρ a _ h1⟩
 |pick c a b=>
  simp only[ah]at h;split at h
  .rename_i t hc;have hcv:=xN (hρ c _ hc);simp only[af,ay]at h;obtain⟨d',h1,rfl,rfl⟩:=h;cases t with
   |true=>exact⟨ρ a,x,.inl (by simp[execOp,hcv,asBool]),rfl,hR,bU.refl x,hρ a _ h1⟩
   |false=>exact⟨ρ b,x,.inl (by simp[execOp,hcv,asBool]),rfl,hR,bU.refl x,hρ b _ h1⟩
  cases h
 |alloc e=>
  simp only[ah]at h;split at h;.rename_i hk;cases h;exact Xm fG hR hn hk
  cases h
 |box e a=>
  simp only[ah]at h;split at h;.rename_i d' h1;cases h;exact aew hR hn (hρ a _ h1)
  cases h
 |build t ps=>
  simp only[ah]at h;split at h;.rename_i hk hl;simp only[af,ay]at h;obtain⟨cs,h1,rfl,rfl⟩:=h;exact CP fG hR hρ hk hl h1
  .rename_i hk hl;simp only[af,ay]at h;obtain⟨cs,h1,rfl,rfl⟩:=h;exact Fo fG hR hρ hk hl h1
  cases h
 |buildSlice t n ps=>
  simp only[ah]at h;split at h
  .rename_i e s lU agg sz z0 l hk hl;split at h
   .rename_i k sz' z he;split at h
    .rename_i hc;simp only[aA,cC]at hc;split at h
     .rename_i cs hf;split at h
      .rename_i hp;simp only[aA,gP,dU]at hp;split at h;.cases h;exact Sc fG hR hn hρ hk hl he hc.1 hc.2 hf hp.1
       cases h;exact FZ fG hR hρ hk hl he hc.1 hc.2 hf hp.1 hp.2
      cases h
     cases h
    cases h
   cases h
  cases h
 |makeSlice t a b=>
  simp only[ah]at h;split at h
  .rename_i e s lU agg sz z0 n m hk ha hb;split at h
   .rename_i k sz' z he;split at h;.rename_i hc;simp only[aA,gP,dU,cC]at hc;obtain⟨⟨⟨⟨⟨⟨h0,rfl⟩,hs⟩,-⟩,h1⟩,h2⟩,h3⟩:=hc;cases h;obtain⟨kd,hka⟩:=od hρ ha;obtain⟨kd',hkb⟩:=od hρ hb;have h4:=JF (kd:=kd) (kd':=kd') fG hR hn hk he h0 hs h1 h2 h3;rw[<-hka,<-hkb]at h4;exact h4
    cases h
   cases h
  cases h
 |load t a=>
  simp only[ah]at h;split at h;.rename_i a' h1;simp only[af,ay]at h;obtain⟨d',h2,rfl,rfl⟩:=h;obtain⟨v,h3,h4⟩:=Lz fG hR (hρ a _ h1) h2;exact aZ hR h3 h4
  cases h
 |store t a v=>
  simp only[ah]at h;split at h;.rename_i a' v' h1 h2;simp only[af,ay]at h;obtain⟨S2,h3,rfl,rfl⟩:=h;obtain⟨y,h4,h5,h6,h7⟩:=Ry fG hR (hρ a _ h1) (hρ v _ h2) h3;exact KH h4 h5 h6 h7
  cases h
 |nilCheck a=>
  simp only[ah]at h;split at h
  .rename_i id off h1;cases h;have:=hρ a _ h1;generalize hv:ρ a=v at this;cases this with
   |ptr hS=>exact⟨_,x,.inl (by simp only[execOp,hv];rfl),rfl,hR,bU.refl x,.ptr hS⟩
  cases h
 |binOp op t a b u=>
  simp only[ah]at h;split at h;.rename_i va vb h1 h2;simp only[af,ay]at h;obtain⟨d',h3,rfl,rfl⟩:=h;obtain⟨v,h4,h5⟩:=pH (x:=x) h3 x.w;rw[<-gn hρ h1,<-gn hρ h2]at h4;exact aZ hR h4 h5
  simp only[af,ay]at h;obtain⟨d',h3,rfl,rfl⟩:=h;obtain⟨v,h4,h5⟩:=Si fG hρ h3;exact aZ hR h4 h5
 |unOp op t a=>
  simp only[ah]at h;split at h;.rename_i va h1;simp only[af,ay]at h;obtain⟨d',h3,rfl,rfl⟩:=h;obtain⟨v,h4,h5⟩:=pH (x:=x) h3 x.w;rw[<-gn hρ h1]at h4;exact aZ hR h4 h5
  cases h
 |convert s t a=>
  simp only[ah]at h;split at h;.rename_i va h1;simp only[af,ay]at h;obtain⟨d',h3,rfl,rfl⟩:=h;obtain⟨v,h4,h5⟩:=pH (x:=x) h3 x.w;rw[<-gn hρ h1]at h4;exact aZ hR h4 h5
  cases h
 |makeFunc fn fs cs=>
  cases fn with
  |func f=>
   simp only[ah]at h;split at h
   .rename_i a b h1 h2;cases h;have e1:=xQ hρ h1;have e2:=xQ hρ h2;refine aZ hR (v:=.func (.func f) (fs.map ρ) (cs.map ρ)) rfl (.fn (by simpa using e1.1) (by simpa using e2.1) (λj c hc=>?_) (λj c hc=>?_));.have:=e1.2 j c hc;simpa [bq]using this
    have:=e2.2 j c hc;simpa [bq]using this
   cases h
  |_=>simp[ah]at h
 |slice t a lo hi mx=>
  simp only[ah]at h;split at h
  .rename_i s sz z rows tok full hk ha;split at h;.cases h
   rename_i pW;simp only[o7,Bool.not_eq_false,aT,cC]at pW;split at h
   .rename_i m hm;split at h
    .rename_i h' hh;split at h
     .rename_i l hl;split at h;.cases h
      rename_i hhm;simp only[af,ay]at h;obtain⟨d',h3,rfl,rfl⟩:=h;exact Xl fG hR hρ hk (hρ a _ ha) pW hm hh hl (by simpa using hhm) h3
     cases h
    cases h
   cases h
  cases h
 |fieldAddr t a f=>
  simp only[ah]at h;split at h
  .rename_i fs sz z id off hk ha;split at h
   .rename_i o s agg hf;split at h
    .rename_i hs;cases h;have:=hρ a _ ha;generalize hv:ρ a=v at this;cases this with
     |ptr hS=>exact aZ hR (by rw[hv];exact tF fG hk hf hs _ _ _) (.ptr hS)
    cases h
   cases h
  .rename_i fs sz z rows i off hk ha;split at h
   .rename_i o s agg hf;split at h
    .rename_i hs;cases h;have:=hρ a _ ha;generalize hv:ρ a=v at this;cases this with
     |fF QS Yi=>refine aZ hR (by rw[hv];exact tF fG hk hf hs _ _ _) ?_;rw[fo,fo];exact .fF QS Yi
    cases h
   cases h
  .rename_i fs sz z id n off hk ha;split at h
   .rename_i o s agg q hf hop;obtain⟨e,s',l,zz⟩:=q;obtain⟨hS,HP⟩:=mJ hop;split at h
    .rename_i hs;cases h;have:=hρ a _ ha;generalize hv:ρ a=v at this;cases this with
     |@gD _ _ _ e1 s1 l1 z1 _ CV CA hA=>
      obtain⟨rfl,rfl,rfl,rfl⟩:e=e1/\s'=s1/\l=l1/\zz=z1:=by rw[hS]at CV;cases CV;exact⟨rfl,rfl,rfl,rfl⟩
      have hA:=hA HP;subst hA;exact aZ hR (by rw[hv];exact tF fG hk hf hs _ _ _) (.gD hS CA λ_=>rfl)
    cases h
   cases h
  cases h
 |field t a f=>
  simp only[ah]at h;split at h
  .rename_i fs sz z l hk ha;split at h;.rename_i off s agg hf;simp only[af,ay]at h;obtain⟨d',h3,rfl,rfl⟩:=h;obtain⟨arr,hv,SV⟩:=Pz (hρ a _ ha);obtain⟨uk,i,hi,-,-⟩:=ck (fG t _ hk);obtain⟨fields,hu,hfs,hff⟩:=A4 uk;obtain⟨fd,h4,h5,inf,h6,h7,h8,d0,h9⟩:=hff f _ hf;simp only at h5 h7 h8;obtain⟨v,wO,HT⟩:=PT (x:=x) h6 h9 h7 h8 SV h3 x.w;refine aZ hR (v:=v) ?_ HT;simp only[Instr.field,hv,Sem.run_bind,run_underlying hu,Result.andThen_ok,h4,asAgg,Sem.run_pure,h5,wO]
   cases h
  cases h
 |indexAddr t a i=>
  simp only[ah]at h;split at h
  .rename_i e s lU agg sz z rows tok full n hk ha hi;split at h
   .rename_i h0;split at h
    .rename_i r hr;split at h
     .rename_i hs;cases h;obtain⟨kd,SZ⟩:=od hρ hi;have:=hρ a _ ha;generalize hv:ρ a=v at this;cases this with
      |@sl _ _ _ A cap s1 vs QS Yi k1 k2 k3 k4 k5=>
       have hlt:n.toNat<rows.length:=(az.1 hr).1;cases A with
       |none=>have:=k3 rfl;omega
       |some ad=>
        obtain⟨b,o,sp⟩:=ad;have:sp=none:=k4 _ rfl (by omega);subst this;have JN:s1=s:=by rw[<-hs];exact(QS.1 r (b9 hr)).symm
        subst JN;refine aZ hR (by rw[hv,SZ];exact E5 fG hk h0 hlt _ _ _) ?_;have:=RV.fF (i:=n.toNat) (off:=0) QS Yi;simpa using this
     cases h
    cases h
   cases h
  .rename_i k s agg sz z id off n hk ha hi;split at h
   .rename_i h0;cases h;obtain⟨kd,SZ⟩:=od hρ hi;have:=hρ a _ ha;generalize hv:ρ a=v at this;cases this with
    |ptr hS=>exact aZ hR (by rw[hv,SZ];exact Cc fG hk h0.1 h0.2 _ _ _) (.ptr hS)
   cases h
  .rename_i k s agg sz z rows j off n hk ha hi;split at h
   .rename_i h0;cases h;obtain⟨kd,SZ⟩:=od hρ hi;have:=hρ a _ ha;generalize hv:ρ a=v at this;cases this with
    |fF QS Yi=>refine aZ hR (by rw[hv,SZ];exact Cc fG hk h0.1 h0.2 _ _ _) ?_;rw[fo,fo];exact .fF QS Yi
   cases h
  .rename_i e s lU agg sz z id m ag n hk ha hi;split at h
   .rename_i q1 s' l zz hop;obtain⟨hS,HP⟩:=mJ hop;split at h
    .rename_i h0;obtain⟨h0,h1,rfl⟩:=h0;cases h;obtain⟨kd,SZ⟩:=od hρ hi;have:=hρ a _ ha;generalize hv:ρ a=v at this;cases this with
     |@jx _ _ _ e1 s1 l1 z1 _ _ CV CA hA=>
      obtain⟨rfl,rfl,rfl,rfl⟩:q1=e1/\s'=s1/\l=l1/\zz=z1:=by rw[hS]at CV;cases CV;exact⟨rfl,rfl,rfl,rfl⟩
      obtain⟨rfl,rfl⟩:=hA HP;exact aZ hR (by rw[hv,SZ];exact E5 fG hk h0 h1 _ _ _) (.gD hS (by omega) λ_=>by rw[jr])
    cases h
   cases h
  cases h
 |index t a i=>
  simp only[ah]at h;split at h
  .rename_i k s agg sz z l n hk ha hi;split at h;.rename_i h0;simp only[af,ay]at h;obtain⟨d',h3,rfl,rfl⟩:=h;obtain⟨kd,SZ⟩:=od hρ hi;obtain⟨arr,hv,SV⟩:=Pz (hρ a _ ha);obtain⟨uk,it,hit,-,-⟩:=ck (fG t _ hk);obtain⟨e,hu,ie,um,sO,HS,d0,hu2⟩:=zC uk;obtain⟨v,wO,HT⟩:=PT (x:=x) um hu2 sO HS SV h3 x.w;refine aZ hR (v:=v) ?_ HT;have hc:0<=n/\n<(k:Int):=⟨h0.1,by omega⟩;simp only[Instr.index,hv,SZ,asIntOf,Sem.run_bind,Sem.run_pure,run_underlying hu,Result.andThen_ok,hc,and_self,if_true,run_sizeOf um,sO,wO]
   cases h
  cases h
 |makeMap t r=>
  cases r with
  |none=>simp only[ah,aB,ay]at h;obtain⟨rfl,rfl⟩:=h;exact N7 hR hn
  |some a=>simp[ah]at h
 |lookup t m k ok=>
  simp only[ah]at h;split at h
  .rename_i id kv hm hk;split at h
   .rename_i es hS;simp only[af,qY,ay]at h;obtain⟨d',⟨v,h1,h2⟩,rfl,rfl⟩:=h;have:=hρ m _ hm;generalize hv:ρ m=vm at this;cases this with
    |map _=>have h3:=Sb hR hS h1 h2;rw[<-hv,<-gn hρ hk]at h3;exact h3
   cases h
  cases h
 |mapUpdate t m k a=>
  simp only[ah]at h;split at h
  .rename_i id kv vv hm hk ha;split at h
   .rename_i es hS;split at h
    .rename_i r hr;simp only[af,ay]at h;obtain⟨es',h1,rfl,rfl⟩:=h;have:=hρ m _ hm;generalize hv:ρ m=vm at this;cases this with
     |map _=>have h3:=JE hR hS hr h1;rw[<-hv,<-gn hρ hk,<-gn hρ ha]at h3;exact h3
    cases h
   cases h
  cases h
 |extract a i=>
  simp only[ah]at h;split at h
  .rename_i l ha;simp only[af,ay]at h;obtain⟨d',h3,rfl,rfl⟩:=h;have:=hρ a _ ha;generalize hv:ρ a=v at this;cases this with
   |@tup _ vs hs hr=>
    have hlt:i<vs.size:=by rw[hs];exact(az.1 h3).1
    refine aZ hR (v:=vs[i]) (by rw[hv];simp[Instr.extract,hlt]) ?_;simpa [bq,hlt]using hr i _ h3
  cases h
 |call c=>
  obtain⟨callee,args,ats⟩:=c;cases callee with
  |builtin b=>
   simp only[ah]at h;have hex:∀w:World,(execOp ρ ⟨dst,.call ⟨.builtin b,args,ats⟩,type,pos,after,guard⟩).run P w=(Go.builtin b ats type (args.map λ|.const _=>true|_=>false) (args.map ρ)).run P w:=λw=>by simp only[execOp,resolve,Sem.run_bind,Sem.run_pure,Result.andThen_ok,invoke];rfl
   rw[hex];split at h
   .rename_i a t mY Ue;have ea:args=#[a]:=by rw[<-zy (xs:=args),mY]
    have et:ats=#[t]:=by rw[<-zy (xs:=ats),Ue]
    subst ea et;split at h
    .rename_i e s lU agg sz z rows tok full hk ha;cases h;obtain⟨uk,it,hit,-,-⟩:=ck (fG t _ hk);obtain⟨hu,-⟩:=mH uk;have:=hρ a _ ha;generalize hv:ρ a=v at this;cases this with
     |sl _ _ _ _ _ _ _=>exact aZ hR (v:=.int .i64 rows.length) (by simp[Builtin.len_,hv,run_underlying hu,goInt]) (.val rfl)
    .rename_i e s lU agg sz z id n ag hk ha;cases h;obtain⟨uk,it,hit,-,-⟩:=ck (fG t _ hk);obtain⟨hu,-⟩:=mH uk;have:=hρ a _ ha;generalize hv:ρ a=v at this;cases this with
     |jx _ _ _=>exact aZ hR (v:=.int .i64 n) (by simp[Builtin.len_,hv,run_underlying hu,goInt]) (.val rfl)
    .rename_i n s agg sz z hk;cases h;obtain⟨uk,it,hit,-,-⟩:=ck (fG t _ hk);obtain⟨e,hu,-⟩:=zC uk;exact aZ hR (v:=.int .i64 n) (by simp[Builtin.len_,run_underlying hu,goInt]) (.val rfl)
    .rename_i v ha hno;simp only[af,ay]at h;obtain⟨d',h3,rfl,rfl⟩:=h;obtain⟨v',h4,h5⟩:=pH (x:=x) h3 x.w;have:=xN (hρ a _ ha);refine aZ hR (v:=v') ?_ h5;simpa [this]using h4
    cases h
   .rename_i a b t u mY Ue;have ea:args=#[a,b]:=by rw[<-zy (xs:=args),mY]
    have et:ats=#[t,u]:=by rw[<-zy (xs:=ats),Ue]
    subst ea et;split at h
    .rename_i QT;subst QT;split at h
     .rename_i da db ha hb;have e2:Array.map ρ #[a,b]=#[ρ a,ρ b]:=by simp
      rw[e2];split at h;.exact E6 (u:=type) fG hR hn (hρ a _ ha) (hρ b _ hb) h
      split at h;.exact E6 (u:=type) fG hR hn (hρ a _ ha) (hρ b _ hb) h
      exact Sd (u:=type) fG hR hn (hρ a _ ha) (hρ b _ hb) h
     cases h
    cases h
   .rename_i xs mY;split at h
    .rename_i vs h1;simp only[af,ay]at h;obtain⟨d',h3,rfl,rfl⟩:=h;simp only[qY]at h1;obtain⟨ds,h4,h5⟩:=h1;have h6:=xQ hρ h4;have h7:=A9 (x:=x) (vs:=args.toList.map ρ) h5 (by simpa using h6.1) λj c hc=>by simpa [bq,aR]using h6.2 j c hc
     obtain⟨v',h8,h9⟩:=pH (x:=x) h3 x.w;refine aZ hR (v:=v') ?_ h9;have e2:(List.map ρ args.toList).toArray=Array.map ρ args:=Array.toList_inj.1 (by simp);rw[<-h7,e2]at h8;exact h8
    cases h
   .rename_i xs mY;split at h
    .rename_i vs h1;simp only[af,ay]at h;obtain⟨d',h3,rfl,rfl⟩:=h;simp only[qY]at h1;obtain⟨ds,h4,h5⟩:=h1;have h6:=xQ hρ h4;have h7:=A9 (x:=x) (vs:=args.toList.map ρ) h5 (by simpa using h6.1) λj c hc=>by simpa [bq,aR]using h6.2 j c hc
     obtain⟨v',h8,h9⟩:=pH (x:=x) h3 x.w;refine aZ hR (v:=v') ?_ h9;have e2:(List.map ρ args.toList).toArray=Array.map ρ args:=Array.toList_inj.1 (by simp);rw[<-h7,e2]at h8;exact h8
    cases h
   cases h
  |_=>simp[Op.lone]at hop
 |_=>simp[ah]at h
end Go.Di
