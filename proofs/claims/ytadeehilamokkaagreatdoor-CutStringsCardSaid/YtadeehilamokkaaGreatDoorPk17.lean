import Derived.Test.YtadeehilamokkaaGreatDoorPk16
import Derived.Laws.BitsLemmas
set_option maxRecDepth 8000
namespace Go.Di
open Go
variable {P:Program} {ty:fo} {x:Cx} {w':World} {ρd:Operand->Option DV} {ρ:Operand->Value} {o:Oper} {aB:Nat}
theorem Bi(hR:Rel x)(hn:FD x.S aB){k s n:Nat}{e:TypeId}{l:cn}{arr:Array Value}{agg:Bool}(hp:oz x.w w' (.cells arr e (0,0)))(hsz:arr.size=k*s)(hl:l.length<=arr.size)(hk:k<=maxLen)(hc:∀j c,l[j]? =some c->c.bU=true/\RV x c (arr.getD j undef))(ZR:n*s=l.length):
  ∃y,y.w=w'/\y.S=eF x.S aB (.op e s l false)/\Rel y/\bE x y/\RV y (.jB aB n agg) (.slice (some ⟨x.w.heap.size,0,none⟩) n k):=by
 have j3:=mG (k:=k) (F:=λ_=>False) (b:=.op e s l false) hR hn hp ae (.inr (.inr (.inr ⟨e,s,l,arr,rfl,rfl,hsz,hl,hk,ae,hc⟩)));refine⟨_,rfl,rfl,j3,jv hR hn hp,?_⟩;refine RV.jB (e:=e) (s:=s) (l:=l) (z:=false) (by show(eF _ _ _)[_]? =_;rw[bC hn.le,if_pos rfl]) ab λ_=>?_;exact⟨by rw[show(x.fresh w' aB k (λ_=>False) (.op e s l false)).μ aB=x.w.heap.size from if_pos rfl],(if_pos rfl:(if aB=aB then k else _)=k).symm⟩
theorem Tt(eV:j6 P ty)(hR:Rel x)(hn:FD x.S aB)(hρ:xw x ρd ρ){t e:TypeId}{n s iU sz sz':Nat}{agg:Bool}{k:TK}{z0:Option cn}{z cs:cn}{ps:Array (Nat×Operand)}{l:List (Nat×DV)}(h:ty t=some ⟨.slice e s iU agg,sz,z0⟩)(hl:ku ρd ps.toList=some l)(he:ty e=some ⟨k,sz',some z⟩)
  (hs:0<s) (JR:n*s<=16777216) (hf:kY (λi=>some (i*s,s)) ((List.replicate n z).flatten) (l.map λ(i,v)=>(i,v.strip))=some cs) (hp:cs.all DV.bU=true):
  Yields x ((do pure (.value (<-Instr.buildSlice t n (ps.map λp=>(p.1,ρ p.2)))):Sem Next).run P x.w) (.jB aB n agg) (eF x.S aB (.op e s cs false)):=by
 obtain⟨arr,h6,nR,hrun⟩:=HK eV hR hρ h hl he hs JR hf;have UN:n<=n*s:=Nat.le_mul_of_pos_right n hs;obtain⟨y,y1,y2,y3,y4,y5⟩:=Bi (n:=n) (agg:=agg) hR hn (gG x.w (.cells arr e)) (k:=n) (s:=s) (by rw[h6.1,nR]) (by rw[h6.1];exact ai _) (by unfold maxLen;omega) (λj c hc=>⟨aU.1 hp c (bY hc),h6.2 j c hc⟩) nR.symm;exact gy (by rw[y1];exact hrun) y2 y3 y4 y5
theorem JF(eV:j6 P ty)(hR:Rel x)(hn:FD x.S aB){t e:TypeId}{s iU sz sz':Nat}{agg:Bool}{k:TK}{z0:Option cn}{z:cn}{kd kd':IntKind}{n:Int}(h:ty t=some ⟨.slice e s iU agg,sz,z0⟩)(he:ty e=some ⟨k,sz',some z⟩)
  (h0:0<=n) (hs:0<s) (JR:n<=140737488355328-4096) (hb:n.toNat*iU<=fE) (hp:(z.map DV.aM).all DV.bU=true):
  Yields x ((do pure (.value (<-Instr.makeSlice t (.int kd n) (.int kd' n))):Sem Next).run P x.w) (.jB aB n.toNat agg) (eF x.S aB (.op e s (List.replicate n.toNat (z.map DV.aM)).flatten false)):=by
 obtain⟨hk,i,hi,-,-⟩:=bZ (eV t _ h);obtain⟨hu,ie,tn,rS,hby,HZ⟩:=lW hk;obtain⟨-,ie',Dt,-,hz⟩:=bZ (eV e _ he);rw[tn]at Dt;cases Dt;obtain⟨zv,h1,h2,hzl⟩:=jx hz;obtain⟨h3,h4⟩:=ic (x:=x) h2;have Ul:zv.cells.size=s:=by rw[<-rS,<-hzl];simpa using h3
 have Ij:z.length=s:=by rw[hzl,rS]
 have h4':∀j c,(z.map DV.aM)[j]? =some c->RV x c (zv.cells.toList.getD j undef):=λj c hc=>by simp only[cH,af]at hc;obtain⟨c',h1,rfl⟩:=hc;exact(h4 j c' h1).aM
 have CJ:=GB (n:=n.toNat) (z:=z.map DV.aM) hs (by rw[List.length_map];exact Ij) Ul h4';generalize Ip:(Array.range (n.toNat*s)).map (zv.cells[·% zv.cells.size]!)=arr at*;have hlen:(List.replicate n.toNat (z.map DV.aM)).flatten.length=n.toNat*s:=by simp[Ij]
 obtain⟨y,y1,y2,y3,y4,y5⟩:=Bi (n:=n.toNat) (agg:=agg) hR hn (gG x.w (.cells arr e)) (k:=n.toNat) (s:=s) (by rw[CJ.1,hlen]) (by rw[CJ.1];exact ai _) (by unfold maxLen;omega) (λj c hc=>⟨by have hm:=bY hc;simp only[List.mem_flatten,List.mem_replicate]at hm;obtain⟨l,⟨-,rfl⟩,hm⟩:=hm;exact aU.1 hp c hm,CJ.2 j c hc⟩) hlen.symm;refine gy (v:=.slice (some ⟨x.w.heap.size,0,none⟩) n.toNat n.toNat) ?_ y2 y3 y4 y5;rw[y1];have hw:IntKind.i64.wrap n=n:=by rw[IntKind.wrap_i64];omega
 have hbz:((ie.bytes:Int)*n)<=140737488355328:=by
  have e1:n=(n.toNat:Int):=ab
  rw[e1,hby,<-Int.natCast_mul,Nat.mul_comm];unfold fE at hb;omega
 have e48:(2:Int)^48=281474976710656:=ao
 have c1:¬(n<0):=ab
 have c2:¬(281474976710656<(ie.bytes:Int)*n):=ab
 subst rS;have hnw:(newRow e arr).run P x.w=.ok ⟨x.w.heap.size,0,none⟩ (x.w.alloc (.cells arr e)):=by simp[newRow]
 have c3:¬(2^48<(ie.bytes:Int)*n):=by rw[e48];exact c2
 have tw:∀z0:Array Value,(Array.range (n.toNat*ie.size)).map (z0[·% z0.size]!)=arr->(do let a<-newRow e ((Array.range (n.toNat*ie.size)).map (z0[·% z0.size]!));pure (Value.slice (some a) n.toNat n.toNat):Sem Value).run P x.w=.ok (.slice (some ⟨x.w.heap.size,0,none⟩) n.toNat n.toNat) (x.w.alloc (.cells arr e)):=λz0 h=>by rw[h,Sem.run_bind,hnw,Result.andThen_ok,Sem.run_pure]
 unfold Instr.makeSlice;simp only[Sem.run_bind,run_underlying hu,Result.andThen_ok,asInt,asIntOf,Sem.run_pure,typeInfo,run_program,tn,hw,iP c1,iP c3,Bool.or_false,gt_iff_lt,iP (Int.lt_irrefl n),aJ,if_false,run_askRoom,run_sizeOf tn];by_cases HU:n.toNat*ie.size=0;have:=tw #[] (by rw[<-Ip,HU];simp);simpa only[if_pos HU,Sem.run_bind,Sem.run_pure,Result.andThen_ok]using this;have:=tw zv.cells Ip;simpa only[if_neg HU,zeroValue,typeInfo,run_program,tn,h1,Sem.run_bind,Sem.run_pure,Result.andThen_ok]using this
theorem E9(eV:j6 P ty)(hR:Rel x)(hn:FD x.S aB){t u:TypeId}{a b d:DV}{va vb:Value}{S':aj}(ha:RV x a va)(hb:RV x b vb)(h:oF ty x.S aB t a b=some (d,S')):
  Yields x ((do pure (.value (<-Builtin.append_ #[t,t] u #[va,vb])):Sem Next).run P x.w) d S':=by
 unfold oF at h;split at h
 rotate_left
 cases h;rename_i e s iU agg sz z0 news adz adj htt;obtain⟨hk,it,-,-,-⟩:=bZ (eV t _ htt);obtain⟨hu,ie,tn,rS,CN,-⟩:=lW hk;have Dl:=hb;cases hb with
 |@sl _ _ _ A2 tD s2 vs2 Zo J3 m1 m2 m3 m4 m5=>
  split at h
  rotate_left
  cases h;rename_i hte;obtain⟨z,hiz,Ul⟩:∃z,ie.zero=some z/\z.cells.size=s:=by obtain⟨-,ie',Dt,HX,CJ⟩:=bZ (eV e _ hte);rw[tn]at Dt;cases Dt;obtain⟨z,q1,q2,q3⟩:=jx CJ;have:=(ic (x:=x) q2).1;exact⟨z,q1,by rw[<-rS,<-q3];simpa using this⟩
  have emp:∀(A:Option Addr)(n cap:Nat),n<=cap->news=[]->(Builtin.append_ #[t,t] u #[.slice A n cap,.slice A2 news.length tD]).run P x.w=.ok (.slice A n cap) x.w:=by rintro A n cap k1 rfl;subst rS;cases A<;>cases A2<;>simp[Builtin.append_,run_underlying hu,run_sizeOf tn,Builtin.lenOf,Builtin.firstCells,loadCells,loadCellsFrom,storeCells,k1]
  have grown:∀(n cap:Nat),n+news.length<=140737488355328-4096->∀(w1:List Value),w1.length=n*s->∀(nO:List Value),nO.length=news.length*s->∀(k:Nat),k=grownCap x.w (n+news.length) cap e->k<=maxLen/\n+news.length<=k/\
    (w1.toArray++nO.toArray++Builtin.zeroCells z.cells (k-(n+news.length))).size=k*s:=by
   intro n cap hlen w1 MQ nO uY k hk;have JS:=grownCap_ge x.w (n+news.length) cap e;have hle:=grownCap_le_maxLen x.w (n+news.length) cap e (by simp only[maxLen];omega);subst hk;refine⟨hle,JS,?_⟩;simp only[Array.size_append,iT,size_zeroCells,Ul,MQ,uY,<-kL];congr 1;omega
  have acW:news≠[]->(∀r∈news,r.cells.length=s)->0<news.length/\∃(b2 o2:Nat)(nO:List Value),A2=some ⟨b2,o2,none⟩/\nO.length=news.length*s/\(flat news).length=news.length*s/\(∀c∈flat news,c.bU=true)/\(∀j c,(flat news)[j]? =some c->RV x c (nO.getD j undef))/\
    (∀j v,nO[j]? =some v->x.w.cell? ((⟨b2,o2,none⟩:Addr).add j)=some v)/\∀u∈nO,u.oneCell'=true:=by
   intro hne nG;have hm:0<news.length:=List.length_pos_iff.2 hne;obtain⟨-,-,-,-,-,adV,hpN,nO,uY,Ik,Ae,Gu⟩:=ur Dl nG;obtain⟨ad2,rfl⟩:∃ad2,A2=some ad2:=by
    cases A2 with
    |none=>have:=m3 rfl;omega
    |some ad=>exact⟨ad,rfl⟩
   have Cy:=gT nG;obtain⟨b2,o2,sp2⟩:=ad2;have adU:sp2=none:=adV _ rfl ab;subst adU;refine⟨hm,b2,o2,nO,rfl,uY,Cy,hpN,Ik,λj v hv=>?_,Gu⟩;have hj:j<(flat news).length:=by rw[Cy,<-uY];exact(aI.1 hv).1
   obtain⟨b',o',q1,-,q2⟩:=Ae j _ (aT hj);cases q1;rw[iA,q2];simp[aK,hv]
  split at h
  .rename_i id n ag;cases ha with
   |@jB _ _ _ e1 s1 l1 z1 A cap hS1 hn1 hA1=>
    split at h
    rotate_left
    cases h;rename_i pz;simp only[aC,bR,aU]at pz;obtain⟨⟨⟨⟨hs,-⟩,mD⟩,hlen⟩,nG⟩:=pz;split at h
    rotate_left
    cases h;rename_i e' s' l hop;split at h
    rotate_left
    cases h;rename_i Ae;simp only[aC,bR]at Ae;obtain⟨c1,c2⟩:=Ae;rw[c1,c2]at hop;obtain⟨hS,HY⟩:=lZ hop;obtain⟨rfl,rfl,rfl,rfl⟩:e=e1/\s=s1/\l=l1/\false=z1:=by rw[hS]at hS1;cases hS1;exact⟨rfl,rfl,rfl,rfl⟩
    obtain⟨rfl,rfl⟩:=hA1 HY;obtain⟨cur,t1,t2,t3,t4,t5,-,-⟩:=hR.ops id _ _ _ _ hS;have hnκ:n<=x.κ id:=Nat.le_of_mul_le_mul_right (show n*s<=x.κ id*s by omega) hs;split at h;rename_i wm;cases h;exact aQ hR (emp _ _ _ hnκ (by simpa using wm)) (.jB hS hn1 λ_=>⟨rfl,rfl⟩);rename_i wm;cases h;obtain⟨hm,b2,o2,nO,rfl,uY,Cy,hpN,Ik,qQ,Gu⟩:=acW (by simpa using wm) nG;have adb:(l++flat news).length=(n+news.length)*s:=by rw[cL,Cy,kL];omega
    have Ck:∀c∈l++flat news,c.bU=true:=λc hc=>by
     rcases iQ.1 hc with hc|hc;obtain⟨j,hj⟩:=sG.1 hc;exact(t5 j c hj).1
     grind
    have hlt:l.length<(l++flat news).length:=by rw[cL,Cy];have:=Nat.mul_pos hm hs;omega
    have ai9:gb x (flat news) nO.toArray:=⟨by simp[uY,Cy],λj c hc=>by simpa [aW,aK]using Ik j c hc⟩;by_cases hroom:n+news.length<=x.κ id;have Im:n*s+nO.length<=cur.size:=by rw[uY,t2,<-kL];exact gv _ hroom
    have hrun:=run_append_room (P:=P) x.w t u e ie hu tn (x.μ id) n (x.κ id) cur t1 ⟨b2,o2,none⟩ news.length tD nO (by rw[uY,rS]) qQ Gu hroom (by rw[rS];exact Im);rw[rS,HY]at hrun;have hp:=Jb (off:=l.length) t3 (λj c hc=>(t5 j c hc).2) ai9 (ai _) (by rw[Cy];omega);have hsz:(cur.toList.take l.length++nO++cur.toList.drop (l.length+nO.length)).toArray.size=cur.size:=by simp;omega
    rw[List.drop_of_length_le (show l.length<=l.length+(flat news).length by omega),iR,gN,iT]at hp;generalize Ip:(cur.toList.take l.length++nO++cur.toList.drop (l.length+nO.length)).toArray=arr at*;have j3:=C1 (F:=λ_=>False) (arr:=arr) (b:=.op e s (l++flat news) false) hR hS (.inr (.inr ⟨e,s,_,_,rfl,rfl,ab,ae,by rw[hsz];exact t2,by rw[hsz,adb,t2];exact gv _ hroom,λj c hc=>⟨Ck c (bY hc),hp j c hc⟩⟩));have M:=uA (F:=λ_=>False) (arr:=arr) (b:=.op e s (l++flat news) false) hR hS (.inr (.inr ⟨e,s,_,_,rfl,rfl,ab⟩));refine gy hrun (y:=x.upd id arr (λ_=>False) (.op e s (l++flat news) false)) rfl j3 M (.jB (e:=e) (s:=s) (l:=l++flat news) (z:=false) (by show(x.S.set _ _)[_]? =_;rw[gK hS,if_pos rfl]) ab λ_=>⟨rfl,rfl⟩);have kz:∀j,j<n*s->∃v,cur[j]? =some v:=λj hj=>⟨cur[j]' ab,b7 _⟩;have MQ:(cur.toList.take (n*s)).length=n*s:=by simp;omega
    obtain⟨g1,g2,g3⟩:=grown n (x.κ id) hlen _ MQ _ uY _ rfl;have hrun:=run_append_grow (P:=P) x.w t u e ie z hu tn hiz ⟨x.μ id,0,none⟩ n (x.κ id) (cur.toList.take (n*s)) (by rw[MQ,rS]) (λj v hv=>by
      have hj:j<n*s:=by rw[<-MQ];exact(aI.1 hv).1
      rw[qB,if_pos hj]at hv;rw[iA];simp only[World.cell?,t1,eO];simpa using hv) ⟨b2,o2,none⟩ news.length tD nO (by rw[uY,rS]) qQ ab ab (growslice_fits ab (by rw[CN];exact mD))
    generalize hk0:grownCap x.w (n+news.length) (x.κ id) e=k at*;obtain⟨v1,v2⟩:=Bh (Z:=Builtin.zeroCells z.cells (k-(n+news.length))) MQ uY;generalize Ip:(cur.toList.take (n*s)).toArray++nO.toArray++Builtin.zeroCells z.cells (k-(n+news.length))=arr at*;have hp:oz x.w (x.w.drew.alloc (.cells arr e)) (.cells arr e (0,0)):=⟨rfl,rfl,rfl⟩;have hcc:∀j c,(l++flat news)[j]? =some c->c.bU=true/\RV x c (arr.getD j undef):=λj c hc=>by
     refine⟨Ck c (bY hc),?_⟩;by_cases hj:j<l.length;rw[eD hj]at hc;rw[v1 j ab];have:=(t5 j c hc).2;simpa [aW,aK,qB,show j<n*s by omega]using this
     grind
    have j3:=X2 (k:=k) hR hS hp hlt g3 (by rw[g3,adb];exact gv _ g2) g1 hcc;have M:=G7 (k:=k) hR hS hp hlt;refine gy hrun (y:=x.kF (x.w.drew.alloc (.cells arr e)) id k (λ_=>False) (.op e s (l++flat news) false)) rfl j3 M (.jB (e:=e) (s:=s) (l:=l++flat news) (z:=false) (by show(x.S.set _ _)[_]? =_;rw[gK hS,if_pos rfl]) ab λ_=>?_);exact⟨congrArg (λb=>some (⟨b,0,none⟩:Addr)) (if_pos rfl:(if id=id then _ else _)=_).symm,(if_pos rfl:(if id=id then k else _)=k).symm⟩
  .rename_i f;cases ha with
   |@sl _ _ _ A cap s1 vs1 Rw Ad k1 k2 k3 k4 k5=>
    split at h;rename_i wm;cases h;exact aQ hR (emp _ _ _ k1 (by simpa using wm)) (.sl Rw Ad k1 k2 k3 k4 k5);rename_i wm;split at h
    rotate_left
    cases h;rename_i pz;simp only[aC,bR,aU]at pz;obtain⟨⟨⟨⟨⟨ajq,hs⟩,-⟩,mD⟩,hlen⟩,nG⟩:=pz;cases h;obtain⟨hm,b2,o2,nO,rfl,uY,Cy,hpN,Ik,qQ,Gu⟩:=acW (by simpa using wm) nG;have Cz:cap=0:=k2.1 ajq;subst Cz;obtain⟨g1,g2,g3⟩:=grown 0 0 ab [] ae _ uY _ rfl;have hrun:(Builtin.append_ #[t,t] u #[.slice A ([]:cn).length 0,.slice (some ⟨b2,o2,none⟩) news.length tD]).run P x.w=
      .ok (.slice (some ⟨x.w.heap.size,0,none⟩) news.length (grownCap x.w news.length 0 e)) (x.w.drew.alloc (.cells (nO.toArray++Builtin.zeroCells z.cells (grownCap x.w news.length 0 e-news.length)) e)):=by
     cases A with
     |none=>exact run_append_nil (P:=P) x.w t u e ie z hu tn hiz ⟨b2,o2,none⟩ news.length tD nO (by rw[uY,rS]) qQ hm ab (by rw[CN];unfold fE at mD;omega)
     |some ad=>have:=run_append_grow (P:=P) x.w t u e ie z hu tn hiz ad 0 0 [] ae ae ⟨b2,o2,none⟩ news.length tD nO (by rw[uY,rS]) qQ ab ab (growslice_fits ab (by rw[CN,eO];exact mD));simpa using this
    simp only[eO]at g1 g2 g3;generalize hk0:grownCap x.w news.length 0 e=k at*;have v2:∀j,j<news.length*s->(nO.toArray++Builtin.zeroCells z.cells (k-news.length)).getD j undef=nO.getD j undef:=λj hj=>by rw[aW,za (by simp;omega)];simp[aK]
    have g3':(nO.toArray++Builtin.zeroCells z.cells (k-news.length)).size=k*s:=by simpa using g3
    obtain⟨y,y1,y2,y3,y4,y5⟩:=Bi (n:=news.length) (agg:=agg) hR hn (w':=x.w.drew.alloc (.cells (nO.toArray++Builtin.zeroCells z.cells (k-news.length)) e)) (e:=e) (l:=flat news) (k:=k) (s:=s) ⟨rfl,rfl,rfl⟩ g3' (by rw[g3',Cy];exact gv _ g2) g1 (λj c hc=>⟨hpN c (bY hc),by have hj:j<(flat news).length:=(aI.1 hc).1;rw[v2 j ab];exact Ik j c hc⟩) Cy.symm;exact gy (by rw[y1];exact hrun) y2 y3 y4 y5
  cases h
theorem look_ok(hR:Rel x){d:DV}{v:Value}(h:RV x d v):RV x (iK x.S d) v:=by
 cases h with
 |@jB id n agg e1 s1 l1 z1 A cap hS hn hA=>
  unfold iK;dsimp only;split;rename_i e s l hop;obtain⟨CO,HY⟩:=lZ hop;obtain⟨rfl,rfl,rfl,rfl⟩:e=e1/\s=s1/\l=l1/\true=z1:=by rw[CO]at hS;cases hS;exact⟨rfl,rfl,rfl,rfl⟩
  split;rename_i hc;simp only[aC,jK,dQ,bR]at hc;obtain⟨rfl,rfl⟩:=hA HY;obtain⟨arr,h1,h2,h3,-,h4,h5,-⟩:=hR.ops id e s l true hS;obtain⟨x7,ZP⟩:=Hu hc.1 hc.2 (λc hm=>by obtain⟨j,hj⟩:=sG.1 hm;exact(h4 j c hj).1) n HY.symm;have hrn:(rowsOf s agg l n).length=n:=by simp[rowsOf]
  suffices hk:RV x (.sl (rowsOf s agg l n) none ⟨false,some false⟩) (.slice (some ⟨x.μ id,0,none⟩) (rowsOf s agg l n).length (x.κ id))by rw[hrn]at hk;exact hk
  refine RV.sl (tok:=none) (D7 ZP (λc hm=>?_) (by rw[x7];exact h3) h1 λj hj=>h5 rfl j (by rw[x7]at hj;exact hj)) (λj c hc=>?_) ?_ ⟨ae,λb h=>by cases h;rfl⟩ ae (λad h _=>by cases h;rfl) (λt ht=>nomatch ht);rw[x7]at hm;obtain⟨j,hj⟩:=sG.1 hm;exact(h4 j c hj).1
  grind
  rw[hrn];exact Nat.le_of_mul_le_mul_right (show n*s<=x.κ id*s by omega) hc.1;exact .jB hS hn hA;exact .jB hS hn hA
 |val h=>exact .val h
 |agg h hl=>exact .agg h hl
 |tup h hl=>exact .tup h hl
 |sl hv hr h1 h2 h3 hsp h4=>exact .sl hv hr h1 h2 h3 hsp h4
 |ptr h=>exact .ptr h
 |eU hv hr=>exact .eU hv hr
 |fn h1 h2 h3 h4=>exact .fn h1 h2 h3 h4
 |map h=>exact .map h
 |nN h=>exact .nN h
 |fV h h1 h2=>exact .fV h h1 h2
theorem N0(hR:Rel x)(d:DV):∃y,y.w=x.w/\y.S=yg x.S d/\Rel y/\bE x y:=by unfold yg;split;rename_i id n ag;split;rename_i e s l hop;obtain⟨hS,-⟩:=lZ hop;exact⟨x.close id e s l,rfl,rfl,GU hR hS,xP hS⟩;exact⟨x,rfl,rfl,hR,bE.refl x⟩;exact⟨x,rfl,rfl,hR,bE.refl x⟩
theorem Q2:∀(l:cn){x:Cx},Rel x->∃y,y.w=x.w/\y.S=l.foldl yg x.S/\Rel y/\bE x y
 |[],x,hR=>⟨x,rfl,rfl,hR,bE.refl x⟩
 |d::l,x,hR=>by obtain⟨y,y1,y2,y3,y4⟩:=N0 hR d;obtain⟨z,z1,z2,z3,z4⟩:=Q2 l y3;exact⟨z,z1.trans y1,by rw[z2,y2,oG],z3,y4.trans z4⟩
theorem Q5(hR:Rel x)(d:DV):∃y,y.w=x.w/\y.S=tA x.S d/\Rel y/\bE x y:=by
 have o:tA x.S d=yg x.S d->∃y,y.w=x.w/\y.S=tA x.S d/\Rel y/\bE x y:=λe=>by rw[e];exact N0 hR d
 cases d
 case agg l=>exact Q2 _ hR
 all_goals exact o rfl
theorem QZ:∀(l:cn){x:Cx},Rel x->∃y,y.w=x.w/\y.S=l.foldl tA x.S/\Rel y/\bE x y
 |[],x,hR=>⟨x,rfl,rfl,hR,bE.refl x⟩
 |d::l,x,hR=>by obtain⟨y,y1,y2,y3,y4⟩:=Q5 hR d;obtain⟨z,z1,z2,z3,z4⟩:=QZ l y3;exact⟨z,z1.trans y1,by rw[z2,y2,oG],z3,y4.trans z4⟩
theorem ab2(hR:Rel x)(d:DV):∃y,y.w=x.w/\y.S=Iq x.S d/\Rel y/\bE x y:=by
 have o:Iq x.S d=tA x.S d->∃y,y.w=x.w/\y.S=Iq x.S d/\Rel y/\bE x y:=λe=>by rw[e];exact Q5 hR d
 cases d
 case tup l=>exact QZ _ hR
 all_goals exact o rfl
theorem LD(hR:Rel x){l:cn}{vs:Array Value}(h:∀j c,l[j]? =some c->RV x c (vs.getD j undef))(j:Nat)(c:DV)(hj:(l.map (iK x.S))[j]? =some c):RV x c (vs.getD j undef):=by simp only[cH,af]at hj;obtain⟨c',h2,rfl⟩:=hj;exact look_ok hR (h j c' h2)
theorem LF(hR:Rel x){d:DV}{v:Value}(h:RV x d v):RV x (s9 x.S d) v:=by
 cases h with
 |agg h1 h2=>exact .agg (by simpa using h1) (LD hR h2)
 |val h=>exact look_ok hR (.val h)
 |tup h1 h2=>exact look_ok hR (.tup h1 h2)
 |sl hv hr h1 h2 h3 hsp h4=>exact look_ok hR (.sl hv hr h1 h2 h3 hsp h4)
 |ptr h=>exact look_ok hR (.ptr h)
 |eU hv hr=>exact look_ok hR (.eU hv hr)
 |fn h1 h2 h3 h4=>exact look_ok hR (.fn h1 h2 h3 h4)
 |map h=>exact look_ok hR (.map h)
 |nN h=>exact look_ok hR (.nN h)
 |jB h h1 h2=>exact look_ok hR (.jB h h1 h2)
 |fV h h1 h2=>exact look_ok hR (.fV h h1 h2)
theorem YH(hR:Rel x){d:DV}{v:Value}(h:RV x d v):RV x (tT x.S d) v:=by
 cases d
 case tup l=>
  cases h with
  |tup h1 h2=>refine .tup (by simpa using h1) λj c hj=>?_;simp only[cH,af]at hj;obtain⟨c',h3,rfl⟩:=hj;exact LF hR (h2 j c' h3)
 all_goals exact LF hR h
theorem Jm{env:cn}:∀(l:List Operand){x:Cx},Rel x->∃y,y.w=x.w/\y.S=l.foldl (qX env) x.S/\Rel y/\bE x y
 |[],x,hR=>⟨x,rfl,rfl,hR,bE.refl x⟩
 |a::l,x,hR=>by
  rw[oG];cases he:ir env a with
  |none=>rw[show qX env x.S a=x.S by unfold qX;rw[he]];exact Jm l hR
  |some d=>rw[show qX env x.S a=yg x.S d by unfold qX;rw[he]];obtain⟨y,y1,y2,y3,y4⟩:=N0 hR d;obtain⟨z,z1,z2,z3,z4⟩:=Jm (env:=env) l y3;exact⟨z,z1.trans y1,by rw[z2,y2],z3,y4.trans z4⟩
theorem ae5{env:cn}{arr:Array Value}(o:Oper)(hR:Rel x)(he:gb x env arr):∃y,y.w=x.w/\y.S=(FL ty o env x.S).2/\Rel y/\bE x y/\gb y (FL ty o env x.S).1 arr:=by unfold FL;split;obtain⟨y,y1,y2,y3,y4⟩:=Jm (env:=env) o.op.operands.toList hR;refine⟨y,y1,y2,y3,y4,by simpa using he.1,λj c hc=>?_⟩;simp only[cH,af]at hc;obtain⟨c',h1,rfl⟩:=hc;rw[<-y2];exact look_ok y3 ((he.2 j c' h1).mono y4);exact⟨x,rfl,rfl,hR,bE.refl x,he⟩
theorem Q4:∀(l:cy){x:Cx},Rel x->∃y,y.w=x.w/\y.S=l.foldl aaz x.S/\Rel y/\bE x y
 |[],x,hR=>⟨x,rfl,rfl,hR,bE.refl x⟩
 |i::l,x,hR=>by
  have key:∃y,y.w=x.w/\y.S=aaz x.S i/\Rel y/\bE x y:=by unfold aaz;split;rename_i e s l' hS;exact⟨x.close i e s l',rfl,rfl,GU hR hS,xP hS⟩;exact⟨x,rfl,rfl,hR,bE.refl x⟩
  obtain⟨y,y1,y2,y3,y4⟩:=key;obtain⟨z,z1,z2,z3,z4⟩:=Q4 l y3;exact⟨z,z1.trans y1,by rw[z2,y2,oG],z3,y4.trans z4⟩
theorem YI{S:aj}{b:DB}(h:∀l,b≠.cells l):om S b=b:=by
 cases b with
 |cells l=>exact absurd rfl (h l)
 |_=>rfl
theorem YG(hR:Rel x):∃y,y.w=x.w/\y.S=x.S.map (om x.S)/\Rel y/\bE x y:=by
 have hg:∀(i:Nat)(b:DB),(x.S.map (om x.S))[i]? =some b->∃b0,x.S[i]? =some b0/\om x.S b0=b:=λi b h=>by simpa [cH]using h
 have hs:∀(i:Nat)(b:DB),x.S[i]? =some b->(x.S.map (om x.S))[i]? =some (om x.S b):=λi b h=>by simp[cH,h]
 have hq:∀(i:Nat)(b:DB),(∀l,b≠.cells l)->(x.S.map (om x.S))[i]? =some b->x.S[i]? =some b:=λi b hb h=>by
  obtain⟨b0,h1,h2⟩:=hg i b h;cases b0 with
  |cells l=>exact absurd h2.symm (hb _)
  |_=>rw[h1,<-h2];rfl
 have ZT:∀i,Live (x.S.map (om x.S)) i↔Live x.S i:=λi=>⟨λ⟨b,h1,h2⟩=>by obtain⟨b0,h3,rfl⟩:=hg i b h1;exact⟨b0,h3,λe=>h2 (by rw[e];rfl)⟩,λ⟨b,h1,h2⟩=>⟨_,hs i b h1,by cases b<;>simp[om]at h2⊢⟩⟩;have M:bE x {x with S:=x.S.map (om x.S)}:=
  ⟨ai _,⟨rfl,rfl⟩,λ_ _ h=>⟨h,rfl⟩,λ_ _ h=>.inl h,λ_ _ _=>rfl,ae,λ_ l h=>⟨rfl,_,hs _ _ h⟩,λ_ b h hb=>⟨rfl,⟨b,by rw[hs _ _ h,YI (λl e=>by subst e;cases hb)],dL hb⟩,λ_=>rfl⟩,λ_ _ _ n h=>⟨n,hs _ _ h,ai _,λ_=>⟨rfl,rfl⟩⟩,λi h=>.inl ⟨(ZT i).1 h,rfl⟩,λ_ _ _ l z h=>⟨l,z,hs _ _ h,ai _,λe=>⟨rfl,e⟩,λ_=>⟨rfl,rfl⟩⟩⟩
 refine⟨{x with S:=x.S.map (om x.S)},rfl,rfl,?_,M⟩;refine⟨λid l hl=>?_,λid e s n hl=>hR.cU id e s n (hq _ _ ae hl),λid b hl hb=>?_,λi j hi hj=>hR.inj i j ((ZT i).1 hi) ((ZT j).1 hj),hR.xg,λid ⟨l,hl⟩=>?_,λid e s n hl=>hR.nB id e s n (hq _ _ ae hl),λid e s l z hl=>?_,hR.glob⟩;obtain⟨b0,h1,h2⟩:=hg id _ hl;cases b0 with
 |cells l0=>simp only[om,DB.cells.injEq]at h2;subst h2;obtain⟨arr,e,h3,h4,h5⟩:=hR.cells id l0 h1;exact⟨arr,e,h3,by simpa using h4,λj c hc=>(LD hR h5 j c hc).mono M⟩
 |_=>simp[om]at h2
 obtain⟨o,h1,h2⟩:=hR.dA id b (hq _ _ (λl e=>by subst e;cases hb) hl) hb;exact⟨o,h1,h2.mono M⟩;obtain⟨b0,h1,h2⟩:=hg id _ hl;cases b0 with
 |cells l0=>exact hR.sep id ⟨l0,h1⟩
 |_=>simp[om]at h2
 obtain⟨arr,h1,h2,h3,h4,h5,h6⟩:=hR.ops id e s l z (hq _ _ ae hl);exact⟨arr,h1,h2,h3,h4,λj c hc=>⟨(h5 j c hc).1,(h5 j c hc).2.mono M⟩,h6⟩
theorem abe{env:cn}{arr:Array Value}(hR:Rel x)(he:gb x env arr):∃y,y.w=x.w/\y.S=(Dw x.S).map (om (Dw x.S))/\Rel y/\bE x y/\gb y (env.map (iK (Dw x.S))) arr:=by obtain⟨y,y1,y2,y3,y4⟩:=Q4 (List.range x.S.length) hR;obtain⟨z,z1,z2,z3,z4⟩:=YG y3;have e:y.S=Dw x.S:=y2;refine⟨z,z1.trans y1,by rw[z2,e],z3,y4.trans z4,by simpa using he.1,λj c hc=>?_⟩;simp only[cH,af]at hc;obtain⟨c',h1,rfl⟩:=hc;rw[<-e];exact(look_ok y3 ((he.2 j c' h1).mono y4)).mono z4
end Go.Di
