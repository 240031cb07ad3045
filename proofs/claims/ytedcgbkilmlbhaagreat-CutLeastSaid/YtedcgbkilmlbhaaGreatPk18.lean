import Derived.Test.YtedcgbkilmlbhaaGreatPk17
import Derived.Laws.BitsLemmas
section
namespace Go.Di
open Go
variable {P:Program} {ty:gF} {x:Cx} {w':World} {ρd:Operand→Option DV} {ρ:Operand→Value} {o:Oper} {aB:Nat}
theorem xy (hR:Rel x) (hn:B8 x.S aB) {k s n:Nat} {e:TypeId} {l:List DV} {arr:Array Value} {agg:Bool} (hp:nk x.w w' (.cells arr e (0,0))) (hsz:arr.size=k*s) (hl:l.length≤arr.size) (hk:k≤maxLen) (hc:∀ j c,l[j]? = some c→c.bS=true∧RV x c (arr.getD j undef)) (Nd:n*s=l.length) :
  ∃ y,y.w=w'∧y.S=ez x.S aB (.op e s l false)∧Rel y∧cr x y∧RV y (.jG aB n agg) (.slice (some ⟨x.w.heap.size,0,none⟩) n k):=by
 have lR:=kO (k:=k) (F:=fun _=>False) (b := .op e s l false) hR hn hp (by simp) (.inr (.inr (.inr ⟨e,s,l,arr,rfl,rfl,hsz,hl,hk,by simp,hc⟩)))
 refine⟨_,rfl,rfl,lR,iR hR hn hp,?_⟩
 refine RV.jG (e:=e) (s:=s) (l:=l) (z:=false) (by show (ez _ _ _)[_]? = _; rw[bn hn.le,if_pos rfl]) (by omega) fun _ => ?_
 exact⟨by rw[show (x.fresh w' aB k (fun _=>False) (.op e s l false)).μ aB=x.w.heap.size from if_pos rfl],(if_pos rfl:(if aB=aB then k else _)=k).symm⟩
theorem Mv (eC:jl P ty) (hR:Rel x) (hn:B8 x.S aB) (hρ:uT x ρd ρ) {t e:TypeId} {n s kF sz sz':Nat} {agg:Bool} {k:TK} {z0:Option (List DV)} {z cs:List DV} {ps:Array (Nat×Operand)} {l:List (Nat×DV)} (h:ty t=some ⟨.slice e s kF agg,sz,z0⟩) (hl:jq ρd ps.toList=some l) (he:ty e=some ⟨k,sz',some z⟩)
  (hs:0<s) (Js:n*s≤16777216) (hf:jO (fun i=>some (i*s,s)) ((List.replicate n z).flatten) (l.map fun(i,v)=>(i,v.strip))=some cs) (hp:cs.all DV.bS=true) :
  Yields x ((do pure (.value (← Instr.buildSlice t n (ps.map fun p=>(p.1,ρ p.2)))):Sem Next).run P x.w) (.jG aB n agg) (ez x.S aB (.op e s cs false)):=by
 obtain⟨arr,h6,ov,hrun⟩:=Da eC hR hρ h hl he hs Js hf
 have Vf:n≤n*s:=Nat.le_mul_of_pos_right n hs
 obtain⟨y,y1,y2,y3,y4,y5⟩:=xy (n:=n) (agg:=agg) hR hn (fZ x.w (.cells arr e)) (k:=n) (s:=s) (by rw[h6.1,ov]) (by rw[h6.1]; exact ai _) (by unfold maxLen; omega) (fun j c hc=>⟨bh.1 hp c (dL hc),h6.2 j c hc⟩) ov.symm
 exact gA (by rw[y1]; exact hrun) y2 y3 y4 y5
set_option maxRecDepth 8000 in
theorem EK (eC:jl P ty) (hR:Rel x) (hn:B8 x.S aB) {t e:TypeId} {s kF sz sz':Nat} {agg:Bool} {k:TK} {z0:Option (List DV)} {z:List DV} {kd kd':IntKind} {n:Int} (h:ty t=some ⟨.slice e s kF agg,sz,z0⟩) (he:ty e=some ⟨k,sz',some z⟩)
  (h0:0≤n) (hs:0<s) (Js:n≤140737488355328-4096) (hb:n.toNat*kF≤eR) (hp:(z.map DV.aQ).all DV.bS=true) :
  Yields x ((do pure (.value (← Instr.makeSlice t (.int kd n) (.int kd' n))):Sem Next).run P x.w) (.jG aB n.toNat agg) (ez x.S aB (.op e s (List.replicate n.toNat (z.map DV.aQ)).flatten false)):=by
 obtain⟨hk,i,hi,-,-⟩:=bO (eC t _ h)
 obtain⟨hu,ie,qF,pJ,ZK,Dm⟩:=ku hk
 obtain⟨-,ie',zI,-,hz⟩:=bO (eC e _ he)
 rw[qF] at zI
 cases zI
 obtain⟨zv,h1,h2,Z9⟩:=iS hz
 obtain⟨h3,h4⟩:=gP (x:=x) h2
 have M8:zv.cells.size=s:=by rw[← pJ,← Z9]; simpa using h3
 have Dw:z.length=s:=by rw[Z9,pJ]
 have h4':∀ j c,(z.map DV.aQ)[j]? = some c→RV x c (zv.cells.toList.getD j undef):=fun j c hc=>by
  simp only[fQ,ah] at hc
  obtain⟨c',h1,rfl⟩:=hc
  exact(h4 j c' h1).aQ
 have yM:=Cv (n:=n.toNat) (z:=z.map DV.aQ) hs (by rw[gp]; exact Dw) M8 h4'
 generalize BR:(Array.range (n.toNat*s)).map (zv.cells[· % zv.cells.size]!)=arr at *
 have hlen:(List.replicate n.toNat (z.map DV.aQ)).flatten.length=n.toNat*s:=by simp[Dw]
 obtain⟨y,y1,y2,y3,y4,y5⟩:=xy (n:=n.toNat) (agg:=agg) hR hn (fZ x.w (.cells arr e)) (k:=n.toNat) (s:=s) (by rw[yM.1,hlen]) (by rw[yM.1]; exact ai _) (by unfold maxLen; omega) (fun j c hc=>⟨by
  have hm:=dL hc
  simp only[List.mem_flatten,List.mem_replicate] at hm
  obtain⟨l,⟨-,rfl⟩,hm⟩:=hm
  exact bh.1 hp c hm,yM.2 j c hc⟩) hlen.symm
 refine gA (v := .slice (some ⟨x.w.heap.size,0,none⟩) n.toNat n.toNat) ?_ y2 y3 y4 y5
 rw[y1]
 have hw:IntKind.i64.wrap n=n:=by rw[IntKind.wrap_i64]; omega
 have hbz:((ie.bytes:Int)*n)≤140737488355328:=by
  have e1:n=(n.toNat:Int):=by omega
  rw[e1,ZK,← Int.natCast_mul,Nat.mul_comm]
  unfold eR at hb
  omega
 have e48:(2:Int) ^ 48=281474976710656:=by decide
 have c1:¬ (n<0):=by omega
 have c2:¬ (281474976710656<(ie.bytes:Int)*n):=by omega
 subst pJ
 have hnw:(newRow e arr).run P x.w = .ok ⟨x.w.heap.size,0,none⟩ (x.w.alloc (.cells arr e)):=by simp[newRow]
 have c3:¬ (2 ^ 48<(ie.bytes:Int)*n):=by rw[e48]; exact c2
 have tO:∀ z0:Array Value,(Array.range (n.toNat*ie.size)).map (z0[· % z0.size]!)=arr→(do let a ← newRow e ((Array.range (n.toNat*ie.size)).map (z0[· % z0.size]!)); pure (Value.slice (some a) n.toNat n.toNat):Sem Value).run P x.w = .ok (.slice (some ⟨x.w.heap.size,0,none⟩) n.toNat n.toNat) (x.w.alloc (.cells arr e)):=fun z0 h=>by
  rw[h,Sem.run_bind,hnw,Result.andThen_ok,Sem.run_pure]
 unfold Instr.makeSlice
 simp only[Sem.run_bind,run_underlying hu,Result.andThen_ok,asInt,asIntOf,Sem.run_pure,typeInfo,run_program,qF,hw,fO c1,fO c3,Bool.or_false,gt_iff_lt,fO (Int.lt_irrefl n),aD,if_false,run_askRoom,run_sizeOf qF]
 by_cases E7:n.toNat*ie.size=0
 ·have:=tO #[] (by rw[← BR,E7]; simp)
  simpa only [if_pos E7,Sem.run_bind,Sem.run_pure,Result.andThen_ok] using this
 ·have:=tO zv.cells BR
  simpa only [if_neg E7,zeroValue,typeInfo,run_program,qF,h1,Sem.run_bind,Sem.run_pure,Result.andThen_ok] using this
theorem Be (eC:jl P ty) (hR:Rel x) (hn:B8 x.S aB) {t u:TypeId} {a b d:DV} {va vb:Value} {S':av} (ha:RV x a va) (hb:RV x b vb) (h:mH ty x.S aB t a b=some (d,S')) :
  Yields x ((do pure (.value (← Builtin.append_ #[t,t] u #[va,vb])):Sem Next).run P x.w) d S':=by
 unfold mH at h
 split at h
 rotate_left
 ·cases h
 rename_i e s kF agg sz z0 news Ds Wc Vc
 obtain⟨hk,it,-,-,-⟩:=bO (eC t _ Vc)
 obtain⟨hu,ie,qF,pJ,Bx,-⟩:=ku hk
 have Fc:=hb
 cases hb with
 | @sl _ _ _ A2 qD s2 vs2 RJ Nc m1 m2 m3 m4 m5 =>
  split at h
  rotate_left
  ·cases h
  rename_i hte
  obtain⟨z,WN,M8⟩:∃ z,ie.zero=some z∧z.cells.size=s:=by
   obtain⟨-,ie',zI,HE,yM⟩:=bO (eC e _ hte)
   rw[qF] at zI
   cases zI
   obtain⟨z,q1,q2,q3⟩:=iS yM
   have:=(gP (x:=x) q2).1
   exact⟨z,q1,by rw[← pJ,← q3]; simpa using this⟩
  have emp:∀ (A:Option Addr) (n cap:Nat),n≤cap→news=[]→(Builtin.append_ #[t,t] u #[.slice A n cap,.slice A2 news.length qD]).run P x.w = .ok (.slice A n cap) x.w:=by
   rintro A n cap k1 rfl
   subst pJ
   cases A<;>cases A2<;>simp[Builtin.append_,run_underlying hu,run_sizeOf qF,Builtin.lenOf,Builtin.firstCells,loadCells,loadCellsFrom,storeCells,k1]
  have grown:∀ (n cap:Nat),n+news.length≤140737488355328-4096→∀ (w1:List Value),w1.length=n*s→∀ (lP:List Value),lP.length=news.length*s→∀ (k:Nat),k=grownCap x.w (n+news.length) cap e→k≤maxLen∧n+news.length≤k ∧
    (w1.toArray++lP.toArray++Builtin.zeroCells z.cells (k-(n+news.length))).size=k*s:=by
   intro n cap hlen w1 Jr lP rS k hk
   have Fb:=grownCap_ge x.w (n+news.length) cap e
   have hle:=grownCap_le_maxLen x.w (n+news.length) cap e (by simp only[maxLen]; omega)
   subst hk
   refine⟨hle,Fb,?_⟩
   simp only[Array.size_append,kg,size_zeroCells,M8,Jr,rS,← iZ]
   congr 1
   omega
  have VU:news≠[]→(∀ r∈news,r.cells.length=s)→0<news.length∧∃ (b2 o2:Nat) (lP:List Value),A2=some ⟨b2,o2,none⟩∧lP.length=news.length*s∧(flat news).length=news.length*s∧(∀ c∈flat news,c.bS=true)∧(∀ j c,(flat news)[j]? = some c→RV x c (lP.getD j undef)) ∧
    (∀ j v,lP[j]? = some v→x.w.cell? ((⟨b2,o2,none⟩:Addr).add j)=some v)∧∀ u∈lP,u.oneCell'=true:=by
   intro hne kK
   have hm:0<news.length:=List.length_pos_iff.2 hne
   obtain⟨-,-,-,-,-,Xq,Si,lP,rS,BP,wA,Cq⟩:=rq Fc kK
   obtain⟨Vt,rfl⟩:∃ Vt,A2=some Vt:=by
    cases A2 with
    | none=>have:=m3 rfl; omega
    | some ad=>exact⟨ad,rfl⟩
   have yE:=gB kK
   obtain⟨b2,o2,Zq⟩:=Vt
   have Xp:Zq=none:=Xq _ rfl (by omega)
   subst Xp
   refine⟨hm,b2,o2,lP,rfl,rS,yE,Si,BP,fun j v hv => ?_,Cq⟩
   have hj:j<(flat news).length:=by rw[yE,← rS]; exact(aJ.1 hv).1
   obtain⟨b',o',q1,-,q2⟩:=wA j _ (bK hj)
   cases q1
   rw[gV,q2]
   simp[aL,hv]
  split at h
  ·
   rename_i id n ag
   cases ha with
   | @jG _ _ _ e1 s1 l1 z1 A cap Vn hn1 hA1 =>
    split at h
    rotate_left
    ·cases h
    rename_i nA
    simp only[aG,bI,bh] at nA
    obtain⟨⟨⟨⟨hs,-⟩,kM⟩,hlen⟩,kK⟩:=nA
    split at h
    rotate_left
    ·cases h
    rename_i e' s' l hop
    split at h
    rotate_left
    ·cases h
    rename_i wA
    simp only[aG,bI] at wA
    obtain⟨c1,c2⟩:=wA
    rw[c1,c2] at hop
    obtain⟨hS,Dj⟩:=kA hop
    obtain⟨rfl,rfl,rfl,rfl⟩:e=e1∧s=s1∧l=l1∧false=z1:=by rw[hS] at Vn; cases Vn; exact⟨rfl,rfl,rfl,rfl⟩
    obtain⟨rfl,rfl⟩:=hA1 Dj
    obtain⟨cur,t1,t2,t3,t4,t5,-,-⟩:=hR.ops id _ _ _ _ hS
    have hnκ:n≤x.κ id:=Nat.le_of_mul_le_mul_right (show n*s≤x.κ id*s by omega) hs
    split at h
    ·rename_i sV
     cases h
     exact aS hR (emp _ _ _ hnκ (by simpa using sV)) (.jG hS hn1 fun _=>⟨rfl,rfl⟩)
    rename_i sV
    cases h
    obtain⟨hm,b2,o2,lP,rfl,rS,yE,Si,BP,oF,Cq⟩:=VU (by simpa using sV) kK
    have V6:(l++flat news).length=(n+news.length)*s:=by rw[bU,yE,iZ]; omega
    have xF:∀ c∈l++flat news,c.bS=true:=fun c hc=>by
     rcases gn.1 hc with hc | hc
     ·obtain⟨j,hj⟩:=pZ.1 hc
      exact(t5 j c hj).1
     ·exact Si c hc
    have hlt:l.length<(l++flat news).length:=by rw[bU,yE]; have:=Nat.mul_pos hm hs; omega
    have acS:gD x (flat news) lP.toArray:=⟨by simp[rS,yE],fun j c hc=>by simpa [aV,aL] using BP j c hc⟩
    by_cases hroom:n+news.length≤x.κ id
    ·have Dz:n*s+lP.length≤cur.size:=by rw[rS,t2,← iZ]; exact ew _ hroom
     have hrun:=run_append_room (P:=P) x.w t u e ie hu qF (x.μ id) n (x.κ id) cur t1 ⟨b2,o2,none⟩ news.length qD lP (by rw[rS,pJ]) oF Cq hroom (by rw[pJ]; exact Dz)
     rw[pJ,Dj] at hrun
     have hp:=Em (off:=l.length) t3 (fun j c hc=>(t5 j c hc).2) acS (ai _) (by rw[yE]; omega)
     have hsz:(cur.toList.take l.length++lP++cur.toList.drop (l.length+lP.length)).toArray.size=cur.size:=by simp; omega
     rw[List.drop_of_length_le (show l.length≤l.length+(flat news).length by omega),eU,dc,kg] at hp
     generalize BR:(cur.toList.take l.length++lP++cur.toList.drop (l.length+lP.length)).toArray=arr at *
     have lR:=yZ (F:=fun _=>False) (arr:=arr) (b := .op e s (l++flat news) false) hR hS (.inr (.inr ⟨e,s,_,_,rfl,rfl,by omega,by simp,by rw[hsz]; exact t2,by rw[hsz,V6,t2]; exact ew _ hroom,fun j c hc=>⟨xF c (dL hc),hp j c hc⟩⟩))
     have M:=rB (F:=fun _=>False) (arr:=arr) (b := .op e s (l++flat news) false) hR hS (.inr (.inr ⟨e,s,_,_,rfl,rfl,by omega⟩))
     refine gA hrun (y:=x.upd id arr (fun _=>False) (.op e s (l++flat news) false)) rfl lR M (.jG (e:=e) (s:=s) (l:=l++flat news) (z:=false) (by show (x.S.set _ _)[_]? = _; rw[gl hS,if_pos rfl]) (by omega) fun _=>⟨rfl,rfl⟩)
    ·have pN:∀ j,j<n*s→∃ v,cur[j]? = some v:=fun j hj=>⟨cur[j]'(by omega),bQ _⟩
     have Jr:(cur.toList.take (n*s)).length=n*s:=by simp; omega
     obtain⟨g1,g2,g3⟩:=grown n (x.κ id) hlen _ Jr _ rS _ rfl
     have hrun:=run_append_grow (P:=P) x.w t u e ie z hu qF WN ⟨x.μ id,0,none⟩ n (x.κ id) (cur.toList.take (n*s)) (by rw[Jr,pJ]) (fun j v hv=>by
       have hj:j<n*s:=by rw[← Jr]; exact(aJ.1 hv).1
       rw[mL,if_pos hj] at hv
       rw[gV]
       simp only[World.cell?,t1,gL]
       simpa using hv) ⟨b2,o2,none⟩ news.length qD lP (by rw[rS,pJ]) oF (by omega) (by omega) (growslice_fits (by omega) (by rw[Bx]; exact kM))
     generalize hk0:grownCap x.w (n+news.length) (x.κ id) e=k at *
     obtain⟨v1,v2⟩:=xx (Z:=Builtin.zeroCells z.cells (k-(n+news.length))) Jr rS
     generalize BR:(cur.toList.take (n*s)).toArray++lP.toArray++Builtin.zeroCells z.cells (k-(n+news.length))=arr at *
     have hp:nk x.w (x.w.drew.alloc (.cells arr e)) (.cells arr e (0,0)):=⟨rfl,rfl,rfl⟩
     have hcc:∀ j c,(l++flat news)[j]? = some c→c.bS=true∧RV x c (arr.getD j undef):=fun j c hc=>by
      refine⟨xF c (dL hc),?_⟩
      by_cases hj:j<l.length
      ·rw[eG hj] at hc
       rw[v1 j (by omega)]
       have:=(t5 j c hc).2
       simpa [aV,aL,mL,show j<n*s by omega] using this
      ·rw[gr (by omega)] at hc
       have hj2:j-l.length<(flat news).length:=(aJ.1 hc).1
       have e1:j=n*s+(j-l.length):=by omega
       rw[e1,v2 _ (by omega)]
       exact BP _ c hc
     have lR:=Qt (k:=k) hR hS hp hlt g3 (by rw[g3,V6]; exact ew _ g2) g1 hcc
     have M:=CL (k:=k) hR hS hp hlt
     refine gA hrun (y:=x.jy (x.w.drew.alloc (.cells arr e)) id k (fun _=>False) (.op e s (l++flat news) false)) rfl lR M (.jG (e:=e) (s:=s) (l:=l++flat news) (z:=false) (by show (x.S.set _ _)[_]? = _; rw[gl hS,if_pos rfl]) (by omega) fun _ => ?_)
     exact⟨congrArg (fun b=>some (⟨b,0,none⟩:Addr)) (if_pos rfl:(if id=id then _ else _)=_).symm,(if_pos rfl:(if id=id then k else _)=k).symm⟩
  ·
   rename_i f
   cases ha with
   | @sl _ _ _ A cap s1 vs1 Lg wq k1 k2 k3 k4 k5 =>
    split at h
    ·rename_i sV
     cases h
     exact aS hR (emp _ _ _ k1 (by simpa using sV)) (.sl Lg wq k1 k2 k3 k4 k5)
    rename_i sV
    split at h
    rotate_left
    ·cases h
    rename_i nA
    simp only[aG,bI,bh] at nA
    obtain⟨⟨⟨⟨⟨ac7,hs⟩,-⟩,kM⟩,hlen⟩,kK⟩:=nA
    cases h
    obtain⟨hm,b2,o2,lP,rfl,rS,yE,Si,BP,oF,Cq⟩:=VU (by simpa using sV) kK
    have Lz:cap=0:=k2.1 ac7
    subst Lz
    obtain⟨g1,g2,g3⟩:=grown 0 0 (by omega) [] (by simp) _ rS _ rfl
    have hrun:(Builtin.append_ #[t,t] u #[.slice A ([]:List DV).length 0,.slice (some ⟨b2,o2,none⟩) news.length qD]).run P x.w =
      .ok (.slice (some ⟨x.w.heap.size,0,none⟩) news.length (grownCap x.w news.length 0 e)) (x.w.drew.alloc (.cells (lP.toArray++Builtin.zeroCells z.cells (grownCap x.w news.length 0 e-news.length)) e)):=by
     cases A with
     | none=>exact run_append_nil (P:=P) x.w t u e ie z hu qF WN ⟨b2,o2,none⟩ news.length qD lP (by rw[rS,pJ]) oF hm (by omega) (by rw[Bx]; unfold eR at kM; omega)
     | some ad =>
      have:=run_append_grow (P:=P) x.w t u e ie z hu qF WN ad 0 0 [] (by simp) (by simp) ⟨b2,o2,none⟩ news.length qD lP (by rw[rS,pJ]) oF (by omega) (by omega) (growslice_fits (by omega) (by rw[Bx,gL]; exact kM))
      simpa using this
    simp only[gL] at g1 g2 g3
    generalize hk0:grownCap x.w news.length 0 e=k at *
    have v2:∀ j,j<news.length*s→(lP.toArray++Builtin.zeroCells z.cells (k-news.length)).getD j undef=lP.getD j undef:=fun j hj=>by
     rw[aV,vA (by simp; omega)]
     simp[aL]
    have g3':(lP.toArray++Builtin.zeroCells z.cells (k-news.length)).size=k*s:=by simpa using g3
    obtain⟨y,y1,y2,y3,y4,y5⟩:=xy (n:=news.length) (agg:=agg) hR hn (w':=x.w.drew.alloc (.cells (lP.toArray++Builtin.zeroCells z.cells (k-news.length)) e)) (e:=e) (l:=flat news) (k:=k) (s:=s) ⟨rfl,rfl,rfl⟩ g3' (by rw[g3',yE]; exact ew _ g2) g1 (fun j c hc=>⟨Si c (dL hc),by
     have hj:j<(flat news).length:=(aJ.1 hc).1
     rw[v2 j (by omega)]
     exact BP j c hc⟩) yE.symm
    exact gA (by rw[y1]; exact hrun) y2 y3 y4 y5
  ·cases h
theorem look_ok (hR:Rel x) {d:DV} {v:Value} (h:RV x d v):RV x (kJ x.S d) v:=by
 cases h with
 | @jG id n agg e1 s1 l1 z1 A cap hS hn hA =>
  unfold kJ
  dsimp only
  split
  ·rename_i e s l hop
   obtain⟨yO,Dj⟩:=kA hop
   obtain⟨rfl,rfl,rfl,rfl⟩:e=e1∧s=s1∧l=l1∧true=z1:=by rw[yO] at hS; cases hS; exact⟨rfl,rfl,rfl,rfl⟩
   split
   ·rename_i hc
    simp only[aG,iq,dX,bI] at hc
    obtain⟨rfl,rfl⟩:=hA Dj
    obtain⟨arr,h1,h2,h3,-,h4,h5,-⟩:=hR.ops id e s l true hS
    obtain⟨uM,RM⟩:=C0 hc.1 hc.2 (fun c hm=>by
     obtain⟨j,hj⟩:=pZ.1 hm
     exact(h4 j c hj).1) n Dj.symm
    have ZA:(rowsOf s agg l n).length=n:=by simp[rowsOf]
    suffices hk:RV x (.sl (rowsOf s agg l n) none ⟨false,some false⟩) (.slice (some ⟨x.μ id,0,none⟩) (rowsOf s agg l n).length (x.κ id)) by rw[ZA] at hk; exact hk
    refine RV.sl (tok:=none) (Ak RM (fun c hm => ?_) (by rw[uM]; exact h3) h1 fun j hj=>h5 rfl j (by rw[uM] at hj; exact hj)) (fun j c hc => ?_) ?_ ⟨by simp,fun b h=>by cases h; rfl⟩ (by simp) (fun ad h _=>by cases h; rfl) (fun t ht=>nomatch ht)
    ·rw[uM] at hm
     obtain⟨j,hj⟩:=pZ.1 hm
     exact(h4 j c hj).1
    ·rw[uM] at hc
     exact(h4 j c hc).2
    ·rw[ZA]
     exact Nat.le_of_mul_le_mul_right (show n*s≤x.κ id*s by omega) hc.1
   ·exact .jG hS hn hA
  ·exact .jG hS hn hA
 | val h=>exact .val h
 | agg h hl=>exact .agg h hl
 | gI h hl=>exact .gI h hl
 | sl hv hr h1 h2 h3 hsp h4=>exact .sl hv hr h1 h2 h3 hsp h4
 | ptr h=>exact .ptr h
 | eS hv hr=>exact .eS hv hr
 | fn h1 h2 h3 h4=>exact .fn h1 h2 h3 h4
 | map h=>exact .map h
 | BA h=>exact .BA h
 | fW h h1 h2=>exact .fW h h1 h2
theorem Pv (hR:Rel x) (d:DV):∃ y,y.w=x.w∧y.S=sX x.S d∧Rel y∧cr x y:=by
 unfold sX
 split
 ·rename_i id n ag
  split
  ·rename_i e s l hop
   obtain⟨hS,-⟩:=kA hop
   exact⟨x.close id e s l,rfl,rfl,Mc hR hS,Bh hS⟩
  ·exact⟨x,rfl,rfl,hR,cr.refl x⟩
 ·exact⟨x,rfl,rfl,hR,cr.refl x⟩
theorem Eu {env:List DV}:∀ (l:List Operand) {x:Cx},Rel x→∃ y,y.w=x.w∧y.S=l.foldl (oP env) x.S∧Rel y∧cr x y
 | [],x,hR=>⟨x,rfl,rfl,hR,cr.refl x⟩
 | a::l,x,hR=>by
  rw[List.foldl_cons]
  cases he:iB env a with
  | none=>rw[show oP env x.S a=x.S by unfold oP; rw[he]]; exact Eu l hR
  | some d =>
   rw[show oP env x.S a=sX x.S d by unfold oP; rw[he]]
   obtain⟨y,y1,y2,y3,y4⟩:=Pv hR d
   obtain⟨z,z1,z2,z3,z4⟩:=Eu (env:=env) l y3
   exact⟨z,z1.trans y1,by rw[z2,y2],z3,y4.trans z4⟩
theorem YE {env:List DV} {arr:Array Value} (o:Oper) (hR:Rel x) (he:gD x env arr):∃ y,y.w=x.w∧y.S=(BM ty o env x.S).2∧Rel y∧cr x y∧gD y (BM ty o env x.S).1 arr:=by
 unfold BM
 split
 ·obtain⟨y,y1,y2,y3,y4⟩:=Eu (env:=env) o.op.operands.toList hR
  refine⟨y,y1,y2,y3,y4,by simpa using he.1,fun j c hc => ?_⟩
  simp only[fQ,ah] at hc
  obtain⟨c',h1,rfl⟩:=hc
  rw[← y2]
  exact look_ok y3 ((he.2 j c' h1).mono y4)
 ·exact⟨x,rfl,rfl,hR,cr.refl x,he⟩
end Go.Di
end
section
namespace Go.Di
open Go
variable {P : Program} {ty : gF} {x : Cx} {w' : World} {aI : bP} {call : bM} {yf : eW} {ρd : Operand → Option DV} {ρ : Operand → Value} {o : Oper} {aB : Nat}
theorem CZ {s : Nat} : ∀ {rows : List DV} (_ : ∀ r ∈ rows, r.cells.length = s) (h : Nat), flat (rows.take h) = (flat rows).take (h * s)
 | [], _, h => by simp [flat]
 | r :: rows, hs, 0 => by simp [flat]
 | r :: rows, hs, h + 1 => by
  have h0 := hs r (by simp)
  have ih := CZ (rows := rows) (fun r hr => hs r (by simp [hr])) h
  simp only [flat] at ih
  simp only [List.take_succ_cons, flat, fP, ih]
  have e1 : r.cells.take ((h + 1) * s) = r.cells := lB (by rw [h0, lp]; omega)
  have e2 : (h + 1) * s - s = h * s := by rw [lp]; omega
  rw [List.take_append, h0, e1, e2]
theorem C2 {s : Nat} : ∀ {rows : List DV} (_ : ∀ r ∈ rows, r.cells.length = s) (l : Nat), flat (rows.drop l) = (flat rows).drop (l * s)
 | [], _, l => by simp [flat]
 | r :: rows, hs, 0 => by simp
 | r :: rows, hs, l + 1 => by
  have h0 := hs r (by simp)
  have ih := C2 (rows := rows) (fun r hr => hs r (by simp [hr])) l
  simp only [flat] at ih
  simp only [List.drop_succ_cons, flat, fP, ih]
  have e1 : r.cells.drop ((l + 1) * s) = [] := List.drop_of_length_le (by rw [h0, lp]; omega)
  have e2 : (l + 1) * s - s = l * s := by rw [lp]; omega
  rw [List.drop_append, h0, e1, e2, List.nil_append]
theorem xB {ρd : Operand → Option DV} {ρ : Operand → Value} (hρ : uT x ρd ρ) {a : Operand} {dO n : Nat} {d : Nat} (h : gz ρd (some a) d dO = some n) (y : Nat) (hy : dO ≤ y) (code : BoundsCode) (w : World) : n ≤ dO ∧ (Instr.sliceBound (ρ a) y code).run P w = .ok n w := by
 unfold gz at h
 simp only at h
 split at h
 ·rename_i i hi
  split at h
  ·rename_i hc
   cases h
   obtain ⟨k, hk⟩ := lJ hρ hi
   refine ⟨hc.2, ?_⟩
   have wA : 0 ≤ i ∧ i ≤ (y : Int) := ⟨hc.1, by omega⟩
   simp only [Instr.sliceBound, hk, asIntOf, Sem.run_bind, Sem.run_pure, Result.andThen_ok, wA, and_self, if_true]
  ·cases h
 ·cases h
theorem Pg {rows : List DV} {tok : Option Nat} {f : SF} {A : Option Addr} {n cap : Nat} (h : RV x (.sl rows tok f) (.slice A n cap)) : ∀ b, HQ rows f = some b → A.isNone = b := by
 intro b hb
 cases h with
 | sl hv hr h1 h2 h3 hsp h4 =>
  unfold HQ at hb
  split at hb
  ·exact h2.2 b hb
  ·rename_i hne
   cases hb
   cases A with
   | none =>
    have := h3 rfl
    have h0 : rows = [] := dY (by omega)
    exact absurd (by simp [h0]) hne
   | some ad => rfl
theorem MC (eC : jl P ty) {op : BinOp} {t : TypeId} {a b : Operand} {d : DV} (hρ : uT x ρd ρ) (h : z7 ty op t (ρd a) (ρd b) = some d) :
  ∃ v, (do eqGuard op t a b (ρ a) (ρ b); binOp op t (ρ a) (ρ b) : Sem Value).run P x.w = .ok v x.w ∧ RV x d v := by
 unfold z7 at h
 split at h
 ·rename_i rows tok f Ds f2 ha hb
  have ra := hρ a _ ha
  have rb := hρ b _ hb
  generalize ρ a = va at ra ⊢
  generalize ρ b = vb at rb ⊢
  split at h
  ·rename_i e s kF agg sz z c Vc hn
   obtain ⟨hk, it, -, -, -⟩ := bO (eC t _ Vc)
   obtain ⟨hu, -⟩ := ku hk
   have ra0 := ra
   have rb0 := rb
   cases ra with
   | @sl _ _ _ A cap s1 vs1 Lg wq k1 k2 k3 k4 k5 =>
    cases rb with
    | @sl _ _ _ A2 qD s2 vs2 RJ Nc m1 m2 m3 m4 m5 =>
     have hA := Pg ra0 c hn
     have hA2 := m2.2 true rfl
     have : A2 = none := by simpa using hA2
     subst this
     have heq : (Op.equal t (.slice A rows.length cap) (.slice none 0 qD)).run P x.w = .ok c x.w := by
      subst hA
      obtain ⟨n, s5⟩ : ∃ n, Op.maxDepth = n + 1 := ⟨9999, rfl⟩
      cases A <;> simp only [Op.equal, s5, Op.equalIn, Sem.run_bind, run_underlying hu, Result.andThen_ok, Sem.run_pure, Option.isNone_none, Option.isNone_some]
     split at h
     ·cases h
      exact ⟨.bool c, by simp [eqGuard, binOp, heq], .val rfl⟩
     ·cases h
      exact ⟨.bool (!c), by simp [eqGuard, binOp, heq], .val rfl⟩
     ·cases h
  ·cases h
 ·cases h
theorem QM (eC : jl P ty) (hR : Rel x) (hρ : uT x ρd ρ) {t e : TypeId} {s kF sz : Nat} {agg : Bool} {z : Option (List DV)} (Vc : ty t = some ⟨.slice e s kF agg, sz, z⟩) {rows : List DV} {tok : Option Nat} {full : SF} {va : Value} (ha : RV x (.sl rows tok full) va) (ny : ∀ r ∈ rows, r.cells.length = s)
  {lo hi mx : Option Operand} {m h l : Nat} {d : DV} (hm : gz ρd mx rows.length rows.length = some m) (hh : gz ρd hi rows.length m = some h) (hl : gz ρd lo 0 h = some l) (ZH : (hi.isNone && mx.isSome) = false) (hd : pL rows full l h (mx.map fun _ => m) = some d) :
  Yields x ((do pure (.value (← Instr.sliceAt t va (lo.map ρ) (hi.map ρ) (mx.map ρ))) : Sem Next).run P x.w) d x.S := by
 obtain ⟨hk, it, -, -, -⟩ := bO (eC t _ Vc)
 obtain ⟨hu, ie, qF, pJ, -, -⟩ := ku hk
 have uM := gB ny
 have BG := ha
 cases ha with
 | @sl _ _ _ A cap s1 vs1 Lg wq k1 k2 k3 k4 k5 =>
  obtain ⟨-, -, -, -, -, hsp, ZC, ws, hwl, Na, hc, -⟩ := rq BG ny
  have aaE := Pg BG
  have hbm : m ≤ rows.length ∧ ∃ M, (∀ w : World, (match mx.map ρ with | some v => Instr.sliceBound v cap .slice3Acap | none => pure cap : Sem Nat).run P w = .ok M w) ∧ m ≤ M ∧ M ≤ cap ∧ (mx.isSome = true → M = m) ∧ (mx = none → M = cap ∧ m = rows.length) := by
   cases mx with
   | none =>
    simp only [gz, az] at hm
    subst hm
    exact ⟨ai _, cap, fun w => rfl, k1, ai _, by simp, fun _ => ⟨rfl, rfl⟩⟩
   | some a =>
    have := fun w => xB (P := P) hρ hm cap k1 .slice3Acap w
    exact ⟨(this default).1, m, fun w => (this w).2, ai _, aM (this default).1 k1, fun _ => rfl, by simp⟩
  obtain ⟨hmr, M, hM, hmM, hMc, hMs, hMn⟩ := hbm
  have hbh : h ≤ rows.length ∧ h ≤ M ∧ ∀ w : World, (match hi.map ρ, mx.map ρ with | some v, some _ => Instr.sliceBound v M .slice3B | some v, none => Instr.sliceBound v M .sliceAcap | none, none => pure rows.length | none, some _ => stuck "Slice: max without high" : Sem Nat).run P w = .ok h w := by
   cases hi with
   | none =>
    cases mx with
    | none =>
     simp only [gz, az] at hh
     subst hh
     exact ⟨ai _, by rw [(hMn rfl).1]; exact k1, fun w => rfl⟩
    | some a => simp at ZH
   | some b =>
    have q1 := fun c w => xB (P := P) hρ hh M hmM c w
    have q2 := (q1 .slice3B default).1
    refine ⟨aM q2 hmr, aM q2 hmM, fun w => ?_⟩
    cases mx with
    | none => exact (q1 .sliceAcap w).2
    | some a => exact (q1 .slice3B w).2
  obtain ⟨hhr, hhM, hH⟩ := hbh
  have hbl : l ≤ h ∧ ∀ w : World, (match lo.map ρ with | some v => Instr.sliceBound v h (if (mx.map ρ).isSome then .slice3C else .sliceB) | none => pure 0 : Sem Nat).run P w = .ok l w := by
   cases lo with
   | none =>
    simp only [gz, az] at hl
    subst hl
    exact ⟨jD _, fun w => rfl⟩
   | some a =>
    have q1 := fun c w => xB (P := P) hρ hl h (ai _) c w
    exact ⟨(q1 .slice3C default).1, fun w => (q1 _ w).2⟩
  obtain ⟨hlh, hL⟩ := hbl
  have hA' : ∀ A', A' = (if M = l then A else A.map (·.add (l * s))) → (A' = none → M - l = 0) ∧ (∀ ad, A' = some ad → 0 < M - l → ad.spot = none) := by
   intro A' hA
   subst hA
   split
   ·exact ⟨fun _ => by omega, fun _ _ h => absurd h (by omega)⟩
   ·cases A with
    | none => have := k3 rfl; exact ⟨fun _ => by omega, by simp⟩
    | some ad =>
     refine ⟨by simp, fun ad' h hp => ?_⟩
     simp only [Option.map_some, az] at h
     subst h
     have := k4 ad rfl (by omega)
     obtain ⟨b, o, sp⟩ := ad
     simp only at this
     subst this
     rw [gV]
  have aaD : ∀ (W4 : Option Nat) (FB : SF), (FB.full = true → M - l = h - l) ∧ OU FB A → W4 = none → RV x (.sl ((rows.take h).drop l) W4 FB) (.slice (if M = l then A else A.map (·.add (l * s))) (h - l) (M - l)) := by
   intro W4 FB uX acN
   subst acN
   obtain ⟨hA1, hA2⟩ := hA' _ rfl
   have hlen : ((rows.take h).drop l).length = h - l := by simp; omega
   have YX : ∀ r ∈ (rows.take h).drop l, r.cells.length = s := fun r hr => ny r (List.mem_of_mem_take (List.mem_of_mem_drop hr))
   have abA : flat ((rows.take h).drop l) = ((flat rows).take (h * s)).drop (l * s) := by
    rw [C2 (fun r hr => ny r (List.mem_of_mem_take hr)), CZ ny]
   have tj : ∀ j c, (flat ((rows.take h).drop l))[j]? = some c → (flat rows)[l * s + j]? = some c ∧ l * s + j < h * s := by
    intro j c Ni
    rw [abA, pW, mL] at Ni
    split at Ni
    ·exact ⟨Ni, ‹_›⟩
    ·cases Ni
   have hv : View x ((rows.take h).drop l) (if M = l then A else A.map (·.add (l * s))) s (fun j => ws.getD (l * s + j) undef) := by
    refine ⟨YX, fun j c Ni => ?_⟩
    obtain ⟨q1, q2⟩ := tj j c Ni
    obtain ⟨b, o, r1, r2, r3⟩ := hc _ _ q1
    refine ⟨ZC c (dL q1), b, o + l * s, ?_, by rw [fC]; exact r2, by rw [fC]; exact r3⟩
    have hlt : l < h := by
     rcases Nat.lt_or_ge l h with h1 | h1
     ·exact h1
     ·have : h * s ≤ l * s := ew _ h1; omega
    rw [if_neg (by omega), r1]
    simp only [Option.map_some, gV]
   have := RV.sl (tok := none) (full := FB) (cap := M - l) hv (fun j c Ni => Na _ _ (tj j c Ni).1) (by rw [hlen]; omega) ⟨fun hf => by rw [hlen]; exact uX.1 hf, fun b hb => by rw [← uX.2 b hb]; split <;> simp⟩ hA1 hA2 (fun t ht => nomatch ht)
   rw [hlen] at this
   exact this
  have hrun : (Instr.sliceAt t (.slice A rows.length cap) (lo.map ρ) (hi.map ρ) (mx.map ρ)).run P x.w = .ok (.slice (if M = l then A else A.map (·.add (l * s))) (h - l) (M - l)) x.w := by
   have hb : (Instr.sliceBounds true rows.length cap (lo.map ρ) (hi.map ρ) (mx.map ρ)).run P x.w = .ok (l, h, M) x.w := by
    have Vp := hM x.w
    have hH' := hH x.w
    have Ss := hL x.w
    unfold Instr.sliceBounds
    revert Vp hH' Ss ZH
    cases mx <;> cases hi <;> cases lo <;> intro Vp hH' Ss ZH <;>
     simp only [Option.map_none, Option.map_some, Sem.run_pure, Result.ok.injEq, and_true, Option.isSome_some, Option.isSome_none, Option.isNone_none, gm, Bool.true_eq_false, if_true, aD, if_false] at Vp hH' Ss ZH ⊢ <;>
     (try subst Vp) <;> (try subst hH') <;> (try subst Ss) <;> simp only [Sem.run_bind, Result.andThen_ok, Sem.run_pure, *]
   unfold Instr.sliceAt
   simp only [Sem.run_bind, run_underlying hu, Result.andThen_ok, Instr.slice, hb, run_sizeOf qF, Sem.run_pure, pJ]
  unfold pL at hd
  rw [if_pos hlh] at hd
  cases mx with
  | none =>
   simp only [Option.map_none, az] at hd
   subst hd
   refine aS hR hrun (aaD _ _ ⟨fun hf => ?_, aaE⟩ rfl)
   simp only [aG, dX] at hf
   rw [(hMn rfl).1, k2.1 hf.1, hf.2]
  | some a =>
   simp only [Option.map_some] at hd
   by_cases hc : h ≤ m
   ·rw [if_pos hc] at hd
    simp only [az] at hd
    subst hd
    refine aS hR hrun (aaD _ _ ⟨fun hf => ?_, aaE⟩ rfl)
    simp only [dX] at hf
    rw [hMs rfl, hf]
   ·rw [if_neg hc] at hd
    cases hd
def Op.lone : Op → Bool
 | .call { callee := .builtin _, .. } => true
 | .call _ => false
 | _ => true
set_option maxHeartbeats 1000000 in
theorem LS (eC : jl P ty) (hR : Rel x) (hn : B8 x.S aB) (hρ : uT x ρd ρ) (hop : Op.lone o.op = true) {d : DV} {S' : av} (h : af P ty aI call yf ρd o x.S aB = some (d, S')) : Yields x ((execOp ρ o).run P x.w) d S' := by
 obtain ⟨dst, op, type, pos, after, guard⟩ := o
 cases op with
 | move a =>
  simp only [af, ah, ax] at h
  obtain ⟨d', h1, rfl, rfl⟩ := h
  exact ⟨ρ a, x, .inl rfl, rfl, hR, cr.refl x, hρ a _ h1⟩
 | assign a =>
  simp only [af, ah, ax] at h
  obtain ⟨d', h1, rfl, rfl⟩ := h
  exact ⟨ρ a, x, .inl rfl, rfl, hR, cr.refl x, hρ a _ h1⟩
 | pick c a b =>
  simp only [af] at h
  split at h
  ·rename_i t hc
   have hcv := tT (hρ c _ hc)
   simp only [ah, ax] at h
   obtain ⟨d', h1, rfl, rfl⟩ := h
   cases t with
   | true => exact ⟨ρ a, x, .inl (by simp [execOp, hcv, asBool]), rfl, hR, cr.refl x, hρ a _ h1⟩
   | false => exact ⟨ρ b, x, .inl (by simp [execOp, hcv, asBool]), rfl, hR, cr.refl x, hρ b _ h1⟩
  ·cases h
 | alloc e =>
  simp only [af] at h
  split at h
  ·rename_i hk
   cases h
   exact QN eC hR hn hk
  ·cases h
 | box e a =>
  simp only [af] at h
  split at h
  ·rename_i d' h1
   cases h
   exact YL hR hn (hρ a _ h1)
  ·cases h
 | build t ps =>
  simp only [af] at h
  split at h
  ·rename_i hk hl
   simp only [ah, ax] at h
   obtain ⟨cs, h1, rfl, rfl⟩ := h
   exact yJ eC hR hρ hk hl h1
  ·rename_i hk hl
   simp only [ah, ax] at h
   obtain ⟨cs, h1, rfl, rfl⟩ := h
   exact Bp eC hR hρ hk hl h1
  ·cases h
 | buildSlice t n ps =>
  simp only [af] at h
  split at h
  ·rename_i e s kF agg sz z0 l hk hl
   split at h
   ·rename_i k sz' z he
    split at h
    ·rename_i hc
     simp only [aG, bI] at hc
     split at h
     ·rename_i cs hf
      split at h
      ·rename_i hp
       simp only [aG, iq, dX] at hp
       split at h
       ·cases h
        exact Mv eC hR hn hρ hk hl he hc.1 hc.2 hf hp.1
       ·cases h
        exact BX eC hR hρ hk hl he hc.1 hc.2 hf hp.1 hp.2
      ·cases h
     ·cases h
    ·cases h
   ·cases h
  ·cases h
 | makeSlice t a b =>
  simp only [af] at h
  split at h
  ·rename_i e s kF agg sz z0 n m hk ha hb
   split at h
   ·rename_i k sz' z he
    split at h
    ·rename_i hc
     simp only [aG, iq, dX, bI] at hc
     obtain ⟨⟨⟨⟨⟨⟨h0, rfl⟩, hs⟩, -⟩, h1⟩, h2⟩, h3⟩ := hc
     cases h
     obtain ⟨kd, hka⟩ := lJ hρ ha
     obtain ⟨kd', hkb⟩ := lJ hρ hb
     have h4 := EK (kd := kd) (kd' := kd') eC hR hn hk he h0 hs h1 h2 h3
     rw [← hka, ← hkb] at h4
     exact h4
    ·cases h
   ·cases h
  ·cases h
 | load t a =>
  simp only [af] at h
  split at h
  ·rename_i a' h1
   simp only [ah, ax] at h
   obtain ⟨d', h2, rfl, rfl⟩ := h
   obtain ⟨v, h3, h4⟩ := Gn eC hR (hρ a _ h1) h2
   exact aS hR h3 h4
  ·cases h
 | store t a v =>
  simp only [af] at h
  split at h
  ·rename_i a' v' h1 h2
   simp only [ah, ax] at h
   obtain ⟨S2, h3, rfl, rfl⟩ := h
   obtain ⟨y, h4, h5, h6, h7⟩ := LR eC hR (hρ a _ h1) (hρ v _ h2) h3
   exact FM h4 h5 h6 h7
  ·cases h
 | nilCheck a =>
  simp only [af] at h
  split at h
  ·rename_i id off h1
   cases h
   have := hρ a _ h1
   generalize hv : ρ a = v at this
   cases this with
   | ptr hS => exact ⟨_, x, .inl (by simp only [execOp, hv]; rfl), rfl, hR, cr.refl x, .ptr hS⟩
  ·cases h
 | binOp op t a b u =>
  simp only [af] at h
  split at h
  ·rename_i va vb h1 h2
   simp only [ah, ax] at h
   obtain ⟨d', h3, rfl, rfl⟩ := h
   obtain ⟨v, h4, h5⟩ := mX (x := x) h3 x.w
   rw [← ff hρ h1, ← ff hρ h2] at h4
   exact aS hR h4 h5
  ·simp only [ah, ax] at h
   obtain ⟨d', h3, rfl, rfl⟩ := h
   obtain ⟨v, h4, h5⟩ := MC eC hρ h3
   exact aS hR h4 h5
 | unOp op t a =>
  simp only [af] at h
  split at h
  ·rename_i va h1
   simp only [ah, ax] at h
   obtain ⟨d', h3, rfl, rfl⟩ := h
   obtain ⟨v, h4, h5⟩ := mX (x := x) h3 x.w
   rw [← ff hρ h1] at h4
   exact aS hR h4 h5
  ·cases h
 | convert s t a =>
  simp only [af] at h
  split at h
  ·rename_i va h1
   simp only [ah, ax] at h
   obtain ⟨d', h3, rfl, rfl⟩ := h
   obtain ⟨v, h4, h5⟩ := mX (x := x) h3 x.w
   rw [← ff hρ h1] at h4
   exact aS hR h4 h5
  ·cases h
 | makeFunc fn fs cs =>
  cases fn with
  | func f =>
   simp only [af] at h
   split at h
   ·rename_i a b h1 h2
    cases h
    have e1 := tX hρ h1
    have e2 := tX hρ h2
    refine aS hR (v := .func (.func f) (fs.map ρ) (cs.map ρ)) rfl (.fn (by simpa using e1.1) (by simpa using e2.1) (fun j c hc => ?_) (fun j c hc => ?_))
    ·have := e1.2 j c hc
     simpa [aV] using this
    ·have := e2.2 j c hc
     simpa [aV] using this
   ·cases h
  | _ => simp [af] at h
 | slice t a lo hi mx =>
  simp only [af] at h
  split at h
  ·rename_i s sz z rows tok full hk ha
   split at h
   ·cases h
   ·rename_i ny
    simp only [Bool.not_eq_true', Bool.not_eq_false, bh, bI] at ny
    split at h
    ·rename_i m hm
     split at h
     ·rename_i h' hh
      split at h
      ·rename_i l hl
       split at h
       ·cases h
       ·rename_i ZH
        simp only [ah, ax] at h
        obtain ⟨d', h3, rfl, rfl⟩ := h
        exact QM eC hR hρ hk (hρ a _ ha) ny hm hh hl (by simpa using ZH) h3
      ·cases h
     ·cases h
    ·cases h
  ·cases h
 | fieldAddr t a f =>
  simp only [af] at h
  split at h
  ·rename_i fs sz z id off hk ha
   split at h
   ·rename_i o s agg hf
    split at h
    ·rename_i hs
     cases h
     have := hρ a _ ha
     generalize hv : ρ a = v at this
     cases this with
     | ptr hS => exact aS hR (by rw [hv]; exact qo eC hk hf hs _ _ _) (.ptr hS)
    ·cases h
   ·cases h
  ·rename_i fs sz z rows i off hk ha
   split at h
   ·rename_i o s agg hf
    split at h
    ·rename_i hs
     cases h
     have := hρ a _ ha
     generalize hv : ρ a = v at this
     cases this with
     | eS Lg RJ =>
      refine aS hR (by rw [hv]; exact qo eC hk hf hs _ _ _) ?_
      rw [fC, fC]
      exact .eS Lg RJ
    ·cases h
   ·cases h
  ·rename_i fs sz z id n off hk ha
   split at h
   ·rename_i o s agg q hf hop
    obtain ⟨e, s', l, zz⟩ := q
    obtain ⟨hS, Dj⟩ := kA hop
    split at h
    ·rename_i hs
     cases h
     have := hρ a _ ha
     generalize hv : ρ a = v at this
     cases this with
     | @fW _ _ _ e1 s1 l1 z1 _ yO Js hA =>
      obtain ⟨rfl, rfl, rfl, rfl⟩ : e = e1 ∧ s' = s1 ∧ l = l1 ∧ zz = z1 := by rw [hS] at yO; cases yO; exact ⟨rfl, rfl, rfl, rfl⟩
      have hA := hA Dj
      subst hA
      exact aS hR (by rw [hv]; exact qo eC hk hf hs _ _ _) (.fW hS Js fun _ => rfl)
    ·cases h
   ·cases h
  ·cases h
 | field t a f =>
  simp only [af] at h
  split at h
  ·rename_i fs sz z l hk ha
   split at h
   ·rename_i off s agg hf
    simp only [ah, ax] at h
    obtain ⟨d', h3, rfl, rfl⟩ := h
    obtain ⟨arr, hv, Na⟩ := Kg (hρ a _ ha)
    obtain ⟨sO, i, hi, -, -⟩ := bO (eC t _ hk)
    obtain ⟨fields, hu, hfs, hff⟩ := wX sO
    obtain ⟨fd, h4, h5, inf, h6, h7, h8, d0, h9⟩ := hff f _ hf
    simp only at h5 h7 h8
    obtain ⟨v, wB, Fe⟩ := Kr (x := x) h6 h9 h7 h8 Na h3 x.w
    refine aS hR (v := v) ?_ Fe
    simp only [Instr.field, hv, Sem.run_bind, run_underlying hu, Result.andThen_ok, h4, asAgg, Sem.run_pure, h5, wB]
   ·cases h
  ·cases h
 | indexAddr t a i =>
  simp only [af] at h
  split at h
  ·rename_i e s kF agg sz z rows tok full n hk ha hi
   split at h
   ·rename_i h0
    split at h
    ·rename_i r hr
     split at h
     ·rename_i hs
      cases h
      obtain ⟨kd, Ng⟩ := lJ hρ hi
      have := hρ a _ ha
      generalize hv : ρ a = v at this
      cases this with
      | @sl _ _ _ A cap s1 vs Lg RJ k1 k2 k3 k4 k5 =>
       have hlt : n.toNat < rows.length := (aJ.1 hr).1
       cases A with
       | none => have := k3 rfl; omega
       | some ad =>
        obtain ⟨b, o, sp⟩ := ad
        have : sp = none := k4 _ rfl (by omega)
        subst this
        have Fa : s1 = s := by rw [← hs]; exact (Lg.1 r (dL hr)).symm
        subst Fa
        refine aS hR (by rw [hv, Ng]; exact Bc eC hk h0 hlt _ _ _) ?_
        have := RV.eS (i := n.toNat) (off := 0) Lg RJ
        simpa using this
     ·cases h
    ·cases h
   ·cases h
  ·rename_i k s agg sz z id off n hk ha hi
   split at h
   ·rename_i h0
    cases h
    obtain ⟨kd, Ng⟩ := lJ hρ hi
    have := hρ a _ ha
    generalize hv : ρ a = v at this
    cases this with
    | ptr hS => exact aS hR (by rw [hv, Ng]; exact ye eC hk h0.1 h0.2 _ _ _) (.ptr hS)
   ·cases h
  ·rename_i k s agg sz z rows j off n hk ha hi
   split at h
   ·rename_i h0
    cases h
    obtain ⟨kd, Ng⟩ := lJ hρ hi
    have := hρ a _ ha
    generalize hv : ρ a = v at this
    cases this with
    | eS Lg RJ =>
     refine aS hR (by rw [hv, Ng]; exact ye eC hk h0.1 h0.2 _ _ _) ?_
     rw [fC, fC]
     exact .eS Lg RJ
   ·cases h
  ·rename_i e s kF agg sz z id m ag n hk ha hi
   split at h
   ·rename_i q1 s' l zz hop
    obtain ⟨hS, Dj⟩ := kA hop
    split at h
    ·rename_i h0
     obtain ⟨h0, h1, rfl⟩ := h0
     cases h
     obtain ⟨kd, Ng⟩ := lJ hρ hi
     have := hρ a _ ha
     generalize hv : ρ a = v at this
     cases this with
     | @jG _ _ _ e1 s1 l1 z1 _ _ yO Js hA =>
      obtain ⟨rfl, rfl, rfl, rfl⟩ : q1 = e1 ∧ s' = s1 ∧ l = l1 ∧ zz = z1 := by rw [hS] at yO; cases yO; exact ⟨rfl, rfl, rfl, rfl⟩
      obtain ⟨rfl, rfl⟩ := hA Dj
      exact aS hR (by rw [hv, Ng]; exact Bc eC hk h0 h1 _ _ _) (.fW hS (by omega) fun _ => by rw [gL])
    ·cases h
   ·cases h
  ·cases h
 | index t a i =>
  simp only [af] at h
  split at h
  ·rename_i k s agg sz z l n hk ha hi
   split at h
   ·rename_i h0
    simp only [ah, ax] at h
    obtain ⟨d', h3, rfl, rfl⟩ := h
    obtain ⟨kd, Ng⟩ := lJ hρ hi
    obtain ⟨arr, hv, Na⟩ := Kg (hρ a _ ha)
    obtain ⟨sO, it, hit, -, -⟩ := bO (eC t _ hk)
    obtain ⟨e, hu, ie, qF, pJ, Dm, d0, hu2⟩ := vC sO
    obtain ⟨v, wB, Fe⟩ := Kr (x := x) qF hu2 pJ Dm Na h3 x.w
    refine aS hR (v := v) ?_ Fe
    have hc : 0 ≤ n ∧ n < (k : Int) := ⟨h0.1, by omega⟩
    simp only [Instr.index, hv, Ng, asIntOf, Sem.run_bind, Sem.run_pure, run_underlying hu, Result.andThen_ok, hc, and_self, if_true, run_sizeOf qF, pJ, wB]
   ·cases h
  ·cases h
 | makeMap t r =>
  cases r with
  | none =>
   simp only [af, az, ax] at h
   obtain ⟨rfl, rfl⟩ := h
   exact I1 hR hn
  | some a => simp [af] at h
 | lookup t m k ok =>
  simp only [af] at h
  split at h
  ·rename_i id kv hm hk
   split at h
   ·rename_i es hS
    simp only [ah, ko, ax] at h
    obtain ⟨d', ⟨v, h1, h2⟩, rfl, rfl⟩ := h
    have := hρ m _ hm
    generalize hv : ρ m = vm at this
    cases this with
    | map _ =>
     have h3 := Mu hR hS h1 h2
     rw [← hv, ← ff hρ hk] at h3
     exact h3
   ·cases h
  ·cases h
 | mapUpdate t m k a =>
  simp only [af] at h
  split at h
  ·rename_i id kv vv hm hk ha
   split at h
   ·rename_i es hS
    split at h
    ·rename_i r hr
     simp only [ah, ax] at h
     obtain ⟨es', h1, rfl, rfl⟩ := h
     have := hρ m _ hm
     generalize hv : ρ m = vm at this
     cases this with
     | map _ =>
      have h3 := EJ hR hS hr h1
      rw [← hv, ← ff hρ hk, ← ff hρ ha] at h3
      exact h3
    ·cases h
   ·cases h
  ·cases h
 | extract a i =>
  simp only [af] at h
  split at h
  ·rename_i l ha
   simp only [ah, ax] at h
   obtain ⟨d', h3, rfl, rfl⟩ := h
   have := hρ a _ ha
   generalize hv : ρ a = v at this
   cases this with
   | @gI _ vs hs hr =>
    have hlt : i < vs.size := by rw [hs]; exact (aJ.1 h3).1
    refine aS hR (v := vs[i]) (by rw [hv]; simp [Instr.extract, hlt]) ?_
    simpa [aV, hlt] using hr i _ h3
  ·cases h
 | call c =>
  obtain ⟨callee, args, ats⟩ := c
  cases callee with
  | builtin b =>
   simp only [af] at h
   have hex : ∀ w : World, (execOp ρ ⟨dst, .call ⟨.builtin b, args, ats⟩, type, pos, after, guard⟩).run P w = (Go.builtin b ats type (args.map fun | .const _ => true | _ => false) (args.map ρ)).run P w := fun w => by
    simp only [execOp, resolve, Sem.run_bind, Sem.run_pure, Result.andThen_ok, invoke]
    rfl
   rw [hex]
   split at h
   ·rename_i a t mc N4
    have ea : args = #[a] := by rw [← Array.toArray_toList (xs := args), mc]
    have et : ats = #[t] := by rw [← Array.toArray_toList (xs := ats), N4]
    subst ea et
    split at h
    ·rename_i e s kF agg sz z rows tok full hk ha
     cases h
     obtain ⟨sO, it, hit, -, -⟩ := bO (eC t _ hk)
     obtain ⟨hu, -⟩ := ku sO
     have := hρ a _ ha
     generalize hv : ρ a = v at this
     cases this with
     | sl _ _ _ _ _ _ _ => exact aS hR (v := .int .i64 rows.length) (by simp [Builtin.len_, hv, run_underlying hu, goInt]) (.val rfl)
    ·rename_i e s kF agg sz z id n ag hk ha
     cases h
     obtain ⟨sO, it, hit, -, -⟩ := bO (eC t _ hk)
     obtain ⟨hu, -⟩ := ku sO
     have := hρ a _ ha
     generalize hv : ρ a = v at this
     cases this with
     | jG _ _ _ => exact aS hR (v := .int .i64 n) (by simp [Builtin.len_, hv, run_underlying hu, goInt]) (.val rfl)
    ·rename_i n s agg sz z hk
     cases h
     obtain ⟨sO, it, hit, -, -⟩ := bO (eC t _ hk)
     obtain ⟨e, hu, -⟩ := vC sO
     exact aS hR (v := .int .i64 n) (by simp [Builtin.len_, run_underlying hu, goInt]) (.val rfl)
    ·rename_i v ha hno
     simp only [ah, ax] at h
     obtain ⟨d', h3, rfl, rfl⟩ := h
     obtain ⟨v', h4, h5⟩ := mX (x := x) h3 x.w
     have := tT (hρ a _ ha)
     refine aS hR (v := v') ?_ h5
     simpa [this] using h4
    ·cases h
   ·rename_i a b t u mc N4
    have ea : args = #[a, b] := by rw [← Array.toArray_toList (xs := args), mc]
    have et : ats = #[t, u] := by rw [← Array.toArray_toList (xs := ats), N4]
    subst ea et
    split at h
    ·rename_i Ny
     subst Ny
     split at h
     ·rename_i da db ha hb
      have e2 : Array.map ρ #[a, b] = #[ρ a, ρ b] := by simp
      rw [e2]
      split at h
      ·exact Be (u := type) eC hR hn (hρ a _ ha) (hρ b _ hb) h
      ·split at h
       ·exact Be (u := type) eC hR hn (hρ a _ ha) (hρ b _ hb) h
       ·exact Mw (u := type) eC hR hn (hρ a _ ha) (hρ b _ hb) h
     ·cases h
    ·cases h
   ·rename_i xs mc
    split at h
    ·rename_i vs h1
     simp only [ah, ax] at h
     obtain ⟨d', h3, rfl, rfl⟩ := h
     simp only [ko] at h1
     obtain ⟨ds, h4, h5⟩ := h1
     have h6 := tX hρ h4
     have h7 := wZ (x := x) (vs := args.toList.map ρ) h5 (by simpa using h6.1) fun j c hc => by simpa [aV, aL] using h6.2 j c hc
     obtain ⟨v', h8, h9⟩ := mX (x := x) h3 x.w
     refine aS hR (v := v') ?_ h9
     have e2 : (List.map ρ args.toList).toArray = Array.map ρ args := Array.toList_inj.1 (by simp)
     rw [← h7, e2] at h8
     exact h8
    ·cases h
   ·rename_i xs mc
    split at h
    ·rename_i vs h1
     simp only [ah, ax] at h
     obtain ⟨d', h3, rfl, rfl⟩ := h
     simp only [ko] at h1
     obtain ⟨ds, h4, h5⟩ := h1
     have h6 := tX hρ h4
     have h7 := wZ (x := x) (vs := args.toList.map ρ) h5 (by simpa using h6.1) fun j c hc => by simpa [aV, aL] using h6.2 j c hc
     obtain ⟨v', h8, h9⟩ := mX (x := x) h3 x.w
     refine aS hR (v := v') ?_ h9
     have e2 : (List.map ρ args.toList).toArray = Array.map ρ args := Array.toList_inj.1 (by simp)
     rw [← h7, e2] at h8
     exact h8
    ·cases h
   ·cases h
  | _ => simp [Op.lone] at hop
 | _ => simp [af] at h
end Go.Di
end
