import Derived.Test.YtedcgbkilmlbhaaGreatPk15
import Derived.Laws.BitsLemmas
section
namespace Go.Di
open Go
variable {P:Program} {ty:fI} {x:Cx} {w':World} {ρd:Operand→Option DV} {ρ:Operand→Value} {o:Oper} {ay:Nat}
theorem xz (hR:Rel x) (hn:Bw x.S ay) {k s n:Nat} {e:TypeId} {l:List DV} {arr:Array Value} {agg:Bool} (hp:mH x.w w' (.cells arr e (0,0))) (hsz:arr.size=k*s) (hl:l.length≤arr.size) (hk:k≤maxLen) (hc:∀ j c,l[j]? = some c→c.bF=true∧RV x c (arr.getD j undef)) (MQ:n*s=l.length) :
  ∃ y,y.w=w'∧y.S=dP x.S ay (.op e s l false)∧Rel y∧bE x y∧RV y (.gV ay n agg) (.slice (some ⟨x.w.heap.size,0,none⟩) n k):=by
 have kE:=kg (k:=k) (F:=fun _=>False) (b := .op e s l false) hR hn hp (by simp) (.inr (.inr (.inr ⟨e,s,l,arr,rfl,rfl,hsz,hl,hk,by simp,hc⟩)))
 refine⟨_,rfl,rfl,kE,iy hR hn hp,?_⟩
 refine RV.gV (e:=e) (s:=s) (l:=l) (z:=false) (by show (dP _ _ _)[_]? = _; rw[aZ hn.le,if_pos rfl]) (by omega) fun _ => ?_
 exact⟨by rw[show (x.fresh w' ay k (fun _=>False) (.op e s l false)).μ ay=x.w.heap.size from if_pos rfl],(if_pos rfl:(if ay=ay then k else _)=k).symm⟩
theorem Me (ee:iO P ty) (hR:Rel x) (hn:Bw x.S ay) (hρ:uL x ρd ρ) {t e:TypeId} {n s jZ sz sz':Nat} {agg:Bool} {k:TK} {z0:Option (List DV)} {z cs:List DV} {ps:Array (Nat×Operand)} {l:List (Nat×DV)} (h:ty t=some ⟨.slice e s jZ agg,sz,z0⟩) (hl:iS ρd ps.toList=some l) (he:ty e=some ⟨k,sz',some z⟩)
  (hs:0<s) (Jg:n*s≤16777216) (hf:js (fun i=>some (i*s,s)) ((List.replicate n z).flatten) (l.map fun(i,v)=>(i,v.strip))=some cs) (hp:cs.all DV.bF=true) :
  Yields x ((do pure (.value (← Instr.buildSlice t n (ps.map fun p=>(p.1,ρ p.2)))):Sem Next).run P x.w) (.gV ay n agg) (dP x.S ay (.op e s cs false)):=by
 obtain⟨arr,h6,nK,hrun⟩:=C8 ee hR hρ h hl he hs Jg hf
 have Nk:n≤n*s:=Nat.le_mul_of_pos_right n hs
 obtain⟨y,y1,y2,y3,y4,y5⟩:=xz (n:=n) (agg:=agg) hR hn (fE x.w (.cells arr e)) (k:=n) (s:=s) (by rw[h6.1,nK]) (by rw[h6.1]; exact ai _) (by unfold maxLen; omega) (fun j c hc=>⟨aW.1 hp c (cW hc),h6.2 j c hc⟩) nK.symm
 exact fV (by rw[y1]; exact hrun) y2 y3 y4 y5
set_option maxRecDepth 8000 in
theorem Ez (ee:iO P ty) (hR:Rel x) (hn:Bw x.S ay) {t e:TypeId} {s jZ sz sz':Nat} {agg:Bool} {k:TK} {z0:Option (List DV)} {z:List DV} {kd kd':IntKind} {n:Int} (h:ty t=some ⟨.slice e s jZ agg,sz,z0⟩) (he:ty e=some ⟨k,sz',some z⟩)
  (h0:0≤n) (hs:0<s) (Jg:n≤140737488355328-4096) (hb:n.toNat*jZ≤eD) (hp:(z.map DV.aL).all DV.bF=true) :
  Yields x ((do pure (.value (← Instr.makeSlice t (.int kd n) (.int kd' n))):Sem Next).run P x.w) (.gV ay n.toNat agg) (dP x.S ay (.op e s (List.replicate n.toNat (z.map DV.aL)).flatten false)):=by
 obtain⟨hk,i,hi,-,-⟩:=bK (ee t _ h)
 obtain⟨hu,ie,qB,oU,Y4,Dj⟩:=jT hk
 obtain⟨-,ie',zG,-,hz⟩:=bK (ee e _ he)
 rw[qB] at zG
 cases zG
 obtain⟨zv,h1,h2,Zq⟩:=iz hz
 obtain⟨h3,h4⟩:=gB (x:=x) h2
 have MK:zv.cells.size=s:=by rw[← oU,← Zq]; simpa using h3
 have Dt:z.length=s:=by rw[Zq,oU]
 have h4':∀ j c,(z.map DV.aL)[j]? = some c→RV x c (zv.cells.toList.getD j undef):=fun j c hc=>by
  simp only[en,ah] at hc
  obtain⟨c',h1,rfl⟩:=hc
  exact(h4 j c' h1).aL
 have yX:=Cn (n:=n.toNat) (z:=z.map DV.aL) hs (by rw[jh]; exact Dt) MK h4'
 generalize yN:(Array.range (n.toNat*s)).map (zv.cells[· % zv.cells.size]!)=arr at *
 have hlen:(List.replicate n.toNat (z.map DV.aL)).flatten.length=n.toNat*s:=by simp[Dt]
 obtain⟨y,y1,y2,y3,y4,y5⟩:=xz (n:=n.toNat) (agg:=agg) hR hn (fE x.w (.cells arr e)) (k:=n.toNat) (s:=s) (by rw[yX.1,hlen]) (by rw[yX.1]; exact ai _) (by unfold maxLen; omega) (fun j c hc=>⟨by
  have hm:=cW hc
  simp only[List.mem_flatten,List.mem_replicate] at hm
  obtain⟨l,⟨-,rfl⟩,hm⟩:=hm
  exact aW.1 hp c hm,yX.2 j c hc⟩) hlen.symm
 refine fV (v := .slice (some ⟨x.w.heap.size,0,none⟩) n.toNat n.toNat) ?_ y2 y3 y4 y5
 rw[y1]
 have hw:IntKind.i64.wrap n=n:=by rw[IntKind.wrap_i64]; omega
 have hbz:((ie.bytes:Int)*n)≤140737488355328:=by
  have e1:n=(n.toNat:Int):=by omega
  rw[e1,Y4,← Int.natCast_mul,Nat.mul_comm]
  unfold eD at hb
  omega
 have e48:(2:Int) ^ 48=281474976710656:=by decide
 have c1:¬ (n<0):=by omega
 have c2:¬ (281474976710656<(ie.bytes:Int)*n):=by omega
 subst oU
 have hnw:(newRow e arr).run P x.w = .ok ⟨x.w.heap.size,0,none⟩ (x.w.alloc (.cells arr e)):=by simp[newRow]
 have c3:¬ (2 ^ 48<(ie.bytes:Int)*n):=by rw[e48]; exact c2
 have tD:∀ z0:Array Value,(Array.range (n.toNat*ie.size)).map (z0[· % z0.size]!)=arr→(do let a ← newRow e ((Array.range (n.toNat*ie.size)).map (z0[· % z0.size]!)); pure (Value.slice (some a) n.toNat n.toNat):Sem Value).run P x.w = .ok (.slice (some ⟨x.w.heap.size,0,none⟩) n.toNat n.toNat) (x.w.alloc (.cells arr e)):=fun z0 h=>by
  rw[h,Sem.run_bind,hnw,Result.andThen_ok,Sem.run_pure]
 unfold Instr.makeSlice
 simp only[Sem.run_bind,run_underlying hu,Result.andThen_ok,asInt,asIntOf,Sem.run_pure,typeInfo,run_program,qB,hw,fe c1,fe c3,Bool.or_false,gt_iff_lt,fe (Int.lt_irrefl n),aD,if_false,run_askRoom,run_sizeOf qB]
 by_cases EO:n.toNat*ie.size=0
 ·have:=tD #[] (by rw[← yN,EO]; simp)
  simpa only [if_pos EO,Sem.run_bind,Sem.run_pure,Result.andThen_ok] using this
 ·have:=tD zv.cells yN
  simpa only [if_neg EO,zeroValue,typeInfo,run_program,qB,h1,Sem.run_bind,Sem.run_pure,Result.andThen_ok] using this
theorem Bb (ee:iO P ty) (hR:Rel x) (hn:Bw x.S ay) {t u:TypeId} {a b d:DV} {va vb:Value} {S':ak} (ha:RV x a va) (hb:RV x b vb) (h:lW ty x.S ay t a b=some (d,S')) :
  Yields x ((do pure (.value (← Builtin.append_ #[t,t] u #[va,vb])):Sem Next).run P x.w) d S':=by
 unfold lW at h
 split at h
 rotate_left
 ·cases h
 rename_i e s jZ agg sz z0 news Dp VG UF
 obtain⟨hk,it,-,-,-⟩:=bK (ee t _ UF)
 obtain⟨hu,ie,qB,oU,Bv,-⟩:=jT hk
 have EU:=hb
 cases hb with
 | @sl _ _ _ A2 qy s2 vs2 QX MP m1 m2 m3 m4 m5 =>
  split at h
  rotate_left
  ·cases h
  rename_i hte
  obtain⟨z,Wj,MK⟩:∃ z,ie.zero=some z∧z.cells.size=s:=by
   obtain⟨-,ie',zG,Hr,yX⟩:=bK (ee e _ hte)
   rw[qB] at zG
   cases zG
   obtain⟨z,q1,q2,q3⟩:=iz yX
   have:=(gB (x:=x) q2).1
   exact⟨z,q1,by rw[← oU,← q3]; simpa using this⟩
  have emp:∀ (A:Option Addr) (n cap:Nat),n≤cap→news=[]→(Builtin.append_ #[t,t] u #[.slice A n cap,.slice A2 news.length qy]).run P x.w = .ok (.slice A n cap) x.w:=by
   rintro A n cap k1 rfl
   subst oU
   cases A<;>cases A2<;>simp[Builtin.append_,run_underlying hu,run_sizeOf qB,Builtin.lenOf,Builtin.firstCells,loadCells,loadCellsFrom,storeCells,k1]
  have grown:∀ (n cap:Nat),n+news.length≤140737488355328-4096→∀ (w1:List Value),w1.length=n*s→∀ (kZ:List Value),kZ.length=news.length*s→∀ (k:Nat),k=grownCap x.w (n+news.length) cap e→k≤maxLen∧n+news.length≤k ∧
    (w1.toArray++kZ.toArray++Builtin.zeroCells z.cells (k-(n+news.length))).size=k*s:=by
   intro n cap hlen w1 Jf kZ rG k hk
   have ET:=grownCap_ge x.w (n+news.length) cap e
   have hle:=grownCap_le_maxLen x.w (n+news.length) cap e (by simp only[maxLen]; omega)
   subst hk
   refine⟨hle,ET,?_⟩
   simp only[Array.size_append,jP,size_zeroCells,MK,Jf,rG,← jg]
   congr 1
   omega
  have Vn:news≠[]→(∀ r∈news,r.cells.length=s)→0<news.length∧∃ (b2 o2:Nat) (kZ:List Value),A2=some ⟨b2,o2,none⟩∧kZ.length=news.length*s∧(flat news).length=news.length*s∧(∀ c∈flat news,c.bF=true)∧(∀ j c,(flat news)[j]? = some c→RV x c (kZ.getD j undef)) ∧
    (∀ j v,kZ[j]? = some v→x.w.cell? ((⟨b2,o2,none⟩:Addr).add j)=some v)∧∀ u∈kZ,u.oneCell'=true:=by
   intro hne j7
   have hm:0<news.length:=List.length_pos_iff.2 hne
   obtain⟨-,-,-,-,-,WO,Rr,kZ,rG,BN,wu,Cj⟩:=qS EU j7
   obtain⟨UZ,rfl⟩:∃ UZ,A2=some UZ:=by
    cases A2 with
    | none=>have:=m3 rfl; omega
    | some ad=>exact⟨ad,rfl⟩
   have yL:=fW j7
   obtain⟨b2,o2,sp2⟩:=UZ
   have WN:sp2=none:=WO _ rfl (by omega)
   subst WN
   refine⟨hm,b2,o2,kZ,rfl,rG,yL,Rr,BN,fun j v hv => ?_,Cj⟩
   have hj:j<(flat news).length:=by rw[yL,← rG]; exact(aJ.1 hv).1
   obtain⟨b',o',q1,-,q2⟩:=wu j _ (bV hj)
   cases q1
   rw[gI,q2]
   simp[aO,hv]
  split at h
  ·
   rename_i id n ag
   cases ha with
   | @gV _ _ _ e1 s1 l1 z1 A cap UQ hn1 hA1 =>
    split at h
    rotate_left
    ·cases h
    rename_i mM
    simp only[aB,bJ,aW] at mM
    obtain⟨⟨⟨⟨hs,-⟩,j8⟩,hlen⟩,j7⟩:=mM
    split at h
    rotate_left
    ·cases h
    rename_i e' s' l hop
    split at h
    rotate_left
    ·cases h
    rename_i wu
    simp only[aB,bJ] at wu
    obtain⟨c1,c2⟩:=wu
    rw[c1,c2] at hop
    obtain⟨hS,Df⟩:=jU hop
    obtain⟨rfl,rfl,rfl,rfl⟩:e=e1∧s=s1∧l=l1∧false=z1:=by rw[hS] at UQ; cases UQ; exact⟨rfl,rfl,rfl,rfl⟩
    obtain⟨rfl,rfl⟩:=hA1 Df
    obtain⟨cur,t1,t2,t3,t4,t5,-,-⟩:=hR.ops id _ _ _ _ hS
    have hnκ:n≤x.κ id:=Nat.le_of_mul_le_mul_right (show n*s≤x.κ id*s by omega) hs
    split at h
    ·rename_i sM
     cases h
     exact aQ hR (emp _ _ _ hnκ (by simpa using sM)) (.gV hS hn1 fun _=>⟨rfl,rfl⟩)
    rename_i sM
    cases h
    obtain⟨hm,b2,o2,kZ,rfl,rG,yL,Rr,BN,nW,Cj⟩:=Vn (by simpa using sM) j7
    have Vz:(l++flat news).length=(n+news.length)*s:=by rw[cO,yL,jg]; omega
    have xF:∀ c∈l++flat news,c.bF=true:=fun c hc=>by
     rcases jO.1 hc with hc | hc
     ·obtain⟨j,hj⟩:=pN.1 hc
      exact(t5 j c hj).1
     ·exact Rr c hc
    have hlt:l.length<(l++flat news).length:=by rw[cO,yL]; have:=Nat.mul_pos hm hs; omega
    have acG:fR x (flat news) kZ.toArray:=⟨by simp[rG,yL],fun j c hc=>by simpa [aT,aO] using BN j c hc⟩
    by_cases hroom:n+news.length≤x.κ id
    ·have Dw:n*s+kZ.length≤cur.size:=by rw[rG,t2,← jg]; exact eR _ hroom
     have hrun:=run_append_room (P:=P) x.w t u e ie hu qB (x.μ id) n (x.κ id) cur t1 ⟨b2,o2,none⟩ news.length qy kZ (by rw[rG,oU]) nW Cj hroom (by rw[oU]; exact Dw)
     rw[oU,Df] at hrun
     have hp:=Ea (off:=l.length) t3 (fun j c hc=>(t5 j c hc).2) acG (ai _) (by rw[yL]; omega)
     have hsz:(cur.toList.take l.length++kZ++cur.toList.drop (l.length+kZ.length)).toArray.size=cur.size:=by simp; omega
     rw[List.drop_of_length_le (show l.length≤l.length+(flat news).length by omega),gu,fo,jP] at hp
     generalize yN:(cur.toList.take l.length++kZ++cur.toList.drop (l.length+kZ.length)).toArray=arr at *
     have kE:=ze (F:=fun _=>False) (arr:=arr) (b := .op e s (l++flat news) false) hR hS (.inr (.inr ⟨e,s,_,_,rfl,rfl,by omega,by simp,by rw[hsz]; exact t2,by rw[hsz,Vz,t2]; exact eR _ hroom,fun j c hc=>⟨xF c (cW hc),hp j c hc⟩⟩))
     have M:=qX (F:=fun _=>False) (arr:=arr) (b := .op e s (l++flat news) false) hR hS (.inr (.inr ⟨e,s,_,_,rfl,rfl,by omega⟩))
     refine fV hrun (y:=x.upd id arr (fun _=>False) (.op e s (l++flat news) false)) rfl kE M (.gV (e:=e) (s:=s) (l:=l++flat news) (z:=false) (by show (x.S.set _ _)[_]? = _; rw[fK hS,if_pos rfl]) (by omega) fun _=>⟨rfl,rfl⟩)
    ·have o9:∀ j,j<n*s→∃ v,cur[j]? = some v:=fun j hj=>⟨cur[j]'(by omega),bL _⟩
     have Jf:(cur.toList.take (n*s)).length=n*s:=by simp; omega
     obtain⟨g1,g2,g3⟩:=grown n (x.κ id) hlen _ Jf _ rG _ rfl
     have hrun:=run_append_grow (P:=P) x.w t u e ie z hu qB Wj ⟨x.μ id,0,none⟩ n (x.κ id) (cur.toList.take (n*s)) (by rw[Jf,oU]) (fun j v hv=>by
       have hj:j<n*s:=by rw[← Jf]; exact(aJ.1 hv).1
       rw[mb,if_pos hj] at hv
       rw[gI]
       simp only[World.cell?,t1,gQ]
       simpa using hv) ⟨b2,o2,none⟩ news.length qy kZ (by rw[rG,oU]) nW (by omega) (by omega) (growslice_fits (by omega) (by rw[Bv]; exact j8))
     generalize hk0:grownCap x.w (n+news.length) (x.κ id) e=k at *
     obtain⟨v1,v2⟩:=xy (Z:=Builtin.zeroCells z.cells (k-(n+news.length))) Jf rG
     generalize yN:(cur.toList.take (n*s)).toArray++kZ.toArray++Builtin.zeroCells z.cells (k-(n+news.length))=arr at *
     have hp:mH x.w (x.w.drew.alloc (.cells arr e)) (.cells arr e (0,0)):=⟨rfl,rfl,rfl⟩
     have hcc:∀ j c,(l++flat news)[j]? = some c→c.bF=true∧RV x c (arr.getD j undef):=fun j c hc=>by
      refine⟨xF c (cW hc),?_⟩
      by_cases hj:j<l.length
      ·rw[ep hj] at hc
       rw[v1 j (by omega)]
       have:=(t5 j c hc).2
       simpa [aT,aO,mb,show j<n*s by omega] using this
      ·rw[fQ (by omega)] at hc
       have Rs:j-l.length<(flat news).length:=(aJ.1 hc).1
       have e1:j=n*s+(j-l.length):=by omega
       rw[e1,v2 _ (by omega)]
       exact BN _ c hc
     have kE:=PT (k:=k) hR hS hp hlt g3 (by rw[g3,Vz]; exact eR _ g2) g1 hcc
     have M:=CH (k:=k) hR hS hp hlt
     refine fV hrun (y:=x.iX (x.w.drew.alloc (.cells arr e)) id k (fun _=>False) (.op e s (l++flat news) false)) rfl kE M (.gV (e:=e) (s:=s) (l:=l++flat news) (z:=false) (by show (x.S.set _ _)[_]? = _; rw[fK hS,if_pos rfl]) (by omega) fun _ => ?_)
     exact⟨congrArg (fun b=>some (⟨b,0,none⟩:Addr)) (if_pos rfl:(if id=id then _ else _)=_).symm,(if_pos rfl:(if id=id then k else _)=k).symm⟩
  ·
   rename_i f
   cases ha with
   | @sl _ _ _ A cap s1 vs1 K1 wh k1 k2 k3 k4 k5 =>
    split at h
    ·rename_i sM
     cases h
     exact aQ hR (emp _ _ _ k1 (by simpa using sM)) (.sl K1 wh k1 k2 k3 k4 k5)
    rename_i sM
    split at h
    rotate_left
    ·cases h
    rename_i mM
    simp only[aB,bJ,aW] at mM
    obtain⟨⟨⟨⟨⟨acS,hs⟩,-⟩,j8⟩,hlen⟩,j7⟩:=mM
    cases h
    obtain⟨hm,b2,o2,kZ,rfl,rG,yL,Rr,BN,nW,Cj⟩:=Vn (by simpa using sM) j7
    have E4:cap=0:=k2.1 acS
    subst E4
    obtain⟨g1,g2,g3⟩:=grown 0 0 (by omega) [] (by simp) _ rG _ rfl
    have hrun:(Builtin.append_ #[t,t] u #[.slice A ([]:List DV).length 0,.slice (some ⟨b2,o2,none⟩) news.length qy]).run P x.w =
      .ok (.slice (some ⟨x.w.heap.size,0,none⟩) news.length (grownCap x.w news.length 0 e)) (x.w.drew.alloc (.cells (kZ.toArray++Builtin.zeroCells z.cells (grownCap x.w news.length 0 e-news.length)) e)):=by
     cases A with
     | none=>exact run_append_nil (P:=P) x.w t u e ie z hu qB Wj ⟨b2,o2,none⟩ news.length qy kZ (by rw[rG,oU]) nW hm (by omega) (by rw[Bv]; unfold eD at j8; omega)
     | some ad =>
      have:=run_append_grow (P:=P) x.w t u e ie z hu qB Wj ad 0 0 [] (by simp) (by simp) ⟨b2,o2,none⟩ news.length qy kZ (by rw[rG,oU]) nW (by omega) (by omega) (growslice_fits (by omega) (by rw[Bv,gQ]; exact j8))
      simpa using this
    simp only[gQ] at g1 g2 g3
    generalize hk0:grownCap x.w news.length 0 e=k at *
    have v2:∀ j,j<news.length*s→(kZ.toArray++Builtin.zeroCells z.cells (k-news.length)).getD j undef=kZ.getD j undef:=fun j hj=>by
     rw[aT,vr (by simp; omega)]
     simp[aO]
    have g3':(kZ.toArray++Builtin.zeroCells z.cells (k-news.length)).size=k*s:=by simpa using g3
    obtain⟨y,y1,y2,y3,y4,y5⟩:=xz (n:=news.length) (agg:=agg) hR hn (w':=x.w.drew.alloc (.cells (kZ.toArray++Builtin.zeroCells z.cells (k-news.length)) e)) (e:=e) (l:=flat news) (k:=k) (s:=s) ⟨rfl,rfl,rfl⟩ g3' (by rw[g3',yL]; exact eR _ g2) g1 (fun j c hc=>⟨Rr c (cW hc),by
     have hj:j<(flat news).length:=(aJ.1 hc).1
     rw[v2 j (by omega)]
     exact BN j c hc⟩) yL.symm
    exact fV (by rw[y1]; exact hrun) y2 y3 y4 y5
  ·cases h
theorem look_ok (hR:Rel x) {d:DV} {v:Value} (h:RV x d v):RV x (iY x.S d) v:=by
 cases h with
 | @gV id n agg e1 s1 l1 z1 A cap hS hn hA =>
  unfold iY
  dsimp only
  split
  ·rename_i e s l hop
   obtain⟨yZ,Df⟩:=jU hop
   obtain⟨rfl,rfl,rfl,rfl⟩:e=e1∧s=s1∧l=l1∧true=z1:=by rw[yZ] at hS; cases hS; exact⟨rfl,rfl,rfl,rfl⟩
   split
   ·rename_i hc
    simp only[aB,eP,cV,bJ] at hc
    obtain⟨rfl,rfl⟩:=hA Df
    obtain⟨arr,h1,h2,h3,-,h4,h5,-⟩:=hR.ops id e s l true hS
    obtain⟨rH,Nh⟩:=CY hc.1 hc.2 (fun c hm=>by
     obtain⟨j,hj⟩:=pN.1 hm
     exact(h4 j c hj).1) n Df.symm
    have YT:(rowsOf s agg l n).length=n:=by simp[rowsOf]
    suffices hk:RV x (.sl (rowsOf s agg l n) none ⟨false,some false⟩) (.slice (some ⟨x.μ id,0,none⟩) (rowsOf s agg l n).length (x.κ id)) by rw[YT] at hk; exact hk
    refine RV.sl (tok:=none) (Ag Nh (fun c hm => ?_) (by rw[rH]; exact h3) h1 fun j hj=>h5 rfl j (by rw[rH] at hj; exact hj)) (fun j c hc => ?_) ?_ ⟨by simp,fun b h=>by cases h; rfl⟩ (by simp) (fun ad h _=>by cases h; rfl) (fun t ht=>nomatch ht)
    ·rw[rH] at hm
     obtain⟨j,hj⟩:=pN.1 hm
     exact(h4 j c hj).1
    ·rw[rH] at hc
     exact(h4 j c hc).2
    ·rw[YT]
     exact Nat.le_of_mul_le_mul_right (show n*s≤x.κ id*s by omega) hc.1
   ·exact .gV hS hn hA
  ·exact .gV hS hn hA
 | val h=>exact .val h
 | agg h hl=>exact .agg h hl
 | tup h hl=>exact .tup h hl
 | sl hv hr h1 h2 h3 hsp h4=>exact .sl hv hr h1 h2 h3 hsp h4
 | ptr h=>exact .ptr h
 | ey hv hr=>exact .ey hv hr
 | fn h1 h2 h3 h4=>exact .fn h1 h2 h3 h4
 | map h=>exact .map h
 | zx h=>exact .zx h
 | eT h h1 h2=>exact .eT h h1 h2
theorem Ih (hR:Rel x) (d:DV):∃ y,y.w=x.w∧y.S=uH x.S d∧Rel y∧bE x y:=by
 unfold uH
 split
 ·rename_i id n ag
  split
  ·rename_i e s l hop
   obtain⟨hS,-⟩:=jU hop
   exact⟨x.close id e s l,rfl,rfl,LQ hR hS,Bf hS⟩
  ·exact⟨x,rfl,rfl,hR,bE.refl x⟩
 ·exact⟨x,rfl,rfl,hR,bE.refl x⟩
theorem Kz:∀ (l:List DV) {x:Cx},Rel x→∃ y,y.w=x.w∧y.S=l.foldl uH x.S∧Rel y∧bE x y
 | [],x,hR=>⟨x,rfl,rfl,hR,bE.refl x⟩
 | d::l,x,hR=>by
  obtain⟨y,y1,y2,y3,y4⟩:=Ih hR d
  obtain⟨z,z1,z2,z3,z4⟩:=Kz l y3
  exact⟨z,z1.trans y1,by rw[z2,y2,List.foldl_cons],z3,y4.trans z4⟩
theorem KB (hR:Rel x) (d:DV):∃ y,y.w=x.w∧y.S=qv x.S d∧Rel y∧bE x y:=by
 have o:qv x.S d=uH x.S d→∃ y,y.w=x.w∧y.S=qv x.S d∧Rel y∧bE x y:=fun e=>by rw[e]; exact Ih hR d
 cases d
 case agg l=>exact Kz _ hR
 all_goals exact o rfl
theorem Kv:∀ (l:List DV) {x:Cx},Rel x→∃ y,y.w=x.w∧y.S=l.foldl qv x.S∧Rel y∧bE x y
 | [],x,hR=>⟨x,rfl,rfl,hR,bE.refl x⟩
 | d::l,x,hR=>by
  obtain⟨y,y1,y2,y3,y4⟩:=KB hR d
  obtain⟨z,z1,z2,z3,z4⟩:=Kv l y3
  exact⟨z,z1.trans y1,by rw[z2,y2,List.foldl_cons],z3,y4.trans z4⟩
theorem Ub (hR:Rel x) (d:DV):∃ y,y.w=x.w∧y.S=Dx x.S d∧Rel y∧bE x y:=by
 have o:Dx x.S d=qv x.S d→∃ y,y.w=x.w∧y.S=Dx x.S d∧Rel y∧bE x y:=fun e=>by rw[e]; exact KB hR d
 cases d
 case tup l=>exact Kv _ hR
 all_goals exact o rfl
theorem Qp (hR:Rel x) {l:List DV} {vs:Array Value} (h:∀ j c,l[j]? = some c→RV x c (vs.getD j undef)) (j:Nat) (c:DV) (hj:(l.map (iY x.S))[j]? = some c):RV x c (vs.getD j undef):=by
 simp only[en,ah] at hj
 obtain⟨c',h2,rfl⟩:=hj
 exact look_ok hR (h j c' h2)
theorem Ga (hR:Rel x) {d:DV} {v:Value} (h:RV x d v):RV x (qf x.S d) v:=by
 cases h with
 | agg h1 h2=>exact .agg (by simpa using h1) (Qp hR h2)
 | val h=>exact look_ok hR (.val h)
 | tup h1 h2=>exact look_ok hR (.tup h1 h2)
 | sl hv hr h1 h2 h3 hsp h4=>exact look_ok hR (.sl hv hr h1 h2 h3 hsp h4)
 | ptr h=>exact look_ok hR (.ptr h)
 | ey hv hr=>exact look_ok hR (.ey hv hr)
 | fn h1 h2 h3 h4=>exact look_ok hR (.fn h1 h2 h3 h4)
 | map h=>exact look_ok hR (.map h)
 | zx h=>exact look_ok hR (.zx h)
 | gV h h1 h2=>exact look_ok hR (.gV h h1 h2)
 | eT h h1 h2=>exact look_ok hR (.eT h h1 h2)
theorem Qq (hR:Rel x) {d:DV} {v:Value} (h:RV x d v):RV x (qH x.S d) v:=by
 cases d
 case tup l =>
  cases h with
  | tup h1 h2 =>
   refine .tup (by simpa using h1) fun j c hj => ?_
   simp only[en,ah] at hj
   obtain⟨c',h3,rfl⟩:=hj
   exact Ga hR (h2 j c' h3)
 all_goals exact Ga hR h
theorem Eh {env:List DV}:∀ (l:List Operand) {x:Cx},Rel x→∃ y,y.w=x.w∧y.S=l.foldl (oq env) x.S∧Rel y∧bE x y
 | [],x,hR=>⟨x,rfl,rfl,hR,bE.refl x⟩
 | a::l,x,hR=>by
  rw[List.foldl_cons]
  cases he:gX env a with
  | none=>rw[show oq env x.S a=x.S by unfold oq; rw[he]]; exact Eh l hR
  | some d =>
   rw[show oq env x.S a=uH x.S d by unfold oq; rw[he]]
   obtain⟨y,y1,y2,y3,y4⟩:=Ih hR d
   obtain⟨z,z1,z2,z3,z4⟩:=Eh (env:=env) l y3
   exact⟨z,z1.trans y1,by rw[z2,y2],z3,y4.trans z4⟩
theorem X2 {env:List DV} {arr:Array Value} (o:Oper) (hR:Rel x) (he:fR x env arr):∃ y,y.w=x.w∧y.S=(BL ty o env x.S).2∧Rel y∧bE x y∧fR y (BL ty o env x.S).1 arr:=by
 unfold BL
 split
 ·obtain⟨y,y1,y2,y3,y4⟩:=Eh (env:=env) o.op.operands.toList hR
  refine⟨y,y1,y2,y3,y4,by simpa using he.1,fun j c hc => ?_⟩
  simp only[en,ah] at hc
  obtain⟨c',h1,rfl⟩:=hc
  rw[← y2]
  exact look_ok y3 ((he.2 j c' h1).mono y4)
 ·exact⟨x,rfl,rfl,hR,bE.refl x,he⟩
end Go.Di
end
section
namespace Go.Di
open Go
variable {P : Program} {ty : fI} {x : Cx} {w' : World} {aI : bM} {call : bz} {yf : eE} {ρd : Operand → Option DV} {ρ : Operand → Value} {o : Oper} {ay : Nat}
theorem CX {s : Nat} : ∀ {rows : List DV} (_ : ∀ r ∈ rows, r.cells.length = s) (h : Nat), flat (rows.take h) = (flat rows).take (h * s)
 | [], _, h => by simp [flat]
 | r :: rows, hs, 0 => by simp [flat]
 | r :: rows, hs, h + 1 => by
  have h0 := hs r (by simp)
  have ih := CX (rows := rows) (fun r hr => hs r (by simp [hr])) h
  simp only [flat] at ih
  simp only [List.take_succ_cons, flat, gv, ih]
  have e1 : r.cells.take ((h + 1) * s) = r.cells := vq (by rw [h0, kK]; omega)
  have e2 : (h + 1) * s - s = h * s := by rw [kK]; omega
  rw [List.take_append, h0, e1, e2]
theorem C0 {s : Nat} : ∀ {rows : List DV} (_ : ∀ r ∈ rows, r.cells.length = s) (l : Nat), flat (rows.drop l) = (flat rows).drop (l * s)
 | [], _, l => by simp [flat]
 | r :: rows, hs, 0 => by simp
 | r :: rows, hs, l + 1 => by
  have h0 := hs r (by simp)
  have ih := C0 (rows := rows) (fun r hr => hs r (by simp [hr])) l
  simp only [flat] at ih
  simp only [List.drop_succ_cons, flat, gv, ih]
  have e1 : r.cells.drop ((l + 1) * s) = [] := List.drop_of_length_le (by rw [h0, kK]; omega)
  have e2 : (l + 1) * s - s = l * s := by rw [kK]; omega
  rw [List.drop_append, h0, e1, e2, List.nil_append]
theorem xC {ρd : Operand → Option DV} {ρ : Operand → Value} (hρ : uL x ρd ρ) {a : Operand} {dF n : Nat} {d : Nat} (h : fU ρd (some a) d dF = some n) (y : Nat) (hy : dF ≤ y) (code : BoundsCode) (w : World) : n ≤ dF ∧ (Instr.sliceBound (ρ a) y code).run P w = .ok n w := by
 unfold fU at h
 simp only at h
 split at h
 ·rename_i i hi
  split at h
  ·rename_i hc
   cases h
   obtain ⟨k, hk⟩ := kW hρ hi
   refine ⟨hc.2, ?_⟩
   have wu : 0 ≤ i ∧ i ≤ (y : Int) := ⟨hc.1, by omega⟩
   simp only [Instr.sliceBound, hk, asIntOf, Sem.run_bind, Sem.run_pure, Result.andThen_ok, wu, and_self, if_true]
  ·cases h
 ·cases h
theorem OS {rows : List DV} {tok : Option Nat} {f : SF} {A : Option Addr} {n cap : Nat} (h : RV x (.sl rows tok f) (.slice A n cap)) : ∀ b, HD rows f = some b → A.isNone = b := by
 intro b hb
 cases h with
 | sl hv hr h1 h2 h3 hsp h4 =>
  unfold HD at hb
  split at hb
  ·exact h2.2 b hb
  ·rename_i hne
   cases hb
   cases A with
   | none =>
    have := h3 rfl
    have h0 : rows = [] := dm (by omega)
    exact absurd (by simp [h0]) hne
   | some ad => rfl
theorem Mj (ee : iO P ty) {op : BinOp} {t : TypeId} {a b : Operand} {d : DV} (hρ : uL x ρd ρ) (h : zU ty op t (ρd a) (ρd b) = some d) :
  ∃ v, (do eqGuard op t a b (ρ a) (ρ b); binOp op t (ρ a) (ρ b) : Sem Value).run P x.w = .ok v x.w ∧ RV x d v := by
 unfold zU at h
 split at h
 ·rename_i rows tok f Dp f2 ha hb
  have ra := hρ a _ ha
  have rb := hρ b _ hb
  generalize ρ a = va at ra ⊢
  generalize ρ b = vb at rb ⊢
  split at h
  ·rename_i e s jZ agg sz z c UF hn
   obtain ⟨hk, it, -, -, -⟩ := bK (ee t _ UF)
   obtain ⟨hu, -⟩ := jT hk
   have ra0 := ra
   have rb0 := rb
   cases ra with
   | @sl _ _ _ A cap s1 vs1 K1 wh k1 k2 k3 k4 k5 =>
    cases rb with
    | @sl _ _ _ A2 qy s2 vs2 QX MP m1 m2 m3 m4 m5 =>
     have hA := OS ra0 c hn
     have ZW := m2.2 true rfl
     have : A2 = none := by simpa using ZW
     subst this
     have heq : (Op.equal t (.slice A rows.length cap) (.slice none 0 qy)).run P x.w = .ok c x.w := by
      subst hA
      obtain ⟨n, qz⟩ : ∃ n, Op.maxDepth = n + 1 := ⟨9999, rfl⟩
      cases A <;> simp only [Op.equal, qz, Op.equalIn, Sem.run_bind, run_underlying hu, Result.andThen_ok, Sem.run_pure, Option.isNone_none, Option.isNone_some]
     split at h
     ·cases h
      exact ⟨.bool c, by simp [eqGuard, binOp, heq], .val rfl⟩
     ·cases h
      exact ⟨.bool (!c), by simp [eqGuard, binOp, heq], .val rfl⟩
     ·cases h
  ·cases h
 ·cases h
theorem Qc (ee : iO P ty) (hR : Rel x) (hρ : uL x ρd ρ) {t e : TypeId} {s jZ sz : Nat} {agg : Bool} {z : Option (List DV)} (UF : ty t = some ⟨.slice e s jZ agg, sz, z⟩) {rows : List DV} {tok : Option Nat} {full : SF} {va : Value} (ha : RV x (.sl rows tok full) va) (mL : ∀ r ∈ rows, r.cells.length = s)
  {lo hi mx : Option Operand} {m h l : Nat} {d : DV} (hm : fU ρd mx rows.length rows.length = some m) (hh : fU ρd hi rows.length m = some h) (hl : fU ρd lo 0 h = some l) (YZ : (hi.isNone && mx.isSome) = false) (hd : o7 rows full l h (mx.map fun _ => m) = some d) :
  Yields x ((do pure (.value (← Instr.sliceAt t va (lo.map ρ) (hi.map ρ) (mx.map ρ))) : Sem Next).run P x.w) d x.S := by
 obtain ⟨hk, it, -, -, -⟩ := bK (ee t _ UF)
 obtain ⟨hu, ie, qB, oU, -, -⟩ := jT hk
 have rH := fW mL
 have BC := ha
 cases ha with
 | @sl _ _ _ A cap s1 vs1 K1 wh k1 k2 k3 k4 k5 =>
  obtain ⟨-, -, -, -, -, hsp, YU, ws, hwl, MO, hc, -⟩ := qS BC mL
  have aaC := OS BC
  have hbm : m ≤ rows.length ∧ ∃ M, (∀ w : World, (match mx.map ρ with | some v => Instr.sliceBound v cap .slice3Acap | none => pure cap : Sem Nat).run P w = .ok M w) ∧ m ≤ M ∧ M ≤ cap ∧ (mx.isSome = true → M = m) ∧ (mx = none → M = cap ∧ m = rows.length) := by
   cases mx with
   | none =>
    simp only [fU, az] at hm
    subst hm
    exact ⟨ai _, cap, fun w => rfl, k1, ai _, by simp, fun _ => ⟨rfl, rfl⟩⟩
   | some a =>
    have := fun w => xC (P := P) hρ hm cap k1 .slice3Acap w
    exact ⟨(this default).1, m, fun w => (this w).2, ai _, bk (this default).1 k1, fun _ => rfl, by simp⟩
  obtain ⟨hmr, M, hM, hmM, hMc, hMs, hMn⟩ := hbm
  have hbh : h ≤ rows.length ∧ h ≤ M ∧ ∀ w : World, (match hi.map ρ, mx.map ρ with | some v, some _ => Instr.sliceBound v M .slice3B | some v, none => Instr.sliceBound v M .sliceAcap | none, none => pure rows.length | none, some _ => stuck "Slice: max without high" : Sem Nat).run P w = .ok h w := by
   cases hi with
   | none =>
    cases mx with
    | none =>
     simp only [fU, az] at hh
     subst hh
     exact ⟨ai _, by rw [(hMn rfl).1]; exact k1, fun w => rfl⟩
    | some a => simp at YZ
   | some b =>
    have q1 := fun c w => xC (P := P) hρ hh M hmM c w
    have q2 := (q1 .slice3B default).1
    refine ⟨bk q2 hmr, bk q2 hmM, fun w => ?_⟩
    cases mx with
    | none => exact (q1 .sliceAcap w).2
    | some a => exact (q1 .slice3B w).2
  obtain ⟨hhr, hhM, hH⟩ := hbh
  have hbl : l ≤ h ∧ ∀ w : World, (match lo.map ρ with | some v => Instr.sliceBound v h (if (mx.map ρ).isSome then .slice3C else .sliceB) | none => pure 0 : Sem Nat).run P w = .ok l w := by
   cases lo with
   | none =>
    simp only [fU, az] at hl
    subst hl
    exact ⟨jN _, fun w => rfl⟩
   | some a =>
    have q1 := fun c w => xC (P := P) hρ hl h (ai _) c w
    exact ⟨(q1 .slice3C default).1, fun w => (q1 _ w).2⟩
  obtain ⟨hlh, hL⟩ := hbl
  have hA' : ∀ A', A' = (if M = l then A else A.map (·.add (l * s))) → (A' = none → M - l = 0) ∧ (∀ ad, A' = some ad → 0 < M - l → ad.spot = none) := by
   intro A' hA
   subst hA
   split
   ·exact ⟨fun _ => by omega, fun _ _ h => absurd h (by omega)⟩
   ·cases A with
    | none => have := k3 rfl; exact ⟨fun _ => by omega, by simp⟩
    | some ad =>
     refine ⟨by simp, fun Z2 h hp => ?_⟩
     simp only [Option.map_some, az] at h
     subst h
     have := k4 ad rfl (by omega)
     obtain ⟨b, o, sp⟩ := ad
     simp only at this
     subst this
     rw [gI]
  have aaB : ∀ (Wq : Option Nat) (Fi : SF), (Fi.full = true → M - l = h - l) ∧ OB Fi A → Wq = none → RV x (.sl ((rows.take h).drop l) Wq Fi) (.slice (if M = l then A else A.map (·.add (l * s))) (h - l) (M - l)) := by
   intro Wq Fi uQ acB
   subst acB
   obtain ⟨hA1, ZW⟩ := hA' _ rfl
   have hlen : ((rows.take h).drop l).length = h - l := by simp; omega
   have Yk : ∀ r ∈ (rows.take h).drop l, r.cells.length = s := fun r hr => mL r (List.mem_of_mem_take (List.mem_of_mem_drop hr))
   have abu : flat ((rows.take h).drop l) = ((flat rows).take (h * s)).drop (l * s) := by
    rw [C0 (fun r hr => mL r (List.mem_of_mem_take hr)), CX mL]
   have sZ : ∀ j c, (flat ((rows.take h).drop l))[j]? = some c → (flat rows)[l * s + j]? = some c ∧ l * s + j < h * s := by
    intro j c MU
    rw [abu, pK, mb] at MU
    split at MU
    ·exact ⟨MU, ‹_›⟩
    ·cases MU
   have hv : View x ((rows.take h).drop l) (if M = l then A else A.map (·.add (l * s))) s (fun j => ws.getD (l * s + j) undef) := by
    refine ⟨Yk, fun j c MU => ?_⟩
    obtain ⟨q1, q2⟩ := sZ j c MU
    obtain ⟨b, o, r1, r2, r3⟩ := hc _ _ q1
    refine ⟨YU c (cW q1), b, o + l * s, ?_, by rw [fO]; exact r2, by rw [fO]; exact r3⟩
    have hlt : l < h := by
     rcases Nat.lt_or_ge l h with h1 | h1
     ·exact h1
     ·have : h * s ≤ l * s := eR _ h1; omega
    rw [if_neg (by omega), r1]
    simp only [Option.map_some, gI]
   have := RV.sl (tok := none) (full := Fi) (cap := M - l) hv (fun j c MU => MO _ _ (sZ j c MU).1) (by rw [hlen]; omega) ⟨fun hf => by rw [hlen]; exact uQ.1 hf, fun b hb => by rw [← uQ.2 b hb]; split <;> simp⟩ hA1 ZW (fun t ht => nomatch ht)
   rw [hlen] at this
   exact this
  have hrun : (Instr.sliceAt t (.slice A rows.length cap) (lo.map ρ) (hi.map ρ) (mx.map ρ)).run P x.w = .ok (.slice (if M = l then A else A.map (·.add (l * s))) (h - l) (M - l)) x.w := by
   have hb : (Instr.sliceBounds true rows.length cap (lo.map ρ) (hi.map ρ) (mx.map ρ)).run P x.w = .ok (l, h, M) x.w := by
    have UT := hM x.w
    have hH' := hH x.w
    have Rz := hL x.w
    unfold Instr.sliceBounds
    revert UT hH' Rz YZ
    cases mx <;> cases hi <;> cases lo <;> intro UT hH' Rz YZ <;>
     simp only [Option.map_none, Option.map_some, Sem.run_pure, Result.ok.injEq, and_true, Option.isSome_some, Option.isSome_none, Option.isNone_none, fP, Bool.true_eq_false, if_true, aD, if_false] at UT hH' Rz YZ ⊢ <;>
     (try subst UT) <;> (try subst hH') <;> (try subst Rz) <;> simp only [Sem.run_bind, Result.andThen_ok, Sem.run_pure, *]
   unfold Instr.sliceAt
   simp only [Sem.run_bind, run_underlying hu, Result.andThen_ok, Instr.slice, hb, run_sizeOf qB, Sem.run_pure, oU]
  unfold o7 at hd
  rw [if_pos hlh] at hd
  cases mx with
  | none =>
   simp only [Option.map_none, az] at hd
   subst hd
   refine aQ hR hrun (aaB _ _ ⟨fun hf => ?_, aaC⟩ rfl)
   simp only [aB, cV] at hf
   rw [(hMn rfl).1, k2.1 hf.1, hf.2]
  | some a =>
   simp only [Option.map_some] at hd
   by_cases hc : h ≤ m
   ·rw [if_pos hc] at hd
    simp only [az] at hd
    subst hd
    refine aQ hR hrun (aaB _ _ ⟨fun hf => ?_, aaC⟩ rfl)
    simp only [cV] at hf
    rw [hMs rfl, hf]
   ·rw [if_neg hc] at hd
    cases hd
def Op.lone : Op → Bool
 | .call { callee := .builtin _, .. } => true
 | .call _ => false
 | _ => true
set_option maxHeartbeats 1000000 in
theorem LC (ee : iO P ty) (hR : Rel x) (hn : Bw x.S ay) (hρ : uL x ρd ρ) (hop : Op.lone o.op = true) {d : DV} {S' : ak} (h : af P ty aI call yf ρd o x.S ay = some (d, S')) : Yields x ((execOp ρ o).run P x.w) d S' := by
 obtain ⟨dst, op, type, pos, after, guard⟩ := o
 cases op with
 | move a =>
  simp only [af, ah, av] at h
  obtain ⟨d', h1, rfl, rfl⟩ := h
  exact ⟨ρ a, x, .inl rfl, rfl, hR, bE.refl x, hρ a _ h1⟩
 | assign a =>
  simp only [af, ah, av] at h
  obtain ⟨d', h1, rfl, rfl⟩ := h
  exact ⟨ρ a, x, .inl rfl, rfl, hR, bE.refl x, hρ a _ h1⟩
 | pick c a b =>
  simp only [af] at h
  split at h
  ·rename_i t hc
   have hcv := tI (hρ c _ hc)
   simp only [ah, av] at h
   obtain ⟨d', h1, rfl, rfl⟩ := h
   cases t with
   | true => exact ⟨ρ a, x, .inl (by simp [execOp, hcv, asBool]), rfl, hR, bE.refl x, hρ a _ h1⟩
   | false => exact ⟨ρ b, x, .inl (by simp [execOp, hcv, asBool]), rfl, hR, bE.refl x, hρ b _ h1⟩
  ·cases h
 | alloc e =>
  simp only [af] at h
  split at h
  ·rename_i hk
   cases h
   exact Qd ee hR hn hk
  ·cases h
 | box e a =>
  simp only [af] at h
  split at h
  ·rename_i d' h1
   cases h
   exact X8 hR hn (hρ a _ h1)
  ·cases h
 | build t ps =>
  simp only [af] at h
  split at h
  ·rename_i hk hl
   simp only [ah, av] at h
   obtain ⟨cs, h1, rfl, rfl⟩ := h
   exact yT ee hR hρ hk hl h1
  ·rename_i hk hl
   simp only [ah, av] at h
   obtain ⟨cs, h1, rfl, rfl⟩ := h
   exact Bo ee hR hρ hk hl h1
  ·cases h
 | buildSlice t n ps =>
  simp only [af] at h
  split at h
  ·rename_i e s jZ agg sz z0 l hk hl
   split at h
   ·rename_i k sz' z he
    split at h
    ·rename_i hc
     simp only [aB, bJ] at hc
     split at h
     ·rename_i cs hf
      split at h
      ·rename_i hp
       simp only [aB, eP, cV] at hp
       split at h
       ·cases h
        exact Me ee hR hn hρ hk hl he hc.1 hc.2 hf hp.1
       ·cases h
        exact BX ee hR hρ hk hl he hc.1 hc.2 hf hp.1 hp.2
      ·cases h
     ·cases h
    ·cases h
   ·cases h
  ·cases h
 | makeSlice t a b =>
  simp only [af] at h
  split at h
  ·rename_i e s jZ agg sz z0 n m hk ha hb
   split at h
   ·rename_i k sz' z he
    split at h
    ·rename_i hc
     simp only [aB, eP, cV, bJ] at hc
     obtain ⟨⟨⟨⟨⟨⟨h0, rfl⟩, hs⟩, -⟩, h1⟩, h2⟩, h3⟩ := hc
     cases h
     obtain ⟨kd, hka⟩ := kW hρ ha
     obtain ⟨kd', hkb⟩ := kW hρ hb
     have h4 := Ez (kd := kd) (kd' := kd') ee hR hn hk he h0 hs h1 h2 h3
     rw [← hka, ← hkb] at h4
     exact h4
    ·cases h
   ·cases h
  ·cases h
 | load t a =>
  simp only [af] at h
  split at h
  ·rename_i a' h1
   simp only [ah, av] at h
   obtain ⟨d', h2, rfl, rfl⟩ := h
   obtain ⟨v, h3, h4⟩ := Gb ee hR (hρ a _ h1) h2
   exact aQ hR h3 h4
  ·cases h
 | store t a v =>
  simp only [af] at h
  split at h
  ·rename_i a' v' h1 h2
   simp only [ah, av] at h
   obtain ⟨S2, h3, rfl, rfl⟩ := h
   obtain ⟨y, h4, h5, h6, h7⟩ := LB ee hR (hρ a _ h1) (hρ v _ h2) h3
   exact FC h4 h5 h6 h7
  ·cases h
 | nilCheck a =>
  simp only [af] at h
  split at h
  ·rename_i id off h1
   cases h
   have := hρ a _ h1
   generalize hv : ρ a = v at this
   cases this with
   | ptr hS => exact ⟨_, x, .inl (by simp only [execOp, hv]; rfl), rfl, hR, bE.refl x, .ptr hS⟩
  ·cases h
 | binOp op t a b u =>
  simp only [af] at h
  split at h
  ·rename_i va vb h1 h2
   simp only [ah, av] at h
   obtain ⟨d', h3, rfl, rfl⟩ := h
   obtain ⟨v, h4, h5⟩ := mz (x := x) h3 x.w
   rw [← eL hρ h1, ← eL hρ h2] at h4
   exact aQ hR h4 h5
  ·simp only [ah, av] at h
   obtain ⟨d', h3, rfl, rfl⟩ := h
   obtain ⟨v, h4, h5⟩ := Mj ee hρ h3
   exact aQ hR h4 h5
 | unOp op t a =>
  simp only [af] at h
  split at h
  ·rename_i va h1
   simp only [ah, av] at h
   obtain ⟨d', h3, rfl, rfl⟩ := h
   obtain ⟨v, h4, h5⟩ := mz (x := x) h3 x.w
   rw [← eL hρ h1] at h4
   exact aQ hR h4 h5
  ·cases h
 | convert s t a =>
  simp only [af] at h
  split at h
  ·rename_i va h1
   simp only [ah, av] at h
   obtain ⟨d', h3, rfl, rfl⟩ := h
   obtain ⟨v, h4, h5⟩ := mz (x := x) h3 x.w
   rw [← eL hρ h1] at h4
   exact aQ hR h4 h5
  ·cases h
 | makeFunc fn fs cs =>
  cases fn with
  | func f =>
   simp only [af] at h
   split at h
   ·rename_i a b h1 h2
    cases h
    have e1 := tN hρ h1
    have e2 := tN hρ h2
    refine aQ hR (v := .func (.func f) (fs.map ρ) (cs.map ρ)) rfl (.fn (by simpa using e1.1) (by simpa using e2.1) (fun j c hc => ?_) (fun j c hc => ?_))
    ·have := e1.2 j c hc
     simpa [aT] using this
    ·have := e2.2 j c hc
     simpa [aT] using this
   ·cases h
  | _ => simp [af] at h
 | slice t a lo hi mx =>
  simp only [af] at h
  split at h
  ·rename_i s sz z rows tok full hk ha
   split at h
   ·cases h
   ·rename_i mL
    simp only [Bool.not_eq_true', Bool.not_eq_false, aW, bJ] at mL
    split at h
    ·rename_i m hm
     split at h
     ·rename_i h' hh
      split at h
      ·rename_i l hl
       split at h
       ·cases h
       ·rename_i YZ
        simp only [ah, av] at h
        obtain ⟨d', h3, rfl, rfl⟩ := h
        exact Qc ee hR hρ hk (hρ a _ ha) mL hm hh hl (by simpa using YZ) h3
      ·cases h
     ·cases h
    ·cases h
  ·cases h
 | fieldAddr t a f =>
  simp only [af] at h
  split at h
  ·rename_i fs sz z id off hk ha
   split at h
   ·rename_i o s agg hf
    split at h
    ·rename_i hs
     cases h
     have := hρ a _ ha
     generalize hv : ρ a = v at this
     cases this with
     | ptr hS => exact aQ hR (by rw [hv]; exact pY ee hk hf hs _ _ _) (.ptr hS)
    ·cases h
   ·cases h
  ·rename_i fs sz z rows i off hk ha
   split at h
   ·rename_i o s agg hf
    split at h
    ·rename_i hs
     cases h
     have := hρ a _ ha
     generalize hv : ρ a = v at this
     cases this with
     | ey K1 QX =>
      refine aQ hR (by rw [hv]; exact pY ee hk hf hs _ _ _) ?_
      rw [fO, fO]
      exact .ey K1 QX
    ·cases h
   ·cases h
  ·rename_i fs sz z id n off hk ha
   split at h
   ·rename_i o s agg q hf hop
    obtain ⟨e, s', l, zz⟩ := q
    obtain ⟨hS, Df⟩ := jU hop
    split at h
    ·rename_i hs
     cases h
     have := hρ a _ ha
     generalize hv : ρ a = v at this
     cases this with
     | @eT _ _ _ e1 s1 l1 z1 _ yZ Jg hA =>
      obtain ⟨rfl, rfl, rfl, rfl⟩ : e = e1 ∧ s' = s1 ∧ l = l1 ∧ zz = z1 := by rw [hS] at yZ; cases yZ; exact ⟨rfl, rfl, rfl, rfl⟩
      have hA := hA Df
      subst hA
      exact aQ hR (by rw [hv]; exact pY ee hk hf hs _ _ _) (.eT hS Jg fun _ => rfl)
    ·cases h
   ·cases h
  ·cases h
 | field t a f =>
  simp only [af] at h
  split at h
  ·rename_i fs sz z l hk ha
   split at h
   ·rename_i off s agg hf
    simp only [ah, av] at h
    obtain ⟨d', h3, rfl, rfl⟩ := h
    obtain ⟨arr, hv, MO⟩ := JY (hρ a _ ha)
    obtain ⟨qA, i, hi, -, -⟩ := bK (ee t _ hk)
    obtain ⟨fields, hu, Y2, ZJ⟩ := wR qA
    obtain ⟨fd, h4, h5, inf, h6, h7, h8, d0, h9⟩ := ZJ f _ hf
    simp only at h5 h7 h8
    obtain ⟨v, uD, Dk⟩ := J9 (x := x) h6 h9 h7 h8 MO h3 x.w
    refine aQ hR (v := v) ?_ Dk
    simp only [Instr.field, hv, Sem.run_bind, run_underlying hu, Result.andThen_ok, h4, asAgg, Sem.run_pure, h5, uD]
   ·cases h
  ·cases h
 | indexAddr t a i =>
  simp only [af] at h
  split at h
  ·rename_i e s jZ agg sz z rows tok full n hk ha hi
   split at h
   ·rename_i h0
    split at h
    ·rename_i r hr
     split at h
     ·rename_i hs
      cases h
      obtain ⟨kd, MS⟩ := kW hρ hi
      have := hρ a _ ha
      generalize hv : ρ a = v at this
      cases this with
      | @sl _ _ _ A cap s1 vs K1 QX k1 k2 k3 k4 k5 =>
       have hlt : n.toNat < rows.length := (aJ.1 hr).1
       cases A with
       | none => have := k3 rfl; omega
       | some ad =>
        obtain ⟨b, o, sp⟩ := ad
        have : sp = none := k4 _ rfl (by omega)
        subst this
        have ES : s1 = s := by rw [← hs]; exact (K1.1 r (cW hr)).symm
        subst ES
        refine aQ hR (by rw [hv, MS]; exact Ba ee hk h0 hlt _ _ _) ?_
        have := RV.ey (i := n.toNat) (off := 0) K1 QX
        simpa using this
     ·cases h
    ·cases h
   ·cases h
  ·rename_i k s agg sz z id off n hk ha hi
   split at h
   ·rename_i h0
    cases h
    obtain ⟨kd, MS⟩ := kW hρ hi
    have := hρ a _ ha
    generalize hv : ρ a = v at this
    cases this with
    | ptr hS => exact aQ hR (by rw [hv, MS]; exact ye ee hk h0.1 h0.2 _ _ _) (.ptr hS)
   ·cases h
  ·rename_i k s agg sz z rows j off n hk ha hi
   split at h
   ·rename_i h0
    cases h
    obtain ⟨kd, MS⟩ := kW hρ hi
    have := hρ a _ ha
    generalize hv : ρ a = v at this
    cases this with
    | ey K1 QX =>
     refine aQ hR (by rw [hv, MS]; exact ye ee hk h0.1 h0.2 _ _ _) ?_
     rw [fO, fO]
     exact .ey K1 QX
   ·cases h
  ·rename_i e s jZ agg sz z id m ag n hk ha hi
   split at h
   ·rename_i q1 s' l zz hop
    obtain ⟨hS, Df⟩ := jU hop
    split at h
    ·rename_i h0
     obtain ⟨h0, h1, rfl⟩ := h0
     cases h
     obtain ⟨kd, MS⟩ := kW hρ hi
     have := hρ a _ ha
     generalize hv : ρ a = v at this
     cases this with
     | @gV _ _ _ e1 s1 l1 z1 _ _ yZ Jg hA =>
      obtain ⟨rfl, rfl, rfl, rfl⟩ : q1 = e1 ∧ s' = s1 ∧ l = l1 ∧ zz = z1 := by rw [hS] at yZ; cases yZ; exact ⟨rfl, rfl, rfl, rfl⟩
      obtain ⟨rfl, rfl⟩ := hA Df
      exact aQ hR (by rw [hv, MS]; exact Ba ee hk h0 h1 _ _ _) (.eT hS (by omega) fun _ => by rw [gQ])
    ·cases h
   ·cases h
  ·cases h
 | index t a i =>
  simp only [af] at h
  split at h
  ·rename_i k s agg sz z l n hk ha hi
   split at h
   ·rename_i h0
    simp only [ah, av] at h
    obtain ⟨d', h3, rfl, rfl⟩ := h
    obtain ⟨kd, MS⟩ := kW hρ hi
    obtain ⟨arr, hv, MO⟩ := JY (hρ a _ ha)
    obtain ⟨qA, it, hit, -, -⟩ := bK (ee t _ hk)
    obtain ⟨e, hu, ie, qB, oU, Dj, d0, Zv⟩ := vu qA
    obtain ⟨v, uD, Dk⟩ := J9 (x := x) qB Zv oU Dj MO h3 x.w
    refine aQ hR (v := v) ?_ Dk
    have hc : 0 ≤ n ∧ n < (k : Int) := ⟨h0.1, by omega⟩
    simp only [Instr.index, hv, MS, asIntOf, Sem.run_bind, Sem.run_pure, run_underlying hu, Result.andThen_ok, hc, and_self, if_true, run_sizeOf qB, oU, uD]
   ·cases h
  ·cases h
 | makeMap t r =>
  cases r with
  | none =>
   simp only [af, az, av] at h
   obtain ⟨rfl, rfl⟩ := h
   exact IJ hR hn
  | some a => simp [af] at h
 | lookup t m k ok =>
  simp only [af] at h
  split at h
  ·rename_i id kv hm hk
   split at h
   ·rename_i es hS
    simp only [ah, jS, av] at h
    obtain ⟨d', ⟨v, h1, h2⟩, rfl, rfl⟩ := h
    have := hρ m _ hm
    generalize hv : ρ m = vm at this
    cases this with
    | map _ =>
     have h3 := Md hR hS h1 h2
     rw [← hv, ← eL hρ hk] at h3
     exact h3
   ·cases h
  ·cases h
 | mapUpdate t m k a =>
  simp only [af] at h
  split at h
  ·rename_i id kv vv hm hk ha
   split at h
   ·rename_i es hS
    split at h
    ·rename_i r hr
     simp only [ah, av] at h
     obtain ⟨es', h1, rfl, rfl⟩ := h
     have := hρ m _ hm
     generalize hv : ρ m = vm at this
     cases this with
     | map _ =>
      have h3 := Ey hR hS hr h1
      rw [← hv, ← eL hρ hk, ← eL hρ ha] at h3
      exact h3
    ·cases h
   ·cases h
  ·cases h
 | extract a i =>
  simp only [af] at h
  split at h
  ·rename_i l ha
   simp only [ah, av] at h
   obtain ⟨d', h3, rfl, rfl⟩ := h
   have := hρ a _ ha
   generalize hv : ρ a = v at this
   cases this with
   | @tup _ vs hs hr =>
    have hlt : i < vs.size := by rw [hs]; exact (aJ.1 h3).1
    refine aQ hR (v := vs[i]) (by rw [hv]; simp [Instr.extract, hlt]) ?_
    simpa [aT, hlt] using hr i _ h3
  ·cases h
 | call c =>
  obtain ⟨callee, args, ats⟩ := c
  cases callee with
  | builtin b =>
   simp only [af] at h
   have hex : ∀ w : World, (execOp ρ ⟨dst, .call ⟨.builtin b, args, ats⟩, type, pos, after, guard⟩).run P w = (Go.builtin b ats type (args.map fun | .const _ => true | _ => false) (args.map ρ)).run P w := fun w => by
    simp only [execOp, resolve, Sem.run_bind, Sem.run_pure, Result.andThen_ok, invoke]
    rfl
   rw [hex]
   split at h
   ·rename_i a t lI NP
    have ea : args = #[a] := by rw [← Array.toArray_toList (xs := args), lI]
    have et : ats = #[t] := by rw [← Array.toArray_toList (xs := ats), NP]
    subst ea et
    split at h
    ·rename_i e s jZ agg sz z rows tok full hk ha
     cases h
     obtain ⟨qA, it, hit, -, -⟩ := bK (ee t _ hk)
     obtain ⟨hu, -⟩ := jT qA
     have := hρ a _ ha
     generalize hv : ρ a = v at this
     cases this with
     | sl _ _ _ _ _ _ _ => exact aQ hR (v := .int .i64 rows.length) (by simp [Builtin.len_, hv, run_underlying hu, goInt]) (.val rfl)
    ·rename_i e s jZ agg sz z id n ag hk ha
     cases h
     obtain ⟨qA, it, hit, -, -⟩ := bK (ee t _ hk)
     obtain ⟨hu, -⟩ := jT qA
     have := hρ a _ ha
     generalize hv : ρ a = v at this
     cases this with
     | gV _ _ _ => exact aQ hR (v := .int .i64 n) (by simp [Builtin.len_, hv, run_underlying hu, goInt]) (.val rfl)
    ·rename_i n s agg sz z hk
     cases h
     obtain ⟨qA, it, hit, -, -⟩ := bK (ee t _ hk)
     obtain ⟨e, hu, -⟩ := vu qA
     exact aQ hR (v := .int .i64 n) (by simp [Builtin.len_, run_underlying hu, goInt]) (.val rfl)
    ·rename_i v ha hno
     simp only [ah, av] at h
     obtain ⟨d', h3, rfl, rfl⟩ := h
     obtain ⟨v', h4, h5⟩ := mz (x := x) h3 x.w
     have := tI (hρ a _ ha)
     refine aQ hR (v := v') ?_ h5
     simpa [this] using h4
    ·cases h
   ·rename_i a b t u lI NP
    have ea : args = #[a, b] := by rw [← Array.toArray_toList (xs := args), lI]
    have et : ats = #[t, u] := by rw [← Array.toArray_toList (xs := ats), NP]
    subst ea et
    split at h
    ·rename_i Ng
     subst Ng
     split at h
     ·rename_i da db ha hb
      have e2 : Array.map ρ #[a, b] = #[ρ a, ρ b] := by simp
      rw [e2]
      split at h
      ·exact Bb (u := type) ee hR hn (hρ a _ ha) (hρ b _ hb) h
      ·split at h
       ·exact Bb (u := type) ee hR hn (hρ a _ ha) (hρ b _ hb) h
       ·exact Mf (u := type) ee hR hn (hρ a _ ha) (hρ b _ hb) h
     ·cases h
    ·cases h
   ·rename_i xs lI
    split at h
    ·rename_i vs h1
     simp only [ah, av] at h
     obtain ⟨d', h3, rfl, rfl⟩ := h
     simp only [jS] at h1
     obtain ⟨ds, h4, h5⟩ := h1
     have h6 := tN hρ h4
     have h7 := wT (x := x) (vs := args.toList.map ρ) h5 (by simpa using h6.1) fun j c hc => by simpa [aT, aO] using h6.2 j c hc
     obtain ⟨v', h8, h9⟩ := mz (x := x) h3 x.w
     refine aQ hR (v := v') ?_ h9
     have e2 : (List.map ρ args.toList).toArray = Array.map ρ args := Array.toList_inj.1 (by simp)
     rw [← h7, e2] at h8
     exact h8
    ·cases h
   ·rename_i xs lI
    split at h
    ·rename_i vs h1
     simp only [ah, av] at h
     obtain ⟨d', h3, rfl, rfl⟩ := h
     simp only [jS] at h1
     obtain ⟨ds, h4, h5⟩ := h1
     have h6 := tN hρ h4
     have h7 := wT (x := x) (vs := args.toList.map ρ) h5 (by simpa using h6.1) fun j c hc => by simpa [aT, aO] using h6.2 j c hc
     obtain ⟨v', h8, h9⟩ := mz (x := x) h3 x.w
     refine aQ hR (v := v') ?_ h9
     have e2 : (List.map ρ args.toList).toArray = Array.map ρ args := Array.toList_inj.1 (by simp)
     rw [← h7, e2] at h8
     exact h8
    ·cases h
   ·cases h
  | _ => simp [Op.lone] at hop
 | _ => simp [af] at h
end Go.Di
end
