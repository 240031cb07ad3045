import Derived.Test.YtedcgbkilmlbhaaGreatPk16
import Derived.Laws.BitsLemmas
section
namespace Go.Di
open Go
variable {P:Program} {ty:ir} {x:Cx} {w':World} {ρd:Operand→Option DV} {ρ:Operand→Value} {o:Oper} {aH:Nat}
theorem yS (hR:Rel x) (hn:DJ x.S aH) {k s n:Nat} {e:TypeId} {l:List DV} {arr:Array Value} {agg:Bool} (hp:nY x.w w' (.cells arr e (0,0))) (hsz:arr.size=k*s) (hl:l.length≤arr.size) (hk:k≤maxLen) (hc:∀ j c,l[j]? = some c→c.ck=true∧RV x c (arr.getD j undef)) (Pd:n*s=l.length) :
  ∃ y,y.w=w'∧y.S=eV x.S aH (.op e s l false)∧Rel y∧bZ x y∧RV y (.jD aH n agg) (.slice (some ⟨x.w.heap.size,0,none⟩) n k):=by
 have mP:=lX (k:=k) (F:=fun _=>False) (b := .op e s l false) hR hn hp (by simp) (.inr (.inr (.inr ⟨e,s,l,arr,rfl,rfl,hsz,hl,hk,by simp,hc⟩)))
 refine⟨_,rfl,rfl,mP,jB hR hn hp,?_⟩
 refine RV.jD (e:=e) (s:=s) (l:=l) (z:=false) (by show (eV _ _ _)[_]? = _; rw[bz hn.le,if_pos rfl]) (by omega) fun _ => ?_
 exact⟨by rw[show (x.fresh w' aH k (fun _=>False) (.op e s l false)).μ aH=x.w.heap.size from if_pos rfl],(if_pos rfl:(if aH=aH then k else _)=k).symm⟩
theorem Ow (eY:j4 P ty) (hR:Rel x) (hn:DJ x.S aH) (hρ:wJ x ρd ρ) {t e:TypeId} {n s lK sz sz':Nat} {agg:Bool} {k:TK} {z0:Option (List DV)} {z cs:List DV} {ps:Array (Nat×Operand)} {l:List (Nat×DV)} (h:ty t=some ⟨.slice e s lK agg,sz,z0⟩) (hl:j7 ρd ps.toList=some l) (he:ty e=some ⟨k,sz',some z⟩)
  (hs:0<s) (Jj:n*s≤16777216) (hf:kH (fun i=>some (i*s,s)) ((List.replicate n z).flatten) (l.map fun(i,v)=>(i,v.strip))=some cs) (hp:cs.all DV.ck=true) :
  Yields x ((do pure (.value (← Instr.buildSlice t n (ps.map fun p=>(p.1,ρ p.2)))):Sem Next).run P x.w) (.jD aH n agg) (eV x.S aH (.op e s cs false)):=by
 obtain⟨arr,h6,oJ,hrun⟩:=EM eY hR hρ h hl he hs Jj hf
 have XK:n≤n*s:=Nat.le_mul_of_pos_right n hs
 obtain⟨y,y1,y2,y3,y4,y5⟩:=yS (n:=n) (agg:=agg) hR hn (gM x.w (.cells arr e)) (k:=n) (s:=s) (by rw[h6.1,oJ]) (by rw[h6.1]; exact ak _) (by unfold maxLen; omega) (fun j c hc=>⟨bt.1 hp c (dA hc),h6.2 j c hc⟩) oJ.symm
 exact ig (by rw[y1]; exact hrun) y2 y3 y4 y5
set_option maxRecDepth 8000 in
theorem Gs (eY:j4 P ty) (hR:Rel x) (hn:DJ x.S aH) {t e:TypeId} {s lK sz sz':Nat} {agg:Bool} {k:TK} {z0:Option (List DV)} {z:List DV} {kd kd':IntKind} {n:Int} (h:ty t=some ⟨.slice e s lK agg,sz,z0⟩) (he:ty e=some ⟨k,sz',some z⟩)
  (h0:0≤n) (hs:0<s) (Jj:n≤140737488355328-4096) (hb:n.toNat*lK≤fG) (hp:(z.map DV.aV).all DV.ck=true) :
  Yields x ((do pure (.value (← Instr.makeSlice t (.int kd n) (.int kd' n))):Sem Next).run P x.w) (.jD aH n.toNat agg) (eV x.S aH (.op e s (List.replicate n.toNat (z.map DV.aV)).flatten false)):=by
 obtain⟨hk,i,hi,-,-⟩:=bY (eY t _ h)
 obtain⟨hu,ie,rX,qz,hby,EY⟩:=lu hk
 obtain⟨-,ie',Bc,-,hz⟩:=bY (eY e _ he)
 rw[rX] at Bc
 cases Bc
 obtain⟨zv,h1,h2,hzl⟩:=jC hz
 obtain⟨h3,h4⟩:=iG (x:=x) h2
 have O8:zv.cells.size=s:=by rw[← qz,← hzl]; simpa using h3
 have Fc:z.length=s:=by rw[hzl,qz]
 have h4':∀ j c,(z.map DV.aV)[j]? = some c→RV x c (zv.cells.toList.getD j undef):=fun j c hc=>by
  simp only[eE,ai] at hc
  obtain⟨c',h1,rfl⟩:=hc
  exact(h4 j c' h1).aV
 have Au:=D8 (n:=n.toNat) (z:=z.map DV.aV) hs (by rw[eT]; exact Fc) O8 h4'
 generalize yc:(Array.range (n.toNat*s)).map (zv.cells[· % zv.cells.size]!)=arr at *
 have hlen:(List.replicate n.toNat (z.map DV.aV)).flatten.length=n.toNat*s:=by simp[Fc]
 obtain⟨y,y1,y2,y3,y4,y5⟩:=yS (n:=n.toNat) (agg:=agg) hR hn (gM x.w (.cells arr e)) (k:=n.toNat) (s:=s) (by rw[Au.1,hlen]) (by rw[Au.1]; exact ak _) (by unfold maxLen; omega) (fun j c hc=>⟨by
  have hm:=dA hc
  simp only[List.mem_flatten,List.mem_replicate] at hm
  obtain⟨l,⟨-,rfl⟩,hm⟩:=hm
  exact bt.1 hp c hm,Au.2 j c hc⟩) hlen.symm
 refine ig (v := .slice (some ⟨x.w.heap.size,0,none⟩) n.toNat n.toNat) ?_ y2 y3 y4 y5
 rw[y1]
 have hw:IntKind.i64.wrap n=n:=by rw[IntKind.wrap_i64]; omega
 have hbz:((ie.bytes:Int)*n)≤140737488355328:=by
  have e1:n=(n.toNat:Int):=by omega
  rw[e1,hby,← Int.natCast_mul,Nat.mul_comm]
  unfold fG at hb
  omega
 have e48:(2:Int) ^ 48=281474976710656:=by decide
 have c1:¬ (n<0):=by omega
 have c2:¬ (281474976710656<(ie.bytes:Int)*n):=by omega
 subst qz
 have hnw:(newRow e arr).run P x.w = .ok ⟨x.w.heap.size,0,none⟩ (x.w.alloc (.cells arr e)):=by simp[newRow]
 have c3:¬ (2 ^ 48<(ie.bytes:Int)*n):=by rw[e48]; exact c2
 have vu:∀ z0:Array Value,(Array.range (n.toNat*ie.size)).map (z0[· % z0.size]!)=arr→(do let a ← newRow e ((Array.range (n.toNat*ie.size)).map (z0[· % z0.size]!)); pure (Value.slice (some a) n.toNat n.toNat):Sem Value).run P x.w = .ok (.slice (some ⟨x.w.heap.size,0,none⟩) n.toNat n.toNat) (x.w.alloc (.cells arr e)):=fun z0 h=>by
  rw[h,Sem.run_bind,hnw,Result.andThen_ok,Sem.run_pure]
 unfold Instr.makeSlice
 simp only[Sem.run_bind,run_underlying hu,Result.andThen_ok,asInt,asIntOf,Sem.run_pure,typeInfo,run_program,rX,hw,gC c1,gC c3,Bool.or_false,gt_iff_lt,gC (Int.lt_irrefl n),aF,if_false,run_askRoom,run_sizeOf rX]
 by_cases GK:n.toNat*ie.size=0
 ·have:=vu #[] (by rw[← yc,GK]; simp)
  simpa only [if_pos GK,Sem.run_bind,Sem.run_pure,Result.andThen_ok] using this
 ·have:=vu zv.cells yc
  simpa only [if_neg GK,zeroValue,typeInfo,run_program,rX,h1,Sem.run_bind,Sem.run_pure,Result.andThen_ok] using this
theorem CJ (eY:j4 P ty) (hR:Rel x) (hn:DJ x.S aH) {t u:TypeId} {a b d:DV} {va vb:Value} {S':ax} (ha:RV x a va) (hb:RV x b vb) (h:nH ty x.S aH t a b=some (d,S')) :
  Yields x ((do pure (.value (← Builtin.append_ #[t,t] u #[va,vb])):Sem Next).run P x.w) d S':=by
 unfold nH at h
 split at h
 rotate_left
 ·cases h
 rename_i e s lK agg sz z0 news E7 YF XI
 obtain⟨hk,it,-,-,-⟩:=bY (eY t _ XI)
 obtain⟨hu,ie,rX,qz,C7,-⟩:=lu hk
 have GP:=hb
 cases hb with
 | @sl _ _ _ A2 rS s2 vs2 Un Pb m1 m2 m3 m4 m5 =>
  split at h
  rotate_left
  ·cases h
  rename_i hte
  obtain⟨z,Zb,O8⟩:∃ z,ie.zero=some z∧z.cells.size=s:=by
   obtain⟨-,ie',Bc,Jt,Au⟩:=bY (eY e _ hte)
   rw[rX] at Bc
   cases Bc
   obtain⟨z,q1,q2,q3⟩:=jC Au
   have:=(iG (x:=x) q2).1
   exact⟨z,q1,by rw[← qz,← q3]; simpa using this⟩
  have emp:∀ (A:Option Addr) (n cap:Nat),n≤cap→news=[]→(Builtin.append_ #[t,t] u #[.slice A n cap,.slice A2 news.length rS]).run P x.w = .ok (.slice A n cap) x.w:=by
   rintro A n cap k1 rfl
   subst qz
   cases A<;>cases A2<;>simp[Builtin.append_,run_underlying hu,run_sizeOf rX,Builtin.lenOf,Builtin.firstCells,loadCells,loadCellsFrom,storeCells,k1]
  have grown:∀ (n cap:Nat),n+news.length≤140737488355328-4096→∀ (w1:List Value),w1.length=n*s→∀ (mO:List Value),mO.length=news.length*s→∀ (k:Nat),k=grownCap x.w (n+news.length) cap e→k≤maxLen∧n+news.length≤k ∧
    (w1.toArray++mO.toArray++Builtin.zeroCells z.cells (k-(n+news.length))).size=k*s:=by
   intro n cap hlen w1 Le mO tB k hk
   have GO:=grownCap_ge x.w (n+news.length) cap e
   have hle:=grownCap_le_maxLen x.w (n+news.length) cap e (by simp only[maxLen]; omega)
   subst hk
   refine⟨hle,GO,?_⟩
   simp only[Array.size_append,lg,size_zeroCells,O8,Le,tB,← jL]
   congr 1
   omega
  have Yn:news≠[]→(∀ r∈news,r.cells.length=s)→0<news.length∧∃ (b2 o2:Nat) (mO:List Value),A2=some ⟨b2,o2,none⟩∧mO.length=news.length*s∧(flat news).length=news.length*s∧(∀ c∈flat news,c.ck=true)∧(∀ j c,(flat news)[j]? = some c→RV x c (mO.getD j undef)) ∧
    (∀ j v,mO[j]? = some v→x.w.cell? ((⟨b2,o2,none⟩:Addr).add j)=some v)∧∀ u∈mO,u.oneCell'=true:=by
   intro hne lT
   have hm:0<news.length:=List.length_pos_iff.2 hne
   obtain⟨-,-,-,-,-,ZI,UR,mO,tB,Dm,x5,D5⟩:=sM GP lT
   obtain⟨XY,rfl⟩:∃ XY,A2=some XY:=by
    cases A2 with
    | none=>have:=m3 rfl; omega
    | some ad=>exact⟨ad,rfl⟩
   have Aj:=gI lT
   obtain⟨b2,o2,sp2⟩:=XY
   have ZH:sp2=none:=ZI _ rfl (by omega)
   subst ZH
   refine⟨hm,b2,o2,mO,rfl,tB,Aj,UR,Dm,fun j v hv => ?_,D5⟩
   have hj:j<(flat news).length:=by rw[Aj,← tB]; exact(aJ.1 hv).1
   obtain⟨b',o',q1,-,q2⟩:=x5 j _ (bH hj)
   cases q1
   rw[iO,q2]
   simp[aN,hv]
  split at h
  ·
   rename_i id n ag
   cases ha with
   | @jD _ _ _ e1 s1 l1 z1 A cap XS hn1 hA1 =>
    split at h
    rotate_left
    ·cases h
    rename_i od
    simp only[aI,bJ,bt] at od
    obtain⟨⟨⟨⟨hs,-⟩,lV⟩,hlen⟩,lT⟩:=od
    split at h
    rotate_left
    ·cases h
    rename_i e' s' l hop
    split at h
    rotate_left
    ·cases h
    rename_i x5
    simp only[aI,bJ] at x5
    obtain⟨c1,c2⟩:=x5
    rw[c1,c2] at hop
    obtain⟨hS,EW⟩:=lD hop
    obtain⟨rfl,rfl,rfl,rfl⟩:e=e1∧s=s1∧l=l1∧false=z1:=by rw[hS] at XS; cases XS; exact⟨rfl,rfl,rfl,rfl⟩
    obtain⟨rfl,rfl⟩:=hA1 EW
    obtain⟨cur,t1,t2,t3,t4,t5,-,-⟩:=hR.ops id _ _ _ _ hS
    have hnκ:n≤x.κ id:=Nat.le_of_mul_le_mul_right (show n*s≤x.κ id*s by omega) hs
    split at h
    ·rename_i uF
     cases h
     exact aX hR (emp _ _ _ hnκ (by simpa using uF)) (.jD hS hn1 fun _=>⟨rfl,rfl⟩)
    rename_i uF
    cases h
    obtain⟨hm,b2,o2,mO,rfl,tB,Aj,UR,Dm,pH,D5⟩:=Yn (by simpa using uF) lT
    have Yz:(l++flat news).length=(n+news.length)*s:=by rw[b9,Aj,jL]; omega
    have yY:∀ c∈l++flat news,c.ck=true:=fun c hc=>by
     rcases ja.1 hc with hc | hc
     ·obtain⟨j,hj⟩:=qS.1 hc
      exact(t5 j c hj).1
     ·exact UR c hc
    have hlt:l.length<(l++flat news).length:=by rw[b9,Aj]; have:=Nat.mul_pos hm hs; omega
    have aeC:gn x (flat news) mO.toArray:=⟨by simp[tB,Aj],fun j c hc=>by simpa [bg,aN] using Dm j c hc⟩
    by_cases hroom:n+news.length≤x.κ id
    ·have uE:n*s+mO.length≤cur.size:=by rw[tB,t2,← jL]; exact eU _ hroom
     have hrun:=run_append_room (P:=P) x.w t u e ie hu rX (x.μ id) n (x.κ id) cur t1 ⟨b2,o2,none⟩ news.length rS mO (by rw[tB,qz]) pH D5 hroom (by rw[qz]; exact uE)
     rw[qz,EW] at hrun
     have hp:=FY (off:=l.length) t3 (fun j c hc=>(t5 j c hc).2) aeC (ak _) (by rw[Aj]; omega)
     have hsz:(cur.toList.take l.length++mO++cur.toList.drop (l.length+mO.length)).toArray.size=cur.size:=by simp; omega
     rw[List.drop_of_length_le (show l.length≤l.length+(flat news).length by omega),ff,fo,lg] at hp
     generalize yc:(cur.toList.take l.length++mO++cur.toList.drop (l.length+mO.length)).toArray=arr at *
     have mP:=AK (F:=fun _=>False) (arr:=arr) (b := .op e s (l++flat news) false) hR hS (.inr (.inr ⟨e,s,_,_,rfl,rfl,by omega,by simp,by rw[hsz]; exact t2,by rw[hsz,Yz,t2]; exact eU _ hroom,fun j c hc=>⟨yY c (dA hc),hp j c hc⟩⟩))
     have M:=sU (F:=fun _=>False) (arr:=arr) (b := .op e s (l++flat news) false) hR hS (.inr (.inr ⟨e,s,_,_,rfl,rfl,by omega⟩))
     refine ig hrun (y:=x.upd id arr (fun _=>False) (.op e s (l++flat news) false)) rfl mP M (.jD (e:=e) (s:=s) (l:=l++flat news) (z:=false) (by show (x.S.set _ _)[_]? = _; rw[ej hS,if_pos rfl]) (by omega) fun _=>⟨rfl,rfl⟩)
    ·have qF:∀ j,j<n*s→∃ v,cur[j]? = some v:=fun j hj=>⟨cur[j]'(by omega),bW _⟩
     have Le:(cur.toList.take (n*s)).length=n*s:=by simp; omega
     obtain⟨g1,g2,g3⟩:=grown n (x.κ id) hlen _ Le _ tB _ rfl
     have hrun:=run_append_grow (P:=P) x.w t u e ie z hu rX Zb ⟨x.μ id,0,none⟩ n (x.κ id) (cur.toList.take (n*s)) (by rw[Le,qz]) (fun j v hv=>by
       have hj:j<n*s:=by rw[← Le]; exact(aJ.1 hv).1
       rw[nI,if_pos hj] at hv
       rw[iO]
       simp only[World.cell?,t1,gy]
       simpa using hv) ⟨b2,o2,none⟩ news.length rS mO (by rw[tB,qz]) pH (by omega) (by omega) (growslice_fits (by omega) (by rw[C7]; exact lV))
     generalize hk0:grownCap x.w (n+news.length) (x.κ id) e=k at *
     obtain⟨v1,v2⟩:=yR (Z:=Builtin.zeroCells z.cells (k-(n+news.length))) Le tB
     generalize yc:(cur.toList.take (n*s)).toArray++mO.toArray++Builtin.zeroCells z.cells (k-(n+news.length))=arr at *
     have hp:nY x.w (x.w.drew.alloc (.cells arr e)) (.cells arr e (0,0)):=⟨rfl,rfl,rfl⟩
     have hcc:∀ j c,(l++flat news)[j]? = some c→c.ck=true∧RV x c (arr.getD j undef):=fun j c hc=>by
      refine⟨yY c (dA hc),?_⟩
      by_cases hj:j<l.length
      ·rw[fq hj] at hc
       rw[v1 j (by omega)]
       have:=(t5 j c hc).2
       simpa [bg,aN,nI,show j<n*s by omega] using this
      ·rw[gF (by omega)] at hc
       have hj2:j-l.length<(flat news).length:=(aJ.1 hc).1
       have e1:j=n*s+(j-l.length):=by omega
       rw[e1,v2 _ (by omega)]
       exact Dm _ c hc
     have mP:=SH (k:=k) hR hS hp hlt g3 (by rw[g3,Yz]; exact eU _ g2) g1 hcc
     have M:=Es (k:=k) hR hS hp hlt
     refine ig hrun (y:=x.j9 (x.w.drew.alloc (.cells arr e)) id k (fun _=>False) (.op e s (l++flat news) false)) rfl mP M (.jD (e:=e) (s:=s) (l:=l++flat news) (z:=false) (by show (x.S.set _ _)[_]? = _; rw[ej hS,if_pos rfl]) (by omega) fun _ => ?_)
     exact⟨congrArg (fun b=>some (⟨b,0,none⟩:Addr)) (if_pos rfl:(if id=id then _ else _)=_).symm,(if_pos rfl:(if id=id then k else _)=k).symm⟩
  ·
   rename_i f
   cases ha with
   | @sl _ _ _ A cap s1 vs1 GN xX k1 k2 k3 k4 k5 =>
    split at h
    ·rename_i uF
     cases h
     exact aX hR (emp _ _ _ k1 (by simpa using uF)) (.sl GN xX k1 k2 k3 k4 k5)
    rename_i uF
    split at h
    rotate_left
    ·cases h
    rename_i od
    simp only[aI,bJ,bt] at od
    obtain⟨⟨⟨⟨⟨aeS,hs⟩,-⟩,lV⟩,hlen⟩,lT⟩:=od
    cases h
    obtain⟨hm,b2,o2,mO,rfl,tB,Aj,UR,Dm,pH,D5⟩:=Yn (by simpa using uF) lT
    have Nx:cap=0:=k2.1 aeS
    subst Nx
    obtain⟨g1,g2,g3⟩:=grown 0 0 (by omega) [] (by simp) _ tB _ rfl
    have hrun:(Builtin.append_ #[t,t] u #[.slice A ([]:List DV).length 0,.slice (some ⟨b2,o2,none⟩) news.length rS]).run P x.w =
      .ok (.slice (some ⟨x.w.heap.size,0,none⟩) news.length (grownCap x.w news.length 0 e)) (x.w.drew.alloc (.cells (mO.toArray++Builtin.zeroCells z.cells (grownCap x.w news.length 0 e-news.length)) e)):=by
     cases A with
     | none=>exact run_append_nil (P:=P) x.w t u e ie z hu rX Zb ⟨b2,o2,none⟩ news.length rS mO (by rw[tB,qz]) pH hm (by omega) (by rw[C7]; unfold fG at lV; omega)
     | some ad =>
      have:=run_append_grow (P:=P) x.w t u e ie z hu rX Zb ad 0 0 [] (by simp) (by simp) ⟨b2,o2,none⟩ news.length rS mO (by rw[tB,qz]) pH (by omega) (by omega) (growslice_fits (by omega) (by rw[C7,gy]; exact lV))
      simpa using this
    simp only[gy] at g1 g2 g3
    generalize hk0:grownCap x.w news.length 0 e=k at *
    have v2:∀ j,j<news.length*s→(mO.toArray++Builtin.zeroCells z.cells (k-news.length)).getD j undef=mO.getD j undef:=fun j hj=>by
     rw[bg,xq (by simp; omega)]
     simp[aN]
    have g3':(mO.toArray++Builtin.zeroCells z.cells (k-news.length)).size=k*s:=by simpa using g3
    obtain⟨y,y1,y2,y3,y4,y5⟩:=yS (n:=news.length) (agg:=agg) hR hn (w':=x.w.drew.alloc (.cells (mO.toArray++Builtin.zeroCells z.cells (k-news.length)) e)) (e:=e) (l:=flat news) (k:=k) (s:=s) ⟨rfl,rfl,rfl⟩ g3' (by rw[g3',Aj]; exact eU _ g2) g1 (fun j c hc=>⟨UR c (dA hc),by
     have hj:j<(flat news).length:=(aJ.1 hc).1
     rw[v2 j (by omega)]
     exact Dm j c hc⟩) Aj.symm
    exact ig (by rw[y1]; exact hrun) y2 y3 y4 y5
  ·cases h
theorem look_ok (hR:Rel x) {d:DV} {v:Value} (h:RV x d v):RV x (lS x.S d) v:=by
 cases h with
 | @jD id n agg e1 s1 l1 z1 A cap hS hn hA =>
  unfold lS
  dsimp only
  split
  ·rename_i e s l hop
   obtain⟨Ax,EW⟩:=lD hop
   obtain⟨rfl,rfl,rfl,rfl⟩:e=e1∧s=s1∧l=l1∧true=z1:=by rw[Ax] at hS; cases hS; exact⟨rfl,rfl,rfl,rfl⟩
   split
   ·rename_i hc
    simp only[aI,iZ,ek,bJ] at hc
    obtain⟨rfl,rfl⟩:=hA EW
    obtain⟨arr,h1,h2,h3,-,h4,h5,-⟩:=hR.ops id e s l true hS
    obtain⟨wC,Uq⟩:=ED hc.1 hc.2 (fun c hm=>by
     obtain⟨j,hj⟩:=qS.1 hm
     exact(h4 j c hj).1) n EW.symm
    have hrn:(rowsOf s agg l n).length=n:=by simp[rowsOf]
    suffices hk:RV x (.sl (rowsOf s agg l n) none ⟨false,some false⟩) (.slice (some ⟨x.μ id,0,none⟩) (rowsOf s agg l n).length (x.κ id)) by rw[hrn] at hk; exact hk
    refine RV.sl (tok:=none) (BR Uq (fun c hm => ?_) (by rw[wC]; exact h3) h1 fun j hj=>h5 rfl j (by rw[wC] at hj; exact hj)) (fun j c hc => ?_) ?_ ⟨by simp,fun b h=>by cases h; rfl⟩ (by simp) (fun ad h _=>by cases h; rfl) (fun t ht=>nomatch ht)
    ·rw[wC] at hm
     obtain⟨j,hj⟩:=qS.1 hm
     exact(h4 j c hj).1
    ·rw[wC] at hc
     exact(h4 j c hc).2
    ·rw[hrn]
     exact Nat.le_of_mul_le_mul_right (show n*s≤x.κ id*s by omega) hc.1
   ·exact .jD hS hn hA
  ·exact .jD hS hn hA
 | val h=>exact .val h
 | agg h hl=>exact .agg h hl
 | gd h hl=>exact .gd h hl
 | sl hv hr h1 h2 h3 hsp h4=>exact .sl hv hr h1 h2 h3 hsp h4
 | ptr h=>exact .ptr h
 | eL hv hr=>exact .eL hv hr
 | fn h1 h2 h3 h4=>exact .fn h1 h2 h3 h4
 | map h=>exact .map h
 | xV h=>exact .xV h
 | fC h h1 h2=>exact .fC h h1 h2
theorem RF (hR:Rel x) (d:DV):∃ y,y.w=x.w∧y.S=uH x.S d∧Rel y∧bZ x y:=by
 unfold uH
 split
 ·rename_i id n ag
  split
  ·rename_i e s l hop
   obtain⟨hS,-⟩:=lD hop
   exact⟨x.close id e s l,rfl,rfl,Oa hR hS,CM hS⟩
  ·exact⟨x,rfl,rfl,hR,bZ.refl x⟩
 ·exact⟨x,rfl,rfl,hR,bZ.refl x⟩
theorem F7 {env:List DV}:∀ (l:List Operand) {x:Cx},Rel x→∃ y,y.w=x.w∧y.S=l.foldl (pR env) x.S∧Rel y∧bZ x y
 | [],x,hR=>⟨x,rfl,rfl,hR,bZ.refl x⟩
 | a::l,x,hR=>by
  rw[List.foldl_cons]
  cases he:jb env a with
  | none=>rw[show pR env x.S a=x.S by unfold pR; rw[he]]; exact F7 l hR
  | some d =>
   rw[show pR env x.S a=uH x.S d by unfold pR; rw[he]]
   obtain⟨y,y1,y2,y3,y4⟩:=RF hR d
   obtain⟨z,z1,z2,z3,z4⟩:=F7 (env:=env) l y3
   exact⟨z,z1.trans y1,by rw[z2,y2],z3,y4.trans z4⟩
theorem aa0 {env:List DV} {arr:Array Value} (o:Oper) (hR:Rel x) (he:gn x env arr):∃ y,y.w=x.w∧y.S=(Dj ty o env x.S).2∧Rel y∧bZ x y∧gn y (Dj ty o env x.S).1 arr:=by
 unfold Dj
 split
 ·obtain⟨y,y1,y2,y3,y4⟩:=F7 (env:=env) o.op.operands.toList hR
  refine⟨y,y1,y2,y3,y4,by simpa using he.1,fun j c hc => ?_⟩
  simp only[eE,ai] at hc
  obtain⟨c',h1,rfl⟩:=hc
  rw[← y2]
  exact look_ok y3 ((he.2 j c' h1).mono y4)
 ·exact⟨x,rfl,rfl,hR,bZ.refl x,he⟩
end Go.Di
end
section
namespace Go.Di
open Go
variable {P:Program} {ty:ir} {x:Cx} {w':World} {aM:bV} {call:bP} {yf:fI} {ρd:Operand→Option DV} {ρ:Operand→Value} {o:Oper} {aH:Nat}
theorem EC {s:Nat}:∀ {rows:List DV} (_:∀ r∈rows,r.cells.length=s) (h:Nat),flat (rows.take h)=(flat rows).take (h*s)
 | [],_,h=>by simp[flat]
 | r::rows,hs,0=>by simp[flat]
 | r::rows,hs,h+1=>by
  have h0:=hs r (by simp)
  have ih:=EC (rows:=rows) (fun r hr=>hs r (by simp[hr])) h
  simp only[flat] at ih
  simp only[List.take_succ_cons,flat,fM,ih]
  have e1:r.cells.take ((h+1)*s)=r.cells:=iE (by rw[h0,kX]; omega)
  have e2:(h+1)*s-s=h*s:=by rw[kX]; omega
  rw[List.take_append,h0,e1,e2]
theorem EF {s:Nat}:∀ {rows:List DV} (_:∀ r∈rows,r.cells.length=s) (l:Nat),flat (rows.drop l)=(flat rows).drop (l*s)
 | [],_,l=>by simp[flat]
 | r::rows,hs,0=>by simp
 | r::rows,hs,l+1=>by
  have h0:=hs r (by simp)
  have ih:=EF (rows:=rows) (fun r hr=>hs r (by simp[hr])) l
  simp only[flat] at ih
  simp only[List.drop_succ_cons,flat,fM,ih]
  have e1:r.cells.drop ((l+1)*s)=[]:=List.drop_of_length_le (by rw[h0,kX]; omega)
  have e2:(l+1)*s-s=l*s:=by rw[kX]; omega
  rw[List.drop_append,h0,e1,e2,List.nil_append]
theorem yW {ρd:Operand→Option DV} {ρ:Operand→Value} (hρ:wJ x ρd ρ) {a:Operand} {ez n:Nat} {d:Nat} (h:ic ρd (some a) d ez=some n) (y:Nat) (hy:ez≤y) (code:BoundsCode) (w:World):n≤ez∧(Instr.sliceBound (ρ a) y code).run P w = .ok n w:=by
 unfold ic at h
 simp only at h
 split at h
 ·rename_i i hi
  split at h
  ·rename_i hc
   cases h
   obtain⟨k,hk⟩:=mL hρ hi
   refine⟨hc.2,?_⟩
   have x5:0≤i∧i≤(y:Int):=⟨hc.1,by omega⟩
   simp only[Instr.sliceBound,hk,asIntOf,Sem.run_bind,Sem.run_pure,Result.andThen_ok,x5,and_self,if_true]
  ·cases h
 ·cases h
theorem Rs {rows:List DV} {tok:Option Nat} {f:SF} {A:Option Addr} {n cap:Nat} (h:RV x (.sl rows tok f) (.slice A n cap)):∀ b,JG rows f=some b→A.isNone=b:=by
 intro b hb
 cases h with
 | sl hv hr h1 h2 h3 hsp h4 =>
  unfold JG at hb
  split at hb
  ·exact h2.2 b hb
  ·rename_i hne
   cases hb
   cases A with
   | none =>
    have:=h3 rfl
    have h0:rows=[]:=eF (by omega)
    exact absurd (by simp[h0]) hne
   | some ad=>rfl
theorem OB (eY:j4 P ty) {op:BinOp} {t:TypeId} {a b:Operand} {d:DV} (hρ:wJ x ρd ρ) (h:BF ty op t (ρd a) (ρd b)=some d) :
  ∃ v,(do eqGuard op t a b (ρ a) (ρ b); binOp op t (ρ a) (ρ b):Sem Value).run P x.w = .ok v x.w∧RV x d v:=by
 unfold BF at h
 split at h
 ·rename_i rows tok f E7 f2 ha hb
  have ra:=hρ a _ ha
  have rb:=hρ b _ hb
  generalize ρ a=va at ra ⊢
  generalize ρ b=vb at rb ⊢
  split at h
  ·rename_i e s lK agg sz z c XI hn
   obtain⟨hk,it,-,-,-⟩:=bY (eY t _ XI)
   obtain⟨hu,-⟩:=lu hk
   have ra0:=ra
   have rb0:=rb
   cases ra with
   | @sl _ _ _ A cap s1 vs1 GN xX k1 k2 k3 k4 k5 =>
    cases rb with
    | @sl _ _ _ A2 rS s2 vs2 Un Pb m1 m2 m3 m4 m5 =>
     have hA:=Rs ra0 c hn
     have hA2:=m2.2 true rfl
     have:A2=none:=by simpa using hA2
     subst this
     have heq:(Op.equal t (.slice A rows.length cap) (.slice none 0 rS)).run P x.w = .ok c x.w:=by
      subst hA
      obtain⟨n,uN⟩:∃ n,Op.maxDepth=n+1:=⟨9999,rfl⟩
      cases A<;>simp only[Op.equal,uN,Op.equalIn,Sem.run_bind,run_underlying hu,Result.andThen_ok,Sem.run_pure,Option.isNone_none,Option.isNone_some]
     split at h
     ·cases h
      exact⟨.bool c,by simp[eqGuard,binOp,heq],.val rfl⟩
     ·cases h
      exact⟨.bool (!c),by simp[eqGuard,binOp,heq],.val rfl⟩
     ·cases h
  ·cases h
 ·cases h
theorem S7 (eY:j4 P ty) (hR:Rel x) (hρ:wJ x ρd ρ) {t e:TypeId} {s lK sz:Nat} {agg:Bool} {z:Option (List DV)} (XI:ty t=some ⟨.slice e s lK agg,sz,z⟩) {rows:List DV} {tok:Option Nat} {full:SF} {va:Value} (ha:RV x (.sl rows tok full) va) (oc:∀ r∈rows,r.cells.length=s)
  {lo hi mx:Option Operand} {m h l:Nat} {d:DV} (hm:ic ρd mx rows.length rows.length=some m) (hh:ic ρd hi rows.length m=some h) (hl:ic ρd lo 0 h=some l) (hhm:(hi.isNone&&mx.isSome)=false) (hd:qC rows full l h (mx.map fun _=>m)=some d) :
  Yields x ((do pure (.value (← Instr.sliceAt t va (lo.map ρ) (hi.map ρ) (mx.map ρ))):Sem Next).run P x.w) d x.S:=by
 obtain⟨hk,it,-,-,-⟩:=bY (eY t _ XI)
 obtain⟨hu,ie,rX,qz,-,-⟩:=lu hk
 have wC:=gI oc
 have Dc:=ha
 cases ha with
 | @sl _ _ _ A cap s1 vs1 GN xX k1 k2 k3 k4 k5 =>
  obtain⟨-,-,-,-,-,hsp,hpR,ws,hwl,Pa,hc,-⟩:=sM Dc oc
  have acp:=Rs Dc
  have hbm:m≤rows.length∧∃ M,(∀ w:World,(match mx.map ρ with | some v=>Instr.sliceBound v cap .slice3Acap | none=>pure cap:Sem Nat).run P w = .ok M w)∧m≤M∧M≤cap∧(mx.isSome=true→M=m)∧(mx=none→M=cap∧m=rows.length):=by
   cases mx with
   | none =>
    simp only[ic,aB] at hm
    subst hm
    exact⟨ak _,cap,fun w=>rfl,k1,ak _,by simp,fun _=>⟨rfl,rfl⟩⟩
   | some a =>
    have:=fun w=>yW (P:=P) hρ hm cap k1 .slice3Acap w
    exact⟨(this default).1,m,fun w=>(this w).2,ak _,aS (this default).1 k1,fun _=>rfl,by simp⟩
  obtain⟨hmr,M,hM,hmM,hMc,hMs,hMn⟩:=hbm
  have hbh : h ≤ rows.length ∧ h ≤ M ∧ ∀ w : World, (match hi.map ρ, mx.map ρ with | some v, some _ => Instr.sliceBound v M .slice3B | some v, none => Instr.sliceBound v M .sliceAcap | none, none => pure rows.length | none, some _ => stuck "Slice: max without high" : Sem Nat).run P w = .ok h w := by
   cases hi with
   | none =>
    cases mx with
    | none =>
     simp only[ic,aB] at hh
     subst hh
     exact⟨ak _,by rw[(hMn rfl).1]; exact k1,fun w=>rfl⟩
    | some a=>simp at hhm
   | some b =>
    have q1:=fun c w=>yW (P:=P) hρ hh M hmM c w
    have q2:=(q1 .slice3B default).1
    refine⟨aS q2 hmr,aS q2 hmM,fun w => ?_⟩
    cases mx with
    | none=>exact(q1 .sliceAcap w).2
    | some a=>exact(q1 .slice3B w).2
  obtain⟨hhr,hhM,hH⟩:=hbh
  have hbl:l≤h∧∀ w:World,(match lo.map ρ with | some v=>Instr.sliceBound v h (if (mx.map ρ).isSome then .slice3C else .sliceB) | none=>pure 0:Sem Nat).run P w = .ok l w:=by
   cases lo with
   | none =>
    simp only[ic,aB] at hl
    subst hl
    exact⟨gh _,fun w=>rfl⟩
   | some a =>
    have q1:=fun c w=>yW (P:=P) hρ hl h (ak _) c w
    exact⟨(q1 .slice3C default).1,fun w=>(q1 _ w).2⟩
  obtain⟨hlh,hL⟩:=hbl
  have hA':∀ A',A'=(if M=l then A else A.map (·.add (l*s)))→(A'=none→M-l=0)∧(∀ ad,A'=some ad→0<M-l→ad.spot=none):=by
   intro A' hA
   subst hA
   split
   ·exact⟨fun _=>by omega,fun _ _ h=>absurd h (by omega)⟩
   ·cases A with
    | none=>have:=k3 rfl; exact⟨fun _=>by omega,by simp⟩
    | some ad =>
     refine⟨by simp,fun ad' h hp => ?_⟩
     simp only[Option.map_some,aB] at h
     subst h
     have:=k4 ad rfl (by omega)
     obtain⟨b,o,sp⟩:=ad
     simp only at this
     subst this
     rw[iO]
  have aco:∀ (Zn:Option Nat) (Ht:SF),(Ht.full=true→M-l=h-l)∧QU Ht A→Zn=none→RV x (.sl ((rows.take h).drop l) Zn Ht) (.slice (if M=l then A else A.map (·.add (l*s))) (h-l) (M-l)):=by
   intro Zn Ht wN aex
   subst aex
   obtain⟨hA1,hA2⟩:=hA' _ rfl
   have hlen:((rows.take h).drop l).length=h-l:=by simp; omega
   have abl:∀ r∈(rows.take h).drop l,r.cells.length=s:=fun r hr=>oc r (List.mem_of_mem_take (List.mem_of_mem_drop hr))
   have adt:flat ((rows.take h).drop l)=((flat rows).take (h*s)).drop (l*s):=by
    rw[EF (fun r hr=>oc r (List.mem_of_mem_take hr)),EC oc]
   have uV:∀ j c,(flat ((rows.take h).drop l))[j]? = some c→(flat rows)[l*s+j]? = some c∧l*s+j<h*s:=by
    intro j c Ln
    rw[adt,qO,nI] at Ln
    split at Ln
    ·exact⟨Ln,‹_›⟩
    ·cases Ln
   have hv:View x ((rows.take h).drop l) (if M=l then A else A.map (·.add (l*s))) s (fun j=>ws.getD (l*s+j) undef):=by
    refine⟨abl,fun j c Ln => ?_⟩
    obtain⟨q1,q2⟩:=uV j c Ln
    obtain⟨b,o,r1,r2,r3⟩:=hc _ _ q1
    refine⟨hpR c (dA q1),b,o+l*s,?_,by rw[gU]; exact r2,by rw[gU]; exact r3⟩
    have hlt:l<h:=by
     rcases Nat.lt_or_ge l h with h1 | h1
     ·exact h1
     ·have:h*s≤l*s:=eU _ h1; omega
    rw[if_neg (by omega),r1]
    simp only[Option.map_some,iO]
   have:=RV.sl (tok:=none) (full:=Ht) (cap:=M-l) hv (fun j c Ln=>Pa _ _ (uV j c Ln).1) (by rw[hlen]; omega) ⟨fun hf=>by rw[hlen]; exact wN.1 hf,fun b hb=>by rw[← wN.2 b hb]; split<;>simp⟩ hA1 hA2 (fun t ht=>nomatch ht)
   rw[hlen] at this
   exact this
  have hrun:(Instr.sliceAt t (.slice A rows.length cap) (lo.map ρ) (hi.map ρ) (mx.map ρ)).run P x.w = .ok (.slice (if M=l then A else A.map (·.add (l*s))) (h-l) (M-l)) x.w:=by
   have hb:(Instr.sliceBounds true rows.length cap (lo.map ρ) (hi.map ρ) (mx.map ρ)).run P x.w = .ok (l,h,M) x.w:=by
    have XU:=hM x.w
    have hH':=hH x.w
    have UY:=hL x.w
    unfold Instr.sliceBounds
    revert XU hH' UY hhm
    cases mx<;>cases hi<;>cases lo<;>intro XU hH' UY hhm <;>
     simp only[Option.map_none,Option.map_some,Sem.run_pure,Result.ok.injEq,and_true,Option.isSome_some,Option.isSome_none,Option.isNone_none,gA,Bool.true_eq_false,if_true,aF,if_false] at XU hH' UY hhm ⊢ <;>
     (try subst XU)<;>(try subst hH')<;>(try subst UY)<;>simp only[Sem.run_bind,Result.andThen_ok,Sem.run_pure, *]
   unfold Instr.sliceAt
   simp only[Sem.run_bind,run_underlying hu,Result.andThen_ok,Instr.slice,hb,run_sizeOf rX,Sem.run_pure,qz]
  unfold qC at hd
  rw[if_pos hlh] at hd
  cases mx with
  | none =>
   simp only[Option.map_none,aB] at hd
   subst hd
   refine aX hR hrun (aco _ _ ⟨fun hf => ?_,acp⟩ rfl)
   simp only[aI,ek] at hf
   rw[(hMn rfl).1,k2.1 hf.1,hf.2]
  | some a =>
   simp only[Option.map_some] at hd
   by_cases hc:h≤m
   ·rw[if_pos hc] at hd
    simp only[aB] at hd
    subst hd
    refine aX hR hrun (aco _ _ ⟨fun hf => ?_,acp⟩ rfl)
    simp only[ek] at hf
    rw[hMs rfl,hf]
   ·rw[if_neg hc] at hd
    cases hd
def Op.lone:Op→Bool
 | .call { callee := .builtin _,.. }=>true
 | .call _=>false
 | _=>true
set_option maxHeartbeats 1000000 in
theorem NT (eY:j4 P ty) (hR:Rel x) (hn:DJ x.S aH) (hρ:wJ x ρd ρ) (hop:Op.lone o.op=true) {d:DV} {S':ax} (h:ah P ty aM call yf ρd o x.S aH=some (d,S')):Yields x ((execOp ρ o).run P x.w) d S':=by
 obtain⟨dst,op,type,pos,after,guard⟩:=o
 cases op with
 | move a =>
  simp only[ah,ai,ay] at h
  obtain⟨d',h1,rfl,rfl⟩:=h
  exact⟨ρ a,x,.inl rfl,rfl,hR,bZ.refl x,hρ a _ h1⟩
 | assign a =>
  simp only[ah,ai,ay] at h
  obtain⟨d',h1,rfl,rfl⟩:=h
  exact⟨ρ a,x,.inl rfl,rfl,hR,bZ.refl x,hρ a _ h1⟩
 | pick c a b =>
  simp only[ah] at h
  split at h
  ·rename_i t hc
   have hcv:=mS (hρ c _ hc)
   simp only[ai,ay] at h
   obtain⟨d',h1,rfl,rfl⟩:=h
   cases t with
   | true=>exact⟨ρ a,x,.inl (by simp[execOp,hcv,asBool]),rfl,hR,bZ.refl x,hρ a _ h1⟩
   | false=>exact⟨ρ b,x,.inl (by simp[execOp,hcv,asBool]),rfl,hR,bZ.refl x,hρ b _ h1⟩
  ·cases h
 | alloc e =>
  simp only[ah] at h
  split at h
  ·rename_i hk
   cases h
   exact S8 eY hR hn hk
  ·cases h
 | box e a =>
  simp only[ah] at h
  split at h
  ·rename_i d' h1
   cases h
   exact aa7 hR hn (hρ a _ h1)
  ·cases h
 | build t ps =>
  simp only[ah] at h
  split at h
  ·rename_i hk hl
   simp only[ai,ay] at h
   obtain⟨cs,h1,rfl,rfl⟩:=h
   exact Aq eY hR hρ hk hl h1
  ·rename_i hk hl
   simp only[ai,ay] at h
   obtain⟨cs,h1,rfl,rfl⟩:=h
   exact CW eY hR hρ hk hl h1
  ·cases h
 | buildSlice t n ps =>
  simp only[ah] at h
  split at h
  ·rename_i e s lK agg sz z0 l hk hl
   split at h
   ·rename_i k sz' z he
    split at h
    ·rename_i hc
     simp only[aI,bJ] at hc
     split at h
     ·rename_i cs hf
      split at h
      ·rename_i hp
       simp only[aI,iZ,ek] at hp
       split at h
       ·cases h
        exact Ow eY hR hn hρ hk hl he hc.1 hc.2 hf hp.1
       ·cases h
        exact Dv eY hR hρ hk hl he hc.1 hc.2 hf hp.1 hp.2
      ·cases h
     ·cases h
    ·cases h
   ·cases h
  ·cases h
 | makeSlice t a b =>
  simp only[ah] at h
  split at h
  ·rename_i e s lK agg sz z0 n m hk ha hb
   split at h
   ·rename_i k sz' z he
    split at h
    ·rename_i hc
     simp only[aI,iZ,ek,bJ] at hc
     obtain⟨⟨⟨⟨⟨⟨h0,rfl⟩,hs⟩,-⟩,h1⟩,h2⟩,h3⟩:=hc
     cases h
     obtain⟨kd,hka⟩:=mL hρ ha
     obtain⟨kd',hkb⟩:=mL hρ hb
     have h4:=Gs (kd:=kd) (kd':=kd') eY hR hn hk he h0 hs h1 h2 h3
     rw[← hka,← hkb] at h4
     exact h4
    ·cases h
   ·cases h
  ·cases h
 | load t a =>
  simp only[ah] at h
  split at h
  ·rename_i a' h1
   simp only[ai,ay] at h
   obtain⟨d',h2,rfl,rfl⟩:=h
   obtain⟨v,h3,h4⟩:=Ip eY hR (hρ a _ h1) h2
   exact aX hR h3 h4
  ·cases h
 | store t a v =>
  simp only[ah] at h
  split at h
  ·rename_i a' v' h1 h2
   simp only[ai,ay] at h
   obtain⟨S2,h3,rfl,rfl⟩:=h
   obtain⟨y,h4,h5,h6,h7⟩:=NR eY hR (hρ a _ h1) (hρ v _ h2) h3
   exact HI h4 h5 h6 h7
  ·cases h
 | nilCheck a =>
  simp only[ah] at h
  split at h
  ·rename_i id off h1
   cases h
   have:=hρ a _ h1
   generalize hv:ρ a=v at this
   cases this with
   | ptr hS=>exact⟨_,x,.inl (by simp only[execOp,hv]; rfl),rfl,hR,bZ.refl x,.ptr hS⟩
  ·cases h
 | binOp op t a b u =>
  simp only[ah] at h
  split at h
  ·rename_i va vb h1 h2
   simp only[ai,ay] at h
   obtain⟨d',h3,rfl,rfl⟩:=h
   obtain⟨v,h4,h5⟩:=nR (x:=x) h3 x.w
   rw[← fZ hρ h1,← fZ hρ h2] at h4
   exact aX hR h4 h5
  ·simp only[ai,ay] at h
   obtain⟨d',h3,rfl,rfl⟩:=h
   obtain⟨v,h4,h5⟩:=OB eY hρ h3
   exact aX hR h4 h5
 | unOp op t a =>
  simp only[ah] at h
  split at h
  ·rename_i va h1
   simp only[ai,ay] at h
   obtain⟨d',h3,rfl,rfl⟩:=h
   obtain⟨v,h4,h5⟩:=nR (x:=x) h3 x.w
   rw[← fZ hρ h1] at h4
   exact aX hR h4 h5
  ·cases h
 | convert s t a =>
  simp only[ah] at h
  split at h
  ·rename_i va h1
   simp only[ai,ay] at h
   obtain⟨d',h3,rfl,rfl⟩:=h
   obtain⟨v,h4,h5⟩:=nR (x:=x) h3 x.w
   rw[← fZ hρ h1] at h4
   exact aX hR h4 h5
  ·cases h
 | makeFunc fn fs cs =>
  cases fn with
  | func f =>
   simp only[ah] at h
   split at h
   ·rename_i a b h1 h2
    cases h
    have e1:=vD hρ h1
    have e2:=vD hρ h2
    refine aX hR (v := .func (.func f) (fs.map ρ) (cs.map ρ)) rfl (.fn (by simpa using e1.1) (by simpa using e2.1) (fun j c hc => ?_) (fun j c hc => ?_))
    ·have:=e1.2 j c hc
     simpa [bg] using this
    ·have:=e2.2 j c hc
     simpa [bg] using this
   ·cases h
  | _=>simp[ah] at h
 | slice t a lo hi mx =>
  simp only[ah] at h
  split at h
  ·rename_i s sz z rows tok full hk ha
   split at h
   ·cases h
   ·rename_i oc
    simp only[Bool.not_eq_true',Bool.not_eq_false,bt,bJ] at oc
    split at h
    ·rename_i m hm
     split at h
     ·rename_i h' hh
      split at h
      ·rename_i l hl
       split at h
       ·cases h
       ·rename_i hhm
        simp only[ai,ay] at h
        obtain⟨d',h3,rfl,rfl⟩:=h
        exact S7 eY hR hρ hk (hρ a _ ha) oc hm hh hl (by simpa using hhm) h3
      ·cases h
     ·cases h
    ·cases h
  ·cases h
 | fieldAddr t a f =>
  simp only[ah] at h
  split at h
  ·rename_i fs sz z id off hk ha
   split at h
   ·rename_i o s agg hf
    split at h
    ·rename_i hs
     cases h
     have:=hρ a _ ha
     generalize hv:ρ a=v at this
     cases this with
     | ptr hS=>exact aX hR (by rw[hv]; exact rB eY hk hf hs _ _ _) (.ptr hS)
    ·cases h
   ·cases h
  ·rename_i fs sz z rows i off hk ha
   split at h
   ·rename_i o s agg hf
    split at h
    ·rename_i hs
     cases h
     have:=hρ a _ ha
     generalize hv:ρ a=v at this
     cases this with
     | eL GN Un =>
      refine aX hR (by rw[hv]; exact rB eY hk hf hs _ _ _) ?_
      rw[gU,gU]
      exact .eL GN Un
    ·cases h
   ·cases h
  ·rename_i fs sz z id n off hk ha
   split at h
   ·rename_i o s agg q hf hop
    obtain⟨e,s',l,zz⟩:=q
    obtain⟨hS,EW⟩:=lD hop
    split at h
    ·rename_i hs
     cases h
     have:=hρ a _ ha
     generalize hv:ρ a=v at this
     cases this with
     | @fC _ _ _ e1 s1 l1 z1 _ Ax Jj hA =>
      obtain⟨rfl,rfl,rfl,rfl⟩:e=e1∧s'=s1∧l=l1∧zz=z1:=by rw[hS] at Ax; cases Ax; exact⟨rfl,rfl,rfl,rfl⟩
      have hA:=hA EW
      subst hA
      exact aX hR (by rw[hv]; exact rB eY hk hf hs _ _ _) (.fC hS Jj fun _=>rfl)
    ·cases h
   ·cases h
  ·cases h
 | field t a f =>
  simp only[ah] at h
  split at h
  ·rename_i fs sz z l hk ha
   split at h
   ·rename_i off s agg hf
    simp only[ai,ay] at h
    obtain⟨d',h3,rfl,rfl⟩:=h
    obtain⟨arr,hv,Pa⟩:=Mh (hρ a _ ha)
    obtain⟨rT,i,hi,-,-⟩:=bY (eY t _ hk)
    obtain⟨fields,hu,hfs,hff⟩:=yA rT
    obtain⟨fd,h4,h5,inf,h6,h7,h8,d0,h9⟩:=hff f _ hf
    simp only at h5 h7 h8
    obtain⟨v,x6,GQ⟩:=Mu (x:=x) h6 h9 h7 h8 Pa h3 x.w
    refine aX hR (v:=v) ?_ GQ
    simp only[Instr.field,hv,Sem.run_bind,run_underlying hu,Result.andThen_ok,h4,asAgg,Sem.run_pure,h5,x6]
   ·cases h
  ·cases h
 | indexAddr t a i =>
  simp only[ah] at h
  split at h
  ·rename_i e s lK agg sz z rows tok full n hk ha hi
   split at h
   ·rename_i h0
    split at h
    ·rename_i r hr
     split at h
     ·rename_i hs
      cases h
      obtain⟨kd,Pg⟩:=mL hρ hi
      have:=hρ a _ ha
      generalize hv:ρ a=v at this
      cases this with
      | @sl _ _ _ A cap s1 vs GN Un k1 k2 k3 k4 k5 =>
       have hlt:n.toNat<rows.length:=(aJ.1 hr).1
       cases A with
       | none=>have:=k3 rfl; omega
       | some ad =>
        obtain⟨b,o,sp⟩:=ad
        have:sp=none:=k4 _ rfl (by omega)
        subst this
        have DG:s1=s:=by rw[← hs]; exact(GN.1 r (dA hr)).symm
        subst DG
        refine aX hR (by rw[hv,Pg]; exact CI eY hk h0 hlt _ _ _) ?_
        have:=RV.eL (i:=n.toNat) (off:=0) GN Un
        simpa using this
     ·cases h
    ·cases h
   ·cases h
  ·rename_i k s agg sz z id off n hk ha hi
   split at h
   ·rename_i h0
    cases h
    obtain⟨kd,Pg⟩:=mL hρ hi
    have:=hρ a _ ha
    generalize hv:ρ a=v at this
    cases this with
    | ptr hS=>exact aX hR (by rw[hv,Pg]; exact zO eY hk h0.1 h0.2 _ _ _) (.ptr hS)
   ·cases h
  ·rename_i k s agg sz z rows j off n hk ha hi
   split at h
   ·rename_i h0
    cases h
    obtain⟨kd,Pg⟩:=mL hρ hi
    have:=hρ a _ ha
    generalize hv:ρ a=v at this
    cases this with
    | eL GN Un =>
     refine aX hR (by rw[hv,Pg]; exact zO eY hk h0.1 h0.2 _ _ _) ?_
     rw[gU,gU]
     exact .eL GN Un
   ·cases h
  ·rename_i e s lK agg sz z id m ag n hk ha hi
   split at h
   ·rename_i q1 s' l zz hop
    obtain⟨hS,EW⟩:=lD hop
    split at h
    ·rename_i h0
     obtain⟨h0,h1,rfl⟩:=h0
     cases h
     obtain⟨kd,Pg⟩:=mL hρ hi
     have:=hρ a _ ha
     generalize hv:ρ a=v at this
     cases this with
     | @jD _ _ _ e1 s1 l1 z1 _ _ Ax Jj hA =>
      obtain⟨rfl,rfl,rfl,rfl⟩:q1=e1∧s'=s1∧l=l1∧zz=z1:=by rw[hS] at Ax; cases Ax; exact⟨rfl,rfl,rfl,rfl⟩
      obtain⟨rfl,rfl⟩:=hA EW
      exact aX hR (by rw[hv,Pg]; exact CI eY hk h0 h1 _ _ _) (.fC hS (by omega) fun _=>by rw[gy])
    ·cases h
   ·cases h
  ·cases h
 | index t a i =>
  simp only[ah] at h
  split at h
  ·rename_i k s agg sz z l n hk ha hi
   split at h
   ·rename_i h0
    simp only[ai,ay] at h
    obtain⟨d',h3,rfl,rfl⟩:=h
    obtain⟨kd,Pg⟩:=mL hρ hi
    obtain⟨arr,hv,Pa⟩:=Mh (hρ a _ ha)
    obtain⟨rT,it,hit,-,-⟩:=bY (eY t _ hk)
    obtain⟨e,hu,ie,rX,qz,EY,d0,hu2⟩:=xw rT
    obtain⟨v,x6,GQ⟩:=Mu (x:=x) rX hu2 qz EY Pa h3 x.w
    refine aX hR (v:=v) ?_ GQ
    have hc:0≤n∧n<(k:Int):=⟨h0.1,by omega⟩
    simp only[Instr.index,hv,Pg,asIntOf,Sem.run_bind,Sem.run_pure,run_underlying hu,Result.andThen_ok,hc,and_self,if_true,run_sizeOf rX,qz,x6]
   ·cases h
  ·cases h
 | makeMap t r =>
  cases r with
  | none =>
   simp only[ah,aB,ay] at h
   obtain⟨rfl,rfl⟩:=h
   exact KP hR hn
  | some a=>simp[ah] at h
 | lookup t m k ok =>
  simp only[ah] at h
  split at h
  ·rename_i id kv hm hk
   split at h
   ·rename_i es hS
    simp only[ai,lq,ay] at h
    obtain⟨d',⟨v,h1,h2⟩,rfl,rfl⟩:=h
    have:=hρ m _ hm
    generalize hv:ρ m=vm at this
    cases this with
    | map _ =>
     have h3:=Ov hR hS h1 h2
     rw[← hv,← fZ hρ hk] at h3
     exact h3
   ·cases h
  ·cases h
 | mapUpdate t m k a =>
  simp only[ah] at h
  split at h
  ·rename_i id kv vv hm hk ha
   split at h
   ·rename_i es hS
    split at h
    ·rename_i r hr
     simp only[ai,ay] at h
     obtain⟨es',h1,rfl,rfl⟩:=h
     have:=hρ m _ hm
     generalize hv:ρ m=vm at this
     cases this with
     | map _ =>
      have h3:=Gr hR hS hr h1
      rw[← hv,← fZ hρ hk,← fZ hρ ha] at h3
      exact h3
    ·cases h
   ·cases h
  ·cases h
 | extract a i =>
  simp only[ah] at h
  split at h
  ·rename_i l ha
   simp only[ai,ay] at h
   obtain⟨d',h3,rfl,rfl⟩:=h
   have:=hρ a _ ha
   generalize hv:ρ a=v at this
   cases this with
   | @gd _ vs hs hr =>
    have hlt:i<vs.size:=by rw[hs]; exact(aJ.1 h3).1
    refine aX hR (v:=vs[i]) (by rw[hv]; simp[Instr.extract,hlt]) ?_
    simpa [bg,hlt] using hr i _ h3
  ·cases h
 | call c =>
  obtain⟨callee,args,ats⟩:=c
  cases callee with
  | builtin b =>
   simp only[ah] at h
   have hex:∀ w:World,(execOp ρ ⟨dst,.call ⟨.builtin b,args,ats⟩,type,pos,after,guard⟩).run P w=(Go.builtin b ats type (args.map fun | .const _=>true | _=>false) (args.map ρ)).run P w:=fun w=>by
    simp only[execOp,resolve,Sem.run_bind,Sem.run_pure,Result.andThen_ok,invoke]
    rfl
   rw[hex]
   split at h
   ·rename_i a t kU P9
    have ea:args=#[a]:=by rw[← Array.toArray_toList (xs:=args),kU]
    have et:ats=#[t]:=by rw[← Array.toArray_toList (xs:=ats),P9]
    subst ea et
    split at h
    ·rename_i e s lK agg sz z rows tok full hk ha
     cases h
     obtain⟨rT,it,hit,-,-⟩:=bY (eY t _ hk)
     obtain⟨hu,-⟩:=lu rT
     have:=hρ a _ ha
     generalize hv:ρ a=v at this
     cases this with
     | sl _ _ _ _ _ _ _=>exact aX hR (v := .int .i64 rows.length) (by simp[Builtin.len_,hv,run_underlying hu,goInt]) (.val rfl)
    ·rename_i e s lK agg sz z id n ag hk ha
     cases h
     obtain⟨rT,it,hit,-,-⟩:=bY (eY t _ hk)
     obtain⟨hu,-⟩:=lu rT
     have:=hρ a _ ha
     generalize hv:ρ a=v at this
     cases this with
     | jD _ _ _=>exact aX hR (v := .int .i64 n) (by simp[Builtin.len_,hv,run_underlying hu,goInt]) (.val rfl)
    ·rename_i n s agg sz z hk
     cases h
     obtain⟨rT,it,hit,-,-⟩:=bY (eY t _ hk)
     obtain⟨e,hu,-⟩:=xw rT
     exact aX hR (v := .int .i64 n) (by simp[Builtin.len_,run_underlying hu,goInt]) (.val rfl)
    ·rename_i v ha hno
     simp only[ai,ay] at h
     obtain⟨d',h3,rfl,rfl⟩:=h
     obtain⟨v',h4,h5⟩:=nR (x:=x) h3 x.w
     have:=mS (hρ a _ ha)
     refine aX hR (v:=v') ?_ h5
     simpa [this] using h4
    ·cases h
   ·rename_i a b t u kU P9
    have ea:args=#[a,b]:=by rw[← Array.toArray_toList (xs:=args),kU]
    have et:ats=#[t,u]:=by rw[← Array.toArray_toList (xs:=ats),P9]
    subst ea et
    split at h
    ·rename_i PA
     subst PA
     split at h
     ·rename_i da db ha hb
      have e2:Array.map ρ #[a,b]=#[ρ a,ρ b]:=by simp
      rw[e2]
      split at h
      ·exact CJ (u:=type) eY hR hn (hρ a _ ha) (hρ b _ hb) h
      ·split at h
       ·exact CJ (u:=type) eY hR hn (hρ a _ ha) (hρ b _ hb) h
       ·exact Ox (u:=type) eY hR hn (hρ a _ ha) (hρ b _ hb) h
     ·cases h
    ·cases h
   ·rename_i xs kU
    split at h
    ·rename_i vs h1
     simp only[ai,ay] at h
     obtain⟨d',h3,rfl,rfl⟩:=h
     simp only[lq] at h1
     obtain⟨ds,h4,h5⟩:=h1
     have h6:=vD hρ h4
     have h7:=yE (x:=x) (vs:=args.toList.map ρ) h5 (by simpa using h6.1) fun j c hc=>by simpa [bg,aN] using h6.2 j c hc
     obtain⟨v',h8,h9⟩:=nR (x:=x) h3 x.w
     refine aX hR (v:=v') ?_ h9
     have e2:(List.map ρ args.toList).toArray=Array.map ρ args:=Array.toList_inj.1 (by simp)
     rw[← h7,e2] at h8
     exact h8
    ·cases h
   ·rename_i xs kU
    split at h
    ·rename_i vs h1
     simp only[ai,ay] at h
     obtain⟨d',h3,rfl,rfl⟩:=h
     simp only[lq] at h1
     obtain⟨ds,h4,h5⟩:=h1
     have h6:=vD hρ h4
     have h7:=yE (x:=x) (vs:=args.toList.map ρ) h5 (by simpa using h6.1) fun j c hc=>by simpa [bg,aN] using h6.2 j c hc
     obtain⟨v',h8,h9⟩:=nR (x:=x) h3 x.w
     refine aX hR (v:=v') ?_ h9
     have e2:(List.map ρ args.toList).toArray=Array.map ρ args:=Array.toList_inj.1 (by simp)
     rw[← h7,e2] at h8
     exact h8
    ·cases h
   ·cases h
  | _=>simp[Op.lone] at hop
 | _=>simp[ah] at h
end Go.Di
end
