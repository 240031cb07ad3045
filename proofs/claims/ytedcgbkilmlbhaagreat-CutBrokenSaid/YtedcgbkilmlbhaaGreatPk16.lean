import Derived.Test.YtedcgbkilmlbhaaGreatPk15
import Derived.Laws.BitsLemmas
section
namespace Go.Di
open Go
variable {P:Program} {ty:eV} {x:Cx} {w':World} {ρd:Operand→Option DV} {ρ:Operand→Value} {o:Oper} {aA:Nat}
theorem oS {rows:List DV} {tok:Option Nat} {full:SF} {A:Option Addr} {n cap s:Nat} (h:RV x (.sl rows tok full) (.slice A n cap)) (hs:∀ r∈rows,r.cells.length=s) :
  n=rows.length∧n≤cap∧((full.full=true→cap=n)∧MN full A)∧(A=none→cap=0)∧Uu x tok rows A cap∧(∀ ad,A=some ad→ad.spot=none) ∧
  (∀ c∈flat rows,c.bt=true)∧∃ vs:List Value,vs.length=n*s∧(∀ j c,(flat rows)[j]? = some c→RV x c (vs.getD j undef)) ∧
   (∀ j c,(flat rows)[j]? = some c→∃ b o,A=some ⟨b,o,none⟩∧x.Fz b (o+j)∧x.w.cell? ⟨b,o+j,none⟩=some (vs.getD j undef))∧∀ u∈vs,u.oneCell'=true:=by
 cases h with
 | @sl _ _ _ _ _ s' vs hv hr h1 h2 h3 hsp h4 =>
  have sV:=fI hs
  refine⟨rfl,h1,h2,h3,h4,hsp,fun c hc => ?_,(List.range (rows.length*s)).map vs,by simp,fun j c hc => ?_,fun j c hc => ?_,fun u hu => ?_⟩
  ·obtain⟨j,hj,rfl⟩:=List.mem_iff_getElem.1 hc
   exact(hv.2 j _ (List.getElem?_eq_getElem hj)).1
  ·have hj:j<rows.length*s:=by rw[← sV]; exact(List.getElem?_eq_some_iff.1 hc).1
   simpa [List.getD_eq_getElem?_getD,hj] using hr j c hc
  ·have hj:j<rows.length*s:=by rw[← sV]; exact(List.getElem?_eq_some_iff.1 hc).1
   obtain⟨-,b,o,k1,k2,k3⟩:=hv.2 j c hc
   exact⟨b,o,k1,k2,by simpa [List.getD_eq_getElem?_getD,hj] using k3⟩
  ·simp only[List.mem_map,List.mem_range] at hu
   obtain⟨j,hj,rfl⟩:=hu
   have sU:j<(flat rows).length:=by omega
   have k:=List.getElem?_eq_getElem sU
   have hp:=(hv.2 j _ k).1
   have h1:((flat rows)[j]).one=true:=by
    revert hp
    generalize (flat rows)[j]=c
    cases c<;>simp[DV.bt,DV.one]
   exact(one_cell (hr j _ k) h1).1
theorem WM {y:Cx} {R:List DV} {t s N cap:Nat} {e:TypeId} {arr:Array Value} (hR:∀ r∈R,r.cells.length=s) (hp:∀ c∈flat R,c.bt=true) (hS:y.S[t]? = some (.tail e s N)) (hN:N=R.length*s)
  (hh:y.w.heap[y.μ t]? = some (.cells arr e (0,0))) (hF:∀ o,o<N→y.Fz (y.μ t) o) (hsz:N≤arr.size) (hc:∀ j c,(flat R)[j]? = some c→RV y c (arr.getD j undef)) (hk:cap=y.κ t) (Js:R.length≤cap) :
  RV y (.sl R (some t) ⟨false,none⟩) (.slice (some ⟨y.μ t,0,none⟩) R.length cap):=by
 have sV:=fI hR
 refine RV.sl (yy hR hp (by omega) hh fun j hj=>hF j (by omega)) hc Js ⟨by simp,fun _ h=>nomatch h⟩ (by simp) (fun ad h=>by cases h; rfl) fun t' ht => ?_
 cases ht
 exact⟨e,s,N,hS,by omega,hR,fun _=>⟨rfl,hk⟩⟩
theorem wG (a b:List DV):flat (a++b)=flat a++flat b:=by simp[flat]
theorem ve {y:Cx} {rows news:List DV} {BM jN:List Value} {t s b cap:Nat} {e:TypeId} {arr:Array Value} (M:bk x y) (h1:∀ r∈rows,r.cells.length=s) (h2:∀ r∈news,r.cells.length=s) (hp1:∀ c∈flat rows,c.bt=true) (XT:∀ c∈flat news,c.bt=true)
  (uG:∀ (j:Nat) (c:DV),(flat rows)[j]? = some c→RV x c (BM.getD j undef)) (Pw:∀ (j:Nat) (c:DV),(flat news)[j]? = some c→RV x c (jN.getD j undef)) (hS:y.S[t]? = some (.tail e s ((rows.length+news.length)*s))) (hμ:y.μ t=b) (hκ:y.κ t=cap)
  (hh:y.w.heap[b]? = some (.cells arr e (0,0))) (hF:∀ o,o<(rows.length+news.length)*s→y.Fz b o) (hsz:(rows.length+news.length)*s≤arr.size) (PC:∀ j,j<rows.length*s→arr.getD j undef=BM.getD j undef) (xd:∀ j,j<news.length*s→arr.getD (rows.length*s+j) undef=jN.getD j undef)
  (Js:rows.length+news.length≤cap):RV y (.sl (rows++news) (some t) ⟨false,none⟩) (.slice (some ⟨b,0,none⟩) (rows.length+news.length) cap):=by
 have LD:=fI h1
 have S6:=fI h2
 subst hμ hκ
 have key:=WM (y:=y) (R:=rows++news) (t:=t) (s:=s) (arr:=arr) (cap:=y.κ t) (N:=(rows.length+news.length)*s) (fun r hr=>(List.mem_append.1 hr).elim (h1 r) (h2 r)) (fun c hc => ?_) hS (by rw[List.length_append]) hh hF hsz (fun j c hc => ?_) rfl (by rw[List.length_append]; exact Js)
 ·rw[List.length_append] at key; exact key
 ·rw[wG] at hc; exact(List.mem_append.1 hc).elim (hp1 c) (XT c)
 ·rw[wG] at hc
  by_cases hj:j<(flat rows).length
  ·rw[List.getElem?_append_left hj] at hc
   rw[PC j (by omega)]
   exact(uG j c hc).mono M
  ·rw[List.getElem?_append_right (by omega)] at hc
   have hj2:j-(flat rows).length<(flat news).length:=(List.getElem?_eq_some_iff.1 hc).1
   have e1:j=rows.length*s+(j-(flat rows).length):=by omega
   rw[e1,xd _ (by omega)]
   exact(Pw _ c hc).mono M
theorem vw {BM jN:List Value} {Z:Array Value} {n m:Nat} (h1:BM.length=n) (h2:jN.length=m):(∀ j,j<n→(BM.toArray++jN.toArray++Z).getD j undef=BM.getD j undef)∧∀ j,j<m→(BM.toArray++jN.toArray++Z).getD (n+j) undef=jN.getD j undef:=by
 constructor
 ·intro j hj
  rw[Array.getD_eq_getD_getElem?,Array.getElem?_append_left (by simp; omega),Array.getElem?_append_left (by simp; omega)]
  simp[List.getD_eq_getElem?_getD]
 ·intro j hj
  rw[Array.getD_eq_getD_getElem?,Array.getElem?_append_left (by simp; omega),Array.getElem?_append_right (by simp; omega)]
  simp[List.getD_eq_getElem?_getD,h1]
theorem Kn (dh:gT P ty) (hR:Rel x) (hn:AJ x.S aA) {t u:TypeId} {a b d:DV} {va vb:Value} {S':ak} (ha:RV x a va) (hb:RV x b vb) (h:gI ty x.S aA t a b=some (d,S')) :
  Yields x ((do pure (.value (← Builtin.append_ #[t,t] u #[va,vb])):Sem Next).run P x.w) d S':=by
 unfold gI at h
 split at h
 ·rename_i e s iZ agg sz z0 rows tok full news BU Ul SU
  obtain⟨hk,it,-,-,-⟩:=bh (dh t _ SU)
  obtain⟨hu,ie,oz,nk,zZ,-⟩:=iR hk
  have Af:=ha
  have Dt:=hb
  cases ha with
  | @sl _ _ _ A cap s1 vs1 Ds uG k1 k2 k3 k4 k5 =>
   cases hb with
   | @sl _ _ _ A2 ov s2 vs2 Pq Pw m1 m2 m3 m4 m5 =>
    split at h
    ·rename_i qH
     cases h
     have F3:news=[]:=by simpa using qH
     subst F3
     refine aL hR (v := .slice A rows.length cap) ?_ Af
     subst nk
     cases A with
     | none=>cases A2<;>simp[Builtin.append_,run_underlying hu,run_sizeOf oz,Builtin.lenOf,Builtin.firstCells,loadCells,loadCellsFrom,k1]
     | some ad=>cases A2<;>simp[Builtin.append_,run_underlying hu,run_sizeOf oz,Builtin.lenOf,Builtin.firstCells,loadCells,loadCellsFrom,storeCells,k1]
    ·rename_i qH
     split at h
     ·rename_i hte
      split at h
      rotate_left
      ·cases h
      rename_i kT
      simp only[Bool.and_eq_true,decide_eq_true_eq,List.all_eq_true] at kT
      obtain⟨⟨⟨hs,jh⟩,hlen⟩,jf⟩:=kT
      have hm:0<news.length:=List.length_pos_iff.2 (by simpa using qH)
      obtain⟨z,UW,KY⟩:∃ z,ie.zero=some z∧z.cells.size=s:=by
       obtain⟨-,ie',xP,FO,wZ⟩:=bh (dh e _ hte)
       rw[oz] at xP
       cases xP
       obtain⟨z,q1,q2,q3⟩:=gC wZ
       have:=(fu (x:=x) q2).1
       exact⟨z,q1,by rw[← nk,← q3]; simpa using this⟩
      obtain⟨-,-,-,-,-,Vx,P3,jN,pQ,Am,sW,AZ⟩:=oS Dt jf
      obtain⟨Ti,rfl⟩:∃ Ti,A2=some Ti:=by
       cases A2 with
       | none=>have:=m3 rfl; omega
       | some ad=>exact⟨ad,rfl⟩
      have wS:=fI jf
      obtain⟨b2,o2,sp2⟩:=Ti
      have Vw:sp2=none:=Vx _ rfl
      subst Vw
      have mj:∀ j v,jN[j]? = some v→x.w.cell? ((⟨b2,o2,none⟩:Addr).add j)=some v:=by
       intro j v hv
       have hj:j<(flat news).length:=by rw[wS,← pQ]; exact(List.getElem?_eq_some_iff.1 hv).1
       obtain⟨b',o',q1,-,q2⟩:=sW j _ (List.getElem?_eq_getElem hj)
       cases q1
       rw[fJ,q2]
       simp[List.getD_eq_getElem?_getD,hv]
      have ac2:rows.length+news.length≤9223372036854775807:=by omega
      have grown:∀ (w1:List Value),w1.length=rows.length*s→∀ (k:Nat),k=grownCap x.w (rows.length+news.length) cap e→k≤maxLen∧rows.length+news.length≤k ∧
        (w1.toArray++jN.toArray++Builtin.zeroCells z.cells (k-(rows.length+news.length))).size=k*s:=by
       intro w1 HB k hk
       have Df:=grownCap_ge x.w (rows.length+news.length) cap e
       have hle:=grownCap_le_maxLen x.w (rows.length+news.length) cap e (by simp only[maxLen]; omega)
       subst hk
       refine⟨hle,Df,?_⟩
       simp only[Array.size_append,List.size_toArray,size_zeroCells,KY,HB,pQ,← Nat.add_mul]
       congr 1
       omega
      have OW:∀ (hf:full.full=true) (kS:∀ r∈rows,r.cells.length=s),d = .sl (rows++news) (some aA) ⟨false,none⟩→S'=de x.S aA (.tail e s ((rows.length+news.length)*s)) →
        Yields x ((do pure (.value (← Builtin.append_ #[t,t] u #[.slice A rows.length cap,.slice (some ⟨b2,o2,none⟩) news.length ov])):Sem Next).run P x.w) d S':=by
       intro hf kS hd hS
       subst hd hS
       have Js:cap=rows.length:=k2.1 hf
       obtain⟨-,-,-,-,-,abx,XS,BM,vG,Qt,Dg,aav⟩:=oS Af kS
       have VK:=fI kS
       obtain⟨g1,g2,g3⟩:=grown BM vG _ rfl
       have hrun:(Builtin.append_ #[t,t] u #[.slice A rows.length cap,.slice (some ⟨b2,o2,none⟩) news.length ov]).run P x.w =
         .ok (.slice (some ⟨x.w.heap.size,0,none⟩) (rows.length+news.length) (grownCap x.w (rows.length+news.length) cap e)) (x.w.drew.alloc (.cells (BM.toArray++jN.toArray++Builtin.zeroCells z.cells (grownCap x.w (rows.length+news.length) cap e-(rows.length+news.length))) e)):=by
        cases A with
        | none =>
         have h0:=k3 rfl
         have FP:rows.length=0:=by omega
         have hw0:BM=[]:=List.eq_nil_of_length_eq_zero (by rw[vG,FP]; simp)
         subst hw0
         rw[FP,h0]
         have:=run_append_nil (P:=P) x.w t u e ie z hu oz UW ⟨b2,o2,none⟩ news.length ov jN (by rw[pQ,nk]) mj hm (by omega) (by rw[zZ]; unfold dG at jh; have:news.length*iZ≤(rows.length+news.length)*iZ:=Nat.mul_le_mul_right _ (by omega); omega)
         simpa using this
        | some ad =>
         obtain⟨b1,o1,sp1⟩:=ad
         have:sp1=none:=abx _ rfl
         subst this
         refine run_append_grow (P:=P) x.w t u e ie z hu oz UW ⟨b1,o1,none⟩ rows.length cap BM (by rw[vG,nk]) (fun j v hv => ?_) ⟨b2,o2,none⟩ news.length ov jN (by rw[pQ,nk]) mj (by omega) (by omega) (growslice_fits (by omega) (by rw[zZ]; exact jh))
         have hj:j<(flat rows).length:=by rw[VK,← vG]; exact(List.getElem?_eq_some_iff.1 hv).1
         obtain⟨b',o',q1,-,q2⟩:=Dg j _ (List.getElem?_eq_getElem hj)
         cases q1
         rw[fJ,q2]
         simp[List.getD_eq_getElem?_getD,hv]
       generalize hk0:grownCap x.w (rows.length+news.length) cap e=k at *
       obtain⟨v1,v2⟩:=vw (Z:=Builtin.zeroCells z.cells (k-(rows.length+news.length))) vG pQ
       generalize uM:BM.toArray++jN.toArray++Builtin.zeroCells z.cells (k-(rows.length+news.length))=arr at *
       have hp:kP x.w (x.w.drew.alloc (.cells arr e)) (.cells arr e (0,0)):=⟨rfl,rfl,rfl⟩
       have Ta:(rows.length+news.length)*s≤arr.size:=by rw[g3]; exact Nat.mul_le_mul_right _ g2
       have jQ:=jj (k:=k) (F:=fun o=>o<(rows.length+news.length)*s) (b := .tail e s ((rows.length+news.length)*s)) hR hn hp (fun o ho=>⟨arr[o]'(by omega),by simp only[World.cell?,hp.new]; exact Array.getElem?_eq_getElem _⟩) (.inr (.inl ⟨e,s,_,arr,rfl,rfl,g3,Ta,g1,fun o ho=>ho⟩))
       have M:=gB (k:=k) (F:=fun o=>o<(rows.length+news.length)*s) (b := .tail e s ((rows.length+news.length)*s)) hR hn hp
       exact eP hrun (y:=x.fresh (x.w.drew.alloc (.cells arr e)) aA k (fun o=>o<(rows.length+news.length)*s) (.tail e s ((rows.length+news.length)*s))) rfl jQ M
        (ve M kS jf XS P3 Qt Am (by show (de _ _ _)[_]? = _; rw[aS hn.le,if_pos rfl]) (if_pos rfl) (if_pos rfl) hp.new (fun o ho => .inr ⟨rfl,ho⟩) Ta v1 v2 g2)
      cases tok with
      | none =>
       simp only at h
       split at h
       ·rename_i hfc
        simp only[Bool.and_eq_true,List.all_eq_true,decide_eq_true_eq] at hfc
        cases h
        exact OW hfc.1 hfc.2 rfl rfl
       ·cases h
      | some tk =>
       simp only at h
       split at h
       ·rename_i e' s' n' FJ
        split at h
        ·rename_i Ni
         simp only[Bool.and_eq_true,decide_eq_true_eq] at Ni
         obtain⟨⟨w1,w2⟩,w3⟩:=Ni
         rw[w1,w2,w3] at FJ
         cases h
         obtain⟨e2,s2',n2,q1,q2,q3,q4⟩:=k5 tk rfl
         rw[FJ] at q1
         cases q1
         obtain⟨rfl,rfl⟩:=q4 rfl
         obtain⟨-,-,-,-,-,-,XS,BM,vG,Qt,Dg,aav⟩:=oS Af q3
         have VK:=fI q3
         obtain⟨cur,t1,t2,t3,t4⟩:=hR.cN tk _ _ _ FJ
         have DD:∀ j,j<rows.length*s→cur[j]? = some (BM.getD j undef):=by
          intro j hj
          have sU:j<(flat rows).length:=by omega
          obtain⟨b',o',r1,-,r2⟩:=Dg j _ (List.getElem?_eq_getElem sU)
          cases r1
          simpa [World.cell?,t1] using r2
         by_cases hroom:rows.length+news.length≤x.κ tk
         ·
          have qG:rows.length*s+jN.length≤cur.size:=by rw[pQ,t2,← Nat.add_mul]; exact Nat.mul_le_mul_right _ hroom
          have hrun:=run_append_room (P:=P) x.w t u e ie hu oz (x.μ tk) rows.length (x.κ tk) cur t1 ⟨b2,o2,none⟩ news.length ov jN (by rw[pQ,nk]) mj AZ hroom (by rw[nk]; exact qG)
          rw[nk] at hrun
          generalize uM:(cur.toList.take (rows.length*s)++jN++cur.toList.drop (rows.length*s+jN.length)).toArray=arr at *
          have ZG:arr.size=cur.size:=by rw[← uM]; simp; omega
          have Uh:∀ j,j<rows.length*s→arr[j]? = some (BM.getD j undef):=by
           intro j hj
           have h1:=DD j hj
           rw[← uM,List.getElem?_toArray,List.append_assoc,List.getElem?_append_left (by simp; omega),List.getElem?_take,if_pos hj]
           simpa using h1
          have aaA:∀ j,j<news.length*s→arr[rows.length*s+j]? = some (jN.getD j undef):=by
           intro j hj
           have e1:(cur.toList.take (rows.length*s)).length=rows.length*s:=by simp; omega
           rw[← uM,List.getElem?_toArray,List.append_assoc,List.getElem?_append_right (by omega),e1,Nat.add_sub_cancel_left,List.getElem?_append_left (by omega)]
           simp[List.getD_eq_getElem?_getD,List.getElem?_eq_getElem (show j<jN.length by omega)]
          have oa:∀ o,o<rows.length*s→(x.w.setRow (x.μ tk) arr).cell? ⟨x.μ tk,o,none⟩=x.w.cell? ⟨x.μ tk,o,none⟩:=by
           intro o ho
           rw[cell_setRow_same _ _ _ _ _ _ _ t1,Uh o ho]
           simp[World.cell?,t1,DD o ho]
          have Ta:(rows.length+news.length)*s≤arr.size:=by rw[ZG,t2]; exact Nat.mul_le_mul_right _ hroom
          have hle:rows.length*s≤(rows.length+news.length)*s:=Nat.mul_le_mul_right _ (by omega)
          have jQ:=xu (F:=fun o=>o<(rows.length+news.length)*s) (arr:=arr) (b := .tail e s ((rows.length+news.length)*s)) hR FJ (.inr (.inl ⟨e,s,_,_,rfl,rfl,hle,oa,by rw[ZG]; exact t2,Ta,fun o ho=>ho⟩))
          have M:=o7 (F:=fun o=>o<(rows.length+news.length)*s) (arr:=arr) (b := .tail e s ((rows.length+news.length)*s)) hR FJ (.inr (.inl ⟨e,s,_,_,rfl,rfl,hle,oa⟩))
          exact eP hrun (y:=x.upd tk arr (fun o=>o<(rows.length+news.length)*s) (.tail e s ((rows.length+news.length)*s))) rfl jQ M
           (ve M q3 jf XS P3 Qt Am (by show (x.S.set _ _)[_]? = _; rw[cI FJ,if_pos rfl]) rfl rfl (setRow_heap _ _ _ _ _ _ t1) (fun o ho => .inr ⟨rfl,ho⟩) Ta (fun j hj=>by rw[Array.getD_eq_getD_getElem?,Uh j hj]; rfl) (fun j hj=>by rw[Array.getD_eq_getD_getElem?,aaA j hj]; rfl) hroom)
         ·
          obtain⟨g1,g2,g3⟩:=grown BM vG _ rfl
          have hrun:=run_append_grow (P:=P) x.w t u e ie z hu oz UW ⟨x.μ tk,0,none⟩ rows.length (x.κ tk) BM (by rw[vG,nk]) (fun j v hv=>by
            have hj:j<(flat rows).length:=by rw[VK,← vG]; exact(List.getElem?_eq_some_iff.1 hv).1
            obtain⟨b',o',r1,-,r2⟩:=Dg j _ (List.getElem?_eq_getElem hj)
            cases r1
            rw[fJ,r2]
            simp[List.getD_eq_getElem?_getD,hv]) ⟨b2,o2,none⟩ news.length ov jN (by rw[pQ,nk]) mj (by omega) (by omega) (growslice_fits (by omega) (by rw[zZ]; exact jh))
          generalize hk0:grownCap x.w (rows.length+news.length) (x.κ tk) e=k at *
          obtain⟨v1,v2⟩:=vw (Z:=Builtin.zeroCells z.cells (k-(rows.length+news.length))) vG pQ
          generalize uM:BM.toArray++jN.toArray++Builtin.zeroCells z.cells (k-(rows.length+news.length))=arr at *
          have hp:kP x.w (x.w.drew.alloc (.cells arr e)) (.cells arr e (0,0)):=⟨rfl,rfl,rfl⟩
          have Ta:(rows.length+news.length)*s≤arr.size:=by rw[g3]; exact Nat.mul_le_mul_right _ g2
          have hlt:rows.length*s<(rows.length+news.length)*s:=Nat.mul_lt_mul_of_pos_right (by omega) hs
          have jQ:=JY (k:=k) (F:=fun o=>o<(rows.length+news.length)*s) hR FJ hp hlt g3 Ta g1 fun o ho=>ho
          have M:=zC (k:=k) (F:=fun o=>o<(rows.length+news.length)*s) (n':=(rows.length+news.length)*s) hR FJ hp hlt
          exact eP hrun (y:=x.ia (x.w.drew.alloc (.cells arr e)) tk k (fun o=>o<(rows.length+news.length)*s) (.tail e s ((rows.length+news.length)*s))) rfl jQ M
           (ve M q3 jf XS P3 Qt Am (by show (x.S.set _ _)[_]? = _; rw[cI FJ,if_pos rfl]) (if_pos rfl) (if_pos rfl) hp.new (fun o ho => .inr ⟨rfl,ho⟩) Ta v1 v2 g2)
        ·cases h
       ·cases h
     ·cases h
 ·cases h
theorem find_congr (kt:TypeId) (k:Value):∀ (l m:List MapEntry) (i:Nat),l.map (fun e=>(e.key,e.val))=m.map (fun e=>(e.key,e.val))→Instr.findAsking kt k l i=Instr.findAsking kt k m i
 | [],[],_,_=>rfl
 | [],_::_,_,h=>by simp at h
 | _::_,[],_,h=>by simp at h
 | e::l,f::m,i,h=>by
  simp only[List.map_cons,List.cons.injEq,Prod.mk.injEq] at h
  unfold Instr.findAsking
  rw[h.1.1,h.1.2,find_congr kt k l m (i+1) h.2]
theorem Bh (kd:TypeDesc) (k:Value):∀ (l m:List MapEntry) (i:Nat),l.map (fun e=>(e.key,e.val))=m.map (fun e=>(e.key,e.val))→Instr.findNow kd k l i=Instr.findNow kd k m i
 | [],[],_,_=>rfl
 | [],_::_,_,h=>by simp at h
 | _::_,[],_,h=>by simp at h
 | e::l,f::m,i,h=>by
  simp only[List.map_cons,List.cons.injEq,Prod.mk.injEq] at h
  unfold Instr.findNow
  rw[h.1.1,h.1.2,Bh kd k l m (i+1) h.2]
theorem Bu (kt:TypeId) (k:Value) {l m:List MapEntry} (h:l.map (fun e=>(e.key,e.val))=m.map (fun e=>(e.key,e.val))):Instr.findKey kt k l=Instr.findKey kt k m:=by
 unfold Instr.findKey
 have h1:∀ kd,Instr.findNow kd k l 0=Instr.findNow kd k m 0:=fun kd=>Bh kd k l m 0 h
 have h2:=find_congr kt k l m 0 h
 simp only[h1,h2]
theorem IP (es:List (Value×Value)):(es.map Pk).map (fun e=>(e.key,e.val))=es:=by
 rw[List.map_map]
 conv=>rhs; rw[← List.map_id es]
 congr 1
theorem N8 {v:Value} {d:DV} (h:DO v=some d):RV x d v:=by
 unfold DO at h
 split at h
 ·rename_i vs
  split at h
  ·rename_i v b hvs
   simp only[Option.map_eq_some_iff] at h
   obtain⟨d',h1,rfl⟩:=h
   have e:vs=#[v,.bool b]:=by rw[← Array.toArray_toList (xs:=vs),hvs]
   subst e
   refine .ee rfl fun j c hc => ?_
   match j with
   | 0=>simp only[List.getElem?_cons_zero,Option.some.injEq] at hc; subst hc; exact tT h1
   | 1=>simp only[List.getElem?_cons_succ,List.getElem?_cons_zero,Option.some.injEq] at hc; subst hc; exact .val rfl
   | j+2=>simp at hc
  ·cases h
 ·exact tT h
theorem G0 (hR:Rel x) (hn:AJ x.S aA) {t:TypeId}:Yields x ((do pure (.value (← Instr.makeMap t none)):Sem Next).run P x.w) (.map aA) (de x.S aA (.map [])):=by
 have hp:kP x.w (x.w.alloc (.map #[] 0)) (.map #[] 0):=ez _ _
 have jQ:=jj (k:=0) (F:=fun _=>False) (b := .map []) hR hn hp (by simp) (.inr (.inr (.inl ⟨rfl,by simp,rfl⟩)))
 refine eP (y:=x.fresh _ aA 0 (fun _=>False) (.map [])) (v := .map (some x.w.heap.size)) ?_ rfl jQ (gB hR hn hp) ?_
 ·simp[Instr.makeMap,Cx.fresh]
 ·have:(x.fresh (x.w.alloc (.map #[] 0)) aA 0 (fun _=>False) (.map [])).μ aA=x.w.heap.size:=if_pos rfl
  rw[← this]
  exact .map (es:=[]) (by show (de _ _ _)[_]? = _; rw[aS hn.le,if_pos rfl])
theorem IU (hR:Rel x) {id:Nat} {es:List (Value×Value)} (h:x.S[id]? = some (.map es)):∃ xS clk,x.w.heap[x.μ id]? = some (.map xS clk)∧xS.toList.map (fun e=>(e.key,e.val))=es:=by
 obtain⟨o,h1,h2⟩:=hR.c9 id _ h rfl
 cases o<;>simp only[oL] at h2
 exact⟨_,_,h1,h2⟩
theorem sk {α β:Type} {s:Sem α} {f:α→Sem β} {b:β} (h:bI P (s >>= f)=some b):∃ a,bI P s=some a∧bI P (f a)=some b:=by
 change bI P (s.bind f)=some b at h
 induction s with
 | pure a=>exact⟨a,rfl,h⟩
 | program k ih=>exact ih P h
 | _=>simp[Sem.bind,bI] at h
theorem Kl (hR:Rel x) {t:TypeId} {id:Nat} {es:List (Value×Value)} {k v:Value} {ok:Bool} {d:DV} (h:x.S[id]? = some (.map es)) (hp:bI P (HU t (es.map Pk) k ok)=some v) (hd:DO v=some d) :
  Yields x ((do pure (.value (← Instr.lookup t (.map (some (x.μ id))) k ok)):Sem Next).run P x.w) d x.S:=by
 obtain⟨xS,clk,h1,h2⟩:=IU hR h
 refine aL hR (v:=v) ?_ (N8 hd)
 have hk:∀ kt,Instr.findKey kt k (es.map Pk)=Instr.findKey kt k xS.toList:=fun kt=>Bu kt k (by rw[IP,h2])
 have he:(es.map Pk).isEmpty=xS.isEmpty:=by
  rw[← h2,Bool.eq_iff_iff]
  simp
 have hg:=gv (P:=P) h1 (by simp)
 unfold HU at hp
 obtain⟨td,p1,p2⟩:=sk hp
 have r1:=kI p1 x.w
 cases td with
 | map key elem =>
  simp only at p2
  have r2:=kI p2 x.w
  unfold Instr.lookup
  simp only[Sem.run_bind,r1,Result.andThen_ok,hg,Sem.run_pure,hk,he] at r2 ⊢
  exact r2
 | _=>simp[stuck,bI] at p2
theorem C6 (hR:Rel x) {t:TypeId} {id:Nat} {es es':List (Value×Value)} {k v:Value} {r:Option (Nat×Value)} (h:x.S[id]? = some (.map es)) (hp:bI P (H9 t (es.map Pk) k)=some r) (hs:LO es k v r=some es') :
  Yields x ((do Instr.mapUpdate t (.map (some (x.μ id))) k v; pure .skip:Sem Next).run P x.w) aP (x.S.set id (.map es')):=by
 obtain⟨xS,clk,h1,h2⟩:=IU hR h
 have hk:∀ kt,Instr.findKey kt k (es.map Pk)=Instr.findKey kt k xS.toList:=fun kt=>Bu kt k (by rw[IP,h2])
 have hg:=gv (P:=P) h1 (by simp)
 suffices hm:∃ Ia VZ,(Instr.mapUpdate t (.map (some (x.μ id))) k v).run P x.w = .ok () (bE x.w (x.μ id) (.map Ia VZ))∧Ia.toList.map (fun e=>(e.key,e.val))=es' by
  obtain⟨Ia,VZ,q1,q2⟩:=hm
  exact Ee (y:=x.rA id (.map Ia VZ) (.map es')) q1 rfl (Ey hR h trivial (by simp) q2) (vp hR h trivial (by simp))
 unfold H9 at hp
 obtain⟨td,p1,p2⟩:=sk hp
 have r1:=kI p1 x.w
 cases td with
 | map key elem =>
  simp only at p2
  obtain⟨u,p3,p4⟩:=sk p2
  have r2:=kI p3 x.w
  have r3:=kI p4 x.w
  rw[hk] at r3
  unfold Instr.mapUpdate
  simp only[Sem.run_bind,r1,Result.andThen_ok,hg,r2,r3]
  cases r with
  | none =>
   simp only[LO,Option.some.injEq] at hs
   subst hs
   exact⟨_,_,iz h1 (by simp),by simp[h2]⟩
  | some q =>
   obtain⟨i,v0⟩:=q
   simp only[LO] at hs
   split at hs
   ·rename_i k' v' hi
    split at hs
    ·rename_i hsb
     cases hs
     have hlt:i<xS.size:=by
      have:=(List.getElem?_eq_some_iff.1 hi).1
      rw[← h2] at this
      simpa using this
     have hek:((xS[i]?).map (·.key)).getD k=k':=by
      rw[← h2] at hi
      simp only[List.getElem?_map,Array.getElem?_toList,Option.map_eq_some_iff,Prod.mk.injEq] at hi
      obtain⟨e,q1,q2,-⟩:=hi
      rw[q1]
      exact q2
     simp only[hek,Instr.keyThatStays,hsb,if_true]
     refine⟨_,_,iz h1 (by simp),?_⟩
     rw[Array.toList_modify]
     refine List.ext_getElem? fun j => ?_
     rw[← h2]
     simp only[List.getElem?_map,List.getElem?_modify,List.getElem?_set,List.length_map]
     by_cases hj:i=j
     ·subst hj
      simp[hlt]
     ·simp[hj]
    ·cases hs
   ·cases hs
 | _=>simp[stuck,bI] at p2
end Go.Di
end
section
namespace Go.Di
open Go
variable {P:Program} {ty:eV} {x:Cx} {w':World} {ρd:Operand→Option DV} {ρ:Operand→Value} {o:Oper} {aA:Nat}
theorem vz (hR:Rel x) (hn:AJ x.S aA) {k s n:Nat} {e:TypeId} {l:List DV} {arr:Array Value} {agg:Bool} (hp:kP x.w w' (.cells arr e (0,0))) (hsz:arr.size=k*s) (hl:l.length≤arr.size) (hk:k≤maxLen) (hc:∀ j c,l[j]? = some c→c.bt=true∧RV x c (arr.getD j undef)) (K8:n*s=l.length) :
  ∃ y,y.w=w'∧y.S=de x.S aA (.op e s l false)∧Rel y∧bk x y∧RV y (.gD aA n agg) (.slice (some ⟨x.w.heap.size,0,none⟩) n k):=by
 have jQ:=jj (k:=k) (F:=fun _=>False) (b := .op e s l false) hR hn hp (by simp) (.inr (.inr (.inr ⟨e,s,l,arr,rfl,rfl,hsz,hl,hk,by simp,hc⟩)))
 refine⟨_,rfl,rfl,jQ,gB hR hn hp,?_⟩
 refine RV.gD (e:=e) (s:=s) (l:=l) (z:=false) (by show (de _ _ _)[_]? = _; rw[aS hn.le,if_pos rfl]) (by omega) fun _ => ?_
 exact⟨by rw[show (x.fresh w' aA k (fun _=>False) (.op e s l false)).μ aA=x.w.heap.size from if_pos rfl],(if_pos rfl:(if aA=aA then k else _)=k).symm⟩
theorem Km (dh:gT P ty) (hR:Rel x) (hn:AJ x.S aA) (hρ:s7 x ρd ρ) {t e:TypeId} {n s iZ sz sz':Nat} {agg:Bool} {k:TK} {z0:Option (List DV)} {z cs:List DV} {ps:Array (Nat×Operand)} {l:List (Nat×DV)} (h:ty t=some ⟨.slice e s iZ agg,sz,z0⟩) (hl:gX ρd ps.toList=some l) (he:ty e=some ⟨k,sz',some z⟩)
  (hs:0<s) (HD:n*s≤16777216) (hf:iB (fun i=>some (i*s,s)) ((List.replicate n z).flatten) (l.map fun(i,v)=>(i,v.strip))=some cs) (hp:cs.all DV.bt=true) :
  Yields x ((do pure (.value (← Instr.buildSlice t n (ps.map fun p=>(p.1,ρ p.2)))):Sem Next).run P x.w) (.gD aA n agg) (de x.S aA (.op e s cs false)):=by
 obtain⟨arr,h6,jW,hrun⟩:=BI dh hR hρ h hl he hs HD hf
 have SX:n≤n*s:=Nat.le_mul_of_pos_right n hs
 obtain⟨y,y1,y2,y3,y4,y5⟩:=vz (n:=n) (agg:=agg) hR hn (ez x.w (.cells arr e)) (k:=n) (s:=s) (by rw[h6.1,jW]) (by rw[h6.1]; exact Nat.le_refl _) (by unfold maxLen; omega) (fun j c hc=>⟨List.all_eq_true.1 hp c (List.mem_of_getElem? hc),h6.2 j c hc⟩) jW.symm
 exact eP (by rw[y1]; exact hrun) y2 y3 y4 y5
set_option maxRecDepth 8000 in
theorem C7 (dh:gT P ty) (hR:Rel x) (hn:AJ x.S aA) {t e:TypeId} {s iZ sz sz':Nat} {agg:Bool} {k:TK} {z0:Option (List DV)} {z:List DV} {kd kd':IntKind} {n:Int} (h:ty t=some ⟨.slice e s iZ agg,sz,z0⟩) (he:ty e=some ⟨k,sz',some z⟩)
  (h0:0≤n) (hs:0<s) (HD:n≤140737488355328-4096) (hb:n.toNat*iZ≤dG) (hp:(z.map DV.aI).all DV.bt=true) :
  Yields x ((do pure (.value (← Instr.makeSlice t (.int kd n) (.int kd' n))):Sem Next).run P x.w) (.gD aA n.toNat agg) (de x.S aA (.op e s (List.replicate n.toNat (z.map DV.aI)).flatten false)):=by
 obtain⟨hk,i,hi,-,-⟩:=bh (dh t _ h)
 obtain⟨hu,ie,oz,nk,X2,BQ⟩:=iR hk
 obtain⟨-,ie',xP,-,hz⟩:=bh (dh e _ he)
 rw[oz] at xP
 cases xP
 obtain⟨zv,h1,h2,Yo⟩:=gC hz
 obtain⟨h3,h4⟩:=fu (x:=x) h2
 have KY:zv.cells.size=s:=by rw[← nk,← Yo]; simpa using h3
 have B1:z.length=s:=by rw[Yo,nk]
 have h4':∀ j c,(z.map DV.aI)[j]? = some c→RV x c (zv.cells.toList.getD j undef):=fun j c hc=>by
  simp only[List.getElem?_map,Option.map_eq_some_iff] at hc
  obtain⟨c',h1,rfl⟩:=hc
  exact(h4 j c' h1).aI
 have wZ:=A3 (n:=n.toNat) (z:=z.map DV.aI) hs (by rw[List.length_map]; exact B1) KY h4'
 generalize uM:(Array.range (n.toNat*s)).map (zv.cells[· % zv.cells.size]!)=arr at *
 have hlen:(List.replicate n.toNat (z.map DV.aI)).flatten.length=n.toNat*s:=by simp[B1]
 obtain⟨y,y1,y2,y3,y4,y5⟩:=vz (n:=n.toNat) (agg:=agg) hR hn (ez x.w (.cells arr e)) (k:=n.toNat) (s:=s) (by rw[wZ.1,hlen]) (by rw[wZ.1]; exact Nat.le_refl _) (by unfold maxLen; omega) (fun j c hc=>⟨by
  have hm:=List.mem_of_getElem? hc
  simp only[List.mem_flatten,List.mem_replicate] at hm
  obtain⟨l,⟨-,rfl⟩,hm⟩:=hm
  exact List.all_eq_true.1 hp c hm,wZ.2 j c hc⟩) hlen.symm
 refine eP (v := .slice (some ⟨x.w.heap.size,0,none⟩) n.toNat n.toNat) ?_ y2 y3 y4 y5
 rw[y1]
 have hw:IntKind.i64.wrap n=n:=by rw[IntKind.wrap_i64]; omega
 have hbz:((ie.bytes:Int)*n)≤140737488355328:=by
  have e1:n=(n.toNat:Int):=by omega
  rw[e1,X2,← Int.natCast_mul,Nat.mul_comm]
  unfold dG at hb
  omega
 have e48:(2:Int) ^ 48=281474976710656:=by decide
 have c1:¬ (n<0):=by omega
 have c2:¬ (281474976710656<(ie.bytes:Int)*n):=by omega
 subst nk
 have hnw:(newRow e arr).run P x.w = .ok ⟨x.w.heap.size,0,none⟩ (x.w.alloc (.cells arr e)):=by simp[newRow]
 have c3:¬ (2 ^ 48<(ie.bytes:Int)*n):=by rw[e48]; exact c2
 have rF:∀ z0:Array Value,(Array.range (n.toNat*ie.size)).map (z0[· % z0.size]!)=arr→(do let a ← newRow e ((Array.range (n.toNat*ie.size)).map (z0[· % z0.size]!)); pure (Value.slice (some a) n.toNat n.toNat):Sem Value).run P x.w = .ok (.slice (some ⟨x.w.heap.size,0,none⟩) n.toNat n.toNat) (x.w.alloc (.cells arr e)):=fun z0 h=>by
  rw[h,Sem.run_bind,hnw,Result.andThen_ok,Sem.run_pure]
 unfold Instr.makeSlice
 simp only[Sem.run_bind,run_underlying hu,Result.andThen_ok,asInt,asIntOf,Sem.run_pure,typeInfo,run_program,oz,hw,decide_eq_false c1,decide_eq_false c3,Bool.or_false,gt_iff_lt,decide_eq_false (Int.lt_irrefl n),Bool.false_eq_true,if_false,run_askRoom,run_sizeOf oz]
 by_cases Dp:n.toNat*ie.size=0
 ·have:=rF #[] (by rw[← uM,Dp]; simp)
  simpa only [if_pos Dp,Sem.run_bind,Sem.run_pure,Result.andThen_ok] using this
 ·have:=rF zv.cells uM
  simpa only [if_neg Dp,zeroValue,typeInfo,run_program,oz,h1,Sem.run_bind,Sem.run_pure,Result.andThen_ok] using this
theorem zA (dh:gT P ty) (hR:Rel x) (hn:AJ x.S aA) {t u:TypeId} {a b d:DV} {va vb:Value} {S':ak} (ha:RV x a va) (hb:RV x b vb) (h:kE ty x.S aA t a b=some (d,S')) :
  Yields x ((do pure (.value (← Builtin.append_ #[t,t] u #[va,vb])):Sem Next).run P x.w) d S':=by
 unfold kE at h
 split at h
 rotate_left
 ·cases h
 rename_i e s iZ agg sz z0 news BU Ul SU
 obtain⟨hk,it,-,-,-⟩:=bh (dh t _ SU)
 obtain⟨hu,ie,oz,nk,zZ,-⟩:=iR hk
 have Dt:=hb
 cases hb with
 | @sl _ _ _ A2 ov s2 vs2 Pq Pw m1 m2 m3 m4 m5 =>
  split at h
  rotate_left
  ·cases h
  rename_i hte
  obtain⟨z,UW,KY⟩:∃ z,ie.zero=some z∧z.cells.size=s:=by
   obtain⟨-,ie',xP,FO,wZ⟩:=bh (dh e _ hte)
   rw[oz] at xP
   cases xP
   obtain⟨z,q1,q2,q3⟩:=gC wZ
   have:=(fu (x:=x) q2).1
   exact⟨z,q1,by rw[← nk,← q3]; simpa using this⟩
  have emp:∀ (A:Option Addr) (n cap:Nat),n≤cap→news=[]→(Builtin.append_ #[t,t] u #[.slice A n cap,.slice A2 news.length ov]).run P x.w = .ok (.slice A n cap) x.w:=by
   rintro A n cap k1 rfl
   subst nk
   cases A<;>cases A2<;>simp[Builtin.append_,run_underlying hu,run_sizeOf oz,Builtin.lenOf,Builtin.firstCells,loadCells,loadCellsFrom,storeCells,k1]
  have grown:∀ (n cap:Nat),n+news.length≤140737488355328-4096→∀ (w1:List Value),w1.length=n*s→∀ (jN:List Value),jN.length=news.length*s→∀ (k:Nat),k=grownCap x.w (n+news.length) cap e→k≤maxLen∧n+news.length≤k ∧
    (w1.toArray++jN.toArray++Builtin.zeroCells z.cells (k-(n+news.length))).size=k*s:=by
   intro n cap hlen w1 HB jN pQ k hk
   have Df:=grownCap_ge x.w (n+news.length) cap e
   have hle:=grownCap_le_maxLen x.w (n+news.length) cap e (by simp only[maxLen]; omega)
   subst hk
   refine⟨hle,Df,?_⟩
   simp only[Array.size_append,List.size_toArray,size_zeroCells,KY,HB,pQ,← Nat.add_mul]
   congr 1
   omega
  have TM:news≠[]→(∀ r∈news,r.cells.length=s)→0<news.length∧∃ (b2 o2:Nat) (jN:List Value),A2=some ⟨b2,o2,none⟩∧jN.length=news.length*s∧(flat news).length=news.length*s∧(∀ c∈flat news,c.bt=true)∧(∀ j c,(flat news)[j]? = some c→RV x c (jN.getD j undef)) ∧
    (∀ j v,jN[j]? = some v→x.w.cell? ((⟨b2,o2,none⟩:Addr).add j)=some v)∧∀ u∈jN,u.oneCell'=true:=by
   intro hne jf
   have hm:0<news.length:=List.length_pos_iff.2 hne
   obtain⟨-,-,-,-,-,Vx,P3,jN,pQ,Am,sW,AZ⟩:=oS Dt jf
   obtain⟨Ti,rfl⟩:∃ Ti,A2=some Ti:=by
    cases A2 with
    | none=>have:=m3 rfl; omega
    | some ad=>exact⟨ad,rfl⟩
   have wS:=fI jf
   obtain⟨b2,o2,sp2⟩:=Ti
   have Vw:sp2=none:=Vx _ rfl
   subst Vw
   refine⟨hm,b2,o2,jN,rfl,pQ,wS,P3,Am,fun j v hv => ?_,AZ⟩
   have hj:j<(flat news).length:=by rw[wS,← pQ]; exact(List.getElem?_eq_some_iff.1 hv).1
   obtain⟨b',o',q1,-,q2⟩:=sW j _ (List.getElem?_eq_getElem hj)
   cases q1
   rw[fJ,q2]
   simp[List.getD_eq_getElem?_getD,hv]
  split at h
  ·
   rename_i id n ag
   cases ha with
   | @gD _ _ _ e1 s1 l1 z1 A cap S9 hn1 hA1 =>
    split at h
    rotate_left
    ·cases h
    rename_i kT
    simp only[Bool.and_eq_true,decide_eq_true_eq,List.all_eq_true] at kT
    obtain⟨⟨⟨⟨hs,-⟩,jh⟩,hlen⟩,jf⟩:=kT
    split at h
    rotate_left
    ·cases h
    rename_i e' s' l hop
    split at h
    rotate_left
    ·cases h
    rename_i sW
    simp only[Bool.and_eq_true,decide_eq_true_eq] at sW
    obtain⟨c1,c2⟩:=sW
    rw[c1,c2] at hop
    obtain⟨hS,BO⟩:=iT hop
    obtain⟨rfl,rfl,rfl,rfl⟩:e=e1∧s=s1∧l=l1∧false=z1:=by rw[hS] at S9; cases S9; exact⟨rfl,rfl,rfl,rfl⟩
    obtain⟨rfl,rfl⟩:=hA1 BO
    obtain⟨cur,t1,t2,t3,t4,t5,-,-⟩:=hR.ops id _ _ _ _ hS
    have hnκ:n≤x.κ id:=Nat.le_of_mul_le_mul_right (show n*s≤x.κ id*s by omega) hs
    split at h
    ·rename_i qH
     cases h
     exact aL hR (emp _ _ _ hnκ (by simpa using qH)) (.gD hS hn1 fun _=>⟨rfl,rfl⟩)
    rename_i qH
    cases h
    obtain⟨hm,b2,o2,jN,rfl,pQ,wS,P3,Am,mj,AZ⟩:=TM (by simpa using qH) jf
    have Uf:(l++flat news).length=(n+news.length)*s:=by rw[List.length_append,wS,Nat.add_mul]; omega
    have vF:∀ c∈l++flat news,c.bt=true:=fun c hc=>by
     rcases List.mem_append.1 hc with hc | hc
     ·obtain⟨j,hj⟩:=List.mem_iff_getElem?.1 hc
      exact(t5 j c hj).1
     ·exact P3 c hc
    have hlt:l.length<(l++flat news).length:=by rw[List.length_append,wS]; have:=Nat.mul_pos hm hs; omega
    have abz:dR x (flat news) jN.toArray:=⟨by simp[pQ,wS],fun j c hc=>by simpa [Array.getD_eq_getD_getElem?,List.getD_eq_getElem?_getD] using Am j c hc⟩
    by_cases hroom:n+news.length≤x.κ id
    ·have qG:n*s+jN.length≤cur.size:=by rw[pQ,t2,← Nat.add_mul]; exact Nat.mul_le_mul_right _ hroom
     have hrun:=run_append_room (P:=P) x.w t u e ie hu oz (x.μ id) n (x.κ id) cur t1 ⟨b2,o2,none⟩ news.length ov jN (by rw[pQ,nk]) mj AZ hroom (by rw[nk]; exact qG)
     rw[nk,BO] at hrun
     have hp:=CI (off:=l.length) t3 (fun j c hc=>(t5 j c hc).2) abz (Nat.le_refl _) (by rw[wS]; omega)
     have hsz:(cur.toList.take l.length++jN++cur.toList.drop (l.length+jN.length)).toArray.size=cur.size:=by simp; omega
     rw[List.drop_of_length_le (show l.length≤l.length+(flat news).length by omega),List.append_nil,List.take_length,List.size_toArray] at hp
     generalize uM:(cur.toList.take l.length++jN++cur.toList.drop (l.length+jN.length)).toArray=arr at *
     have jQ:=xu (F:=fun _=>False) (arr:=arr) (b := .op e s (l++flat news) false) hR hS (.inr (.inr ⟨e,s,_,_,rfl,rfl,by omega,by simp,by rw[hsz]; exact t2,by rw[hsz,Uf,t2]; exact Nat.mul_le_mul_right _ hroom,fun j c hc=>⟨vF c (List.mem_of_getElem? hc),hp j c hc⟩⟩))
     have M:=o7 (F:=fun _=>False) (arr:=arr) (b := .op e s (l++flat news) false) hR hS (.inr (.inr ⟨e,s,_,_,rfl,rfl,by omega⟩))
     refine eP hrun (y:=x.upd id arr (fun _=>False) (.op e s (l++flat news) false)) rfl jQ M (.gD (e:=e) (s:=s) (l:=l++flat news) (z:=false) (by show (x.S.set _ _)[_]? = _; rw[cI hS,if_pos rfl]) (by omega) fun _=>⟨rfl,rfl⟩)
    ·have nC:∀ j,j<n*s→∃ v,cur[j]? = some v:=fun j hj=>⟨cur[j]'(by omega),Array.getElem?_eq_getElem _⟩
     have HB:(cur.toList.take (n*s)).length=n*s:=by simp; omega
     obtain⟨g1,g2,g3⟩:=grown n (x.κ id) hlen _ HB _ pQ _ rfl
     have hrun:=run_append_grow (P:=P) x.w t u e ie z hu oz UW ⟨x.μ id,0,none⟩ n (x.κ id) (cur.toList.take (n*s)) (by rw[HB,nk]) (fun j v hv=>by
       have hj:j<n*s:=by rw[← HB]; exact(List.getElem?_eq_some_iff.1 hv).1
       rw[List.getElem?_take,if_pos hj] at hv
       rw[fJ]
       simp only[World.cell?,t1,Nat.zero_add]
       simpa using hv) ⟨b2,o2,none⟩ news.length ov jN (by rw[pQ,nk]) mj (by omega) (by omega) (growslice_fits (by omega) (by rw[zZ]; exact jh))
     generalize hk0:grownCap x.w (n+news.length) (x.κ id) e=k at *
     obtain⟨v1,v2⟩:=vw (Z:=Builtin.zeroCells z.cells (k-(n+news.length))) HB pQ
     generalize uM:(cur.toList.take (n*s)).toArray++jN.toArray++Builtin.zeroCells z.cells (k-(n+news.length))=arr at *
     have hp:kP x.w (x.w.drew.alloc (.cells arr e)) (.cells arr e (0,0)):=⟨rfl,rfl,rfl⟩
     have hcc:∀ j c,(l++flat news)[j]? = some c→c.bt=true∧RV x c (arr.getD j undef):=fun j c hc=>by
      refine⟨vF c (List.mem_of_getElem? hc),?_⟩
      by_cases hj:j<l.length
      ·rw[List.getElem?_append_left hj] at hc
       rw[v1 j (by omega)]
       have:=(t5 j c hc).2
       simpa [Array.getD_eq_getD_getElem?,List.getD_eq_getElem?_getD,List.getElem?_take,show j<n*s by omega] using this
      ·rw[List.getElem?_append_right (by omega)] at hc
       have hj2:j-l.length<(flat news).length:=(List.getElem?_eq_some_iff.1 hc).1
       have e1:j=n*s+(j-l.length):=by omega
       rw[e1,v2 _ (by omega)]
       exact Am _ c hc
     have jQ:=Oc (k:=k) hR hS hp hlt g3 (by rw[g3,Uf]; exact Nat.mul_le_mul_right _ g2) g1 hcc
     have M:=Bm (k:=k) hR hS hp hlt
     refine eP hrun (y:=x.ia (x.w.drew.alloc (.cells arr e)) id k (fun _=>False) (.op e s (l++flat news) false)) rfl jQ M (.gD (e:=e) (s:=s) (l:=l++flat news) (z:=false) (by show (x.S.set _ _)[_]? = _; rw[cI hS,if_pos rfl]) (by omega) fun _ => ?_)
     exact⟨congrArg (fun b=>some (⟨b,0,none⟩:Addr)) (if_pos rfl:(if id=id then _ else _)=_).symm,(if_pos rfl:(if id=id then k else _)=k).symm⟩
  ·
   rename_i f
   cases ha with
   | @sl _ _ _ A cap s1 vs1 Ds uG k1 k2 k3 k4 k5 =>
    split at h
    ·rename_i qH
     cases h
     exact aL hR (emp _ _ _ k1 (by simpa using qH)) (.sl Ds uG k1 k2 k3 k4 k5)
    rename_i qH
    split at h
    rotate_left
    ·cases h
    rename_i kT
    simp only[Bool.and_eq_true,decide_eq_true_eq,List.all_eq_true] at kT
    obtain⟨⟨⟨⟨⟨abL,hs⟩,-⟩,jh⟩,hlen⟩,jf⟩:=kT
    cases h
    obtain⟨hm,b2,o2,jN,rfl,pQ,wS,P3,Am,mj,AZ⟩:=TM (by simpa using qH) jf
    have Js:cap=0:=k2.1 abL
    subst Js
    obtain⟨g1,g2,g3⟩:=grown 0 0 (by omega) [] (by simp) _ pQ _ rfl
    have hrun:(Builtin.append_ #[t,t] u #[.slice A ([]:List DV).length 0,.slice (some ⟨b2,o2,none⟩) news.length ov]).run P x.w =
      .ok (.slice (some ⟨x.w.heap.size,0,none⟩) news.length (grownCap x.w news.length 0 e)) (x.w.drew.alloc (.cells (jN.toArray++Builtin.zeroCells z.cells (grownCap x.w news.length 0 e-news.length)) e)):=by
     cases A with
     | none=>exact run_append_nil (P:=P) x.w t u e ie z hu oz UW ⟨b2,o2,none⟩ news.length ov jN (by rw[pQ,nk]) mj hm (by omega) (by rw[zZ]; unfold dG at jh; omega)
     | some ad =>
      have:=run_append_grow (P:=P) x.w t u e ie z hu oz UW ad 0 0 [] (by simp) (by simp) ⟨b2,o2,none⟩ news.length ov jN (by rw[pQ,nk]) mj (by omega) (by omega) (growslice_fits (by omega) (by rw[zZ,Nat.zero_add]; exact jh))
      simpa using this
    simp only[Nat.zero_add] at g1 g2 g3
    generalize hk0:grownCap x.w news.length 0 e=k at *
    have v2:∀ j,j<news.length*s→(jN.toArray++Builtin.zeroCells z.cells (k-news.length)).getD j undef=jN.getD j undef:=fun j hj=>by
     rw[Array.getD_eq_getD_getElem?,Array.getElem?_append_left (by simp; omega)]
     simp[List.getD_eq_getElem?_getD]
    have g3':(jN.toArray++Builtin.zeroCells z.cells (k-news.length)).size=k*s:=by simpa using g3
    obtain⟨y,y1,y2,y3,y4,y5⟩:=vz (n:=news.length) (agg:=agg) hR hn (w':=x.w.drew.alloc (.cells (jN.toArray++Builtin.zeroCells z.cells (k-news.length)) e)) (e:=e) (l:=flat news) (k:=k) (s:=s) ⟨rfl,rfl,rfl⟩ g3' (by rw[g3',wS]; exact Nat.mul_le_mul_right _ g2) g1 (fun j c hc=>⟨P3 c (List.mem_of_getElem? hc),by
     have hj:j<(flat news).length:=(List.getElem?_eq_some_iff.1 hc).1
     rw[v2 j (by omega)]
     exact Am j c hc⟩) wS.symm
    exact eP (by rw[y1]; exact hrun) y2 y3 y4 y5
  ·cases h
theorem look_ok (hR:Rel x) {d:DV} {v:Value} (h:RV x d v):RV x (jd x.S d) v:=by
 cases h with
 | @gD id n agg e1 s1 l1 z1 A cap hS hn hA =>
  unfold jd
  dsimp only
  split
  ·rename_i e s l hop
   obtain⟨xe,BO⟩:=iT hop
   obtain⟨rfl,rfl,rfl,rfl⟩:e=e1∧s=s1∧l=l1∧true=z1:=by rw[xe] at hS; cases hS; exact⟨rfl,rfl,rfl,rfl⟩
   split
   ·rename_i hc
    simp only[Bool.and_eq_true,Bool.or_eq_true,beq_iff_eq,decide_eq_true_eq] at hc
    obtain⟨rfl,rfl⟩:=hA BO
    obtain⟨arr,h1,h2,h3,-,h4,h5,-⟩:=hR.ops id e s l true hS
    obtain⟨sV,Yx⟩:=Bx hc.1 hc.2 (fun c hm=>by
     obtain⟨j,hj⟩:=List.mem_iff_getElem?.1 hm
     exact(h4 j c hj).1) n BO.symm
    have XR:(rowsOf s agg l n).length=n:=by simp[rowsOf]
    suffices hk:RV x (.sl (rowsOf s agg l n) none ⟨false,some false⟩) (.slice (some ⟨x.μ id,0,none⟩) (rowsOf s agg l n).length (x.κ id)) by rw[XR] at hk; exact hk
    refine RV.sl (tok:=none) (yy Yx (fun c hm => ?_) (by rw[sV]; exact h3) h1 fun j hj=>h5 rfl j (by rw[sV] at hj; exact hj)) (fun j c hc => ?_) ?_ ⟨by simp,fun b h=>by cases h; rfl⟩ (by simp) (fun ad h=>by cases h; rfl) (fun t ht=>nomatch ht)
    ·rw[sV] at hm
     obtain⟨j,hj⟩:=List.mem_iff_getElem?.1 hm
     exact(h4 j c hj).1
    ·rw[sV] at hc
     exact(h4 j c hc).2
    ·rw[XR]
     exact Nat.le_of_mul_le_mul_right (show n*s≤x.κ id*s by omega) hc.1
   ·exact .gD hS hn hA
  ·exact .gD hS hn hA
 | val h=>exact .val h
 | agg h hl=>exact .agg h hl
 | ee h hl=>exact .ee h hl
 | sl hv hr h1 h2 h3 hsp h4=>exact .sl hv hr h1 h2 h3 hsp h4
 | ptr h=>exact .ptr h
 | cU hv hr=>exact .cU hv hr
 | fn h1 h2 h3 h4=>exact .fn h1 h2 h3 h4
 | map h=>exact .map h
 | uC h=>exact .uC h
 | dB h h1 h2=>exact .dB h h1 h2
theorem Nk (hR:Rel x) (d:DV):∃ y,y.w=x.w∧y.S=qJ x.S d∧Rel y∧bk x y:=by
 unfold qJ
 split
 ·rename_i id n ag
  split
  ·rename_i e s l hop
   obtain⟨hS,-⟩:=iT hop
   exact⟨x.close id e s l,rfl,rfl,J1 hR hS,zF hS⟩
  ·exact⟨x,rfl,rfl,hR,bk.refl x⟩
 ·exact⟨x,rfl,rfl,hR,bk.refl x⟩
theorem CO {env:List DV}:∀ (l:List Operand) {x:Cx},Rel x→∃ y,y.w=x.w∧y.S=l.foldl (mC env) x.S∧Rel y∧bk x y
 | [],x,hR=>⟨x,rfl,rfl,hR,bk.refl x⟩
 | a::l,x,hR=>by
  rw[List.foldl_cons]
  cases he:ga env a with
  | none=>rw[show mC env x.S a=x.S by unfold mC; rw[he]]; exact CO l hR
  | some d =>
   rw[show mC env x.S a=qJ x.S d by unfold mC; rw[he]]
   obtain⟨y,y1,y2,y3,y4⟩:=Nk hR d
   obtain⟨z,z1,z2,z3,z4⟩:=CO (env:=env) l y3
   exact⟨z,z1.trans y1,by rw[z2,y2],z3,y4.trans z4⟩
theorem WW {env:List DV} {arr:Array Value} (o:Oper) (hR:Rel x) (he:dR x env arr):∃ y,y.w=x.w∧y.S=(Al ty o env x.S).2∧Rel y∧bk x y∧dR y (Al ty o env x.S).1 arr:=by
 unfold Al
 split
 ·obtain⟨y,y1,y2,y3,y4⟩:=CO (env:=env) o.op.operands.toList hR
  refine⟨y,y1,y2,y3,y4,by simpa using he.1,fun j c hc => ?_⟩
  simp only[List.getElem?_map,Option.map_eq_some_iff] at hc
  obtain⟨c',h1,rfl⟩:=hc
  rw[← y2]
  exact look_ok y3 ((he.2 j c' h1).mono y4)
 ·exact⟨x,rfl,rfl,hR,bk.refl x,he⟩
end Go.Di
end
