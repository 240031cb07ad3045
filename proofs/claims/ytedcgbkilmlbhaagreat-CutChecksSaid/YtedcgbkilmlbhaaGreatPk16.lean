import Derived.Test.YtedcgbkilmlbhaaGreatPk15
import Derived.Laws.BitsLemmas
section
namespace Go.Di
open Go
variable {P:Program} {ty:eY} {x:Cx} {w':World} {ρd:Operand→Option DV} {ρ:Operand→Value} {o:Oper} {ay:Nat}
theorem o5 {rows:List DV} {tok:Option Nat} {full:SF} {A:Option Addr} {n cap s:Nat} (h:RV x (.sl rows tok full) (.slice A n cap)) (hs:∀ r∈rows,r.cells.length=s) :
  n=rows.length∧n≤cap∧((full.full=true→cap=n)∧Nr full A)∧(A=none→cap=0)∧UN x tok rows A cap∧(∀ ad,A=some ad→0<cap→ad.spot=none) ∧
  (∀ c∈flat rows,c.bn=true)∧∃ vs:List Value,vs.length=n*s∧(∀ j c,(flat rows)[j]? = some c→RV x c (vs.getD j undef)) ∧
   (∀ j c,(flat rows)[j]? = some c→∃ b o,A=some ⟨b,o,none⟩∧x.Fz b (o+j)∧x.w.cell? ⟨b,o+j,none⟩=some (vs.getD j undef))∧∀ u∈vs,u.oneCell'=true:=by
 cases h with
 | @sl _ _ _ _ _ s' vs hv hr h1 h2 h3 hsp h4 =>
  have s7:=eB hs
  refine⟨rfl,h1,h2,h3,h4,hsp,fun c hc => ?_,(List.range (rows.length*s)).map vs,by simp,fun j c hc => ?_,fun j c hc => ?_,fun u hu => ?_⟩
  ·obtain⟨j,hj,rfl⟩:=List.mem_iff_getElem.1 hc
   exact(hv.2 j _ (List.getElem?_eq_getElem hj)).1
  ·have hj:j<rows.length*s:=by rw[← s7]; exact(List.getElem?_eq_some_iff.1 hc).1
   simpa [List.getD_eq_getElem?_getD,hj] using hr j c hc
  ·have hj:j<rows.length*s:=by rw[← s7]; exact(List.getElem?_eq_some_iff.1 hc).1
   obtain⟨-,b,o,k1,k2,k3⟩:=hv.2 j c hc
   exact⟨b,o,k1,k2,by simpa [List.getD_eq_getElem?_getD,hj] using k3⟩
  ·simp only[List.mem_map,List.mem_range] at hu
   obtain⟨j,hj,rfl⟩:=hu
   have uS:j<(flat rows).length:=by omega
   have k:=List.getElem?_eq_getElem uS
   have hp:=(hv.2 j _ k).1
   have h1:((flat rows)[j]).one=true:=by
    revert hp
    generalize (flat rows)[j]=c
    cases c<;>simp[DV.bn,DV.one]
   exact(one_cell (hr j _ k) h1).1
theorem Xb {y:Cx} {R:List DV} {t s N cap:Nat} {e:TypeId} {arr:Array Value} (hR:∀ r∈R,r.cells.length=s) (hp:∀ c∈flat R,c.bn=true) (hS:y.S[t]? = some (.tail e s N)) (hN:N=R.length*s)
  (hh:y.w.heap[y.μ t]? = some (.cells arr e (0,0))) (hF:∀ o,o<N→y.Fz (y.μ t) o) (hsz:N≤arr.size) (hc:∀ j c,(flat R)[j]? = some c→RV y c (arr.getD j undef)) (hk:cap=y.κ t) (J5:R.length≤cap) :
  RV y (.sl R (some t) ⟨false,none⟩) (.slice (some ⟨y.μ t,0,none⟩) R.length cap):=by
 have s7:=eB hR
 refine RV.sl (yN hR hp (by omega) hh fun j hj=>hF j (by omega)) hc J5 ⟨by simp,fun _ h=>nomatch h⟩ (by simp) (fun ad h _=>by cases h; rfl) fun t' ht => ?_
 cases ht
 exact⟨e,s,N,hS,by omega,hR,fun _=>⟨rfl,hk⟩⟩
theorem wX (a b:List DV):flat (a++b)=flat a++flat b:=by simp[flat]
theorem vC {y:Cx} {rows news:List DV} {B1 jV:List Value} {t s b cap:Nat} {e:TypeId} {arr:Array Value} (M:bh x y) (h1:∀ r∈rows,r.cells.length=s) (h2:∀ r∈news,r.cells.length=s) (hp1:∀ c∈flat rows,c.bn=true) (Yd:∀ c∈flat news,c.bn=true)
  (uO:∀ (j:Nat) (c:DV),(flat rows)[j]? = some c→RV x c (B1.getD j undef)) (LK:∀ (j:Nat) (c:DV),(flat news)[j]? = some c→RV x c (jV.getD j undef)) (hS:y.S[t]? = some (.tail e s ((rows.length+news.length)*s))) (hμ:y.μ t=b) (hκ:y.κ t=cap)
  (hh:y.w.heap[b]? = some (.cells arr e (0,0))) (hF:∀ o,o<(rows.length+news.length)*s→y.Fz b o) (hsz:(rows.length+news.length)*s≤arr.size) (P5:∀ j,j<rows.length*s→arr.getD j undef=B1.getD j undef) (Ii:∀ j,j<news.length*s→arr.getD (rows.length*s+j) undef=jV.getD j undef)
  (J5:rows.length+news.length≤cap):RV y (.sl (rows++news) (some t) ⟨false,none⟩) (.slice (some ⟨b,0,none⟩) (rows.length+news.length) cap):=by
 have Mg:=eB h1
 have TE:=eB h2
 subst hμ hκ
 have key:=Xb (y:=y) (R:=rows++news) (t:=t) (s:=s) (arr:=arr) (cap:=y.κ t) (N:=(rows.length+news.length)*s) (fun r hr=>(List.mem_append.1 hr).elim (h1 r) (h2 r)) (fun c hc => ?_) hS (by rw[List.length_append]) hh hF hsz (fun j c hc => ?_) rfl (by rw[List.length_append]; exact J5)
 ·rw[List.length_append] at key; exact key
 ·rw[wX] at hc; exact(List.mem_append.1 hc).elim (hp1 c) (Yd c)
 ·rw[wX] at hc
  by_cases hj:j<(flat rows).length
  ·rw[List.getElem?_append_left hj] at hc
   rw[P5 j (by omega)]
   exact(uO j c hc).mono M
  ·rw[List.getElem?_append_right (by omega)] at hc
   have hj2:j-(flat rows).length<(flat news).length:=(List.getElem?_eq_some_iff.1 hc).1
   have e1:j=rows.length*s+(j-(flat rows).length):=by omega
   rw[e1,Ii _ (by omega)]
   exact(LK _ c hc).mono M
theorem vO {B1 jV:List Value} {Z:Array Value} {n m:Nat} (h1:B1.length=n) (h2:jV.length=m):(∀ j,j<n→(B1.toArray++jV.toArray++Z).getD j undef=B1.getD j undef)∧∀ j,j<m→(B1.toArray++jV.toArray++Z).getD (n+j) undef=jV.getD j undef:=by
 constructor
 ·intro j hj
  rw[Array.getD_eq_getD_getElem?,Array.getElem?_append_left (by simp; omega),Array.getElem?_append_left (by simp; omega)]
  simp[List.getD_eq_getElem?_getD]
 ·intro j hj
  rw[Array.getD_eq_getD_getElem?,Array.getElem?_append_left (by simp; omega),Array.getElem?_append_right (by simp; omega)]
  simp[List.getD_eq_getElem?_getD,h1]
theorem K6 (dx:gY P ty) (hR:Rel x) (hn:AW x.S ay) {t u:TypeId} {a b d:DV} {va vb:Value} {S':ak} (ha:RV x a va) (hb:RV x b vb) (h:gO ty x.S ay t a b=some (d,S')) :
  Yields x ((do pure (.value (← Builtin.append_ #[t,t] u #[va,vb])):Sem Next).run P x.w) d S':=by
 unfold gO at h
 split at h
 ·rename_i e s ji agg sz z0 rows tok full news B9 UF Tt
  obtain⟨hk,it,-,-,-⟩:=bg (dx t _ Tt)
  obtain⟨hu,ie,oE,nB,Ak,-⟩:=iZ hk
  have As:=ha
  have DL:=hb
  cases ha with
  | @sl _ _ _ A cap s1 vs1 DI uO k1 k2 k3 k4 k5 =>
   cases hb with
   | @sl _ _ _ A2 oA s2 vs2 PV LK m1 m2 m3 m4 m5 =>
    split at h
    ·rename_i qQ
     cases h
     have Gn:news=[]:=by simpa using qQ
     subst Gn
     refine aL hR (v := .slice A rows.length cap) ?_ As
     subst nB
     cases A with
     | none=>cases A2<;>simp[Builtin.append_,run_underlying hu,run_sizeOf oE,Builtin.lenOf,Builtin.firstCells,loadCells,loadCellsFrom,k1]
     | some ad=>cases A2<;>simp[Builtin.append_,run_underlying hu,run_sizeOf oE,Builtin.lenOf,Builtin.firstCells,loadCells,loadCellsFrom,storeCells,k1]
    ·rename_i qQ
     split at h
     ·rename_i hte
      split at h
      rotate_left
      ·cases h
      rename_i kZ
      simp only[Bool.and_eq_true,decide_eq_true_eq,List.all_eq_true] at kZ
      obtain⟨⟨⟨hs,jq⟩,hlen⟩,jm⟩:=kZ
      have hm:0<news.length:=List.length_pos_iff.2 (by simpa using qQ)
      obtain⟨z,Vg,LH⟩:∃ z,ie.zero=some z∧z.cells.size=s:=by
       obtain⟨-,ie',yc,F7,xC⟩:=bg (dx e _ hte)
       rw[oE] at yc
       cases yc
       obtain⟨z,q1,q2,q3⟩:=gH xC
       have:=(fC (x:=x) q2).1
       exact⟨z,q1,by rw[← nB,← q3]; simpa using this⟩
      obtain⟨-,-,-,-,-,VP,Qr,jV,pY,AB,uT,Bb⟩:=o5 DL jm
      obtain⟨TS,rfl⟩:∃ TS,A2=some TS:=by
       cases A2 with
       | none=>have:=m3 rfl; omega
       | some ad=>exact⟨ad,rfl⟩
      have xo:=eB jm
      obtain⟨b2,o2,sp2⟩:=TS
      have VO:sp2=none:=VP _ rfl (by omega)
      subst VO
      have mD:∀ j v,jV[j]? = some v→x.w.cell? ((⟨b2,o2,none⟩:Addr).add j)=some v:=by
       intro j v hv
       have hj:j<(flat news).length:=by rw[xo,← pY]; exact(List.getElem?_eq_some_iff.1 hv).1
       obtain⟨b',o',q1,-,q2⟩:=uT j _ (List.getElem?_eq_getElem hj)
       cases q1
       rw[fM,q2]
       simp[List.getD_eq_getElem?_getD,hv]
      have ac8:rows.length+news.length≤9223372036854775807:=by omega
      have grown:∀ (w1:List Value),w1.length=rows.length*s→∀ (k:Nat),k=grownCap x.w (rows.length+news.length) cap e→k≤maxLen∧rows.length+news.length≤k ∧
        (w1.toArray++jV.toArray++Builtin.zeroCells z.cells (k-(rows.length+news.length))).size=k*s:=by
       intro w1 HY k hk
       have DK:=grownCap_ge x.w (rows.length+news.length) cap e
       have hle:=grownCap_le_maxLen x.w (rows.length+news.length) cap e (by simp only[maxLen]; omega)
       subst hk
       refine⟨hle,DK,?_⟩
       simp only[Array.size_append,List.size_toArray,size_zeroCells,LH,HY,pY,← Nat.add_mul]
       congr 1
       omega
      have Pp:∀ (hf:full.full=true) (kY:∀ r∈rows,r.cells.length=s),d = .sl (rows++news) (some ay) ⟨false,none⟩→S'=di x.S ay (.tail e s ((rows.length+news.length)*s)) →
        Yields x ((do pure (.value (← Builtin.append_ #[t,t] u #[.slice A rows.length cap,.slice (some ⟨b2,o2,none⟩) news.length oA])):Sem Next).run P x.w) d S':=by
       intro hf kY hd hS
       subst hd hS
       have J5:cap=rows.length:=k2.1 hf
       obtain⟨-,-,-,-,-,abS,Yc,B1,vW,QU,Du,aaP⟩:=o5 As kY
       have QY:=eB kY
       obtain⟨g1,g2,g3⟩:=grown B1 vW _ rfl
       have hrun:(Builtin.append_ #[t,t] u #[.slice A rows.length cap,.slice (some ⟨b2,o2,none⟩) news.length oA]).run P x.w =
         .ok (.slice (some ⟨x.w.heap.size,0,none⟩) (rows.length+news.length) (grownCap x.w (rows.length+news.length) cap e)) (x.w.drew.alloc (.cells (B1.toArray++jV.toArray++Builtin.zeroCells z.cells (grownCap x.w (rows.length+news.length) cap e-(rows.length+news.length))) e)):=by
        cases A with
        | none =>
         have h0:=k3 rfl
         have F8:rows.length=0:=by omega
         have hw0:B1=[]:=List.eq_nil_of_length_eq_zero (by rw[vW,F8]; simp)
         subst hw0
         rw[F8,h0]
         have:=run_append_nil (P:=P) x.w t u e ie z hu oE Vg ⟨b2,o2,none⟩ news.length oA jV (by rw[pY,nB]) mD hm (by omega) (by rw[Ak]; unfold dQ at jq; have:news.length*ji≤(rows.length+news.length)*ji:=Nat.mul_le_mul_right _ (by omega); omega)
         simpa using this
        | some ad =>
         obtain⟨b1,o1,sp1⟩:=ad
         have DJ:0<rows.length→sp1=none:=fun h=>abS _ rfl (by omega)
         refine run_append_grow (P:=P) x.w t u e ie z hu oE Vg ⟨b1,o1,sp1⟩ rows.length cap B1 (by rw[vW,nB]) (fun j v hv => ?_) ⟨b2,o2,none⟩ news.length oA jV (by rw[pY,nB]) mD (by omega) (by omega) (growslice_fits (by omega) (by rw[Ak]; exact jq))
         have hj:j<(flat rows).length:=by rw[QY,← vW]; exact(List.getElem?_eq_some_iff.1 hv).1
         obtain rfl:=DJ (Nat.pos_of_ne_zero fun e=>by rw[QY,e] at hj; simp at hj)
         obtain⟨b',o',q1,-,q2⟩:=Du j _ (List.getElem?_eq_getElem hj)
         cases q1
         rw[fM,q2]
         simp[List.getD_eq_getElem?_getD,hv]
       generalize hk0:grownCap x.w (rows.length+news.length) cap e=k at *
       obtain⟨v1,v2⟩:=vO (Z:=Builtin.zeroCells z.cells (k-(rows.length+news.length))) vW pY
       generalize uZ:B1.toArray++jV.toArray++Builtin.zeroCells z.cells (k-(rows.length+news.length))=arr at *
       have hp:kU x.w (x.w.drew.alloc (.cells arr e)) (.cells arr e (0,0)):=⟨rfl,rfl,rfl⟩
       have TJ:(rows.length+news.length)*s≤arr.size:=by rw[g3]; exact Nat.mul_le_mul_right _ g2
       have jX:=js (k:=k) (F:=fun o=>o<(rows.length+news.length)*s) (b := .tail e s ((rows.length+news.length)*s)) hR hn hp (fun o ho=>⟨arr[o]'(by omega),by simp only[World.cell?,hp.new]; exact Array.getElem?_eq_getElem _⟩) (.inr (.inl ⟨e,s,_,arr,rfl,rfl,g3,TJ,g1,fun o ho=>ho⟩))
       have M:=gG (k:=k) (F:=fun o=>o<(rows.length+news.length)*s) (b := .tail e s ((rows.length+news.length)*s)) hR hn hp
       exact eV hrun (y:=x.fresh (x.w.drew.alloc (.cells arr e)) ay k (fun o=>o<(rows.length+news.length)*s) (.tail e s ((rows.length+news.length)*s))) rfl jX M
        (vC M kY jm Yc Qr QU AB (by show (di _ _ _)[_]? = _; rw[aR hn.le,if_pos rfl]) (if_pos rfl) (if_pos rfl) hp.new (fun o ho => .inr ⟨rfl,ho⟩) TJ v1 v2 g2)
      cases tok with
      | none =>
       simp only at h
       split at h
       ·rename_i hfc
        simp only[Bool.and_eq_true,List.all_eq_true,decide_eq_true_eq] at hfc
        cases h
        exact Pp hfc.1 hfc.2 rfl rfl
       ·cases h
      | some tk =>
       simp only at h
       split at h
       ·rename_i e' s' n' F2
        split at h
        ·rename_i NT
         simp only[Bool.and_eq_true,decide_eq_true_eq] at NT
         obtain⟨⟨w1,w2⟩,w3⟩:=NT
         rw[w1,w2,w3] at F2
         cases h
         obtain⟨e2,s2',n2,q1,q2,q3,q4⟩:=k5 tk rfl
         rw[F2] at q1
         cases q1
         obtain⟨rfl,rfl⟩:=q4 rfl
         obtain⟨-,-,-,-,-,-,Yc,B1,vW,QU,Du,aaP⟩:=o5 As q3
         have QY:=eB q3
         obtain⟨cur,t1,t2,t3,t4⟩:=hR.cN tk _ _ _ F2
         have DW:∀ j,j<rows.length*s→cur[j]? = some (B1.getD j undef):=by
          intro j hj
          have uS:j<(flat rows).length:=by omega
          obtain⟨b',o',r1,-,r2⟩:=Du j _ (List.getElem?_eq_getElem uS)
          cases r1
          simpa [World.cell?,t1] using r2
         by_cases hroom:rows.length+news.length≤x.κ tk
         ·
          have qP:rows.length*s+jV.length≤cur.size:=by rw[pY,t2,← Nat.add_mul]; exact Nat.mul_le_mul_right _ hroom
          have hrun:=run_append_room (P:=P) x.w t u e ie hu oE (x.μ tk) rows.length (x.κ tk) cur t1 ⟨b2,o2,none⟩ news.length oA jV (by rw[pY,nB]) mD Bb hroom (by rw[nB]; exact qP)
          rw[nB] at hrun
          generalize uZ:(cur.toList.take (rows.length*s)++jV++cur.toList.drop (rows.length*s+jV.length)).toArray=arr at *
          have ZR:arr.size=cur.size:=by rw[← uZ]; simp; omega
          have UB:∀ j,j<rows.length*s→arr[j]? = some (B1.getD j undef):=by
           intro j hj
           have h1:=DW j hj
           rw[← uZ,List.getElem?_toArray,List.append_assoc,List.getElem?_append_left (by simp; omega),List.getElem?_take,if_pos hj]
           simpa using h1
          have aaU:∀ j,j<news.length*s→arr[rows.length*s+j]? = some (jV.getD j undef):=by
           intro j hj
           have e1:(cur.toList.take (rows.length*s)).length=rows.length*s:=by simp; omega
           rw[← uZ,List.getElem?_toArray,List.append_assoc,List.getElem?_append_right (by omega),e1,Nat.add_sub_cancel_left,List.getElem?_append_left (by omega)]
           simp[List.getD_eq_getElem?_getD,List.getElem?_eq_getElem (show j<jV.length by omega)]
          have om:∀ o,o<rows.length*s→(x.w.setRow (x.μ tk) arr).cell? ⟨x.μ tk,o,none⟩=x.w.cell? ⟨x.μ tk,o,none⟩:=by
           intro o ho
           rw[cell_setRow_same _ _ _ _ _ _ _ t1,UB o ho]
           simp[World.cell?,t1,DW o ho]
          have TJ:(rows.length+news.length)*s≤arr.size:=by rw[ZR,t2]; exact Nat.mul_le_mul_right _ hroom
          have hle:rows.length*s≤(rows.length+news.length)*s:=Nat.mul_le_mul_right _ (by omega)
          have jX:=xN (F:=fun o=>o<(rows.length+news.length)*s) (arr:=arr) (b := .tail e s ((rows.length+news.length)*s)) hR F2 (.inr (.inl ⟨e,s,_,_,rfl,rfl,hle,om,by rw[ZR]; exact t2,TJ,fun o ho=>ho⟩))
          have M:=pq (F:=fun o=>o<(rows.length+news.length)*s) (arr:=arr) (b := .tail e s ((rows.length+news.length)*s)) hR F2 (.inr (.inl ⟨e,s,_,_,rfl,rfl,hle,om⟩))
          exact eV hrun (y:=x.upd tk arr (fun o=>o<(rows.length+news.length)*s) (.tail e s ((rows.length+news.length)*s))) rfl jX M
           (vC M q3 jm Yc Qr QU AB (by show (x.S.set _ _)[_]? = _; rw[cI F2,if_pos rfl]) rfl rfl (setRow_heap _ _ _ _ _ _ t1) (fun o ho => .inr ⟨rfl,ho⟩) TJ (fun j hj=>by rw[Array.getD_eq_getD_getElem?,UB j hj]; rfl) (fun j hj=>by rw[Array.getD_eq_getD_getElem?,aaU j hj]; rfl) hroom)
         ·
          obtain⟨g1,g2,g3⟩:=grown B1 vW _ rfl
          have hrun:=run_append_grow (P:=P) x.w t u e ie z hu oE Vg ⟨x.μ tk,0,none⟩ rows.length (x.κ tk) B1 (by rw[vW,nB]) (fun j v hv=>by
            have hj:j<(flat rows).length:=by rw[QY,← vW]; exact(List.getElem?_eq_some_iff.1 hv).1
            obtain⟨b',o',r1,-,r2⟩:=Du j _ (List.getElem?_eq_getElem hj)
            cases r1
            rw[fM,r2]
            simp[List.getD_eq_getElem?_getD,hv]) ⟨b2,o2,none⟩ news.length oA jV (by rw[pY,nB]) mD (by omega) (by omega) (growslice_fits (by omega) (by rw[Ak]; exact jq))
          generalize hk0:grownCap x.w (rows.length+news.length) (x.κ tk) e=k at *
          obtain⟨v1,v2⟩:=vO (Z:=Builtin.zeroCells z.cells (k-(rows.length+news.length))) vW pY
          generalize uZ:B1.toArray++jV.toArray++Builtin.zeroCells z.cells (k-(rows.length+news.length))=arr at *
          have hp:kU x.w (x.w.drew.alloc (.cells arr e)) (.cells arr e (0,0)):=⟨rfl,rfl,rfl⟩
          have TJ:(rows.length+news.length)*s≤arr.size:=by rw[g3]; exact Nat.mul_le_mul_right _ g2
          have hlt:rows.length*s<(rows.length+news.length)*s:=Nat.mul_lt_mul_of_pos_right (by omega) hs
          have jX:=KF (k:=k) (F:=fun o=>o<(rows.length+news.length)*s) hR F2 hp hlt g3 TJ g1 fun o ho=>ho
          have M:=zW (k:=k) (F:=fun o=>o<(rows.length+news.length)*s) (n':=(rows.length+news.length)*s) hR F2 hp hlt
          exact eV hrun (y:=x.ij (x.w.drew.alloc (.cells arr e)) tk k (fun o=>o<(rows.length+news.length)*s) (.tail e s ((rows.length+news.length)*s))) rfl jX M
           (vC M q3 jm Yc Qr QU AB (by show (x.S.set _ _)[_]? = _; rw[cI F2,if_pos rfl]) (if_pos rfl) (if_pos rfl) hp.new (fun o ho => .inr ⟨rfl,ho⟩) TJ v1 v2 g2)
        ·cases h
       ·cases h
     ·cases h
 ·cases h
theorem find_congr (kt:TypeId) (k:Value):∀ (l m:List MapEntry) (i:Nat),l.map (fun e=>(e.key,e.val))=m.map (fun e=>(e.key,e.val))→Instr.findAsking kt k l i=Instr.findAsking kt k m i
 | [],[],_,_=>rfl
 | [],_::_,_,h=>by simp at h
 | _::_,[],_,h=>by simp at h
 | e::l,f::m,i,h=>by
  simp only[List.map_cons,List.cons.injEq,Prod.mk.injEq] at h
  unfold Instr.findAsking
  rw[h.1.1,h.1.2,find_congr kt k l m (i+1) h.2]
theorem Bt (kd:TypeDesc) (k:Value):∀ (l m:List MapEntry) (i:Nat),l.map (fun e=>(e.key,e.val))=m.map (fun e=>(e.key,e.val))→Instr.findNow kd k l i=Instr.findNow kd k m i
 | [],[],_,_=>rfl
 | [],_::_,_,h=>by simp at h
 | _::_,[],_,h=>by simp at h
 | e::l,f::m,i,h=>by
  simp only[List.map_cons,List.cons.injEq,Prod.mk.injEq] at h
  unfold Instr.findNow
  rw[h.1.1,h.1.2,Bt kd k l m (i+1) h.2]
theorem BH (kt:TypeId) (k:Value) {l m:List MapEntry} (h:l.map (fun e=>(e.key,e.val))=m.map (fun e=>(e.key,e.val))):Instr.findKey kt k l=Instr.findKey kt k m:=by
 unfold Instr.findKey
 have h1:∀ kd,Instr.findNow kd k l 0=Instr.findNow kd k m 0:=fun kd=>Bt kd k l m 0 h
 have h2:=find_congr kt k l m 0 h
 simp only[h1,h2]
theorem Jk (es:List (Value×Value)):(es.map PO).map (fun e=>(e.key,e.val))=es:=by
 rw[List.map_map]
 conv=>rhs; rw[← List.map_id es]
 congr 1
theorem OH {v:Value} {d:DV} (h:D6 v=some d):RV x d v:=by
 unfold D6 at h
 split at h
 ·rename_i vs
  split at h
  ·rename_i v b hvs
   simp only[Option.map_eq_some_iff] at h
   obtain⟨d',h1,rfl⟩:=h
   have e:vs=#[v,.bool b]:=by rw[← Array.toArray_toList (xs:=vs),hvs]
   subst e
   refine .ep rfl fun j c hc => ?_
   match j with
   | 0=>simp only[List.getElem?_cons_zero,Option.some.injEq] at hc; subst hc; exact ug h1
   | 1=>simp only[List.getElem?_cons_succ,List.getElem?_cons_zero,Option.some.injEq] at hc; subst hc; exact .val rfl
   | j+2=>simp at hc
  ·cases h
 ·exact ug h
theorem Hw (hR:Rel x) (hn:AW x.S ay) {t:TypeId}:Yields x ((do pure (.value (← Instr.makeMap t none)):Sem Next).run P x.w) (.map ay) (di x.S ay (.map [])):=by
 have hp:kU x.w (x.w.alloc (.map #[] 0)) (.map #[] 0):=eF _ _
 have jX:=js (k:=0) (F:=fun _=>False) (b := .map []) hR hn hp (by simp) (.inr (.inr (.inl ⟨rfl,by simp,rfl⟩)))
 refine eV (y:=x.fresh _ ay 0 (fun _=>False) (.map [])) (v := .map (some x.w.heap.size)) ?_ rfl jX (gG hR hn hp) ?_
 ·simp[Instr.makeMap,Cx.fresh]
 ·have:(x.fresh (x.w.alloc (.map #[] 0)) ay 0 (fun _=>False) (.map [])).μ ay=x.w.heap.size:=if_pos rfl
  rw[← this]
  exact .map (es:=[]) (by show (di _ _ _)[_]? = _; rw[aR hn.le,if_pos rfl])
theorem Jm (hR:Rel x) {id:Nat} {es:List (Value×Value)} (h:x.S[id]? = some (.map es)):∃ yg clk,x.w.heap[x.μ id]? = some (.map yg clk)∧yg.toList.map (fun e=>(e.key,e.val))=es:=by
 obtain⟨o,h1,h2⟩:=hR.dg id _ h rfl
 cases o<;>simp only[oR] at h2
 exact⟨_,_,h1,h2⟩
theorem sF {α β:Type} {s:Sem α} {f:α→Sem β} {b:β} (h:bK P (s >>= f)=some b):∃ a,bK P s=some a∧bK P (f a)=some b:=by
 change bK P (s.bind f)=some b at h
 induction s with
 | pure a=>exact⟨a,rfl,h⟩
 | program k ih=>exact ih P h
 | _=>simp[Sem.bind,bK] at h
theorem K4 (hR:Rel x) {t:TypeId} {id:Nat} {es:List (Value×Value)} {k v:Value} {ok:Bool} {d:DV} (h:x.S[id]? = some (.map es)) (hp:bK P (Ip t (es.map PO) k ok)=some v) (hd:D6 v=some d) :
  Yields x ((do pure (.value (← Instr.lookup t (.map (some (x.μ id))) k ok)):Sem Next).run P x.w) d x.S:=by
 obtain⟨yg,clk,h1,h2⟩:=Jm hR h
 refine aL hR (v:=v) ?_ (OH hd)
 have hk:∀ kt,Instr.findKey kt k (es.map PO)=Instr.findKey kt k yg.toList:=fun kt=>BH kt k (by rw[Jk,h2])
 have he:(es.map PO).isEmpty=yg.isEmpty:=by
  rw[← h2,Bool.eq_iff_iff]
  simp
 have hg:=gC (P:=P) h1 (by simp)
 unfold Ip at hp
 obtain⟨td,p1,p2⟩:=sF hp
 have r1:=kN p1 x.w
 cases td with
 | map key elem =>
  simp only at p2
  have r2:=kN p2 x.w
  unfold Instr.lookup
  simp only[Sem.run_bind,r1,Result.andThen_ok,hg,Sem.run_pure,hk,he] at r2 ⊢
  exact r2
 | _=>simp[stuck,bK] at p2
theorem Dk (hR:Rel x) {t:TypeId} {id:Nat} {es es':List (Value×Value)} {k v:Value} {r:Option (Nat×Value)} (h:x.S[id]? = some (.map es)) (hp:bK P (IA t (es.map PO) k)=some r) (hs:Mp es k v r=some es') :
  Yields x ((do Instr.mapUpdate t (.map (some (x.μ id))) k v; pure .skip:Sem Next).run P x.w) aO (x.S.set id (.map es')):=by
 obtain⟨yg,clk,h1,h2⟩:=Jm hR h
 have hk:∀ kt,Instr.findKey kt k (es.map PO)=Instr.findKey kt k yg.toList:=fun kt=>BH kt k (by rw[Jk,h2])
 have hg:=gC (P:=P) h1 (by simp)
 suffices hm:∃ IB Wd,(Instr.mapUpdate t (.map (some (x.μ id))) k v).run P x.w = .ok () (bE x.w (x.μ id) (.map IB Wd))∧IB.toList.map (fun e=>(e.key,e.val))=es' by
  obtain⟨IB,Wd,q1,q2⟩:=hm
  exact Et (y:=x.rJ id (.map IB Wd) (.map es')) q1 rfl (EN hR h trivial (by simp) q2) (vI hR h trivial (by simp))
 unfold IA at hp
 obtain⟨td,p1,p2⟩:=sF hp
 have r1:=kN p1 x.w
 cases td with
 | map key elem =>
  simp only at p2
  obtain⟨u,p3,p4⟩:=sF p2
  have r2:=kN p3 x.w
  have r3:=kN p4 x.w
  rw[hk] at r3
  unfold Instr.mapUpdate
  simp only[Sem.run_bind,r1,Result.andThen_ok,hg,r2,r3]
  cases r with
  | none =>
   simp only[Mp,Option.some.injEq] at hs
   subst hs
   exact⟨_,_,iF h1 (by simp),by simp[h2]⟩
  | some q =>
   obtain⟨i,v0⟩:=q
   simp only[Mp] at hs
   split at hs
   ·rename_i k' v' hi
    split at hs
    ·rename_i hsb
     cases hs
     have hlt:i<yg.size:=by
      have:=(List.getElem?_eq_some_iff.1 hi).1
      rw[← h2] at this
      simpa using this
     have hek:((yg[i]?).map (·.key)).getD k=k':=by
      rw[← h2] at hi
      simp only[List.getElem?_map,Array.getElem?_toList,Option.map_eq_some_iff,Prod.mk.injEq] at hi
      obtain⟨e,q1,q2,-⟩:=hi
      rw[q1]
      exact q2
     simp only[hek,Instr.keyThatStays,hsb,if_true]
     refine⟨_,_,iF h1 (by simp),?_⟩
     rw[Array.toList_modify]
     refine List.ext_getElem? fun j => ?_
     rw[← h2]
     simp only[List.getElem?_map,List.getElem?_modify,List.getElem?_set,List.length_map]
     by_cases hj:i=j
     ·subst hj
      simp[hlt]
     ·simp[hj]
    ·cases hs
   ·cases hs
 | _=>simp[stuck,bK] at p2
end Go.Di
end
section
namespace Go.Di
open Go
variable {P:Program} {ty:eY} {x:Cx} {w':World} {ρd:Operand→Option DV} {ρ:Operand→Value} {o:Oper} {ay:Nat}
theorem vP (hR:Rel x) (hn:AW x.S ay) {k s n:Nat} {e:TypeId} {l:List DV} {arr:Array Value} {agg:Bool} (hp:kU x.w w' (.cells arr e (0,0))) (hsz:arr.size=k*s) (hl:l.length≤arr.size) (hk:k≤maxLen) (hc:∀ j c,l[j]? = some c→c.bn=true∧RV x c (arr.getD j undef)) (LM:n*s=l.length) :
  ∃ y,y.w=w'∧y.S=di x.S ay (.op e s l false)∧Rel y∧bh x y∧RV y (.gI ay n agg) (.slice (some ⟨x.w.heap.size,0,none⟩) n k):=by
 have jX:=js (k:=k) (F:=fun _=>False) (b := .op e s l false) hR hn hp (by simp) (.inr (.inr (.inr ⟨e,s,l,arr,rfl,rfl,hsz,hl,hk,by simp,hc⟩)))
 refine⟨_,rfl,rfl,jX,gG hR hn hp,?_⟩
 refine RV.gI (e:=e) (s:=s) (l:=l) (z:=false) (by show (di _ _ _)[_]? = _; rw[aR hn.le,if_pos rfl]) (by omega) fun _ => ?_
 exact⟨by rw[show (x.fresh w' ay k (fun _=>False) (.op e s l false)).μ ay=x.w.heap.size from if_pos rfl],(if_pos rfl:(if ay=ay then k else _)=k).symm⟩
theorem K5 (dx:gY P ty) (hR:Rel x) (hn:AW x.S ay) (hρ:tq x ρd ρ) {t e:TypeId} {n s ji sz sz':Nat} {agg:Bool} {k:TK} {z0:Option (List DV)} {z cs:List DV} {ps:Array (Nat×Operand)} {l:List (Nat×DV)} (h:ty t=some ⟨.slice e s ji agg,sz,z0⟩) (hl:ic ρd ps.toList=some l) (he:ty e=some ⟨k,sz',some z⟩)
  (hs:0<s) (FZ:n*s≤16777216) (hf:iH (fun i=>some (i*s,s)) ((List.replicate n z).flatten) (l.map fun(i,v)=>(i,v.strip))=some cs) (hp:cs.all DV.bn=true) :
  Yields x ((do pure (.value (← Instr.buildSlice t n (ps.map fun p=>(p.1,ρ p.2)))):Sem Next).run P x.w) (.gI ay n agg) (di x.S ay (.op e s cs false)):=by
 obtain⟨arr,h6,lR,hrun⟩:=BV dx hR hρ h hl he hs FZ hf
 have Tw:n≤n*s:=Nat.le_mul_of_pos_right n hs
 obtain⟨y,y1,y2,y3,y4,y5⟩:=vP (n:=n) (agg:=agg) hR hn (eF x.w (.cells arr e)) (k:=n) (s:=s) (by rw[h6.1,lR]) (by rw[h6.1]; exact Nat.le_refl _) (by unfold maxLen; omega) (fun j c hc=>⟨List.all_eq_true.1 hp c (List.mem_of_getElem? hc),h6.2 j c hc⟩) lR.symm
 exact eV (by rw[y1]; exact hrun) y2 y3 y4 y5
set_option maxRecDepth 8000 in
theorem Dl (dx:gY P ty) (hR:Rel x) (hn:AW x.S ay) {t e:TypeId} {s ji sz sz':Nat} {agg:Bool} {k:TK} {z0:Option (List DV)} {z:List DV} {kd kd':IntKind} {n:Int} (h:ty t=some ⟨.slice e s ji agg,sz,z0⟩) (he:ty e=some ⟨k,sz',some z⟩)
  (h0:0≤n) (hs:0<s) (FZ:n≤140737488355328-4096) (hb:n.toNat*ji≤dQ) (hp:(z.map DV.aH).all DV.bn=true) :
  Yields x ((do pure (.value (← Instr.makeSlice t (.int kd n) (.int kd' n))):Sem Next).run P x.w) (.gI ay n.toNat agg) (di x.S ay (.op e s (List.replicate n.toNat (z.map DV.aH)).flatten false)):=by
 obtain⟨hk,i,hi,-,-⟩:=bg (dx t _ h)
 obtain⟨hu,ie,oE,nB,Yn,B5⟩:=iZ hk
 obtain⟨-,ie',yc,-,hz⟩:=bg (dx e _ he)
 rw[oE] at yc
 cases yc
 obtain⟨zv,h1,h2,YI⟩:=gH hz
 obtain⟨h3,h4⟩:=fC (x:=x) h2
 have LH:zv.cells.size=s:=by rw[← nB,← YI]; simpa using h3
 have Cf:z.length=s:=by rw[YI,nB]
 have h4':∀ j c,(z.map DV.aH)[j]? = some c→RV x c (zv.cells.toList.getD j undef):=fun j c hc=>by
  simp only[List.getElem?_map,Option.map_eq_some_iff] at hc
  obtain⟨c',h1,rfl⟩:=hc
  exact(h4 j c' h1).aH
 have xC:=Bf (n:=n.toNat) (z:=z.map DV.aH) hs (by rw[List.length_map]; exact Cf) LH h4'
 generalize uZ:(Array.range (n.toNat*s)).map (zv.cells[· % zv.cells.size]!)=arr at *
 have hlen:(List.replicate n.toNat (z.map DV.aH)).flatten.length=n.toNat*s:=by simp[Cf]
 obtain⟨y,y1,y2,y3,y4,y5⟩:=vP (n:=n.toNat) (agg:=agg) hR hn (eF x.w (.cells arr e)) (k:=n.toNat) (s:=s) (by rw[xC.1,hlen]) (by rw[xC.1]; exact Nat.le_refl _) (by unfold maxLen; omega) (fun j c hc=>⟨by
  have hm:=List.mem_of_getElem? hc
  simp only[List.mem_flatten,List.mem_replicate] at hm
  obtain⟨l,⟨-,rfl⟩,hm⟩:=hm
  exact List.all_eq_true.1 hp c hm,xC.2 j c hc⟩) hlen.symm
 refine eV (v := .slice (some ⟨x.w.heap.size,0,none⟩) n.toNat n.toNat) ?_ y2 y3 y4 y5
 rw[y1]
 have hw:IntKind.i64.wrap n=n:=by rw[IntKind.wrap_i64]; omega
 have hbz:((ie.bytes:Int)*n)≤140737488355328:=by
  have e1:n=(n.toNat:Int):=by omega
  rw[e1,Yn,← Int.natCast_mul,Nat.mul_comm]
  unfold dQ at hb
  omega
 have e48:(2:Int) ^ 48=281474976710656:=by decide
 have c1:¬ (n<0):=by omega
 have c2:¬ (281474976710656<(ie.bytes:Int)*n):=by omega
 subst nB
 have hnw:(newRow e arr).run P x.w = .ok ⟨x.w.heap.size,0,none⟩ (x.w.alloc (.cells arr e)):=by simp[newRow]
 have c3:¬ (2 ^ 48<(ie.bytes:Int)*n):=by rw[e48]; exact c2
 have rP:∀ z0:Array Value,(Array.range (n.toNat*ie.size)).map (z0[· % z0.size]!)=arr→(do let a ← newRow e ((Array.range (n.toNat*ie.size)).map (z0[· % z0.size]!)); pure (Value.slice (some a) n.toNat n.toNat):Sem Value).run P x.w = .ok (.slice (some ⟨x.w.heap.size,0,none⟩) n.toNat n.toNat) (x.w.alloc (.cells arr e)):=fun z0 h=>by
  rw[h,Sem.run_bind,hnw,Result.andThen_ok,Sem.run_pure]
 unfold Instr.makeSlice
 simp only[Sem.run_bind,run_underlying hu,Result.andThen_ok,asInt,asIntOf,Sem.run_pure,typeInfo,run_program,oE,hw,decide_eq_false c1,decide_eq_false c3,Bool.or_false,gt_iff_lt,decide_eq_false (Int.lt_irrefl n),Bool.false_eq_true,if_false,run_askRoom,run_sizeOf oE]
 by_cases DD:n.toNat*ie.size=0
 ·have:=rP #[] (by rw[← uZ,DD]; simp)
  simpa only [if_pos DD,Sem.run_bind,Sem.run_pure,Result.andThen_ok] using this
 ·have:=rP zv.cells uZ
  simpa only [if_neg DD,zeroValue,typeInfo,run_program,oE,h1,Sem.run_bind,Sem.run_pure,Result.andThen_ok] using this
theorem zT (dx:gY P ty) (hR:Rel x) (hn:AW x.S ay) {t u:TypeId} {a b d:DV} {va vb:Value} {S':ak} (ha:RV x a va) (hb:RV x b vb) (h:kI ty x.S ay t a b=some (d,S')) :
  Yields x ((do pure (.value (← Builtin.append_ #[t,t] u #[va,vb])):Sem Next).run P x.w) d S':=by
 unfold kI at h
 split at h
 rotate_left
 ·cases h
 rename_i e s ji agg sz z0 news B9 UF Tt
 obtain⟨hk,it,-,-,-⟩:=bg (dx t _ Tt)
 obtain⟨hu,ie,oE,nB,Ak,-⟩:=iZ hk
 have DL:=hb
 cases hb with
 | @sl _ _ _ A2 oA s2 vs2 PV LK m1 m2 m3 m4 m5 =>
  split at h
  rotate_left
  ·cases h
  rename_i hte
  obtain⟨z,Vg,LH⟩:∃ z,ie.zero=some z∧z.cells.size=s:=by
   obtain⟨-,ie',yc,F7,xC⟩:=bg (dx e _ hte)
   rw[oE] at yc
   cases yc
   obtain⟨z,q1,q2,q3⟩:=gH xC
   have:=(fC (x:=x) q2).1
   exact⟨z,q1,by rw[← nB,← q3]; simpa using this⟩
  have emp:∀ (A:Option Addr) (n cap:Nat),n≤cap→news=[]→(Builtin.append_ #[t,t] u #[.slice A n cap,.slice A2 news.length oA]).run P x.w = .ok (.slice A n cap) x.w:=by
   rintro A n cap k1 rfl
   subst nB
   cases A<;>cases A2<;>simp[Builtin.append_,run_underlying hu,run_sizeOf oE,Builtin.lenOf,Builtin.firstCells,loadCells,loadCellsFrom,storeCells,k1]
  have grown:∀ (n cap:Nat),n+news.length≤140737488355328-4096→∀ (w1:List Value),w1.length=n*s→∀ (jV:List Value),jV.length=news.length*s→∀ (k:Nat),k=grownCap x.w (n+news.length) cap e→k≤maxLen∧n+news.length≤k ∧
    (w1.toArray++jV.toArray++Builtin.zeroCells z.cells (k-(n+news.length))).size=k*s:=by
   intro n cap hlen w1 HY jV pY k hk
   have DK:=grownCap_ge x.w (n+news.length) cap e
   have hle:=grownCap_le_maxLen x.w (n+news.length) cap e (by simp only[maxLen]; omega)
   subst hk
   refine⟨hle,DK,?_⟩
   simp only[Array.size_append,List.size_toArray,size_zeroCells,LH,HY,pY,← Nat.add_mul]
   congr 1
   omega
  have Un:news≠[]→(∀ r∈news,r.cells.length=s)→0<news.length∧∃ (b2 o2:Nat) (jV:List Value),A2=some ⟨b2,o2,none⟩∧jV.length=news.length*s∧(flat news).length=news.length*s∧(∀ c∈flat news,c.bn=true)∧(∀ j c,(flat news)[j]? = some c→RV x c (jV.getD j undef)) ∧
    (∀ j v,jV[j]? = some v→x.w.cell? ((⟨b2,o2,none⟩:Addr).add j)=some v)∧∀ u∈jV,u.oneCell'=true:=by
   intro hne jm
   have hm:0<news.length:=List.length_pos_iff.2 hne
   obtain⟨-,-,-,-,-,VP,Qr,jV,pY,AB,uT,Bb⟩:=o5 DL jm
   obtain⟨TS,rfl⟩:∃ TS,A2=some TS:=by
    cases A2 with
    | none=>have:=m3 rfl; omega
    | some ad=>exact⟨ad,rfl⟩
   have xo:=eB jm
   obtain⟨b2,o2,sp2⟩:=TS
   have VO:sp2=none:=VP _ rfl (by omega)
   subst VO
   refine⟨hm,b2,o2,jV,rfl,pY,xo,Qr,AB,fun j v hv => ?_,Bb⟩
   have hj:j<(flat news).length:=by rw[xo,← pY]; exact(List.getElem?_eq_some_iff.1 hv).1
   obtain⟨b',o',q1,-,q2⟩:=uT j _ (List.getElem?_eq_getElem hj)
   cases q1
   rw[fM,q2]
   simp[List.getD_eq_getElem?_getD,hv]
  split at h
  ·
   rename_i id n ag
   cases ha with
   | @gI _ _ _ e1 s1 l1 z1 A cap TH hn1 hA1 =>
    split at h
    rotate_left
    ·cases h
    rename_i kZ
    simp only[Bool.and_eq_true,decide_eq_true_eq,List.all_eq_true] at kZ
    obtain⟨⟨⟨⟨hs,-⟩,jq⟩,hlen⟩,jm⟩:=kZ
    split at h
    rotate_left
    ·cases h
    rename_i e' s' l hop
    split at h
    rotate_left
    ·cases h
    rename_i uT
    simp only[Bool.and_eq_true,decide_eq_true_eq] at uT
    obtain⟨c1,c2⟩:=uT
    rw[c1,c2] at hop
    obtain⟨hS,B3⟩:=jb hop
    obtain⟨rfl,rfl,rfl,rfl⟩:e=e1∧s=s1∧l=l1∧false=z1:=by rw[hS] at TH; cases TH; exact⟨rfl,rfl,rfl,rfl⟩
    obtain⟨rfl,rfl⟩:=hA1 B3
    obtain⟨cur,t1,t2,t3,t4,t5,-,-⟩:=hR.ops id _ _ _ _ hS
    have hnκ:n≤x.κ id:=Nat.le_of_mul_le_mul_right (show n*s≤x.κ id*s by omega) hs
    split at h
    ·rename_i qQ
     cases h
     exact aL hR (emp _ _ _ hnκ (by simpa using qQ)) (.gI hS hn1 fun _=>⟨rfl,rfl⟩)
    rename_i qQ
    cases h
    obtain⟨hm,b2,o2,jV,rfl,pY,xo,Qr,AB,mD,Bb⟩:=Un (by simpa using qQ) jm
    have Uz:(l++flat news).length=(n+news.length)*s:=by rw[List.length_append,xo,Nat.add_mul]; omega
    have vV:∀ c∈l++flat news,c.bn=true:=fun c hc=>by
     rcases List.mem_append.1 hc with hc | hc
     ·obtain⟨j,hj⟩:=List.mem_iff_getElem?.1 hc
      exact(t5 j c hj).1
     ·exact Qr c hc
    have hlt:l.length<(l++flat news).length:=by rw[List.length_append,xo]; have:=Nat.mul_pos hm hs; omega
    have abU:en x (flat news) jV.toArray:=⟨by simp[pY,xo],fun j c hc=>by simpa [Array.getD_eq_getD_getElem?,List.getD_eq_getElem?_getD] using AB j c hc⟩
    by_cases hroom:n+news.length≤x.κ id
    ·have qP:n*s+jV.length≤cur.size:=by rw[pY,t2,← Nat.add_mul]; exact Nat.mul_le_mul_right _ hroom
     have hrun:=run_append_room (P:=P) x.w t u e ie hu oE (x.μ id) n (x.κ id) cur t1 ⟨b2,o2,none⟩ news.length oA jV (by rw[pY,nB]) mD Bb hroom (by rw[nB]; exact qP)
     rw[nB,B3] at hrun
     have hp:=CX (off:=l.length) t3 (fun j c hc=>(t5 j c hc).2) abU (Nat.le_refl _) (by rw[xo]; omega)
     have hsz:(cur.toList.take l.length++jV++cur.toList.drop (l.length+jV.length)).toArray.size=cur.size:=by simp; omega
     rw[List.drop_of_length_le (show l.length≤l.length+(flat news).length by omega),List.append_nil,List.take_length,List.size_toArray] at hp
     generalize uZ:(cur.toList.take l.length++jV++cur.toList.drop (l.length+jV.length)).toArray=arr at *
     have jX:=xN (F:=fun _=>False) (arr:=arr) (b := .op e s (l++flat news) false) hR hS (.inr (.inr ⟨e,s,_,_,rfl,rfl,by omega,by simp,by rw[hsz]; exact t2,by rw[hsz,Uz,t2]; exact Nat.mul_le_mul_right _ hroom,fun j c hc=>⟨vV c (List.mem_of_getElem? hc),hp j c hc⟩⟩))
     have M:=pq (F:=fun _=>False) (arr:=arr) (b := .op e s (l++flat news) false) hR hS (.inr (.inr ⟨e,s,_,_,rfl,rfl,by omega⟩))
     refine eV hrun (y:=x.upd id arr (fun _=>False) (.op e s (l++flat news) false)) rfl jX M (.gI (e:=e) (s:=s) (l:=l++flat news) (z:=false) (by show (x.S.set _ _)[_]? = _; rw[cI hS,if_pos rfl]) (by omega) fun _=>⟨rfl,rfl⟩)
    ·have nG:∀ j,j<n*s→∃ v,cur[j]? = some v:=fun j hj=>⟨cur[j]'(by omega),Array.getElem?_eq_getElem _⟩
     have HY:(cur.toList.take (n*s)).length=n*s:=by simp; omega
     obtain⟨g1,g2,g3⟩:=grown n (x.κ id) hlen _ HY _ pY _ rfl
     have hrun:=run_append_grow (P:=P) x.w t u e ie z hu oE Vg ⟨x.μ id,0,none⟩ n (x.κ id) (cur.toList.take (n*s)) (by rw[HY,nB]) (fun j v hv=>by
       have hj:j<n*s:=by rw[← HY]; exact(List.getElem?_eq_some_iff.1 hv).1
       rw[List.getElem?_take,if_pos hj] at hv
       rw[fM]
       simp only[World.cell?,t1,Nat.zero_add]
       simpa using hv) ⟨b2,o2,none⟩ news.length oA jV (by rw[pY,nB]) mD (by omega) (by omega) (growslice_fits (by omega) (by rw[Ak]; exact jq))
     generalize hk0:grownCap x.w (n+news.length) (x.κ id) e=k at *
     obtain⟨v1,v2⟩:=vO (Z:=Builtin.zeroCells z.cells (k-(n+news.length))) HY pY
     generalize uZ:(cur.toList.take (n*s)).toArray++jV.toArray++Builtin.zeroCells z.cells (k-(n+news.length))=arr at *
     have hp:kU x.w (x.w.drew.alloc (.cells arr e)) (.cells arr e (0,0)):=⟨rfl,rfl,rfl⟩
     have hcc:∀ j c,(l++flat news)[j]? = some c→c.bn=true∧RV x c (arr.getD j undef):=fun j c hc=>by
      refine⟨vV c (List.mem_of_getElem? hc),?_⟩
      by_cases hj:j<l.length
      ·rw[List.getElem?_append_left hj] at hc
       rw[v1 j (by omega)]
       have:=(t5 j c hc).2
       simpa [Array.getD_eq_getD_getElem?,List.getD_eq_getElem?_getD,List.getElem?_take,show j<n*s by omega] using this
      ·rw[List.getElem?_append_right (by omega)] at hc
       have hj2:j-l.length<(flat news).length:=(List.getElem?_eq_some_iff.1 hc).1
       have e1:j=n*s+(j-l.length):=by omega
       rw[e1,v2 _ (by omega)]
       exact AB _ c hc
     have jX:=OL (k:=k) hR hS hp hlt g3 (by rw[g3,Uz]; exact Nat.mul_le_mul_right _ g2) g1 hcc
     have M:=Bx (k:=k) hR hS hp hlt
     refine eV hrun (y:=x.ij (x.w.drew.alloc (.cells arr e)) id k (fun _=>False) (.op e s (l++flat news) false)) rfl jX M (.gI (e:=e) (s:=s) (l:=l++flat news) (z:=false) (by show (x.S.set _ _)[_]? = _; rw[cI hS,if_pos rfl]) (by omega) fun _ => ?_)
     exact⟨congrArg (fun b=>some (⟨b,0,none⟩:Addr)) (if_pos rfl:(if id=id then _ else _)=_).symm,(if_pos rfl:(if id=id then k else _)=k).symm⟩
  ·
   rename_i f
   cases ha with
   | @sl _ _ _ A cap s1 vs1 DI uO k1 k2 k3 k4 k5 =>
    split at h
    ·rename_i qQ
     cases h
     exact aL hR (emp _ _ _ k1 (by simpa using qQ)) (.sl DI uO k1 k2 k3 k4 k5)
    rename_i qQ
    split at h
    rotate_left
    ·cases h
    rename_i kZ
    simp only[Bool.and_eq_true,decide_eq_true_eq,List.all_eq_true] at kZ
    obtain⟨⟨⟨⟨⟨ace,hs⟩,-⟩,jq⟩,hlen⟩,jm⟩:=kZ
    cases h
    obtain⟨hm,b2,o2,jV,rfl,pY,xo,Qr,AB,mD,Bb⟩:=Un (by simpa using qQ) jm
    have J5:cap=0:=k2.1 ace
    subst J5
    obtain⟨g1,g2,g3⟩:=grown 0 0 (by omega) [] (by simp) _ pY _ rfl
    have hrun:(Builtin.append_ #[t,t] u #[.slice A ([]:List DV).length 0,.slice (some ⟨b2,o2,none⟩) news.length oA]).run P x.w =
      .ok (.slice (some ⟨x.w.heap.size,0,none⟩) news.length (grownCap x.w news.length 0 e)) (x.w.drew.alloc (.cells (jV.toArray++Builtin.zeroCells z.cells (grownCap x.w news.length 0 e-news.length)) e)):=by
     cases A with
     | none=>exact run_append_nil (P:=P) x.w t u e ie z hu oE Vg ⟨b2,o2,none⟩ news.length oA jV (by rw[pY,nB]) mD hm (by omega) (by rw[Ak]; unfold dQ at jq; omega)
     | some ad =>
      have:=run_append_grow (P:=P) x.w t u e ie z hu oE Vg ad 0 0 [] (by simp) (by simp) ⟨b2,o2,none⟩ news.length oA jV (by rw[pY,nB]) mD (by omega) (by omega) (growslice_fits (by omega) (by rw[Ak,Nat.zero_add]; exact jq))
      simpa using this
    simp only[Nat.zero_add] at g1 g2 g3
    generalize hk0:grownCap x.w news.length 0 e=k at *
    have v2:∀ j,j<news.length*s→(jV.toArray++Builtin.zeroCells z.cells (k-news.length)).getD j undef=jV.getD j undef:=fun j hj=>by
     rw[Array.getD_eq_getD_getElem?,Array.getElem?_append_left (by simp; omega)]
     simp[List.getD_eq_getElem?_getD]
    have g3':(jV.toArray++Builtin.zeroCells z.cells (k-news.length)).size=k*s:=by simpa using g3
    obtain⟨y,y1,y2,y3,y4,y5⟩:=vP (n:=news.length) (agg:=agg) hR hn (w':=x.w.drew.alloc (.cells (jV.toArray++Builtin.zeroCells z.cells (k-news.length)) e)) (e:=e) (l:=flat news) (k:=k) (s:=s) ⟨rfl,rfl,rfl⟩ g3' (by rw[g3',xo]; exact Nat.mul_le_mul_right _ g2) g1 (fun j c hc=>⟨Qr c (List.mem_of_getElem? hc),by
     have hj:j<(flat news).length:=(List.getElem?_eq_some_iff.1 hc).1
     rw[v2 j (by omega)]
     exact AB j c hc⟩) xo.symm
    exact eV (by rw[y1]; exact hrun) y2 y3 y4 y5
  ·cases h
theorem look_ok (hR:Rel x) {d:DV} {v:Value} (h:RV x d v):RV x (jl x.S d) v:=by
 cases h with
 | @gI id n agg e1 s1 l1 z1 A cap hS hn hA =>
  unfold jl
  dsimp only
  split
  ·rename_i e s l hop
   obtain⟨xE,B3⟩:=jb hop
   obtain⟨rfl,rfl,rfl,rfl⟩:e=e1∧s=s1∧l=l1∧true=z1:=by rw[xE] at hS; cases hS; exact⟨rfl,rfl,rfl,rfl⟩
   split
   ·rename_i hc
    simp only[Bool.and_eq_true,Bool.or_eq_true,beq_iff_eq,decide_eq_true_eq] at hc
    obtain⟨rfl,rfl⟩:=hA B3
    obtain⟨arr,h1,h2,h3,-,h4,h5,-⟩:=hR.ops id e s l true hS
    obtain⟨s7,PY⟩:=BM hc.1 hc.2 (fun c hm=>by
     obtain⟨j,hj⟩:=List.mem_iff_getElem?.1 hm
     exact(h4 j c hj).1) n B3.symm
    have Ya:(rowsOf s agg l n).length=n:=by simp[rowsOf]
    suffices hk:RV x (.sl (rowsOf s agg l n) none ⟨false,some false⟩) (.slice (some ⟨x.μ id,0,none⟩) (rowsOf s agg l n).length (x.κ id)) by rw[Ya] at hk; exact hk
    refine RV.sl (tok:=none) (yN PY (fun c hm => ?_) (by rw[s7]; exact h3) h1 fun j hj=>h5 rfl j (by rw[s7] at hj; exact hj)) (fun j c hc => ?_) ?_ ⟨by simp,fun b h=>by cases h; rfl⟩ (by simp) (fun ad h _=>by cases h; rfl) (fun t ht=>nomatch ht)
    ·rw[s7] at hm
     obtain⟨j,hj⟩:=List.mem_iff_getElem?.1 hm
     exact(h4 j c hj).1
    ·rw[s7] at hc
     exact(h4 j c hc).2
    ·rw[Ya]
     exact Nat.le_of_mul_le_mul_right (show n*s≤x.κ id*s by omega) hc.1
   ·exact .gI hS hn hA
  ·exact .gI hS hn hA
 | val h=>exact .val h
 | agg h hl=>exact .agg h hl
 | ep h hl=>exact .ep h hl
 | sl hv hr h1 h2 h3 hsp h4=>exact .sl hv hr h1 h2 h3 hsp h4
 | ptr h=>exact .ptr h
 | cV hv hr=>exact .cV hv hr
 | fn h1 h2 h3 h4=>exact .fn h1 h2 h3 h4
 | map h=>exact .map h
 | uN h=>exact .uN h
 | dM h h1 h2=>exact .dM h h1 h2
theorem NV (hR:Rel x) (d:DV):∃ y,y.w=x.w∧y.S=qS x.S d∧Rel y∧bh x y:=by
 unfold qS
 split
 ·rename_i id n ag
  split
  ·rename_i e s l hop
   obtain⟨hS,-⟩:=jb hop
   exact⟨x.close id e s l,rfl,rfl,KL hR hS,zX hS⟩
  ·exact⟨x,rfl,rfl,hR,bh.refl x⟩
 ·exact⟨x,rfl,rfl,hR,bh.refl x⟩
theorem C4 {env:List DV}:∀ (l:List Operand) {x:Cx},Rel x→∃ y,y.w=x.w∧y.S=l.foldl (mK env) x.S∧Rel y∧bh x y
 | [],x,hR=>⟨x,rfl,rfl,hR,bh.refl x⟩
 | a::l,x,hR=>by
  rw[List.foldl_cons]
  cases he:ga env a with
  | none=>rw[show mK env x.S a=x.S by unfold mK; rw[he]]; exact C4 l hR
  | some d =>
   rw[show mK env x.S a=qS x.S d by unfold mK; rw[he]]
   obtain⟨y,y1,y2,y3,y4⟩:=NV hR d
   obtain⟨z,z1,z2,z3,z4⟩:=C4 (env:=env) l y3
   exact⟨z,z1.trans y1,by rw[z2,y2],z3,y4.trans z4⟩
theorem Xi {env:List DV} {arr:Array Value} (o:Oper) (hR:Rel x) (he:en x env arr):∃ y,y.w=x.w∧y.S=(Ay ty o env x.S).2∧Rel y∧bh x y∧en y (Ay ty o env x.S).1 arr:=by
 unfold Ay
 split
 ·obtain⟨y,y1,y2,y3,y4⟩:=C4 (env:=env) o.op.operands.toList hR
  refine⟨y,y1,y2,y3,y4,by simpa using he.1,fun j c hc => ?_⟩
  simp only[List.getElem?_map,Option.map_eq_some_iff] at hc
  obtain⟨c',h1,rfl⟩:=hc
  rw[← y2]
  exact look_ok y3 ((he.2 j c' h1).mono y4)
 ·exact⟨x,rfl,rfl,hR,bh.refl x,he⟩
end Go.Di
end
