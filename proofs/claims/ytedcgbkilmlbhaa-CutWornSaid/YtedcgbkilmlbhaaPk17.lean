import Derived.Test.YtedcgbkilmlbhaaPk16
import Derived.Laws.BitsLemmas
section
namespace Go.Di
open Go
variable {P:Program} {ty:eS} {x:Cx} {w':World} {ρd:Operand→Option DV} {ρ:Operand→Value} {o:Oper} {ay:Nat}
theorem oJ {rows:List DV} {tok:Option Nat} {full:SF} {A:Option Addr} {n cap s:Nat} (h:RV x (.sl rows tok full) (.slice A n cap)) (hs:∀ r∈rows,r.cells.length=s) :
  n=rows.length∧n≤cap∧((full.full=true→cap=n)∧Mp full A)∧(A=none→cap=0)∧TD x tok rows A cap∧(∀ ad,A=some ad→ad.spot=none) ∧
  (∀ c∈flat rows,c.bt=true)∧∃ vs:List Value,vs.length=n*s∧(∀ j c,(flat rows)[j]? = some c→RV x c (vs.getD j undef)) ∧
   (∀ j c,(flat rows)[j]? = some c→∃ b o,A=some ⟨b,o,none⟩∧x.Fz b (o+j)∧x.w.cell? ⟨b,o+j,none⟩=some (vs.getD j undef))∧∀ u∈vs,u.oneCell'=true:=by
 cases h with
 | @sl _ _ _ _ _ s' vs hv hr h1 h2 h3 hsp h4 =>
  have sk:=fu hs
  refine⟨rfl,h1,h2,h3,h4,hsp,fun c hc => ?_,(List.range (rows.length*s)).map vs,by simp,fun j c hc => ?_,fun j c hc => ?_,fun u hu => ?_⟩
  ·obtain⟨j,hj,rfl⟩:=List.mem_iff_getElem.1 hc
   exact(hv.2 j _ (List.getElem?_eq_getElem hj)).1
  ·have hj:j<rows.length*s:=by rw[← sk]; exact(List.getElem?_eq_some_iff.1 hc).1
   simpa [List.getD_eq_getElem?_getD,hj] using hr j c hc
  ·have hj:j<rows.length*s:=by rw[← sk]; exact(List.getElem?_eq_some_iff.1 hc).1
   obtain⟨-,b,o,k1,k2,k3⟩:=hv.2 j c hc
   exact⟨b,o,k1,k2,by simpa [List.getD_eq_getElem?_getD,hj] using k3⟩
  ·simp only[List.mem_map,List.mem_range] at hu
   obtain⟨j,hj,rfl⟩:=hu
   have wB:j<(flat rows).length:=by omega
   have k:=List.getElem?_eq_getElem wB
   have hp:=(hv.2 j _ k).1
   have h1:((flat rows)[j]).one=true:=by
    revert hp
    generalize (flat rows)[j]=c
    cases c<;>simp[DV.bt,DV.one]
   exact(one_cell (hr j _ k) h1).1
theorem VM {y:Cx} {R:List DV} {t s N cap:Nat} {e:TypeId} {arr:Array Value} (hR:∀ r∈R,r.cells.length=s) (hp:∀ c∈flat R,c.bt=true) (hS:y.S[t]? = some (.tail e s N)) (hN:N=R.length*s)
  (hh:y.w.heap[y.μ t]? = some (.cells arr e (0,0))) (hF:∀ o,o<N→y.Fz (y.μ t) o) (hsz:N≤arr.size) (hc:∀ j c,(flat R)[j]? = some c→RV y c (arr.getD j undef)) (hk:cap=y.κ t) (Jh:R.length≤cap) :
  RV y (.sl R (some t) ⟨false,none⟩) (.slice (some ⟨y.μ t,0,none⟩) R.length cap):=by
 have sk:=fu hR
 refine RV.sl (xZ hR hp (by omega) hh fun j hj=>hF j (by omega)) hc Jh ⟨by simp,fun _ h=>nomatch h⟩ (by simp) (fun ad h=>by cases h; rfl) fun t' ht => ?_
 cases ht
 exact⟨e,s,N,hS,by omega,hR,fun _=>⟨rfl,hk⟩⟩
theorem vQ (a b:List DV):flat (a++b)=flat a++flat b:=by simp[flat]
theorem uE {y:Cx} {rows news:List DV} {Br jE:List Value} {t s b cap:Nat} {e:TypeId} {arr:Array Value} (M:bI x y) (h1:∀ r∈rows,r.cells.length=s) (h2:∀ r∈news,r.cells.length=s) (hp1:∀ c∈flat rows,c.bt=true) (W0:∀ c∈flat news,c.bt=true)
  (tY:∀ (j:Nat) (c:DV),(flat rows)[j]? = some c→RV x c (Br.getD j undef)) (O7:∀ (j:Nat) (c:DV),(flat news)[j]? = some c→RV x c (jE.getD j undef)) (hS:y.S[t]? = some (.tail e s ((rows.length+news.length)*s))) (hμ:y.μ t=b) (hκ:y.κ t=cap)
  (hh:y.w.heap[b]? = some (.cells arr e (0,0))) (hF:∀ o,o<(rows.length+news.length)*s→y.Fz b o) (hsz:(rows.length+news.length)*s≤arr.size) (Pe:∀ j,j<rows.length*s→arr.getD j undef=Br.getD j undef) (wC:∀ j,j<news.length*s→arr.getD (rows.length*s+j) undef=jE.getD j undef)
  (Jh:rows.length+news.length≤cap):RV y (.sl (rows++news) (some t) ⟨false,none⟩) (.slice (some ⟨b,0,none⟩) (rows.length+news.length) cap):=by
 have La:=fu h1
 have Sn:=fu h2
 subst hμ hκ
 have key:=VM (y:=y) (R:=rows++news) (t:=t) (s:=s) (arr:=arr) (cap:=y.κ t) (N:=(rows.length+news.length)*s) (fun r hr=>(List.mem_append.1 hr).elim (h1 r) (h2 r)) (fun c hc => ?_) hS (by rw[List.length_append]) hh hF hsz (fun j c hc => ?_) rfl (by rw[List.length_append]; exact Jh)
 ·rw[List.length_append] at key; exact key
 ·rw[vQ] at hc; exact(List.mem_append.1 hc).elim (hp1 c) (W0 c)
 ·rw[vQ] at hc
  by_cases hj:j<(flat rows).length
  ·rw[List.getElem?_append_left hj] at hc
   rw[Pe j (by omega)]
   exact(tY j c hc).mono M
  ·rw[List.getElem?_append_right (by omega)] at hc
   have hj2:j-(flat rows).length<(flat news).length:=(List.getElem?_eq_some_iff.1 hc).1
   have e1:j=rows.length*s+(j-(flat rows).length):=by omega
   rw[e1,wC _ (by omega)]
   exact(O7 _ c hc).mono M
theorem uO {Br jE:List Value} {Z:Array Value} {n m:Nat} (h1:Br.length=n) (h2:jE.length=m):(∀ j,j<n→(Br.toArray++jE.toArray++Z).getD j undef=Br.getD j undef)∧∀ j,j<m→(Br.toArray++jE.toArray++Z).getD (n+j) undef=jE.getD j undef:=by
 constructor
 ·intro j hj
  rw[Array.getD_eq_getD_getElem?,Array.getElem?_append_left (by simp; omega),Array.getElem?_append_left (by simp; omega)]
  simp[List.getD_eq_getElem?_getD]
 ·intro j hj
  rw[Array.getD_eq_getD_getElem?,Array.getElem?_append_left (by simp; omega),Array.getElem?_append_right (by simp; omega)]
  simp[List.getD_eq_getElem?_getD,h1]
theorem J5 (dc:gE P ty) (hR:Rel x) (hn:Ai x.S ay) {t u:TypeId} {a b d:DV} {va vb:Value} {S':ak} (ha:RV x a va) (hb:RV x b vb) (h:gq ty x.S ay t a b=some (d,S')) :
  Yields x ((do pure (.value (← Builtin.append_ #[t,t] u #[va,vb])):Sem Next).run P x.w) d S':=by
 unfold gq at h
 split at h
 ·rename_i e s iO agg sz z0 rows tok full news zJ Ts Se
  obtain⟨hk,it,-,-,-⟩:=bn (dc t _ Se)
  obtain⟨hu,ie,od,mU,zo,-⟩:=iH hk
  have zF:=ha
  have C8:=hb
  cases ha with
  | @sl _ _ _ A cap s1 vs1 I3 tY k1 k2 k3 k4 k5 =>
   cases hb with
   | @sl _ _ _ A2 nX s2 vs2 O4 O7 m1 m2 m3 m4 m5 =>
    split at h
    ·rename_i qm
     cases h
     have FC:news=[]:=by simpa using qm
     subst FC
     refine aI hR (v := .slice A rows.length cap) ?_ zF
     subst mU
     cases A with
     | none=>cases A2<;>simp[Builtin.append_,run_underlying hu,run_sizeOf od,Builtin.lenOf,Builtin.firstCells,loadCells,loadCellsFrom,k1]
     | some ad=>cases A2<;>simp[Builtin.append_,run_underlying hu,run_sizeOf od,Builtin.lenOf,Builtin.firstCells,loadCells,loadCellsFrom,storeCells,k1]
    ·rename_i qm
     split at h
     ·rename_i hte
      split at h
      rotate_left
      ·cases h
      rename_i kH
      simp only[Bool.and_eq_true,decide_eq_true_eq,List.all_eq_true] at kH
      obtain⟨⟨⟨hs,iX⟩,hlen⟩,iU⟩:=kH
      have hm:0<news.length:=List.length_pos_iff.2 (by simpa using qm)
      obtain⟨z,Uf,KF⟩:∃ z,ie.zero=some z∧z.cells.size=s:=by
       obtain⟨-,ie',xm,Fi,wz⟩:=bn (dc e _ hte)
       rw[od] at xm
       cases xm
       obtain⟨z,q1,q2,q3⟩:=gd wz
       have:=(eX (x:=x) q2).1
       exact⟨z,q1,by rw[← mU,← q3]; simpa using this⟩
      obtain⟨-,-,-,-,-,UN,PB,jE,pg,zQ,sr,Az⟩:=oJ C8 iU
      obtain⟨SA,rfl⟩:∃ SA,A2=some SA:=by
       cases A2 with
       | none=>have:=m3 rfl; omega
       | some ad=>exact⟨ad,rfl⟩
      have we:=fu iU
      obtain⟨b2,o2,TG⟩:=SA
      have UM:TG=none:=UN _ rfl
      subst UM
      have lU:∀ j v,jE[j]? = some v→x.w.cell? ((⟨b2,o2,none⟩:Addr).add j)=some v:=by
       intro j v hv
       have hj:j<(flat news).length:=by rw[we,← pg]; exact(List.getElem?_eq_some_iff.1 hv).1
       obtain⟨b',o',q1,-,q2⟩:=sr j _ (List.getElem?_eq_getElem hj)
       cases q1
       rw[fA,q2]
       simp[List.getD_eq_getElem?_getD,hv]
      have abN:rows.length+news.length≤9223372036854775807:=by omega
      have grown:∀ (w1:List Value),w1.length=rows.length*s→∀ (k:Nat),k=grownCap x.w (rows.length+news.length) cap e→k≤maxLen∧rows.length+news.length≤k ∧
        (w1.toArray++jE.toArray++Builtin.zeroCells z.cells (k-(rows.length+news.length))).size=k*s:=by
       intro w1 G6 k hk
       have C7:=grownCap_ge x.w (rows.length+news.length) cap e
       have hle:=grownCap_le_maxLen x.w (rows.length+news.length) cap e (by simp only[maxLen]; omega)
       subst hk
       refine⟨hle,C7,?_⟩
       simp only[Array.size_append,List.size_toArray,size_zeroCells,KF,G6,pg,← Nat.add_mul]
       congr 1
       omega
      have OC:∀ (hf:full.full=true) (kG:∀ r∈rows,r.cells.length=s),d = .sl (rows++news) (some ay) ⟨false,none⟩→S'=cW x.S ay (.tail e s ((rows.length+news.length)*s)) →
        Yields x ((do pure (.value (← Builtin.append_ #[t,t] u #[.slice A rows.length cap,.slice (some ⟨b2,o2,none⟩) news.length nX])):Sem Next).run P x.w) d S':=by
       intro hf kG hd hS
       subst hd hS
       have Jh:cap=rows.length:=k2.1 hf
       obtain⟨-,-,-,-,-,aar,WZ,Br,Bu,P3,CZ,Zz⟩:=oJ zF kG
       have U0:=fu kG
       obtain⟨g1,g2,g3⟩:=grown Br Bu _ rfl
       have hrun:(Builtin.append_ #[t,t] u #[.slice A rows.length cap,.slice (some ⟨b2,o2,none⟩) news.length nX]).run P x.w =
         .ok (.slice (some ⟨x.w.heap.size,0,none⟩) (rows.length+news.length) (grownCap x.w (rows.length+news.length) cap e)) (x.w.drew.alloc (.cells (Br.toArray++jE.toArray++Builtin.zeroCells z.cells (grownCap x.w (rows.length+news.length) cap e-(rows.length+news.length))) e)):=by
        cases A with
        | none =>
         have h0:=k3 rfl
         have Fj:rows.length=0:=by omega
         have hw0:Br=[]:=List.eq_nil_of_length_eq_zero (by rw[Bu,Fj]; simp)
         subst hw0
         rw[Fj,h0]
         have:=run_append_nil (P:=P) x.w t u e ie z hu od Uf ⟨b2,o2,none⟩ news.length nX jE (by rw[pg,mU]) lU hm (by omega) (by rw[zo]; unfold dz at iX; have:news.length*iO≤(rows.length+news.length)*iO:=Nat.mul_le_mul_right _ (by omega); omega)
         simpa using this
        | some ad =>
         obtain⟨b1,o1,Xt⟩:=ad
         have:Xt=none:=aar _ rfl
         subst this
         refine run_append_grow (P:=P) x.w t u e ie z hu od Uf ⟨b1,o1,none⟩ rows.length cap Br (by rw[Bu,mU]) (fun j v hv => ?_) ⟨b2,o2,none⟩ news.length nX jE (by rw[pg,mU]) lU (by omega) (by omega) (growslice_fits (by omega) (by rw[zo]; exact iX))
         have hj:j<(flat rows).length:=by rw[U0,← Bu]; exact(List.getElem?_eq_some_iff.1 hv).1
         obtain⟨b',o',q1,-,q2⟩:=CZ j _ (List.getElem?_eq_getElem hj)
         cases q1
         rw[fA,q2]
         simp[List.getD_eq_getElem?_getD,hv]
       generalize hk0:grownCap x.w (rows.length+news.length) cap e=k at *
       obtain⟨v1,v2⟩:=uO (Z:=Builtin.zeroCells z.cells (k-(rows.length+news.length))) Bu pg
       generalize zW:Br.toArray++jE.toArray++Builtin.zeroCells z.cells (k-(rows.length+news.length))=arr at *
       have hp:kD x.w (x.w.drew.alloc (.cells arr e)) (.cells arr e (0,0)):=⟨rfl,rfl,rfl⟩
       have Sv:(rows.length+news.length)*s≤arr.size:=by rw[g3]; exact Nat.mul_le_mul_right _ g2
       have jG:=iZ (k:=k) (F:=fun o=>o<(rows.length+news.length)*s) (b := .tail e s ((rows.length+news.length)*s)) hR hn hp (fun o ho=>⟨arr[o]'(by omega),by simp only[World.cell?,hp.new]; exact Array.getElem?_eq_getElem _⟩) (.inr (.inl ⟨e,s,_,arr,rfl,rfl,g3,Sv,g1,fun o ho=>ho⟩))
       have M:=gb (k:=k) (F:=fun o=>o<(rows.length+news.length)*s) (b := .tail e s ((rows.length+news.length)*s)) hR hn hp
       exact eO hrun (y:=x.fresh (x.w.drew.alloc (.cells arr e)) ay k (fun o=>o<(rows.length+news.length)*s) (.tail e s ((rows.length+news.length)*s))) rfl jG M
        (uE M kG iU WZ PB P3 zQ (by show (cW _ _ _)[_]? = _; rw[aQ hn.le,if_pos rfl]) (if_pos rfl) (if_pos rfl) hp.new (fun o ho => .inr ⟨rfl,ho⟩) Sv v1 v2 g2)
      cases tok with
      | none =>
       simp only at h
       split at h
       ·rename_i hfc
        simp only[Bool.and_eq_true,List.all_eq_true,decide_eq_true_eq] at hfc
        cases h
        exact OC hfc.1 hfc.2 rfl rfl
       ·cases h
      | some tk =>
       simp only at h
       split at h
       ·rename_i e' s' n' Fa
        split at h
        ·rename_i MR
         simp only[Bool.and_eq_true,decide_eq_true_eq] at MR
         obtain⟨⟨w1,w2⟩,w3⟩:=MR
         rw[w1,w2,w3] at Fa
         cases h
         obtain⟨e2,s2',n2,q1,q2,q3,q4⟩:=k5 tk rfl
         rw[Fa] at q1
         cases q1
         obtain⟨rfl,rfl⟩:=q4 rfl
         obtain⟨-,-,-,-,-,-,WZ,Br,Bu,P3,CZ,Zz⟩:=oJ zF q3
         have U0:=fu q3
         obtain⟨cur,t1,t2,t3,t4⟩:=hR.cT tk _ _ _ Fa
         have YK:∀ j,j<rows.length*s→cur[j]? = some (Br.getD j undef):=by
          intro j hj
          have wB:j<(flat rows).length:=by omega
          obtain⟨b',o',r1,-,r2⟩:=CZ j _ (List.getElem?_eq_getElem wB)
          cases r1
          simpa [World.cell?,t1] using r2
         by_cases hroom:rows.length+news.length≤x.κ tk
         ·
          have BJ:rows.length*s+jE.length≤cur.size:=by rw[pg,t2,← Nat.add_mul]; exact Nat.mul_le_mul_right _ hroom
          have hrun:=run_append_room (P:=P) x.w t u e ie hu od (x.μ tk) rows.length (x.κ tk) cur t1 ⟨b2,o2,none⟩ news.length nX jE (by rw[pg,mU]) lU Az hroom (by rw[mU]; exact BJ)
          rw[mU] at hrun
          generalize zW:(cur.toList.take (rows.length*s)++jE++cur.toList.drop (rows.length*s+jE.length)).toArray=arr at *
          have YM:arr.size=cur.size:=by rw[← zW]; simp; omega
          have Tl:∀ j,j<rows.length*s→arr[j]? = some (Br.getD j undef):=by
           intro j hj
           have h1:=YK j hj
           rw[← zW,List.getElem?_toArray,List.append_assoc,List.getElem?_append_left (by simp; omega),List.getElem?_take,if_pos hj]
           simpa using h1
          have ZD:∀ j,j<news.length*s→arr[rows.length*s+j]? = some (jE.getD j undef):=by
           intro j hj
           have e1:(cur.toList.take (rows.length*s)).length=rows.length*s:=by simp; omega
           rw[← zW,List.getElem?_toArray,List.append_assoc,List.getElem?_append_right (by omega),e1,Nat.add_sub_cancel_left,List.getElem?_append_left (by omega)]
           simp[List.getD_eq_getElem?_getD,List.getElem?_eq_getElem (show j<jE.length by omega)]
          have nP:∀ o,o<rows.length*s→(x.w.setRow (x.μ tk) arr).cell? ⟨x.μ tk,o,none⟩=x.w.cell? ⟨x.μ tk,o,none⟩:=by
           intro o ho
           rw[cell_setRow_same _ _ _ _ _ _ _ t1,Tl o ho]
           simp[World.cell?,t1,YK o ho]
          have Sv:(rows.length+news.length)*s≤arr.size:=by rw[YM,t2]; exact Nat.mul_le_mul_right _ hroom
          have hle:rows.length*s≤(rows.length+news.length)*s:=Nat.mul_le_mul_right _ (by omega)
          have jG:=wN (F:=fun o=>o<(rows.length+news.length)*s) (arr:=arr) (b := .tail e s ((rows.length+news.length)*s)) hR Fa (.inr (.inl ⟨e,s,_,_,rfl,rfl,hle,nP,by rw[YM]; exact t2,Sv,fun o ho=>ho⟩))
          have M:=oO (F:=fun o=>o<(rows.length+news.length)*s) (arr:=arr) (b := .tail e s ((rows.length+news.length)*s)) hR Fa (.inr (.inl ⟨e,s,_,_,rfl,rfl,hle,nP⟩))
          exact eO hrun (y:=x.upd tk arr (fun o=>o<(rows.length+news.length)*s) (.tail e s ((rows.length+news.length)*s))) rfl jG M
           (uE M q3 iU WZ PB P3 zQ (by show (x.S.set _ _)[_]? = _; rw[eG Fa,if_pos rfl]) rfl rfl (setRow_heap _ _ _ _ _ _ t1) (fun o ho => .inr ⟨rfl,ho⟩) Sv (fun j hj=>by rw[Array.getD_eq_getD_getElem?,Tl j hj]; rfl) (fun j hj=>by rw[Array.getD_eq_getD_getElem?,ZD j hj]; rfl) hroom)
         ·
          obtain⟨g1,g2,g3⟩:=grown Br Bu _ rfl
          have hrun:=run_append_grow (P:=P) x.w t u e ie z hu od Uf ⟨x.μ tk,0,none⟩ rows.length (x.κ tk) Br (by rw[Bu,mU]) (fun j v hv=>by
            have hj:j<(flat rows).length:=by rw[U0,← Bu]; exact(List.getElem?_eq_some_iff.1 hv).1
            obtain⟨b',o',r1,-,r2⟩:=CZ j _ (List.getElem?_eq_getElem hj)
            cases r1
            rw[fA,r2]
            simp[List.getD_eq_getElem?_getD,hv]) ⟨b2,o2,none⟩ news.length nX jE (by rw[pg,mU]) lU (by omega) (by omega) (growslice_fits (by omega) (by rw[zo]; exact iX))
          generalize hk0:grownCap x.w (rows.length+news.length) (x.κ tk) e=k at *
          obtain⟨v1,v2⟩:=uO (Z:=Builtin.zeroCells z.cells (k-(rows.length+news.length))) Bu pg
          generalize zW:Br.toArray++jE.toArray++Builtin.zeroCells z.cells (k-(rows.length+news.length))=arr at *
          have hp:kD x.w (x.w.drew.alloc (.cells arr e)) (.cells arr e (0,0)):=⟨rfl,rfl,rfl⟩
          have Sv:(rows.length+news.length)*s≤arr.size:=by rw[g3]; exact Nat.mul_le_mul_right _ g2
          have hlt:rows.length*s<(rows.length+news.length)*s:=Nat.mul_lt_mul_of_pos_right (by omega) hs
          have jG:=JI (k:=k) (F:=fun o=>o<(rows.length+news.length)*s) hR Fa hp hlt g3 Sv g1 fun o ho=>ho
          have M:=yW (k:=k) (F:=fun o=>o<(rows.length+news.length)*s) (n':=(rows.length+news.length)*s) hR Fa hp hlt
          exact eO hrun (y:=x.gL (x.w.drew.alloc (.cells arr e)) tk k (fun o=>o<(rows.length+news.length)*s) (.tail e s ((rows.length+news.length)*s))) rfl jG M
           (uE M q3 iU WZ PB P3 zQ (by show (x.S.set _ _)[_]? = _; rw[eG Fa,if_pos rfl]) (if_pos rfl) (if_pos rfl) hp.new (fun o ho => .inr ⟨rfl,ho⟩) Sv v1 v2 g2)
        ·cases h
       ·cases h
     ·cases h
 ·cases h
theorem find_congr (kt:TypeId) (k:Value):∀ (l m:List MapEntry) (i:Nat),l.map (fun e=>(e.key,e.val))=m.map (fun e=>(e.key,e.val))→Instr.findAsking kt k l i=Instr.findAsking kt k m i
 | [],[],_,_=>rfl
 | [],_::_,_,h=>by simp at h
 | _::_,[],_,h=>by simp at h
 | e::l,f::m,i,h=>by
  simp only[List.map_cons,List.cons.injEq,Prod.mk.injEq] at h
  unfold Instr.findAsking
  rw[h.1.1,h.1.2,find_congr kt k l m (i+1) h.2]
theorem AV (kd:TypeDesc) (k:Value):∀ (l m:List MapEntry) (i:Nat),l.map (fun e=>(e.key,e.val))=m.map (fun e=>(e.key,e.val))→Instr.findNow kd k l i=Instr.findNow kd k m i
 | [],[],_,_=>rfl
 | [],_::_,_,h=>by simp at h
 | _::_,[],_,h=>by simp at h
 | e::l,f::m,i,h=>by
  simp only[List.map_cons,List.cons.injEq,Prod.mk.injEq] at h
  unfold Instr.findNow
  rw[h.1.1,h.1.2,AV kd k l m (i+1) h.2]
theorem A7 (kt:TypeId) (k:Value) {l m:List MapEntry} (h:l.map (fun e=>(e.key,e.val))=m.map (fun e=>(e.key,e.val))):Instr.findKey kt k l=Instr.findKey kt k m:=by
 unfold Instr.findKey
 have h1:∀ kd,Instr.findNow kd k l 0=Instr.findNow kd k m 0:=fun kd=>AV kd k l m 0 h
 have h2:=find_congr kt k l m 0 h
 simp only[h1,h2]
theorem Iv (es:List (Value×Value)):(es.map G5).map (fun e=>(e.key,e.val))=es:=by
 rw[List.map_map]
 conv=>rhs; rw[← List.map_id es]
 congr 1
theorem NR {v:Value} {d:DV} (h:Dj v=some d):RV x d v:=by
 unfold Dj at h
 split at h
 ·rename_i vs
  split at h
  ·rename_i v b hvs
   simp only[Option.map_eq_some_iff] at h
   obtain⟨d',h1,rfl⟩:=h
   have e:vs=#[v,.bool b]:=by rw[← Array.toArray_toList (xs:=vs),hvs]
   subst e
   refine .fB rfl fun j c hc => ?_
   match j with
   | 0=>simp only[List.getElem?_cons_zero,Option.some.injEq] at hc; subst hc; exact s7 h1
   | 1=>simp only[List.getElem?_cons_succ,List.getElem?_cons_zero,Option.some.injEq] at hc; subst hc; exact .val rfl
   | j+2=>simp at hc
  ·cases h
 ·exact s7 h
theorem GC (hR:Rel x) (hn:Ai x.S ay) {t:TypeId}:Yields x ((do pure (.value (← Instr.makeMap t none)):Sem Next).run P x.w) (.map ay) (cW x.S ay (.map [])):=by
 have hp:kD x.w (x.w.alloc (.map #[] 0)) (.map #[] 0):=ew _ _
 have jG:=iZ (k:=0) (F:=fun _=>False) (b := .map []) hR hn hp (by simp) (.inr (.inr (.inl ⟨rfl,by simp,rfl⟩)))
 refine eO (y:=x.fresh _ ay 0 (fun _=>False) (.map [])) (v := .map (some x.w.heap.size)) ?_ rfl jG (gb hR hn hp) ?_
 ·simp[Instr.makeMap,Cx.fresh]
 ·have:(x.fresh (x.w.alloc (.map #[] 0)) ay 0 (fun _=>False) (.map [])).μ ay=x.w.heap.size:=if_pos rfl
  rw[← this]
  exact .map (es:=[]) (by show (cW _ _ _)[_]? = _; rw[aQ hn.le,if_pos rfl])
theorem Ix (hR:Rel x) {id:Nat} {es:List (Value×Value)} (h:x.S[id]? = some (.map es)):∃ xq clk,x.w.heap[x.μ id]? = some (.map xq clk)∧xq.toList.map (fun e=>(e.key,e.val))=es:=by
 obtain⟨o,h1,h2⟩:=hR.c9 id _ h rfl
 cases o<;>simp only[oz] at h2
 exact⟨_,_,h1,h2⟩
theorem rH {α β:Type} {s:Sem α} {f:α→Sem β} {b:β} (h:bp P (s >>= f)=some b):∃ a,bp P s=some a∧bp P (f a)=some b:=by
 change bp P (s.bind f)=some b at h
 induction s with
 | pure a=>exact⟨a,rfl,h⟩
 | program k ih=>exact ih P h
 | _=>simp[Sem.bind,bp] at h
theorem J3 (hR:Rel x) {t:TypeId} {id:Nat} {es:List (Value×Value)} {k v:Value} {ok:Bool} {d:DV} (h:x.S[id]? = some (.map es)) (hp:bp P (Dl t (es.map G5) k ok)=some v) (hd:Dj v=some d) :
  Yields x ((do pure (.value (← Instr.lookup t (.map (some (x.μ id))) k ok)):Sem Next).run P x.w) d x.S:=by
 obtain⟨xq,clk,h1,h2⟩:=Ix hR h
 refine aI hR (v:=v) ?_ (NR hd)
 have hk:∀ kt,Instr.findKey kt k (es.map G5)=Instr.findKey kt k xq.toList:=fun kt=>A7 kt k (by rw[Iv,h2])
 have he:(es.map G5).isEmpty=xq.isEmpty:=by
  rw[← h2,Bool.eq_iff_iff]
  simp
 have hg:=fV (P:=P) h1 (by simp)
 unfold Dl at hp
 obtain⟨td,p1,p2⟩:=rH hp
 have r1:=ki p1 x.w
 cases td with
 | map key elem =>
  simp only at p2
  have r2:=ki p2 x.w
  unfold Instr.lookup
  simp only[Sem.run_bind,r1,Result.andThen_ok,hg,Sem.run_pure,hk,he] at r2 ⊢
  exact r2
 | _=>simp[stuck,bp] at p2
theorem CO (hR:Rel x) {t:TypeId} {id:Nat} {es es':List (Value×Value)} {k v:Value} {r:Option (Nat×Value)} (h:x.S[id]? = some (.map es)) (hp:bp P (Dw t (es.map G5) k)=some r) (hs:Fu es k v r=some es') :
  Yields x ((do Instr.mapUpdate t (.map (some (x.μ id))) k v; pure .skip:Sem Next).run P x.w) aV (x.S.set id (.map es')):=by
 obtain⟨xq,clk,h1,h2⟩:=Ix hR h
 have hk:∀ kt,Instr.findKey kt k (es.map G5)=Instr.findKey kt k xq.toList:=fun kt=>A7 kt k (by rw[Iv,h2])
 have hg:=fV (P:=P) h1 (by simp)
 suffices hm:∃ HB Vd,(Instr.mapUpdate t (.map (some (x.μ id))) k v).run P x.w = .ok () (bD x.w (x.μ id) (.map HB Vd))∧HB.toList.map (fun e=>(e.key,e.val))=es' by
  obtain⟨HB,Vd,q1,q2⟩:=hm
  exact DI (y:=x.qR id (.map HB Vd) (.map es')) q1 rfl (D7 hR h trivial (by simp) q2) (uK hR h trivial (by simp))
 unfold Dw at hp
 obtain⟨td,p1,p2⟩:=rH hp
 have r1:=ki p1 x.w
 cases td with
 | map key elem =>
  simp only at p2
  obtain⟨u,p3,p4⟩:=rH p2
  have r2:=ki p3 x.w
  have r3:=ki p4 x.w
  rw[hk] at r3
  unfold Instr.mapUpdate
  simp only[Sem.run_bind,r1,Result.andThen_ok,hg,r2,r3]
  cases r with
  | none =>
   simp only[Fu,Option.some.injEq] at hs
   subst hs
   exact⟨_,_,gX h1 (by simp),by simp[h2]⟩
  | some q =>
   obtain⟨i,v0⟩:=q
   simp only[Fu] at hs
   split at hs
   ·rename_i k' v' hi
    split at hs
    ·rename_i hsb
     cases hs
     have hlt:i<xq.size:=by
      have:=(List.getElem?_eq_some_iff.1 hi).1
      rw[← h2] at this
      simpa using this
     have hek:((xq[i]?).map (·.key)).getD k=k':=by
      rw[← h2] at hi
      simp only[List.getElem?_map,Array.getElem?_toList,Option.map_eq_some_iff,Prod.mk.injEq] at hi
      obtain⟨e,q1,q2,-⟩:=hi
      rw[q1]
      exact q2
     simp only[hek,Instr.keyThatStays,hsb,if_true]
     refine⟨_,_,gX h1 (by simp),?_⟩
     rw[Array.toList_modify]
     refine List.ext_getElem? fun j => ?_
     rw[← h2]
     simp only[List.getElem?_map,List.getElem?_modify,List.getElem?_set,List.length_map]
     by_cases hj:i=j
     ·subst hj
      simp[hlt]
     ·simp[hj]
    ·cases hs
   ·cases hs
 | _=>simp[stuck,bp] at p2
end Go.Di
end
section
namespace Go.Di
open Go
variable {P:Program} {ty:eS} {x:Cx} {w':World} {ρd:Operand→Option DV} {ρ:Operand→Value} {o:Oper} {ay:Nat}
theorem uP (hR:Rel x) (hn:Ai x.S ay) {k s n:Nat} {e:TypeId} {l:List DV} {arr:Array Value} {agg:Bool} (hp:kD x.w w' (.cells arr e (0,0))) (hsz:arr.size=k*s) (hl:l.length≤arr.size) (hk:k≤maxLen) (hc:∀ j c,l[j]? = some c→c.bt=true∧RV x c (arr.getD j undef)) (KL:n*s=l.length) :
  ∃ y,y.w=w'∧y.S=cW x.S ay (.op e s l false)∧Rel y∧bI x y∧RV y (.gQ ay n agg) (.slice (some ⟨x.w.heap.size,0,none⟩) n k):=by
 have jG:=iZ (k:=k) (F:=fun _=>False) (b := .op e s l false) hR hn hp (by simp) (.inr (.inr (.inr ⟨e,s,l,arr,rfl,rfl,hsz,hl,hk,by simp,hc⟩)))
 refine⟨_,rfl,rfl,jG,gb hR hn hp,?_⟩
 refine RV.gQ (e:=e) (s:=s) (l:=l) (z:=false) (by show (cW _ _ _)[_]? = _; rw[aQ hn.le,if_pos rfl]) (by omega) fun _ => ?_
 exact⟨by rw[show (x.fresh w' ay k (fun _=>False) (.op e s l false)).μ ay=x.w.heap.size from if_pos rfl],(if_pos rfl:(if ay=ay then k else _)=k).symm⟩
theorem J4 (dc:gE P ty) (hR:Rel x) (hn:Ai x.S ay) (hρ:sD x ρd ρ) {t e:TypeId} {n s iO sz sz':Nat} {agg:Bool} {k:TK} {z0:Option (List DV)} {z cs:List DV} {ps:Array (Nat×Operand)} {l:List (Nat×DV)} (h:ty t=some ⟨.slice e s iO agg,sz,z0⟩) (hl:gH ρd ps.toList=some l) (he:ty e=some ⟨k,sz',some z⟩)
  (hs:0<s) (G7:n*s≤16777216) (hf:gZ (fun i=>some (i*s,s)) ((List.replicate n z).flatten) (l.map fun(i,v)=>(i,v.strip))=some cs) (hp:cs.all DV.bt=true) :
  Yields x ((do pure (.value (← Instr.buildSlice t n (ps.map fun p=>(p.1,ρ p.2)))):Sem Next).run P x.w) (.gQ ay n agg) (cW x.S ay (.op e s cs false)):=by
 obtain⟨arr,h6,jQ,hrun⟩:=Bn dc hR hρ h hl he hs G7 hf
 have Sg:n≤n*s:=Nat.le_mul_of_pos_right n hs
 obtain⟨y,y1,y2,y3,y4,y5⟩:=uP (n:=n) (agg:=agg) hR hn (ew x.w (.cells arr e)) (k:=n) (s:=s) (by rw[h6.1,jQ]) (by rw[h6.1]; exact Nat.le_refl _) (by unfold maxLen; omega) (fun j c hc=>⟨List.all_eq_true.1 hp c (List.mem_of_getElem? hc),h6.2 j c hc⟩) jQ.symm
 exact eO (by rw[y1]; exact hrun) y2 y3 y4 y5
set_option maxRecDepth 8000 in
theorem CP (dc:gE P ty) (hR:Rel x) (hn:Ai x.S ay) {t e:TypeId} {s iO sz sz':Nat} {agg:Bool} {k:TK} {z0:Option (List DV)} {z:List DV} {kd kd':IntKind} {n:Int} (h:ty t=some ⟨.slice e s iO agg,sz,z0⟩) (he:ty e=some ⟨k,sz',some z⟩)
  (h0:0≤n) (hs:0<s) (G7:n≤140737488355328-4096) (hb:n.toNat*iO≤dz) (hp:(z.map DV.aG).all DV.bt=true) :
  Yields x ((do pure (.value (← Instr.makeSlice t (.int kd n) (.int kd' n))):Sem Next).run P x.w) (.gQ ay n.toNat agg) (cW x.S ay (.op e s (List.replicate n.toNat (z.map DV.aG)).flatten false)):=by
 obtain⟨hk,i,hi,-,-⟩:=bn (dc t _ h)
 obtain⟨hu,ie,od,mU,Xb,Bw⟩:=iH hk
 obtain⟨-,ie',xm,-,hz⟩:=bn (dc e _ he)
 rw[od] at xm
 cases xm
 obtain⟨zv,h1,h2,XD⟩:=gd hz
 obtain⟨h3,h4⟩:=eX (x:=x) h2
 have KF:zv.cells.size=s:=by rw[← mU,← XD]; simpa using h3
 have BG:z.length=s:=by rw[XD,mU]
 have h4':∀ j c,(z.map DV.aG)[j]? = some c→RV x c (zv.cells.toList.getD j undef):=fun j c hc=>by
  simp only[List.getElem?_map,Option.map_eq_some_iff] at hc
  obtain⟨c',h1,rfl⟩:=hc
  exact(h4 j c' h1).aG
 have wz:=AE (n:=n.toNat) (z:=z.map DV.aG) hs (by rw[List.length_map]; exact BG) KF h4'
 generalize zW:(Array.range (n.toNat*s)).map (zv.cells[· % zv.cells.size]!)=arr at *
 have hlen:(List.replicate n.toNat (z.map DV.aG)).flatten.length=n.toNat*s:=by simp[BG]
 obtain⟨y,y1,y2,y3,y4,y5⟩:=uP (n:=n.toNat) (agg:=agg) hR hn (ew x.w (.cells arr e)) (k:=n.toNat) (s:=s) (by rw[wz.1,hlen]) (by rw[wz.1]; exact Nat.le_refl _) (by unfold maxLen; omega) (fun j c hc=>⟨by
  have hm:=List.mem_of_getElem? hc
  simp only[List.mem_flatten,List.mem_replicate] at hm
  obtain⟨l,⟨-,rfl⟩,hm⟩:=hm
  exact List.all_eq_true.1 hp c hm,wz.2 j c hc⟩) hlen.symm
 refine eO (v := .slice (some ⟨x.w.heap.size,0,none⟩) n.toNat n.toNat) ?_ y2 y3 y4 y5
 rw[y1]
 have hw:IntKind.i64.wrap n=n:=by rw[IntKind.wrap_i64]; omega
 have hbz:((ie.bytes:Int)*n)≤140737488355328:=by
  have e1:n=(n.toNat:Int):=by omega
  rw[e1,Xb,← Int.natCast_mul,Nat.mul_comm]
  unfold dz at hb
  omega
 have e48:(2:Int) ^ 48=281474976710656:=by decide
 have c1:¬ (n<0):=by omega
 have c2:¬ (281474976710656<(ie.bytes:Int)*n):=by omega
 subst mU
 have hnw:(newRow e arr).run P x.w = .ok ⟨x.w.heap.size,0,none⟩ (x.w.alloc (.cells arr e)):=by simp[newRow]
 have c3:¬ (2 ^ 48<(ie.bytes:Int)*n):=by rw[e48]; exact c2
 have qU:∀ z0:Array Value,(Array.range (n.toNat*ie.size)).map (z0[· % z0.size]!)=arr→(do let a ← newRow e ((Array.range (n.toNat*ie.size)).map (z0[· % z0.size]!)); pure (Value.slice (some a) n.toNat n.toNat):Sem Value).run P x.w = .ok (.slice (some ⟨x.w.heap.size,0,none⟩) n.toNat n.toNat) (x.w.alloc (.cells arr e)):=fun z0 h=>by
  rw[h,Sem.run_bind,hnw,Result.andThen_ok,Sem.run_pure]
 unfold Instr.makeSlice
 simp only[Sem.run_bind,run_underlying hu,Result.andThen_ok,asInt,asIntOf,Sem.run_pure,typeInfo,run_program,od,hw,decide_eq_false c1,decide_eq_false c3,Bool.or_false,gt_iff_lt,decide_eq_false (Int.lt_irrefl n),Bool.false_eq_true,if_false,run_askRoom,run_sizeOf od]
 by_cases C4:n.toNat*ie.size=0
 ·have:=qU #[] (by rw[← zW,C4]; simp)
  simpa only [if_pos C4,Sem.run_bind,Sem.run_pure,Result.andThen_ok] using this
 ·have:=qU zv.cells zW
  simpa only [if_neg C4,zeroValue,typeInfo,run_program,od,h1,Sem.run_bind,Sem.run_pure,Result.andThen_ok] using this
theorem yU (dc:gE P ty) (hR:Rel x) (hn:Ai x.S ay) {t u:TypeId} {a b d:DV} {va vb:Value} {S':ak} (ha:RV x a va) (hb:RV x b vb) (h:j6 ty x.S ay t a b=some (d,S')) :
  Yields x ((do pure (.value (← Builtin.append_ #[t,t] u #[va,vb])):Sem Next).run P x.w) d S':=by
 unfold j6 at h
 split at h
 rotate_left
 ·cases h
 rename_i e s iO agg sz z0 news zJ Ts Se
 obtain⟨hk,it,-,-,-⟩:=bn (dc t _ Se)
 obtain⟨hu,ie,od,mU,zo,-⟩:=iH hk
 have C8:=hb
 cases hb with
 | @sl _ _ _ A2 nX s2 vs2 O4 O7 m1 m2 m3 m4 m5 =>
  split at h
  rotate_left
  ·cases h
  rename_i hte
  obtain⟨z,Uf,KF⟩:∃ z,ie.zero=some z∧z.cells.size=s:=by
   obtain⟨-,ie',xm,Fi,wz⟩:=bn (dc e _ hte)
   rw[od] at xm
   cases xm
   obtain⟨z,q1,q2,q3⟩:=gd wz
   have:=(eX (x:=x) q2).1
   exact⟨z,q1,by rw[← mU,← q3]; simpa using this⟩
  have emp:∀ (A:Option Addr) (n cap:Nat),n≤cap→news=[]→(Builtin.append_ #[t,t] u #[.slice A n cap,.slice A2 news.length nX]).run P x.w = .ok (.slice A n cap) x.w:=by
   rintro A n cap k1 rfl
   subst mU
   cases A<;>cases A2<;>simp[Builtin.append_,run_underlying hu,run_sizeOf od,Builtin.lenOf,Builtin.firstCells,loadCells,loadCellsFrom,storeCells,k1]
  have grown:∀ (n cap:Nat),n+news.length≤140737488355328-4096→∀ (w1:List Value),w1.length=n*s→∀ (jE:List Value),jE.length=news.length*s→∀ (k:Nat),k=grownCap x.w (n+news.length) cap e→k≤maxLen∧n+news.length≤k ∧
    (w1.toArray++jE.toArray++Builtin.zeroCells z.cells (k-(n+news.length))).size=k*s:=by
   intro n cap hlen w1 G6 jE pg k hk
   have C7:=grownCap_ge x.w (n+news.length) cap e
   have hle:=grownCap_le_maxLen x.w (n+news.length) cap e (by simp only[maxLen]; omega)
   subst hk
   refine⟨hle,C7,?_⟩
   simp only[Array.size_append,List.size_toArray,size_zeroCells,KF,G6,pg,← Nat.add_mul]
   congr 1
   omega
  have SY:news≠[]→(∀ r∈news,r.cells.length=s)→0<news.length∧∃ (b2 o2:Nat) (jE:List Value),A2=some ⟨b2,o2,none⟩∧jE.length=news.length*s∧(flat news).length=news.length*s∧(∀ c∈flat news,c.bt=true)∧(∀ j c,(flat news)[j]? = some c→RV x c (jE.getD j undef)) ∧
    (∀ j v,jE[j]? = some v→x.w.cell? ((⟨b2,o2,none⟩:Addr).add j)=some v)∧∀ u∈jE,u.oneCell'=true:=by
   intro hne iU
   have hm:0<news.length:=List.length_pos_iff.2 hne
   obtain⟨-,-,-,-,-,UN,PB,jE,pg,zQ,sr,Az⟩:=oJ C8 iU
   obtain⟨SA,rfl⟩:∃ SA,A2=some SA:=by
    cases A2 with
    | none=>have:=m3 rfl; omega
    | some ad=>exact⟨ad,rfl⟩
   have we:=fu iU
   obtain⟨b2,o2,TG⟩:=SA
   have UM:TG=none:=UN _ rfl
   subst UM
   refine⟨hm,b2,o2,jE,rfl,pg,we,PB,zQ,fun j v hv => ?_,Az⟩
   have hj:j<(flat news).length:=by rw[we,← pg]; exact(List.getElem?_eq_some_iff.1 hv).1
   obtain⟨b',o',q1,-,q2⟩:=sr j _ (List.getElem?_eq_getElem hj)
   cases q1
   rw[fA,q2]
   simp[List.getD_eq_getElem?_getD,hv]
  split at h
  ·
   rename_i id n ag
   cases ha with
   | @gQ _ _ _ e1 s1 l1 z1 A cap Su hn1 hA1 =>
    split at h
    rotate_left
    ·cases h
    rename_i kH
    simp only[Bool.and_eq_true,decide_eq_true_eq,List.all_eq_true] at kH
    obtain⟨⟨⟨⟨hs,-⟩,iX⟩,hlen⟩,iU⟩:=kH
    split at h
    rotate_left
    ·cases h
    rename_i e' s' l hop
    split at h
    rotate_left
    ·cases h
    rename_i sr
    simp only[Bool.and_eq_true,decide_eq_true_eq] at sr
    obtain⟨c1,c2⟩:=sr
    rw[c1,c2] at hop
    obtain⟨hS,Bt⟩:=iJ hop
    obtain⟨rfl,rfl,rfl,rfl⟩:e=e1∧s=s1∧l=l1∧false=z1:=by rw[hS] at Su; cases Su; exact⟨rfl,rfl,rfl,rfl⟩
    obtain⟨rfl,rfl⟩:=hA1 Bt
    obtain⟨cur,t1,t2,t3,t4,t5,-,-⟩:=hR.ops id _ _ _ _ hS
    have hnκ:n≤x.κ id:=Nat.le_of_mul_le_mul_right (show n*s≤x.κ id*s by omega) hs
    split at h
    ·rename_i qm
     cases h
     exact aI hR (emp _ _ _ hnκ (by simpa using qm)) (.gQ hS hn1 fun _=>⟨rfl,rfl⟩)
    rename_i qm
    cases h
    obtain⟨hm,b2,o2,jE,rfl,pg,we,PB,zQ,lU,Az⟩:=SY (by simpa using qm) iU
    have Tj:(l++flat news).length=(n+news.length)*s:=by rw[List.length_append,we,Nat.add_mul]; omega
    have uX:∀ c∈l++flat news,c.bt=true:=fun c hc=>by
     rcases List.mem_append.1 hc with hc | hc
     ·obtain⟨j,hj⟩:=List.mem_iff_getElem?.1 hc
      exact(t5 j c hj).1
     ·exact PB c hc
    have hlt:l.length<(l++flat news).length:=by rw[List.length_append,we]; have:=Nat.mul_pos hm hs; omega
    have aat:eR x (flat news) jE.toArray:=⟨by simp[pg,we],fun j c hc=>by simpa [Array.getD_eq_getD_getElem?,List.getD_eq_getElem?_getD] using zQ j c hc⟩
    by_cases hroom:n+news.length≤x.κ id
    ·have BJ:n*s+jE.length≤cur.size:=by rw[pg,t2,← Nat.add_mul]; exact Nat.mul_le_mul_right _ hroom
     have hrun:=run_append_room (P:=P) x.w t u e ie hu od (x.μ id) n (x.κ id) cur t1 ⟨b2,o2,none⟩ news.length nX jE (by rw[pg,mU]) lU Az hroom (by rw[mU]; exact BJ)
     rw[mU,Bt] at hrun
     have hp:=Ct (off:=l.length) t3 (fun j c hc=>(t5 j c hc).2) aat (Nat.le_refl _) (by rw[we]; omega)
     have hsz:(cur.toList.take l.length++jE++cur.toList.drop (l.length+jE.length)).toArray.size=cur.size:=by simp; omega
     rw[List.drop_of_length_le (show l.length≤l.length+(flat news).length by omega),List.append_nil,List.take_length,List.size_toArray] at hp
     generalize zW:(cur.toList.take l.length++jE++cur.toList.drop (l.length+jE.length)).toArray=arr at *
     have jG:=wN (F:=fun _=>False) (arr:=arr) (b := .op e s (l++flat news) false) hR hS (.inr (.inr ⟨e,s,_,_,rfl,rfl,by omega,by simp,by rw[hsz]; exact t2,by rw[hsz,Tj,t2]; exact Nat.mul_le_mul_right _ hroom,fun j c hc=>⟨uX c (List.mem_of_getElem? hc),hp j c hc⟩⟩))
     have M:=oO (F:=fun _=>False) (arr:=arr) (b := .op e s (l++flat news) false) hR hS (.inr (.inr ⟨e,s,_,_,rfl,rfl,by omega⟩))
     refine eO hrun (y:=x.upd id arr (fun _=>False) (.op e s (l++flat news) false)) rfl jG M (.gQ (e:=e) (s:=s) (l:=l++flat news) (z:=false) (by show (x.S.set _ _)[_]? = _; rw[eG hS,if_pos rfl]) (by omega) fun _=>⟨rfl,rfl⟩)
    ·have ng:∀ j,j<n*s→∃ v,cur[j]? = some v:=fun j hj=>⟨cur[j]'(by omega),Array.getElem?_eq_getElem _⟩
     have G6:(cur.toList.take (n*s)).length=n*s:=by simp; omega
     obtain⟨g1,g2,g3⟩:=grown n (x.κ id) hlen _ G6 _ pg _ rfl
     have hrun:=run_append_grow (P:=P) x.w t u e ie z hu od Uf ⟨x.μ id,0,none⟩ n (x.κ id) (cur.toList.take (n*s)) (by rw[G6,mU]) (fun j v hv=>by
       have hj:j<n*s:=by rw[← G6]; exact(List.getElem?_eq_some_iff.1 hv).1
       rw[List.getElem?_take,if_pos hj] at hv
       rw[fA]
       simp only[World.cell?,t1,Nat.zero_add]
       simpa using hv) ⟨b2,o2,none⟩ news.length nX jE (by rw[pg,mU]) lU (by omega) (by omega) (growslice_fits (by omega) (by rw[zo]; exact iX))
     generalize hk0:grownCap x.w (n+news.length) (x.κ id) e=k at *
     obtain⟨v1,v2⟩:=uO (Z:=Builtin.zeroCells z.cells (k-(n+news.length))) G6 pg
     generalize zW:(cur.toList.take (n*s)).toArray++jE.toArray++Builtin.zeroCells z.cells (k-(n+news.length))=arr at *
     have hp:kD x.w (x.w.drew.alloc (.cells arr e)) (.cells arr e (0,0)):=⟨rfl,rfl,rfl⟩
     have hcc:∀ j c,(l++flat news)[j]? = some c→c.bt=true∧RV x c (arr.getD j undef):=fun j c hc=>by
      refine⟨uX c (List.mem_of_getElem? hc),?_⟩
      by_cases hj:j<l.length
      ·rw[List.getElem?_append_left hj] at hc
       rw[v1 j (by omega)]
       have:=(t5 j c hc).2
       simpa [Array.getD_eq_getD_getElem?,List.getD_eq_getElem?_getD,List.getElem?_take,show j<n*s by omega] using this
      ·rw[List.getElem?_append_right (by omega)] at hc
       have hj2:j-l.length<(flat news).length:=(List.getElem?_eq_some_iff.1 hc).1
       have e1:j=n*s+(j-l.length):=by omega
       rw[e1,v2 _ (by omega)]
       exact zQ _ c hc
     have jG:=NV (k:=k) hR hS hp hlt g3 (by rw[g3,Tj]; exact Nat.mul_le_mul_right _ g2) g1 hcc
     have M:=AY (k:=k) hR hS hp hlt
     refine eO hrun (y:=x.gL (x.w.drew.alloc (.cells arr e)) id k (fun _=>False) (.op e s (l++flat news) false)) rfl jG M (.gQ (e:=e) (s:=s) (l:=l++flat news) (z:=false) (by show (x.S.set _ _)[_]? = _; rw[eG hS,if_pos rfl]) (by omega) fun _ => ?_)
     exact⟨congrArg (fun b=>some (⟨b,0,none⟩:Addr)) (if_pos rfl:(if id=id then _ else _)=_).symm,(if_pos rfl:(if id=id then k else _)=k).symm⟩
  ·
   rename_i f
   cases ha with
   | @sl _ _ _ A cap s1 vs1 I3 tY k1 k2 k3 k4 k5 =>
    split at h
    ·rename_i qm
     cases h
     exact aI hR (emp _ _ _ k1 (by simpa using qm)) (.sl I3 tY k1 k2 k3 k4 k5)
    rename_i qm
    split at h
    rotate_left
    ·cases h
    rename_i kH
    simp only[Bool.and_eq_true,decide_eq_true_eq,List.all_eq_true] at kH
    obtain⟨⟨⟨⟨⟨aaE,hs⟩,-⟩,iX⟩,hlen⟩,iU⟩:=kH
    cases h
    obtain⟨hm,b2,o2,jE,rfl,pg,we,PB,zQ,lU,Az⟩:=SY (by simpa using qm) iU
    have Jh:cap=0:=k2.1 aaE
    subst Jh
    obtain⟨g1,g2,g3⟩:=grown 0 0 (by omega) [] (by simp) _ pg _ rfl
    have hrun:(Builtin.append_ #[t,t] u #[.slice A ([]:List DV).length 0,.slice (some ⟨b2,o2,none⟩) news.length nX]).run P x.w =
      .ok (.slice (some ⟨x.w.heap.size,0,none⟩) news.length (grownCap x.w news.length 0 e)) (x.w.drew.alloc (.cells (jE.toArray++Builtin.zeroCells z.cells (grownCap x.w news.length 0 e-news.length)) e)):=by
     cases A with
     | none=>exact run_append_nil (P:=P) x.w t u e ie z hu od Uf ⟨b2,o2,none⟩ news.length nX jE (by rw[pg,mU]) lU hm (by omega) (by rw[zo]; unfold dz at iX; omega)
     | some ad =>
      have:=run_append_grow (P:=P) x.w t u e ie z hu od Uf ad 0 0 [] (by simp) (by simp) ⟨b2,o2,none⟩ news.length nX jE (by rw[pg,mU]) lU (by omega) (by omega) (growslice_fits (by omega) (by rw[zo,Nat.zero_add]; exact iX))
      simpa using this
    simp only[Nat.zero_add] at g1 g2 g3
    generalize hk0:grownCap x.w news.length 0 e=k at *
    have v2:∀ j,j<news.length*s→(jE.toArray++Builtin.zeroCells z.cells (k-news.length)).getD j undef=jE.getD j undef:=fun j hj=>by
     rw[Array.getD_eq_getD_getElem?,Array.getElem?_append_left (by simp; omega)]
     simp[List.getD_eq_getElem?_getD]
    have Xk:(jE.toArray++Builtin.zeroCells z.cells (k-news.length)).size=k*s:=by simpa using g3
    obtain⟨y,y1,y2,y3,y4,y5⟩:=uP (n:=news.length) (agg:=agg) hR hn (w':=x.w.drew.alloc (.cells (jE.toArray++Builtin.zeroCells z.cells (k-news.length)) e)) (e:=e) (l:=flat news) (k:=k) (s:=s) ⟨rfl,rfl,rfl⟩ Xk (by rw[Xk,we]; exact Nat.mul_le_mul_right _ g2) g1 (fun j c hc=>⟨PB c (List.mem_of_getElem? hc),by
     have hj:j<(flat news).length:=(List.getElem?_eq_some_iff.1 hc).1
     rw[v2 j (by omega)]
     exact zQ j c hc⟩) we.symm
    exact eO (by rw[y1]; exact hrun) y2 y3 y4 y5
  ·cases h
theorem look_ok (hR:Rel x) {d:DV} {v:Value} (h:RV x d v):RV x (iT x.S d) v:=by
 cases h with
 | @gQ id n agg e1 s1 l1 z1 A cap hS hn hA =>
  unfold iT
  dsimp only
  split
  ·rename_i e s l hop
   obtain⟨wD,Bt⟩:=iJ hop
   obtain⟨rfl,rfl,rfl,rfl⟩:e=e1∧s=s1∧l=l1∧true=z1:=by rw[wD] at hS; cases hS; exact⟨rfl,rfl,rfl,rfl⟩
   split
   ·rename_i hc
    simp only[Bool.and_eq_true,Bool.or_eq_true,beq_iff_eq,decide_eq_true_eq] at hc
    obtain⟨rfl,rfl⟩:=hA Bt
    obtain⟨arr,h1,h2,h3,-,h4,h5,-⟩:=hR.ops id e s l true hS
    obtain⟨sk,XL⟩:=Bb hc.1 hc.2 (fun c hm=>by
     obtain⟨j,hj⟩:=List.mem_iff_getElem?.1 hm
     exact(h4 j c hj).1) n Bt.symm
    have WX:(rowsOf s agg l n).length=n:=by simp[rowsOf]
    suffices hk:RV x (.sl (rowsOf s agg l n) none ⟨false,some false⟩) (.slice (some ⟨x.μ id,0,none⟩) (rowsOf s agg l n).length (x.κ id)) by rw[WX] at hk; exact hk
    refine RV.sl (tok:=none) (xZ XL (fun c hm => ?_) (by rw[sk]; exact h3) h1 fun j hj=>h5 rfl j (by rw[sk] at hj; exact hj)) (fun j c hc => ?_) ?_ ⟨by simp,fun b h=>by cases h; rfl⟩ (by simp) (fun ad h=>by cases h; rfl) (fun t ht=>nomatch ht)
    ·rw[sk] at hm
     obtain⟨j,hj⟩:=List.mem_iff_getElem?.1 hm
     exact(h4 j c hj).1
    ·rw[sk] at hc
     exact(h4 j c hc).2
    ·rw[WX]
     exact Nat.le_of_mul_le_mul_right (show n*s≤x.κ id*s by omega) hc.1
   ·exact .gQ hS hn hA
  ·exact .gQ hS hn hA
 | val h=>exact .val h
 | agg h hl=>exact .agg h hl
 | fB h hl=>exact .fB h hl
 | sl hv hr h1 h2 h3 hsp h4=>exact .sl hv hr h1 h2 h3 hsp h4
 | ptr h=>exact .ptr h
 | dB hv hr=>exact .dB hv hr
 | fn h1 h2 h3 h4=>exact .fn h1 h2 h3 h4
 | map h=>exact .map h
 | zx h=>exact .zx h
 | er h h1 h2=>exact .er h h1 h2
theorem MT (hR:Rel x) (d:DV):∃ y,y.w=x.w∧y.S=qo x.S d∧Rel y∧bI x y:=by
 unfold qo
 split
 ·rename_i id n ag
  split
  ·rename_i e s l hop
   obtain⟨hS,-⟩:=iJ hop
   exact⟨x.close id e s l,rfl,rfl,JK hR hS,yX hS⟩
  ·exact⟨x,rfl,rfl,hR,bI.refl x⟩
 ·exact⟨x,rfl,rfl,hR,bI.refl x⟩
theorem CA {env:List DV}:∀ (l:List Operand) {x:Cx},Rel x→∃ y,y.w=x.w∧y.S=l.foldl (mh env) x.S∧Rel y∧bI x y
 | [],x,hR=>⟨x,rfl,rfl,hR,bI.refl x⟩
 | a::l,x,hR=>by
  rw[List.foldl_cons]
  cases he:fM env a with
  | none=>rw[show mh env x.S a=x.S by unfold mh; rw[he]]; exact CA l hR
  | some d =>
   rw[show mh env x.S a=qo x.S d by unfold mh; rw[he]]
   obtain⟨y,y1,y2,y3,y4⟩:=MT hR d
   obtain⟨z,z1,z2,z3,z4⟩:=CA (env:=env) l y3
   exact⟨z,z1.trans y1,by rw[z2,y2],z3,y4.trans z4⟩
theorem VU {env:List DV} {arr:Array Value} (o:Oper) (hR:Rel x) (he:eR x env arr):∃ y,y.w=x.w∧y.S=(zO ty o env x.S).2∧Rel y∧bI x y∧eR y (zO ty o env x.S).1 arr:=by
 unfold zO
 split
 ·obtain⟨y,y1,y2,y3,y4⟩:=CA (env:=env) o.op.operands.toList hR
  refine⟨y,y1,y2,y3,y4,by simpa using he.1,fun j c hc => ?_⟩
  simp only[List.getElem?_map,Option.map_eq_some_iff] at hc
  obtain⟨c',h1,rfl⟩:=hc
  rw[← y2]
  exact look_ok y3 ((he.2 j c' h1).mono y4)
 ·exact⟨x,rfl,rfl,hR,bI.refl x,he⟩
end Go.Di
end
