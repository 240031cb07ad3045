import Derived.Test.YtedcgbkilmlbhaaPk13
section
namespace Go.Di
open Go
variable {P:Program} {ty:Tys} {x:Cx} {w':World} {ρd:Operand→Option DV} {ρ:Operand→Value} {o:Oper} {nid:Nat}
theorem sl_cells {rows:List DV} {tok:Option Nat} {full:SF} {A:Option Addr} {n cap s:Nat} (h:RV x (.sl rows tok full) (.slice A n cap)) (hs:∀ r∈rows,r.cells.length=s) :
  n=rows.length∧n≤cap∧((full.full=true→cap=n)∧NilOf full A)∧(A=none→cap=0)∧TokOf x tok rows A cap∧(∀ ad,A=some ad→ad.spot=none) ∧
  (∀ c∈flat rows,c.pure1=true)∧∃ vs:List Value,vs.length=n*s∧(∀ j c,(flat rows)[j]? = some c→RV x c (vs.getD j undef)) ∧
   (∀ j c,(flat rows)[j]? = some c→∃ b o,A=some ⟨b,o,none⟩∧x.Fz b (o+j)∧x.w.cell? ⟨b,o+j,none⟩=some (vs.getD j undef))∧∀ u∈vs,u.oneCell'=true:=by
 cases h with
 | @sl _ _ _ _ _ s' vs hv hr h1 h2 h3 hsp h4 =>
  have hfl:=flat_len hs
  refine⟨rfl,h1,h2,h3,h4,hsp,fun c hc => ?_,(List.range (rows.length*s)).map vs,by simp,fun j c hc => ?_,fun j c hc => ?_,fun u hu => ?_⟩
  ·obtain⟨j,hj,rfl⟩:=List.mem_iff_getElem.1 hc
   exact(hv.2 j _ (List.getElem?_eq_getElem hj)).1
  ·have hj:j<rows.length*s:=by rw[← hfl]; exact(List.getElem?_eq_some_iff.1 hc).1
   simpa [List.getD_eq_getElem?_getD,hj] using hr j c hc
  ·have hj:j<rows.length*s:=by rw[← hfl]; exact(List.getElem?_eq_some_iff.1 hc).1
   obtain⟨-,b,o,k1,k2,k3⟩:=hv.2 j c hc
   exact⟨b,o,k1,k2,by simpa [List.getD_eq_getElem?_getD,hj] using k3⟩
  ·simp only[List.mem_map,List.mem_range] at hu
   obtain⟨j,hj,rfl⟩:=hu
   have hj':j<(flat rows).length:=by omega
   have k:=List.getElem?_eq_getElem hj'
   have hp:=(hv.2 j _ k).1
   have h1:((flat rows)[j]).one=true:=by
    revert hp
    generalize (flat rows)[j]=c
    cases c<;>simp[DV.pure1,DV.one]
   exact(one_cell (hr j _ k) h1).1
theorem rv_row {y:Cx} {R:List DV} {t s N cap:Nat} {e:TypeId} {arr:Array Value} (hR:∀ r∈R,r.cells.length=s) (hp:∀ c∈flat R,c.pure1=true) (hS:y.S[t]? = some (.tail e s N)) (hN:N=R.length*s)
  (hh:y.w.heap[y.μ t]? = some (.cells arr e (0,0))) (hF:∀ o,o<N→y.Fz (y.μ t) o) (hsz:N≤arr.size) (hc:∀ j c,(flat R)[j]? = some c→RV y c (arr.getD j undef)) (hk:cap=y.κ t) (hcap:R.length≤cap) :
  RV y (.sl R (some t) ⟨false,none⟩) (.slice (some ⟨y.μ t,0,none⟩) R.length cap):=by
 have hfl:=flat_len hR
 refine RV.sl (view_new hR hp (by omega) hh fun j hj=>hF j (by omega)) hc hcap ⟨by simp,fun _ h=>nomatch h⟩ (by simp) (fun ad h=>by cases h; rfl) fun t' ht => ?_
 cases ht
 exact⟨e,s,N,hS,by omega,hR,fun _=>⟨rfl,hk⟩⟩
theorem flat_append (a b:List DV):flat (a++b)=flat a++flat b:=by simp[flat]
theorem rv_append {y:Cx} {rows news:List DV} {ws1 ws2:List Value} {t s b cap:Nat} {e:TypeId} {arr:Array Value} (M:Mono x y) (h1:∀ r∈rows,r.cells.length=s) (h2:∀ r∈news,r.cells.length=s) (hp1:∀ c∈flat rows,c.pure1=true) (hp2:∀ c∈flat news,c.pure1=true)
  (hr1:∀ (j:Nat) (c:DV),(flat rows)[j]? = some c→RV x c (ws1.getD j undef)) (hr2:∀ (j:Nat) (c:DV),(flat news)[j]? = some c→RV x c (ws2.getD j undef)) (hS:y.S[t]? = some (.tail e s ((rows.length+news.length)*s))) (hμ:y.μ t=b) (hκ:y.κ t=cap)
  (hh:y.w.heap[b]? = some (.cells arr e (0,0))) (hF:∀ o,o<(rows.length+news.length)*s→y.Fz b o) (hsz:(rows.length+news.length)*s≤arr.size) (ha1:∀ j,j<rows.length*s→arr.getD j undef=ws1.getD j undef) (ha2:∀ j,j<news.length*s→arr.getD (rows.length*s+j) undef=ws2.getD j undef)
  (hcap:rows.length+news.length≤cap):RV y (.sl (rows++news) (some t) ⟨false,none⟩) (.slice (some ⟨b,0,none⟩) (rows.length+news.length) cap):=by
 have hf1:=flat_len h1
 have hf2:=flat_len h2
 subst hμ hκ
 have key:=rv_row (y:=y) (R:=rows++news) (t:=t) (s:=s) (arr:=arr) (cap:=y.κ t) (N:=(rows.length+news.length)*s) (fun r hr=>(List.mem_append.1 hr).elim (h1 r) (h2 r)) (fun c hc => ?_) hS (by rw[List.length_append]) hh hF hsz (fun j c hc => ?_) rfl (by rw[List.length_append]; exact hcap)
 ·rw[List.length_append] at key; exact key
 ·rw[flat_append] at hc; exact(List.mem_append.1 hc).elim (hp1 c) (hp2 c)
 ·rw[flat_append] at hc
  by_cases hj:j<(flat rows).length
  ·rw[List.getElem?_append_left hj] at hc
   rw[ha1 j (by omega)]
   exact(hr1 j c hc).mono M
  ·rw[List.getElem?_append_right (by omega)] at hc
   have hj2:j-(flat rows).length<(flat news).length:=(List.getElem?_eq_some_iff.1 hc).1
   have e1:j=rows.length*s+(j-(flat rows).length):=by omega
   rw[e1,ha2 _ (by omega)]
   exact(hr2 _ c hc).mono M
theorem grown_get {ws1 ws2:List Value} {Z:Array Value} {n m:Nat} (h1:ws1.length=n) (h2:ws2.length=m):(∀ j,j<n→(ws1.toArray++ws2.toArray++Z).getD j undef=ws1.getD j undef)∧∀ j,j<m→(ws1.toArray++ws2.toArray++Z).getD (n+j) undef=ws2.getD j undef:=by
 constructor
 ·intro j hj
  rw[Array.getD_eq_getD_getElem?,Array.getElem?_append_left (by simp; omega),Array.getElem?_append_left (by simp; omega)]
  simp[List.getD_eq_getElem?_getD]
 ·intro j hj
  rw[Array.getD_eq_getD_getElem?,Array.getElem?_append_left (by simp; omega),Array.getElem?_append_right (by simp; omega)]
  simp[List.getD_eq_getElem?_getD,h1]
theorem op_append (hty:TyOk P ty) (hR:Rel x) (hn:Nid x.S nid) {t u:TypeId} {a b d:DV} {va vb:Value} {S':Store} (ha:RV x a va) (hb:RV x b vb) (h:appendD ty x.S nid t a b=some (d,S')) :
  Yields x ((do pure (.value (← Builtin.append_ #[t,t] u #[va,vb])):Sem Next).run P x.w) d S':=by
 unfold appendD at h
 split at h
 ·rename_i e s by_ agg sz z0 rows tok full news tok2 full2 htt
  obtain⟨hk,it,-,-,-⟩:=tyOf_info (hty t _ htt)
  obtain⟨hu,ie,hie,hse,hbe,-⟩:=tk_slice hk
  have ha0:=ha
  have hb0:=hb
  cases ha with
  | @sl _ _ _ A cap s1 vs1 hv1 hr1 k1 k2 k3 k4 k5 =>
   cases hb with
   | @sl _ _ _ A2 cap2 s2 vs2 hv2 hr2 m1 m2 m3 m4 m5 =>
    split at h
    ·rename_i hemp
     cases h
     have hnil:news=[]:=by simpa using hemp
     subst hnil
     refine yields_here hR (v := .slice A rows.length cap) ?_ ha0
     subst hse
     cases A with
     | none=>cases A2<;>simp[Builtin.append_,run_underlying hu,run_sizeOf hie,Builtin.lenOf,Builtin.firstCells,loadCells,loadCellsFrom,k1]
     | some ad=>cases A2<;>simp[Builtin.append_,run_underlying hu,run_sizeOf hie,Builtin.lenOf,Builtin.firstCells,loadCells,loadCellsFrom,storeCells,k1]
    ·rename_i hemp
     split at h
     ·rename_i hte
      split at h
      rotate_left
      ·cases h
      rename_i hcond
      simp only[Bool.and_eq_true,decide_eq_true_eq,List.all_eq_true] at hcond
      obtain⟨⟨⟨hs,hbytes⟩,hlen⟩,hnews⟩:=hcond
      have hm:0<news.length:=List.length_pos_iff.2 (by simpa using hemp)
      obtain⟨z,hiz,hzs⟩:∃ z,ie.zero=some z∧z.cells.size=s:=by
       obtain⟨-,ie',hie',hs',hz'⟩:=tyOf_info (hty e _ hte)
       rw[hie] at hie'
       cases hie'
       obtain⟨z,q1,q2,q3⟩:=zeroOf_spec hz'
       have:=(rv_ofCells (x:=x) q2).1
       exact⟨z,q1,by rw[← hse,← q3]; simpa using this⟩
      obtain⟨-,-,-,-,-,hsp2,hpN,ws2,hl2,hrv2,hc2,hone2⟩:=sl_cells hb0 hnews
      obtain⟨ad2,rfl⟩:∃ ad2,A2=some ad2:=by
       cases A2 with
       | none=>have:=m3 rfl; omega
       | some ad=>exact⟨ad,rfl⟩
      have hflN:=flat_len hnews
      obtain⟨b2,o2,sp2⟩:=ad2
      have hspn:sp2=none:=hsp2 _ rfl
      subst hspn
      have hnews2:∀ j v,ws2[j]? = some v→x.w.cell? ((⟨b2,o2,none⟩:Addr).add j)=some v:=by
       intro j v hv
       have hj:j<(flat news).length:=by rw[hflN,← hl2]; exact(List.getElem?_eq_some_iff.1 hv).1
       obtain⟨b',o',q1,-,q2⟩:=hc2 j _ (List.getElem?_eq_getElem hj)
       cases q1
       rw[addr_add,q2]
       simp[List.getD_eq_getElem?_getD,hv]
      have hb63:rows.length+news.length≤9223372036854775807:=by omega
      have grown:∀ (w1:List Value),w1.length=rows.length*s→∀ (k:Nat),k=grownCap x.w (rows.length+news.length) cap e→k≤maxLen∧rows.length+news.length≤k ∧
        (w1.toArray++ws2.toArray++Builtin.zeroCells z.cells (k-(rows.length+news.length))).size=k*s:=by
       intro w1 hw1 k hk
       have hge:=grownCap_ge x.w (rows.length+news.length) cap e
       have hle:=grownCap_le_maxLen x.w (rows.length+news.length) cap e (by simp only[maxLen]; omega)
       subst hk
       refine⟨hle,hge,?_⟩
       simp only[Array.size_append,List.size_toArray,size_zeroCells,hzs,hw1,hl2,← Nat.add_mul]
       congr 1
       omega
      have fullCase:∀ (hf:full.full=true) (hrows:∀ r∈rows,r.cells.length=s),d = .sl (rows++news) (some nid) ⟨false,none⟩→S'=setS x.S nid (.tail e s ((rows.length+news.length)*s)) →
        Yields x ((do pure (.value (← Builtin.append_ #[t,t] u #[.slice A rows.length cap,.slice (some ⟨b2,o2,none⟩) news.length cap2])):Sem Next).run P x.w) d S':=by
       intro hf hrows hd hS
       subst hd hS
       have hcap:cap=rows.length:=k2.1 hf
       obtain⟨-,-,-,-,-,hsp1,hpR,ws1,hl1,hrv1,hc1,hone1⟩:=sl_cells ha0 hrows
       have hflR:=flat_len hrows
       obtain⟨g1,g2,g3⟩:=grown ws1 hl1 _ rfl
       have hrun:(Builtin.append_ #[t,t] u #[.slice A rows.length cap,.slice (some ⟨b2,o2,none⟩) news.length cap2]).run P x.w =
         .ok (.slice (some ⟨x.w.heap.size,0,none⟩) (rows.length+news.length) (grownCap x.w (rows.length+news.length) cap e)) (x.w.drew.alloc (.cells (ws1.toArray++ws2.toArray++Builtin.zeroCells z.cells (grownCap x.w (rows.length+news.length) cap e-(rows.length+news.length))) e)):=by
        cases A with
        | none =>
         have h0:=k3 rfl
         have hr0:rows.length=0:=by omega
         have hw0:ws1=[]:=List.eq_nil_of_length_eq_zero (by rw[hl1,hr0]; simp)
         subst hw0
         rw[hr0,h0]
         have:=run_append_nil (P:=P) x.w t u e ie z hu hie hiz ⟨b2,o2,none⟩ news.length cap2 ws2 (by rw[hl2,hse]) hnews2 hm (by omega) (by rw[hbe]; unfold maxBytes at hbytes; have:news.length*by_≤(rows.length+news.length)*by_:=Nat.mul_le_mul_right _ (by omega); omega)
         simpa using this
        | some ad =>
         obtain⟨b1,o1,sp1⟩:=ad
         have:sp1=none:=hsp1 _ rfl
         subst this
         refine run_append_grow (P:=P) x.w t u e ie z hu hie hiz ⟨b1,o1,none⟩ rows.length cap ws1 (by rw[hl1,hse]) (fun j v hv => ?_) ⟨b2,o2,none⟩ news.length cap2 ws2 (by rw[hl2,hse]) hnews2 (by omega) (by omega) (growslice_fits (by omega) (by rw[hbe]; exact hbytes))
         have hj:j<(flat rows).length:=by rw[hflR,← hl1]; exact(List.getElem?_eq_some_iff.1 hv).1
         obtain⟨b',o',q1,-,q2⟩:=hc1 j _ (List.getElem?_eq_getElem hj)
         cases q1
         rw[addr_add,q2]
         simp[List.getD_eq_getElem?_getD,hv]
       generalize hk0:grownCap x.w (rows.length+news.length) cap e=k at *
       obtain⟨v1,v2⟩:=grown_get (Z:=Builtin.zeroCells z.cells (k-(rows.length+news.length))) hl1 hl2
       generalize harr:ws1.toArray++ws2.toArray++Builtin.zeroCells z.cells (k-(rows.length+news.length))=arr at *
       have hp:Push x.w (x.w.drew.alloc (.cells arr e)) (.cells arr e (0,0)):=⟨rfl,rfl,rfl⟩
       have hNs:(rows.length+news.length)*s≤arr.size:=by rw[g3]; exact Nat.mul_le_mul_right _ g2
       have hR':=rel_fresh (k:=k) (F:=fun o=>o<(rows.length+news.length)*s) (b := .tail e s ((rows.length+news.length)*s)) hR hn hp (fun o ho=>⟨arr[o]'(by omega),by simp only[World.cell?,hp.new]; exact Array.getElem?_eq_getElem _⟩) (.inr (.inl ⟨e,s,_,arr,rfl,rfl,g3,hNs,g1,fun o ho=>ho⟩))
       have M:=mono_fresh (k:=k) (F:=fun o=>o<(rows.length+news.length)*s) (b := .tail e s ((rows.length+news.length)*s)) hR hn hp
       exact yields_v hrun (y:=x.fresh (x.w.drew.alloc (.cells arr e)) nid k (fun o=>o<(rows.length+news.length)*s) (.tail e s ((rows.length+news.length)*s))) rfl hR' M
        (rv_append M hrows hnews hpR hpN hrv1 hrv2 (by show (setS _ _ _)[_]? = _; rw[setS_get hn.le,if_pos rfl]) (if_pos rfl) (if_pos rfl) hp.new (fun o ho => .inr ⟨rfl,ho⟩) hNs v1 v2 g2)
      cases tok with
      | none =>
       simp only at h
       split at h
       ·rename_i hfc
        simp only[Bool.and_eq_true,List.all_eq_true,decide_eq_true_eq] at hfc
        cases h
        exact fullCase hfc.1 hfc.2 rfl rfl
       ·cases h
      | some tk =>
       simp only at h
       split at h
       ·rename_i e' s' n' hSt
        split at h
        ·rename_i hcond2
         simp only[Bool.and_eq_true,decide_eq_true_eq] at hcond2
         obtain⟨⟨w1,w2⟩,w3⟩:=hcond2
         rw[w1,w2,w3] at hSt
         cases h
         obtain⟨e2,s2',n2,q1,q2,q3,q4⟩:=k5 tk rfl
         rw[hSt] at q1
         cases q1
         obtain⟨rfl,rfl⟩:=q4 rfl
         obtain⟨-,-,-,-,-,-,hpR,ws1,hl1,hrv1,hc1,hone1⟩:=sl_cells ha0 q3
         have hflR:=flat_len q3
         obtain⟨cur,t1,t2,t3,t4⟩:=hR.tails tk _ _ _ hSt
         have hcur:∀ j,j<rows.length*s→cur[j]? = some (ws1.getD j undef):=by
          intro j hj
          have hj':j<(flat rows).length:=by omega
          obtain⟨b',o',r1,-,r2⟩:=hc1 j _ (List.getElem?_eq_getElem hj')
          cases r1
          simpa [World.cell?,t1] using r2
         by_cases hroom:rows.length+news.length≤x.κ tk
         ·
          have hfit:rows.length*s+ws2.length≤cur.size:=by rw[hl2,t2,← Nat.add_mul]; exact Nat.mul_le_mul_right _ hroom
          have hrun:=run_append_room (P:=P) x.w t u e ie hu hie (x.μ tk) rows.length (x.κ tk) cur t1 ⟨b2,o2,none⟩ news.length cap2 ws2 (by rw[hl2,hse]) hnews2 hone2 hroom (by rw[hse]; exact hfit)
          rw[hse] at hrun
          generalize harr:(cur.toList.take (rows.length*s)++ws2++cur.toList.drop (rows.length*s+ws2.length)).toArray=arr at *
          have hasz:arr.size=cur.size:=by rw[← harr]; simp; omega
          have hget1:∀ j,j<rows.length*s→arr[j]? = some (ws1.getD j undef):=by
           intro j hj
           have h1:=hcur j hj
           rw[← harr,List.getElem?_toArray,List.append_assoc,List.getElem?_append_left (by simp; omega),List.getElem?_take,if_pos hj]
           simpa using h1
          have hget2:∀ j,j<news.length*s→arr[rows.length*s+j]? = some (ws2.getD j undef):=by
           intro j hj
           have e1:(cur.toList.take (rows.length*s)).length=rows.length*s:=by simp; omega
           rw[← harr,List.getElem?_toArray,List.append_assoc,List.getElem?_append_right (by omega),e1,Nat.add_sub_cancel_left,List.getElem?_append_left (by omega)]
           simp[List.getD_eq_getElem?_getD,List.getElem?_eq_getElem (show j<ws2.length by omega)]
          have hkeep:∀ o,o<rows.length*s→(x.w.setRow (x.μ tk) arr).cell? ⟨x.μ tk,o,none⟩=x.w.cell? ⟨x.μ tk,o,none⟩:=by
           intro o ho
           rw[cell_setRow_same _ _ _ _ _ _ _ t1,hget1 o ho]
           simp[World.cell?,t1,hcur o ho]
          have hNs:(rows.length+news.length)*s≤arr.size:=by rw[hasz,t2]; exact Nat.mul_le_mul_right _ hroom
          have hle:rows.length*s≤(rows.length+news.length)*s:=Nat.mul_le_mul_right _ (by omega)
          have hR':=rel_upd (F:=fun o=>o<(rows.length+news.length)*s) (arr:=arr) (b := .tail e s ((rows.length+news.length)*s)) hR hSt (.inr ⟨e,s,_,_,rfl,rfl,hle,hkeep,by rw[hasz]; exact t2,hNs,fun o ho=>ho⟩)
          have M:=mono_upd (F:=fun o=>o<(rows.length+news.length)*s) (arr:=arr) (b := .tail e s ((rows.length+news.length)*s)) hR hSt (.inr ⟨e,s,_,_,rfl,rfl,hle,hkeep⟩)
          exact yields_v hrun (y:=x.upd tk arr (fun o=>o<(rows.length+news.length)*s) (.tail e s ((rows.length+news.length)*s))) rfl hR' M
           (rv_append M q3 hnews hpR hpN hrv1 hrv2 (by show (x.S.set _ _)[_]? = _; rw[set_get hSt,if_pos rfl]) rfl rfl (setRow_heap _ _ _ _ _ _ t1) (fun o ho => .inr ⟨rfl,ho⟩) hNs (fun j hj=>by rw[Array.getD_eq_getD_getElem?,hget1 j hj]; rfl) (fun j hj=>by rw[Array.getD_eq_getD_getElem?,hget2 j hj]; rfl) hroom)
         ·
          obtain⟨g1,g2,g3⟩:=grown ws1 hl1 _ rfl
          have hrun:=run_append_grow (P:=P) x.w t u e ie z hu hie hiz ⟨x.μ tk,0,none⟩ rows.length (x.κ tk) ws1 (by rw[hl1,hse]) (fun j v hv=>by
            have hj:j<(flat rows).length:=by rw[hflR,← hl1]; exact(List.getElem?_eq_some_iff.1 hv).1
            obtain⟨b',o',r1,-,r2⟩:=hc1 j _ (List.getElem?_eq_getElem hj)
            cases r1
            rw[addr_add,r2]
            simp[List.getD_eq_getElem?_getD,hv]) ⟨b2,o2,none⟩ news.length cap2 ws2 (by rw[hl2,hse]) hnews2 (by omega) (by omega) (growslice_fits (by omega) (by rw[hbe]; exact hbytes))
          generalize hk0:grownCap x.w (rows.length+news.length) (x.κ tk) e=k at *
          obtain⟨v1,v2⟩:=grown_get (Z:=Builtin.zeroCells z.cells (k-(rows.length+news.length))) hl1 hl2
          generalize harr:ws1.toArray++ws2.toArray++Builtin.zeroCells z.cells (k-(rows.length+news.length))=arr at *
          have hp:Push x.w (x.w.drew.alloc (.cells arr e)) (.cells arr e (0,0)):=⟨rfl,rfl,rfl⟩
          have hNs:(rows.length+news.length)*s≤arr.size:=by rw[g3]; exact Nat.mul_le_mul_right _ g2
          have hlt:rows.length*s<(rows.length+news.length)*s:=Nat.mul_lt_mul_of_pos_right (by omega) hs
          have hR':=rel_moved (k:=k) (F:=fun o=>o<(rows.length+news.length)*s) hR hSt hp hlt g3 hNs g1 fun o ho=>ho
          have M:=mono_moved (k:=k) (F:=fun o=>o<(rows.length+news.length)*s) (n':=(rows.length+news.length)*s) hR hSt hp hlt
          exact yields_v hrun (y:=x.moved (x.w.drew.alloc (.cells arr e)) tk k (fun o=>o<(rows.length+news.length)*s) (.tail e s ((rows.length+news.length)*s))) rfl hR' M
           (rv_append M q3 hnews hpR hpN hrv1 hrv2 (by show (x.S.set _ _)[_]? = _; rw[set_get hSt,if_pos rfl]) (if_pos rfl) (if_pos rfl) hp.new (fun o ho => .inr ⟨rfl,ho⟩) hNs v1 v2 g2)
        ·cases h
       ·cases h
     ·cases h
 ·cases h
theorem find_congr (kt:TypeId) (k:Value):∀ (l m:List MapEntry) (i:Nat),l.map (fun e=>(e.key,e.val))=m.map (fun e=>(e.key,e.val))→Instr.findAsking kt k l i=Instr.findAsking kt k m i
 | [],[],_,_=>rfl
 | [],_::_,_,h=>by simp at h
 | _::_,[],_,h=>by simp at h
 | e::l,f::m,i,h=>by
  simp only[List.map_cons,List.cons.injEq,Prod.mk.injEq] at h
  unfold Instr.findAsking
  rw[h.1.1,h.1.2,find_congr kt k l m (i+1) h.2]
theorem now_congr (kd:TypeDesc) (k:Value):∀ (l m:List MapEntry) (i:Nat),l.map (fun e=>(e.key,e.val))=m.map (fun e=>(e.key,e.val))→Instr.findNow kd k l i=Instr.findNow kd k m i
 | [],[],_,_=>rfl
 | [],_::_,_,h=>by simp at h
 | _::_,[],_,h=>by simp at h
 | e::l,f::m,i,h=>by
  simp only[List.map_cons,List.cons.injEq,Prod.mk.injEq] at h
  unfold Instr.findNow
  rw[h.1.1,h.1.2,now_congr kd k l m (i+1) h.2]
theorem key_congr (kt:TypeId) (k:Value) {l m:List MapEntry} (h:l.map (fun e=>(e.key,e.val))=m.map (fun e=>(e.key,e.val))):Instr.findKey kt k l=Instr.findKey kt k m:=by
 unfold Instr.findKey
 have h1:∀ kd,Instr.findNow kd k l 0=Instr.findNow kd k m 0:=fun kd=>now_congr kd k l m 0 h
 have h2:=find_congr kt k l m 0 h
 simp only[h1,h2]
theorem mkE_map (es:List (Value×Value)):(es.map mkE).map (fun e=>(e.key,e.val))=es:=by
 rw[List.map_map]
 conv=>rhs; rw[← List.map_id es]
 congr 1
theorem rv_ofRes {v:Value} {d:DV} (h:ofRes v=some d):RV x d v:=by
 unfold ofRes at h
 split at h
 ·rename_i vs
  split at h
  ·rename_i v b hvs
   simp only[Option.map_eq_some_iff] at h
   obtain⟨d',h1,rfl⟩:=h
   have e:vs=#[v,.bool b]:=by rw[← Array.toArray_toList (xs:=vs),hvs]
   subst e
   refine .tup rfl fun j c hc => ?_
   match j with
   | 0=>simp only[List.getElem?_cons_zero,Option.some.injEq] at hc; subst hc; exact rv_ofVal h1
   | 1=>simp only[List.getElem?_cons_succ,List.getElem?_cons_zero,Option.some.injEq] at hc; subst hc; exact .val rfl
   | j+2=>simp at hc
  ·cases h
 ·exact rv_ofVal h
theorem op_makeMap (hR:Rel x) (hn:Nid x.S nid) {t:TypeId}:Yields x ((do pure (.value (← Instr.makeMap t none)):Sem Next).run P x.w) (.map nid) (setS x.S nid (.map [])):=by
 have hp:Push x.w (x.w.alloc (.map #[] 0)) (.map #[] 0):=push_alloc _ _
 have hR':=rel_fresh (k:=0) (F:=fun _=>False) (b := .map []) hR hn hp (by simp) (.inr (.inr ⟨rfl,by simp,rfl⟩))
 refine yields_v (y:=x.fresh _ nid 0 (fun _=>False) (.map [])) (v := .map (some x.w.heap.size)) ?_ rfl hR' (mono_fresh hR hn hp) ?_
 ·simp[Instr.makeMap,Cx.fresh]
 ·have:(x.fresh (x.w.alloc (.map #[] 0)) nid 0 (fun _=>False) (.map [])).μ nid=x.w.heap.size:=if_pos rfl
  rw[← this]
  exact .map (es:=[]) (by show (setS _ _ _)[_]? = _; rw[setS_get hn.le,if_pos rfl])
theorem map_obj (hR:Rel x) {id:Nat} {es:List (Value×Value)} (h:x.S[id]? = some (.map es)):∃ ents clk,x.w.heap[x.μ id]? = some (.map ents clk)∧ents.toList.map (fun e=>(e.key,e.val))=es:=by
 obtain⟨o,h1,h2⟩:=hR.objs id _ h rfl
 cases o<;>simp only[ObjOK] at h2
 exact⟨_,_,h1,h2⟩
theorem pureS_bind {α β:Type} {s:Sem α} {f:α→Sem β} {b:β} (h:pureS P (s >>= f)=some b):∃ a,pureS P s=some a∧pureS P (f a)=some b:=by
 change pureS P (s.bind f)=some b at h
 induction s with
 | pure a=>exact⟨a,rfl,h⟩
 | program k ih=>exact ih P h
 | _=>simp[Sem.bind,pureS] at h
theorem op_lookup (hR:Rel x) {t:TypeId} {id:Nat} {es:List (Value×Value)} {k v:Value} {ok:Bool} {d:DV} (h:x.S[id]? = some (.map es)) (hp:pureS P (lookM t (es.map mkE) k ok)=some v) (hd:ofRes v=some d) :
  Yields x ((do pure (.value (← Instr.lookup t (.map (some (x.μ id))) k ok)):Sem Next).run P x.w) d x.S:=by
 obtain⟨ents,clk,h1,h2⟩:=map_obj hR h
 refine yields_here hR (v:=v) ?_ (rv_ofRes hd)
 have hk:∀ kt,Instr.findKey kt k (es.map mkE)=Instr.findKey kt k ents.toList:=fun kt=>key_congr kt k (by rw[mkE_map,h2])
 have he:(es.map mkE).isEmpty=ents.isEmpty:=by
  rw[← h2,Bool.eq_iff_iff]
  simp
 have hg:=run_getObj (P:=P) h1 (by simp)
 unfold lookM at hp
 obtain⟨td,p1,p2⟩:=pureS_bind hp
 have r1:=pureS_run p1 x.w
 cases td with
 | map key elem =>
  simp only at p2
  have r2:=pureS_run p2 x.w
  unfold Instr.lookup
  simp only[Sem.run_bind,r1,Result.andThen_ok,hg,Sem.run_pure,hk,he] at r2 ⊢
  exact r2
 | _=>simp[stuck,pureS] at p2
theorem op_mapUpdate (hR:Rel x) {t:TypeId} {id:Nat} {es es':List (Value×Value)} {k v:Value} {r:Option (Nat×Value)} (h:x.S[id]? = some (.map es)) (hp:pureS P (findM t (es.map mkE) k)=some r) (hs:setM es k v r=some es') :
  Yields x ((do Instr.mapUpdate t (.map (some (x.μ id))) k v; pure .skip:Sem Next).run P x.w) dundef (x.S.set id (.map es')):=by
 obtain⟨ents,clk,h1,h2⟩:=map_obj hR h
 have hk:∀ kt,Instr.findKey kt k (es.map mkE)=Instr.findKey kt k ents.toList:=fun kt=>key_congr kt k (by rw[mkE_map,h2])
 have hg:=run_getObj (P:=P) h1 (by simp)
 suffices hm:∃ ents' clk',(Instr.mapUpdate t (.map (some (x.μ id))) k v).run P x.w = .ok () (setObjW x.w (x.μ id) (.map ents' clk'))∧ents'.toList.map (fun e=>(e.key,e.val))=es' by
  obtain⟨ents',clk',q1,q2⟩:=hm
  exact yields_u (y:=x.updo id (.map ents' clk') (.map es')) q1 rfl (rel_updo hR h trivial (by simp) q2) (mono_updo hR h trivial (by simp))
 unfold findM at hp
 obtain⟨td,p1,p2⟩:=pureS_bind hp
 have r1:=pureS_run p1 x.w
 cases td with
 | map key elem =>
  simp only at p2
  obtain⟨u,p3,p4⟩:=pureS_bind p2
  have r2:=pureS_run p3 x.w
  have r3:=pureS_run p4 x.w
  rw[hk] at r3
  unfold Instr.mapUpdate
  simp only[Sem.run_bind,r1,Result.andThen_ok,hg,r2,r3]
  cases r with
  | none =>
   simp only[setM,Option.some.injEq] at hs
   subst hs
   exact⟨_,_,run_setObj h1 (by simp),by simp[h2]⟩
  | some q =>
   obtain⟨i,v0⟩:=q
   simp only[setM] at hs
   split at hs
   ·rename_i k' v' hi
    split at hs
    ·rename_i hsb
     cases hs
     have hlt:i<ents.size:=by
      have:=(List.getElem?_eq_some_iff.1 hi).1
      rw[← h2] at this
      simpa using this
     have hek:((ents[i]?).map (·.key)).getD k=k':=by
      rw[← h2] at hi
      simp only[List.getElem?_map,Array.getElem?_toList,Option.map_eq_some_iff,Prod.mk.injEq] at hi
      obtain⟨e,q1,q2,-⟩:=hi
      rw[q1]
      exact q2
     simp only[hek,Instr.keyThatStays,hsb,if_true]
     refine⟨_,_,run_setObj h1 (by simp),?_⟩
     rw[Array.toList_modify]
     refine List.ext_getElem? fun j => ?_
     rw[← h2]
     simp only[List.getElem?_map,List.getElem?_modify,List.getElem?_set,List.length_map]
     by_cases hj:i=j
     ·subst hj
      simp[hlt]
     ·simp[hj]
    ·cases hs
   ·cases hs
 | _=>simp[stuck,pureS] at p2
end Go.Di
end
section
namespace Go.Di
open Go
variable {P : Program} {ty : Tys} {x : Cx} {w' : World} {iso : IsoF} {call : CallF} {yf : YldF} {ρd : Operand → Option DV} {ρ : Operand → Value} {o : Oper} {nid : Nat}
theorem flat_take {s : Nat} : ∀ {rows : List DV} (_ : ∀ r ∈ rows, r.cells.length = s) (h : Nat), flat (rows.take h) = (flat rows).take (h * s)
 | [], _, h => by simp [flat]
 | r :: rows, hs, 0 => by simp [flat]
 | r :: rows, hs, h + 1 => by
  have h0 := hs r (by simp)
  have ih := flat_take (rows := rows) (fun r hr => hs r (by simp [hr])) h
  simp only [flat] at ih
  simp only [List.take_succ_cons, flat, List.flatMap_cons, ih]
  have e1 : r.cells.take ((h + 1) * s) = r.cells := List.take_of_length_le (by rw [h0, Nat.succ_mul]; omega)
  have e2 : (h + 1) * s - s = h * s := by rw [Nat.succ_mul]; omega
  rw [List.take_append, h0, e1, e2]
theorem flat_drop {s : Nat} : ∀ {rows : List DV} (_ : ∀ r ∈ rows, r.cells.length = s) (l : Nat), flat (rows.drop l) = (flat rows).drop (l * s)
 | [], _, l => by simp [flat]
 | r :: rows, hs, 0 => by simp
 | r :: rows, hs, l + 1 => by
  have h0 := hs r (by simp)
  have ih := flat_drop (rows := rows) (fun r hr => hs r (by simp [hr])) l
  simp only [flat] at ih
  simp only [List.drop_succ_cons, flat, List.flatMap_cons, ih]
  have e1 : r.cells.drop ((l + 1) * s) = [] := List.drop_of_length_le (by rw [h0, Nat.succ_mul]; omega)
  have e2 : (l + 1) * s - s = l * s := by rw [Nat.succ_mul]; omega
  rw [List.drop_append, h0, e1, e2, List.nil_append]
theorem bound_run {ρd : Operand → Option DV} {ρ : Operand → Value} (hρ : Opds x ρd ρ) {a : Operand} {most n : Nat} {d : Nat} (h : boundD ρd (some a) d most = some n) (y : Nat) (hy : most ≤ y) (code : BoundsCode) (w : World) : n ≤ most ∧ (Instr.sliceBound (ρ a) y code).run P w = .ok n w := by
 unfold boundD at h
 simp only at h
 split at h
 ·rename_i i hi
  split at h
  ·rename_i hc
   cases h
   obtain ⟨k, hk⟩ := intOf_ok hρ hi
   refine ⟨hc.2, ?_⟩
   have hc2 : 0 ≤ i ∧ i ≤ (y : Int) := ⟨hc.1, by omega⟩
   simp only [Instr.sliceBound, hk, asIntOf, Sem.run_bind, Sem.run_pure, Result.andThen_ok, hc2, and_self, if_true]
  ·cases h
 ·cases h
theorem nil_ok {rows : List DV} {tok : Option Nat} {f : SF} {A : Option Addr} {n cap : Nat} (h : RV x (.sl rows tok f) (.slice A n cap)) : ∀ b, nilD rows f = some b → A.isNone = b := by
 intro b hb
 cases h with
 | sl hv hr h1 h2 h3 hsp h4 =>
  unfold nilD at hb
  split at hb
  ·exact h2.2 b hb
  ·rename_i hne
   cases hb
   cases A with
   | none =>
    have := h3 rfl
    have h0 : rows = [] := List.eq_nil_of_length_eq_zero (by omega)
    exact absurd (by simp [h0]) hne
   | some ad => rfl
theorem nilEq_run (hty : TyOk P ty) {op : BinOp} {t : TypeId} {a b : Operand} {d : DV} (hρ : Opds x ρd ρ) (h : nilEqD ty op t (ρd a) (ρd b) = some d) :
  ∃ v, (do eqGuard op t a b (ρ a) (ρ b); binOp op t (ρ a) (ρ b) : Sem Value).run P x.w = .ok v x.w ∧ RV x d v := by
 unfold nilEqD at h
 split at h
 ·rename_i rows tok f tok2 f2 ha hb
  have ra := hρ a _ ha
  have rb := hρ b _ hb
  generalize ρ a = va at ra ⊢
  generalize ρ b = vb at rb ⊢
  split at h
  ·rename_i e s by_ agg sz z c htt hn
   obtain ⟨hk, it, -, -, -⟩ := tyOf_info (hty t _ htt)
   obtain ⟨hu, -⟩ := tk_slice hk
   have ra0 := ra
   have rb0 := rb
   cases ra with
   | @sl _ _ _ A cap s1 vs1 hv1 hr1 k1 k2 k3 k4 k5 =>
    cases rb with
    | @sl _ _ _ A2 cap2 s2 vs2 hv2 hr2 m1 m2 m3 m4 m5 =>
     have hA := nil_ok ra0 c hn
     have hA2 := m2.2 true rfl
     have : A2 = none := by simpa using hA2
     subst this
     have heq : (Op.equal t (.slice A rows.length cap) (.slice none 0 cap2)).run P x.w = .ok c x.w := by
      subst hA
      obtain ⟨n, hmd⟩ : ∃ n, Op.maxDepth = n + 1 := ⟨9999, rfl⟩
      cases A <;> simp only [Op.equal, hmd, Op.equalIn, Sem.run_bind, run_underlying hu, Result.andThen_ok, Sem.run_pure, Option.isNone_none, Option.isNone_some]
     split at h
     ·cases h
      exact ⟨.bool c, by simp [eqGuard, binOp, heq], .val rfl⟩
     ·cases h
      exact ⟨.bool (!c), by simp [eqGuard, binOp, heq], .val rfl⟩
     ·cases h
  ·cases h
 ·cases h
theorem op_slice (hty : TyOk P ty) (hR : Rel x) (hρ : Opds x ρd ρ) {t e : TypeId} {s by_ sz : Nat} {agg : Bool} {z : Option (List DV)} (htt : ty t = some ⟨.slice e s by_ agg, sz, z⟩) {rows : List DV} {tok : Option Nat} {full : SF} {va : Value} (ha : RV x (.sl rows tok full) va) (hrows : ∀ r ∈ rows, r.cells.length = s)
  {lo hi mx : Option Operand} {m h l : Nat} {d : DV} (hm : boundD ρd mx rows.length rows.length = some m) (hh : boundD ρd hi rows.length m = some h) (hl : boundD ρd lo 0 h = some l) (hhm : (hi.isNone && mx.isSome) = false) (hd : sliceD rows full l h (mx.map fun _ => m) = some d) :
  Yields x ((do pure (.value (← Instr.sliceAt t va (lo.map ρ) (hi.map ρ) (mx.map ρ))) : Sem Next).run P x.w) d x.S := by
 obtain ⟨hk, it, -, -, -⟩ := tyOf_info (hty t _ htt)
 obtain ⟨hu, ie, hie, hse, -, -⟩ := tk_slice hk
 have hfl := flat_len hrows
 have ha0 := ha
 cases ha with
 | @sl _ _ _ A cap s1 vs1 hv1 hr1 k1 k2 k3 k4 k5 =>
  obtain ⟨-, -, -, -, -, hsp, hpR, ws, hwl, hrv, hc, -⟩ := sl_cells ha0 hrows
  have hNil := nil_ok ha0
  have hbm : m ≤ rows.length ∧ ∃ M, (∀ w : World, (match mx.map ρ with | some v => Instr.sliceBound v cap .slice3Acap | none => pure cap : Sem Nat).run P w = .ok M w) ∧ m ≤ M ∧ M ≤ cap ∧ (mx.isSome = true → M = m) ∧ (mx = none → M = cap ∧ m = rows.length) := by
   cases mx with
   | none =>
    simp only [boundD, Option.some.injEq] at hm
    subst hm
    exact ⟨Nat.le_refl _, cap, fun w => rfl, k1, Nat.le_refl _, by simp, fun _ => ⟨rfl, rfl⟩⟩
   | some a =>
    have := fun w => bound_run (P := P) hρ hm cap k1 .slice3Acap w
    exact ⟨(this default).1, m, fun w => (this w).2, Nat.le_refl _, Nat.le_trans (this default).1 k1, fun _ => rfl, by simp⟩
  obtain ⟨hmr, M, hM, hmM, hMc, hMs, hMn⟩ := hbm
  have hbh : h ≤ rows.length ∧ h ≤ M ∧ ∀ w : World, (match hi.map ρ, mx.map ρ with | some v, some _ => Instr.sliceBound v M .slice3B | some v, none => Instr.sliceBound v M .sliceAcap | none, none => pure rows.length | none, some _ => stuck "Slice: max without high" : Sem Nat).run P w = .ok h w := by
   cases hi with
   | none =>
    cases mx with
    | none =>
     simp only [boundD, Option.some.injEq] at hh
     subst hh
     exact ⟨Nat.le_refl _, by rw [(hMn rfl).1]; exact k1, fun w => rfl⟩
    | some a => simp at hhm
   | some b =>
    have q1 := fun c w => bound_run (P := P) hρ hh M hmM c w
    have q2 := (q1 .slice3B default).1
    refine ⟨Nat.le_trans q2 hmr, Nat.le_trans q2 hmM, fun w => ?_⟩
    cases mx with
    | none => exact (q1 .sliceAcap w).2
    | some a => exact (q1 .slice3B w).2
  obtain ⟨hhr, hhM, hH⟩ := hbh
  have hbl : l ≤ h ∧ ∀ w : World, (match lo.map ρ with | some v => Instr.sliceBound v h (if (mx.map ρ).isSome then .slice3C else .sliceB) | none => pure 0 : Sem Nat).run P w = .ok l w := by
   cases lo with
   | none =>
    simp only [boundD, Option.some.injEq] at hl
    subst hl
    exact ⟨Nat.zero_le _, fun w => rfl⟩
   | some a =>
    have q1 := fun c w => bound_run (P := P) hρ hl h (Nat.le_refl _) c w
    exact ⟨(q1 .slice3C default).1, fun w => (q1 _ w).2⟩
  obtain ⟨hlh, hL⟩ := hbl
  have hA' : ∀ A', A' = (if M = l then A else A.map (·.add (l * s))) → (A' = none → M - l = 0) ∧ (∀ ad, A' = some ad → ad.spot = none) := by
   intro A' hA
   subst hA
   split
   ·exact ⟨fun _ => by omega, k4⟩
   ·cases A with
    | none => have := k3 rfl; exact ⟨fun _ => by omega, by simp⟩
    | some ad =>
     refine ⟨by simp, fun ad' h => ?_⟩
     simp only [Option.map_some, Option.some.injEq] at h
     subst h
     have := k4 ad rfl
     obtain ⟨b, o, sp⟩ := ad
     simp only at this
     subst this
     rw [addr_add]
  have hRes : ∀ (tokd : Option Nat) (fulld : SF), (fulld.full = true → M - l = h - l) ∧ NilOf fulld A → tokd = none → RV x (.sl ((rows.take h).drop l) tokd fulld) (.slice (if M = l then A else A.map (·.add (l * s))) (h - l) (M - l)) := by
   intro tokd fulld hfull htok
   subst htok
   obtain ⟨hA1, hA2⟩ := hA' _ rfl
   have hlen : ((rows.take h).drop l).length = h - l := by simp; omega
   have hrows' : ∀ r ∈ (rows.take h).drop l, r.cells.length = s := fun r hr => hrows r (List.mem_of_mem_take (List.mem_of_mem_drop hr))
   have hflat : flat ((rows.take h).drop l) = ((flat rows).take (h * s)).drop (l * s) := by
    rw [flat_drop (fun r hr => hrows r (List.mem_of_mem_take hr)), flat_take hrows]
   have hcell : ∀ j c, (flat ((rows.take h).drop l))[j]? = some c → (flat rows)[l * s + j]? = some c ∧ l * s + j < h * s := by
    intro j c hcj
    rw [hflat, List.getElem?_drop, List.getElem?_take] at hcj
    split at hcj
    ·exact ⟨hcj, ‹_›⟩
    ·cases hcj
   have hv : View x ((rows.take h).drop l) (if M = l then A else A.map (·.add (l * s))) s (fun j => ws.getD (l * s + j) undef) := by
    refine ⟨hrows', fun j c hcj => ?_⟩
    obtain ⟨q1, q2⟩ := hcell j c hcj
    obtain ⟨b, o, r1, r2, r3⟩ := hc _ _ q1
    refine ⟨hpR c (List.mem_of_getElem? q1), b, o + l * s, ?_, by rw [Nat.add_assoc]; exact r2, by rw [Nat.add_assoc]; exact r3⟩
    have hlt : l < h := by
     rcases Nat.lt_or_ge l h with h1 | h1
     ·exact h1
     ·have : h * s ≤ l * s := Nat.mul_le_mul_right _ h1; omega
    rw [if_neg (by omega), r1]
    simp only [Option.map_some, addr_add]
   have := RV.sl (tok := none) (full := fulld) (cap := M - l) hv (fun j c hcj => hrv _ _ (hcell j c hcj).1) (by rw [hlen]; omega) ⟨fun hf => by rw [hlen]; exact hfull.1 hf, fun b hb => by rw [← hfull.2 b hb]; split <;> simp⟩ hA1 hA2 (fun t ht => nomatch ht)
   rw [hlen] at this
   exact this
  have hrun : (Instr.sliceAt t (.slice A rows.length cap) (lo.map ρ) (hi.map ρ) (mx.map ρ)).run P x.w = .ok (.slice (if M = l then A else A.map (·.add (l * s))) (h - l) (M - l)) x.w := by
   have hb : (Instr.sliceBounds true rows.length cap (lo.map ρ) (hi.map ρ) (mx.map ρ)).run P x.w = .ok (l, h, M) x.w := by
    have hM' := hM x.w
    have hH' := hH x.w
    have hL' := hL x.w
    unfold Instr.sliceBounds
    revert hM' hH' hL' hhm
    cases mx <;> cases hi <;> cases lo <;> intro hM' hH' hL' hhm <;>
     simp only [Option.map_none, Option.map_some, Sem.run_pure, Result.ok.injEq, and_true, Option.isSome_some, Option.isSome_none, Option.isNone_none, Bool.and_self, Bool.true_eq_false, if_true, Bool.false_eq_true, if_false] at hM' hH' hL' hhm ⊢ <;>
     (try subst hM') <;> (try subst hH') <;> (try subst hL') <;> simp only [Sem.run_bind, Result.andThen_ok, Sem.run_pure, *]
   unfold Instr.sliceAt
   simp only [Sem.run_bind, run_underlying hu, Result.andThen_ok, Instr.slice, hb, run_sizeOf hie, Sem.run_pure, hse]
  unfold sliceD at hd
  rw [if_pos hlh] at hd
  cases mx with
  | none =>
   simp only [Option.map_none, Option.some.injEq] at hd
   subst hd
   refine yields_here hR hrun (hRes _ _ ⟨fun hf => ?_, hNil⟩ rfl)
   simp only [Bool.and_eq_true, beq_iff_eq] at hf
   rw [(hMn rfl).1, k2.1 hf.1, hf.2]
  | some a =>
   simp only [Option.map_some] at hd
   by_cases hc : h ≤ m
   ·rw [if_pos hc] at hd
    simp only [Option.some.injEq] at hd
    subst hd
    refine yields_here hR hrun (hRes _ _ ⟨fun hf => ?_, hNil⟩ rfl)
    simp only [beq_iff_eq] at hf
    rw [hMs rfl, hf]
   ·rw [if_neg hc] at hd
    cases hd
def Op.lone : Op → Bool
 | .call { callee := .builtin _, .. } => true
 | .call _ => false
 | _ => true
set_option maxHeartbeats 1000000 in
theorem stepOp_ok (hty : TyOk P ty) (hR : Rel x) (hn : Nid x.S nid) (hρ : Opds x ρd ρ) (hop : Op.lone o.op = true) {d : DV} {S' : Store} (h : stepOp P ty iso call yf ρd o x.S nid = some (d, S')) : Yields x ((execOp ρ o).run P x.w) d S' := by
 obtain ⟨dst, op, type, pos, after, guard⟩ := o
 cases op with
 | move a =>
  simp only [stepOp, Option.map_eq_some_iff, Prod.mk.injEq] at h
  obtain ⟨d', h1, rfl, rfl⟩ := h
  exact ⟨ρ a, x, .inl rfl, rfl, hR, Mono.refl x, hρ a _ h1⟩
 | assign a =>
  simp only [stepOp, Option.map_eq_some_iff, Prod.mk.injEq] at h
  obtain ⟨d', h1, rfl, rfl⟩ := h
  exact ⟨ρ a, x, .inl rfl, rfl, hR, Mono.refl x, hρ a _ h1⟩
 | pick c a b =>
  simp only [stepOp] at h
  split at h
  ·rename_i t hc
   have hcv := rv_val (hρ c _ hc)
   simp only [Option.map_eq_some_iff, Prod.mk.injEq] at h
   obtain ⟨d', h1, rfl, rfl⟩ := h
   cases t with
   | true => exact ⟨ρ a, x, .inl (by simp [execOp, hcv, asBool]), rfl, hR, Mono.refl x, hρ a _ h1⟩
   | false => exact ⟨ρ b, x, .inl (by simp [execOp, hcv, asBool]), rfl, hR, Mono.refl x, hρ b _ h1⟩
  ·cases h
 | alloc e =>
  simp only [stepOp] at h
  split at h
  ·rename_i hk
   cases h
   exact op_alloc hty hR hn hk
  ·cases h
 | box e a =>
  simp only [stepOp] at h
  split at h
  ·rename_i d' h1
   cases h
   exact op_box hR hn (hρ a _ h1)
  ·cases h
 | build t ps =>
  simp only [stepOp] at h
  split at h
  ·rename_i hk hl
   simp only [Option.map_eq_some_iff, Prod.mk.injEq] at h
   obtain ⟨cs, h1, rfl, rfl⟩ := h
   exact op_build_struct hty hR hρ hk hl h1
  ·rename_i hk hl
   simp only [Option.map_eq_some_iff, Prod.mk.injEq] at h
   obtain ⟨cs, h1, rfl, rfl⟩ := h
   exact op_build_array hty hR hρ hk hl h1
  ·cases h
 | buildSlice t n ps =>
  simp only [stepOp] at h
  split at h
  ·rename_i e s by_ agg sz z0 l hk hl
   split at h
   ·rename_i k sz' z he
    split at h
    ·rename_i hc
     simp only [Bool.and_eq_true, decide_eq_true_eq] at hc
     split at h
     ·rename_i cs hf
      split at h
      ·rename_i hp
       simp only [Bool.and_eq_true, Bool.or_eq_true, beq_iff_eq] at hp
       cases h
       exact op_buildSlice hty hR hρ hk hl he hc.1 hc.2 hf hp.1 hp.2
      ·cases h
     ·cases h
    ·cases h
   ·cases h
  ·cases h
 | load t a =>
  simp only [stepOp] at h
  split at h
  ·rename_i a' h1
   simp only [Option.map_eq_some_iff, Prod.mk.injEq] at h
   obtain ⟨d', h2, rfl, rfl⟩ := h
   obtain ⟨v, h3, h4⟩ := loadD_ok hty hR (hρ a _ h1) h2
   exact yields_here hR h3 h4
  ·cases h
 | store t a v =>
  simp only [stepOp] at h
  split at h
  ·rename_i a' v' h1 h2
   simp only [Option.map_eq_some_iff, Prod.mk.injEq] at h
   obtain ⟨S2, h3, rfl, rfl⟩ := h
   obtain ⟨y, h4, h5, h6, h7⟩ := storeD_ok hty hR (hρ a _ h1) (hρ v _ h2) h3
   exact yields_u h4 h5 h6 h7
  ·cases h
 | nilCheck a =>
  simp only [stepOp] at h
  split at h
  ·rename_i id off h1
   cases h
   have := hρ a _ h1
   generalize hv : ρ a = v at this
   cases this with
   | ptr hS => exact ⟨_, x, .inl (by simp only [execOp, hv]; rfl), rfl, hR, Mono.refl x, .ptr hS⟩
  ·cases h
 | binOp op t a b u =>
  simp only [stepOp] at h
  split at h
  ·rename_i va vb h1 h2
   simp only [Option.map_eq_some_iff, Prod.mk.injEq] at h
   obtain ⟨d', h3, rfl, rfl⟩ := h
   obtain ⟨v, h4, h5⟩ := pureD_run (x := x) h3 x.w
   rw [← valOf_ok hρ h1, ← valOf_ok hρ h2] at h4
   exact yields_here hR h4 h5
  ·simp only [Option.map_eq_some_iff, Prod.mk.injEq] at h
   obtain ⟨d', h3, rfl, rfl⟩ := h
   obtain ⟨v, h4, h5⟩ := nilEq_run hty hρ h3
   exact yields_here hR h4 h5
 | unOp op t a =>
  simp only [stepOp] at h
  split at h
  ·rename_i va h1
   simp only [Option.map_eq_some_iff, Prod.mk.injEq] at h
   obtain ⟨d', h3, rfl, rfl⟩ := h
   obtain ⟨v, h4, h5⟩ := pureD_run (x := x) h3 x.w
   rw [← valOf_ok hρ h1] at h4
   exact yields_here hR h4 h5
  ·cases h
 | convert s t a =>
  simp only [stepOp] at h
  split at h
  ·rename_i va h1
   simp only [Option.map_eq_some_iff, Prod.mk.injEq] at h
   obtain ⟨d', h3, rfl, rfl⟩ := h
   obtain ⟨v, h4, h5⟩ := pureD_run (x := x) h3 x.w
   rw [← valOf_ok hρ h1] at h4
   exact yields_here hR h4 h5
  ·cases h
 | makeFunc fn fs cs =>
  cases fn with
  | func f =>
   simp only [stepOp] at h
   split at h
   ·rename_i a b h1 h2
    cases h
    have e1 := evs_ok hρ h1
    have e2 := evs_ok hρ h2
    refine yields_here hR (v := .func (.func f) (fs.map ρ) (cs.map ρ)) rfl (.fn (by simpa using e1.1) (by simpa using e2.1) (fun j c hc => ?_) (fun j c hc => ?_))
    ·have := e1.2 j c hc
     simpa [Array.getD_eq_getD_getElem?] using this
    ·have := e2.2 j c hc
     simpa [Array.getD_eq_getD_getElem?] using this
   ·cases h
  | _ => simp [stepOp] at h
 | slice t a lo hi mx =>
  simp only [stepOp] at h
  split at h
  ·rename_i s sz z rows tok full hk ha
   split at h
   ·cases h
   ·rename_i hrows
    simp only [Bool.not_eq_true', Bool.not_eq_false, List.all_eq_true, decide_eq_true_eq] at hrows
    split at h
    ·rename_i m hm
     split at h
     ·rename_i h' hh
      split at h
      ·rename_i l hl
       split at h
       ·cases h
       ·rename_i hhm
        simp only [Option.map_eq_some_iff, Prod.mk.injEq] at h
        obtain ⟨d', h3, rfl, rfl⟩ := h
        exact op_slice hty hR hρ hk (hρ a _ ha) hrows hm hh hl (by simpa using hhm) h3
      ·cases h
     ·cases h
    ·cases h
  ·cases h
 | fieldAddr t a f =>
  simp only [stepOp] at h
  split at h
  ·rename_i fs sz z id off hk ha
   split at h
   ·rename_i o s agg hf
    split at h
    ·rename_i hs
     cases h
     have := hρ a _ ha
     generalize hv : ρ a = v at this
     cases this with
     | ptr hS => exact yields_here hR (by rw [hv]; exact op_fieldAddr hty hk hf hs _ _ _) (.ptr hS)
    ·cases h
   ·cases h
  ·rename_i fs sz z rows i off hk ha
   split at h
   ·rename_i o s agg hf
    split at h
    ·rename_i hs
     cases h
     have := hρ a _ ha
     generalize hv : ρ a = v at this
     cases this with
     | eptr hv1 hv2 =>
      refine yields_here hR (by rw [hv]; exact op_fieldAddr hty hk hf hs _ _ _) ?_
      rw [Nat.add_assoc, Nat.add_assoc]
      exact .eptr hv1 hv2
    ·cases h
   ·cases h
  ·cases h
 | field t a f =>
  simp only [stepOp] at h
  split at h
  ·rename_i fs sz z l hk ha
   split at h
   ·rename_i off s agg hf
    simp only [Option.map_eq_some_iff, Prod.mk.injEq] at h
    obtain ⟨d', h3, rfl, rfl⟩ := h
    obtain ⟨arr, hv, hrv⟩ := rvs_agg (hρ a _ ha)
    obtain ⟨hk1, i, hi, -, -⟩ := tyOf_info (hty t _ hk)
    obtain ⟨fields, hu, hfs, hff⟩ := tk_struct hk1
    obtain ⟨fd, h4, h5, inf, h6, h7, h8, d0, h9⟩ := hff f _ hf
    simp only at h5 h7 h8
    obtain ⟨v, h10, h11⟩ := part_ok (x := x) h6 h9 h7 h8 hrv h3 x.w
    refine yields_here hR (v := v) ?_ h11
    simp only [Instr.field, hv, Sem.run_bind, run_underlying hu, Result.andThen_ok, h4, asAgg, Sem.run_pure, h5, h10]
   ·cases h
  ·cases h
 | indexAddr t a i =>
  simp only [stepOp] at h
  split at h
  ·rename_i e s by_ agg sz z rows tok full n hk ha hi
   split at h
   ·rename_i h0
    split at h
    ·rename_i r hr
     split at h
     ·rename_i hs
      cases h
      obtain ⟨kd, hki⟩ := intOf_ok hρ hi
      have := hρ a _ ha
      generalize hv : ρ a = v at this
      cases this with
      | @sl _ _ _ A cap s1 vs hv1 hv2 k1 k2 k3 k4 k5 =>
       have hlt : n.toNat < rows.length := (List.getElem?_eq_some_iff.1 hr).1
       cases A with
       | none => have := k3 rfl; omega
       | some ad =>
        obtain ⟨b, o, sp⟩ := ad
        have : sp = none := k4 _ rfl
        subst this
        have hs1 : s1 = s := by rw [← hs]; exact (hv1.1 r (List.mem_of_getElem? hr)).symm
        subst hs1
        refine yields_here hR (by rw [hv, hki]; exact op_indexSl hty hk h0 hlt _ _ _) ?_
        have := RV.eptr (i := n.toNat) (off := 0) hv1 hv2
        simpa using this
     ·cases h
    ·cases h
   ·cases h
  ·rename_i k s agg sz z id off n hk ha hi
   split at h
   ·rename_i h0
    cases h
    obtain ⟨kd, hki⟩ := intOf_ok hρ hi
    have := hρ a _ ha
    generalize hv : ρ a = v at this
    cases this with
    | ptr hS => exact yields_here hR (by rw [hv, hki]; exact op_indexArr hty hk h0.1 h0.2 _ _ _) (.ptr hS)
   ·cases h
  ·rename_i k s agg sz z rows j off n hk ha hi
   split at h
   ·rename_i h0
    cases h
    obtain ⟨kd, hki⟩ := intOf_ok hρ hi
    have := hρ a _ ha
    generalize hv : ρ a = v at this
    cases this with
    | eptr hv1 hv2 =>
     refine yields_here hR (by rw [hv, hki]; exact op_indexArr hty hk h0.1 h0.2 _ _ _) ?_
     rw [Nat.add_assoc, Nat.add_assoc]
     exact .eptr hv1 hv2
   ·cases h
  ·cases h
 | index t a i =>
  simp only [stepOp] at h
  split at h
  ·rename_i k s agg sz z l n hk ha hi
   split at h
   ·rename_i h0
    simp only [Option.map_eq_some_iff, Prod.mk.injEq] at h
    obtain ⟨d', h3, rfl, rfl⟩ := h
    obtain ⟨kd, hki⟩ := intOf_ok hρ hi
    obtain ⟨arr, hv, hrv⟩ := rvs_agg (hρ a _ ha)
    obtain ⟨hk1, it, hit, -, -⟩ := tyOf_info (hty t _ hk)
    obtain ⟨e, hu, ie, hie, hse, hag, d0, hu2⟩ := tk_array hk1
    obtain ⟨v, h10, h11⟩ := part_ok (x := x) hie hu2 hse hag hrv h3 x.w
    refine yields_here hR (v := v) ?_ h11
    have hc : 0 ≤ n ∧ n < (k : Int) := ⟨h0.1, by omega⟩
    simp only [Instr.index, hv, hki, asIntOf, Sem.run_bind, Sem.run_pure, run_underlying hu, Result.andThen_ok, hc, and_self, if_true, run_sizeOf hie, hse, h10]
   ·cases h
  ·cases h
 | makeMap t r =>
  cases r with
  | none =>
   simp only [stepOp, Option.some.injEq, Prod.mk.injEq] at h
   obtain ⟨rfl, rfl⟩ := h
   exact op_makeMap hR hn
  | some a => simp [stepOp] at h
 | lookup t m k ok =>
  simp only [stepOp] at h
  split at h
  ·rename_i id kv hm hk
   split at h
   ·rename_i es hS
    simp only [Option.map_eq_some_iff, Option.bind_eq_some_iff, Prod.mk.injEq] at h
    obtain ⟨d', ⟨v, h1, h2⟩, rfl, rfl⟩ := h
    have := hρ m _ hm
    generalize hv : ρ m = vm at this
    cases this with
    | map _ =>
     have h3 := op_lookup hR hS h1 h2
     rw [← hv, ← valOf_ok hρ hk] at h3
     exact h3
   ·cases h
  ·cases h
 | mapUpdate t m k a =>
  simp only [stepOp] at h
  split at h
  ·rename_i id kv vv hm hk ha
   split at h
   ·rename_i es hS
    split at h
    ·rename_i r hr
     simp only [Option.map_eq_some_iff, Prod.mk.injEq] at h
     obtain ⟨es', h1, rfl, rfl⟩ := h
     have := hρ m _ hm
     generalize hv : ρ m = vm at this
     cases this with
     | map _ =>
      have h3 := op_mapUpdate hR hS hr h1
      rw [← hv, ← valOf_ok hρ hk, ← valOf_ok hρ ha] at h3
      exact h3
    ·cases h
   ·cases h
  ·cases h
 | extract a i =>
  simp only [stepOp] at h
  split at h
  ·rename_i l ha
   simp only [Option.map_eq_some_iff, Prod.mk.injEq] at h
   obtain ⟨d', h3, rfl, rfl⟩ := h
   have := hρ a _ ha
   generalize hv : ρ a = v at this
   cases this with
   | @tup _ vs hs hr =>
    have hlt : i < vs.size := by rw [hs]; exact (List.getElem?_eq_some_iff.1 h3).1
    refine yields_here hR (v := vs[i]) (by rw [hv]; simp [Instr.extract, hlt]) ?_
    simpa [Array.getD_eq_getD_getElem?, hlt] using hr i _ h3
  ·cases h
 | call c =>
  obtain ⟨callee, args, ats⟩ := c
  cases callee with
  | builtin b =>
   simp only [stepOp] at h
   have hex : ∀ w : World, (execOp ρ ⟨dst, .call ⟨.builtin b, args, ats⟩, type, pos, after, guard⟩).run P w = (Go.builtin b ats type (args.map fun | .const _ => true | _ => false) (args.map ρ)).run P w := fun w => by
    simp only [execOp, resolve, Sem.run_bind, Sem.run_pure, Result.andThen_ok, invoke]
    rfl
   rw [hex]
   split at h
   ·rename_i a t hargs hats
    have ea : args = #[a] := by rw [← Array.toArray_toList (xs := args), hargs]
    have et : ats = #[t] := by rw [← Array.toArray_toList (xs := ats), hats]
    subst ea et
    split at h
    ·rename_i e s by_ agg sz z rows tok full hk ha
     cases h
     obtain ⟨hk1, it, hit, -, -⟩ := tyOf_info (hty t _ hk)
     obtain ⟨hu, -⟩ := tk_slice hk1
     have := hρ a _ ha
     generalize hv : ρ a = v at this
     cases this with
     | sl _ _ _ _ _ _ _ => exact yields_here hR (v := .int .i64 rows.length) (by simp [Builtin.len_, hv, run_underlying hu, goInt]) (.val rfl)
    ·rename_i n s agg sz z hk
     cases h
     obtain ⟨hk1, it, hit, -, -⟩ := tyOf_info (hty t _ hk)
     obtain ⟨e, hu, -⟩ := tk_array hk1
     exact yields_here hR (v := .int .i64 n) (by simp [Builtin.len_, run_underlying hu, goInt]) (.val rfl)
    ·rename_i v ha hno
     simp only [Option.map_eq_some_iff, Prod.mk.injEq] at h
     obtain ⟨d', h3, rfl, rfl⟩ := h
     obtain ⟨v', h4, h5⟩ := pureD_run (x := x) h3 x.w
     have := rv_val (hρ a _ ha)
     refine yields_here hR (v := v') ?_ h5
     simpa [this] using h4
    ·cases h
   ·rename_i a b t u hargs hats
    have ea : args = #[a, b] := by rw [← Array.toArray_toList (xs := args), hargs]
    have et : ats = #[t, u] := by rw [← Array.toArray_toList (xs := ats), hats]
    subst ea et
    split at h
    ·rename_i htu
     subst htu
     split at h
     ·rename_i da db ha hb
      have e2 : Array.map ρ #[a, b] = #[ρ a, ρ b] := by simp
      rw [e2]
      exact op_append (u := type) hty hR hn (hρ a _ ha) (hρ b _ hb) h
     ·cases h
    ·cases h
   ·rename_i xs hargs
    split at h
    ·rename_i vs h1
     simp only [Option.map_eq_some_iff, Prod.mk.injEq] at h
     obtain ⟨d', h3, rfl, rfl⟩ := h
     simp only [Option.bind_eq_some_iff] at h1
     obtain ⟨ds, h4, h5⟩ := h1
     have h6 := evs_ok hρ h4
     have h7 := rv_toVals (x := x) (vs := args.toList.map ρ) h5 (by simpa using h6.1) fun j c hc => by simpa [Array.getD_eq_getD_getElem?, List.getD_eq_getElem?_getD] using h6.2 j c hc
     obtain ⟨v', h8, h9⟩ := pureD_run (x := x) h3 x.w
     refine yields_here hR (v := v') ?_ h9
     have e2 : (List.map ρ args.toList).toArray = Array.map ρ args := Array.toList_inj.1 (by simp)
     rw [← h7, e2] at h8
     exact h8
    ·cases h
   ·rename_i xs hargs
    split at h
    ·rename_i vs h1
     simp only [Option.map_eq_some_iff, Prod.mk.injEq] at h
     obtain ⟨d', h3, rfl, rfl⟩ := h
     simp only [Option.bind_eq_some_iff] at h1
     obtain ⟨ds, h4, h5⟩ := h1
     have h6 := evs_ok hρ h4
     have h7 := rv_toVals (x := x) (vs := args.toList.map ρ) h5 (by simpa using h6.1) fun j c hc => by simpa [Array.getD_eq_getD_getElem?, List.getD_eq_getElem?_getD] using h6.2 j c hc
     obtain ⟨v', h8, h9⟩ := pureD_run (x := x) h3 x.w
     refine yields_here hR (v := v') ?_ h9
     have e2 : (List.map ρ args.toList).toArray = Array.map ρ args := Array.toList_inj.1 (by simp)
     rw [← h7, e2] at h8
     exact h8
    ·cases h
   ·cases h
  | _ => simp [Op.lone] at hop
 | _ => simp [stepOp] at h
end Go.Di
end
