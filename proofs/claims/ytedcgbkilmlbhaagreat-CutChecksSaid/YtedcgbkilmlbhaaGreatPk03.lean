import Derived.Test.YtedcgbkilmlbhaaGreatPk02
section
namespace Go.Tv
open Go Go.Di
variable {P:Program} {ty:eY} {tt:TypeId→Option TT} {ι ι' w:jE} {S S':ak} {te:List TV} {env:List DV} {tS:List TB} {aC:bk} {call:aW} {yf:dR} {o:Oper} {ay nT:Nat} {B:List Nat} {r:TR}
theorem NI:∀ {l:List TV} {m:List DV},cq ι S l m→l.all Zv=true→m.all DV.one=true
 | [],m,h,_=>by rw[aF h]; rfl
 | a::l,m,h,k=>by
  obtain⟨d,m',rfl,h1,h2⟩:=ai h
  simp only[List.all_cons,Bool.and_eq_true] at k ⊢
  refine⟨?_,NI h2 k.2⟩
  cases a<;>cases d<;>simp only[RT] at h1<;>first | rfl | (cases k.1; done) | (subst h1; exact k.1)
def CE (P:Program) (ty:eY) (aC:bk) (call:aW) (yf:dR) (B:List Nat) (ι w:jE) (env:List DV) (S:ak) (o:Oper) (ay:Nat) (r:TR):Prop :=
 ∃ d S' ι' w',ah P ty aC call yf (ga env) o S ay=some (d,S')∧bL ι' r.te r.tS env S'∧RT ι' S' r.v d∧P9 ι' w'∧(∀ j,j≠ay→w' j=w j)∧(∀ j∈eS (ga env) o ay,(∃ k∈r.Cj,w' j=some k)∧(j=ay∨∃ i,ι i=some j))∧Fr B ι S ι' S'∧mo B r.tS∧Nn ay S S'
theorem Oj (h:bL ι te tS env S) (hB:mo B tS) (hw:P9 ι w) {t:TypeId} {a x:Operand} (ho:o.op = .store t a x) (hr:stepT P ty tt te tS o nT=some r):CE P ty aC call yf B ι w env S o ay r:=by
 simp only[stepT,ho] at hr
 split at hr
 ·rename_i td id off v h1 h2 h3
  split at hr
  ·rename_i l h4
   split at hr
   ·rename_i hc
    simp only[Bool.and_eq_true,beq_iff_eq] at hc
    obtain⟨⟨c1,c2⟩,c3⟩:=hc
    simp only[Option.map_eq_some_iff] at hr h3
    obtain⟨l',h5,rfl⟩:=hr
    obtain⟨u,h6,h7⟩:=h3
    obtain⟨da,k1,k2⟩:=aS h.env h2
    cases da<;>simp only[RT] at k2
    rename_i gJ qL
    obtain⟨k3,rfl⟩:=k2
    obtain⟨d,k4,k5⟩:=aS h.env h6
    have k6:=bO (tt:=tt) (t:=t) k5
    rw[h7] at k6
    have k7:=o8 c1 k6
    obtain⟨ac1,ds,m1,m2,m3⟩:=h.cells id l h4
    rw[k3] at m1
    cases m1
    obtain⟨eM,m4,m5⟩:=CU m3 k7 h5
    have K:jo ι S ι (S.set gJ (.cells eM)) fun _=>False:=fun k k' _ hk=>⟨hk,by
     rw[List.getElem?_set]
     split
     ·rename_i e1; subst e1; exact tR (by rw[m2]; simp) (by rw[m2]; simp)
     ·exact dX rfl⟩
    have hlt:=(List.getElem?_eq_some_iff.1 m2).1
    refine⟨aO,S.set gJ (.cells eM),ι,w,?_,?_,by simp only[RT],hw,fun _ _=>rfl,?_,vp k3,?_,ve m2 (fun e=>by cases e)⟩
    ·have e1:d.cells.length=td.size:=by rw[fu k7]; exact c2
     simp only[ah,ho,k1,k4,lu,h1,m2,e1,NI k7 c3,decide_true,Bool.and_self,if_true,m4,Option.map_some]
    ·refine⟨aY K _ _ h.env,fun k l0 hk => ?_,fun k e s hk t0 ht => ?_,fun k k' hk => ?_,h.inj,fun k b0 hk t0 ht => ?_⟩
     ·simp only[List.getElem?_set] at hk
      split at hk
      ·rename_i e1
       subst e1
       split at hk
       ·cases hk
        exact⟨gJ,eM,k3,by rw[List.getElem?_set,if_pos rfl,if_pos hlt],aY K _ _ m5⟩
       ·cases hk
      ·rename_i e1
       obtain⟨k',JU,n1,n2,n3⟩:=h.cells k l0 hk
       refine⟨k',JU,n1,?_,aY K _ _ n3⟩
       rw[List.getElem?_set,if_neg ?_]
       ·exact n2
       ·rintro rfl; exact e1 (h.inj _ _ _ k3 n1)
     ·simp only[List.getElem?_set] at hk
      split at hk
      ·split at hk<;>cases hk
      ·obtain⟨n,n1⟩:=h.own k e s hk t0 ht
       exact⟨n,(K k t0 (fun e=>e) ht).2.1 _ _ _ n1⟩
     ·simp only[List.getElem?_set]
      split
      ·rename_i e1
       subst e1
       have:=(List.getElem?_eq_some_iff.1 h4).1
       exact⟨_,if_pos this,fun e=>by cases e⟩
      ·exact h.uP k k' hk
     ·simp only[List.getElem?_set] at hk
      split at hk
      ·split at hk<;>cases hk
       trivial
      ·rename_i e1
       rw[List.getElem?_set,if_neg]
       ·exact h.mp k b0 hk t0 ht
       ·rintro rfl; exact e1 (h.inj _ _ _ k3 ht)
    ·intro j hj
     simp only[eS,ho,k1,List.mem_singleton] at hj
     subst hj
     exact⟨⟨id,by simp,hw _ _ k3⟩,.inr ⟨_,k3⟩⟩
    ·intro k hk
     simp only[List.getElem?_set]
     split
     ·rename_i e1
      subst e1
      exact⟨_,if_pos (List.getElem?_eq_some_iff.1 h4).1⟩
     ·exact hB k hk
   ·cases hr
  ·cases hr
 ·cases hr
theorem KA {k k':TT} (h:k'=k) {m:List k'.den} {rows:List DV} (hr:de (CR k') k'.agg m rows):de (CR k) k.agg (h▸m) rows:=by
 subst h
 exact hr
theorem Fi {k k':TT} (h:k'=k) (m:List k'.den):(h▸m:List k.den).length=m.length:=by
 subst h
 rfl
theorem wU {rows:List DV} (h:rows.isEmpty=true):rows=[]:=List.isEmpty_iff.1 h
theorem Lz (h:bL ι te tS env S) (hB:mo B tS) (hw:P9 ι w) (hT:u5 tS nT) (hn:u6 S ay) {args:Array Operand} {argTypes:Array TypeId} (ho:o.op = .call { callee := .builtin .append,args,argTypes }) (hr:stepT P ty tt te tS o nT=some r) (hc:r.c):CE P ty aC call yf B ι w env S o ay r:=by
 simp only[stepT,ho] at hr
 split at hr
 ·rename_i x y t u ha ht
  split at hr
  ·rename_i Ma
   obtain⟨Ma,hh⟩:=Ma
   subst Ma
   split at hr
   ·rename_i e s ji ag sz z0 k l ap k' m _ h1 h2 h3
    split at hr
    ·rename_i k0 sz' z h4
     split at hr
     ·rename_i JO
      split at hr
      ·rename_i kZ
       simp only[Bool.and_eq_true,beq_iff_eq,decide_eq_true_eq] at kZ
       obtain⟨⟨c1,c2⟩,c3⟩:=kZ
       simp only[Option.map_eq_some_iff] at h2 h3
       obtain⟨ux,e1,e2⟩:=h2
       obtain⟨uy,e3,e4⟩:=h3
       obtain⟨da,k1,k2⟩:=aS h.env e1
       have k3:=bO (tt:=tt) (t:=t) k2
       rw[e2] at k3
       obtain⟨db,k4,k5⟩:=aS h.env e3
       have k6:=bO (tt:=tt) (t:=t) k5
       rw[e4] at k6
       cases da<;>simp only[RT] at k3
       rename_i rows tok f
       cases db<;>simp only[RT] at k6
       rename_i news abD f'
       obtain⟨k3,kap⟩:=k3
       obtain⟨k6,-⟩:=k6
       have Yg:=ja k3
       have Vc:=ja k6
       have k6':=KA JO k6
       have V3:=wM k3 k6'
       have Ih:(rows.all fun r=>decide (r.cells.length=s))=true:=List.all_eq_true.2 fun r hr=>decide_eq_true ((gF k3 r hr).trans c3)
       have AV:(news.all fun r=>decide (r.cells.length=s))=true:=List.all_eq_true.2 fun r hr=>decide_eq_true ((gF k6' r hr).trans c3)
       have hx:(args[0]?).bind (ga env)=some (.sl rows tok f):=by
        have:args[0]? = some x:=by rw[← Array.getElem?_toList,ha]; rfl
        rw[this]; exact k1
       have Ee:eS (ga env) o ay=match tok with | some t=>[t,ay] | none=>[ay]:=by
        simp only[eS,ho,hx]
        cases tok<;>rfl
       have Q0:l.length+m.length≤1000000000→(decide (0<s)&&decide ((rows.length+news.length)*ji≤dQ)&&decide (rows.length+news.length≤140737488355328-4096)&&news.all (fun r=>decide (r.cells.length=s)))=true:=by
        intro hle
        simp only[Bool.and_eq_true,decide_eq_true_eq]
        rw[Yg,Vc]
        refine⟨⟨⟨c1,?_⟩,by omega⟩,AV⟩
        calc (l.length+m.length)*ji≤1000000000*100000:=Nat.mul_le_mul hle c2
         _≤dQ:=by decide
       have hz:∀ d S',gO ty S ay t (.sl rows tok f) (.sl news abD f')=some (d,S')→ah P ty aC call yf (ga env) o S ay=some (d,S'):=by
        intro d S' hd
        simp only[ah,ho,ha,ht,if_true,k1,k4,hd]
       split at hr
       ·cases hr
       ·
        split at hr
        rotate_left
        ·cases hr
        rename_i NR
        simp only[Option.some.injEq] at hr
        subst hr
        obtain⟨rfl,tD⟩:=kap
        have Q2:=Q0 hc
        by_cases Ib:news.isEmpty=true
        ·have hm:m=[]:=List.eq_nil_of_length_eq_zero (by rw[← Vc,wU Ib]; rfl)
         subst hm
         refine⟨.sl rows none f,S,ι,upd w ay nT,hz _ _ (by simp only[gO,h1,Ib,if_true]),?_,?_,?_,?_,?_,Fr.refl _ _ _,je hB hT,ew _ _⟩
         ·refine⟨h.env,fun k0 l0 hk => ?_,fun k0 e0 s0 hk t0 AU => ?_,fun k0 k1 hk => ?_,h.inj,fun k0 b0 hk t0 AU => ?_⟩
          ·rw[bM hT] at hk
           split at hk
           ·cases hk
           ·exact h.cells _ _ hk
          ·rw[bM hT] at hk
           split at hk
           ·rename_i e5; subst e5; rw[h.new hT] at AU; cases AU
           ·exact h.own _ _ _ hk _ AU
          ·rw[bM hT]
           split
           ·exact⟨_,rfl,fun e=>by cases e⟩
           ·exact h.uP _ _ hk
          ·rw[bM hT] at hk
           split at hk
           ·cases hk; trivial
           ·exact h.mp _ _ hk _ AU
         ·simp only[RT]
          have Vd:l=[]:=by
           cases l with
           | nil=>rfl
           | cons a l=>simp[NW] at NR
          refine⟨?_,.inl ⟨rfl,tD,by rw[Yg,Vd]; rfl⟩⟩
          have e7:(JO▸([]:List k'.den):List k.den)=[]:=List.eq_nil_of_length_eq_zero (by rw[Fi]; rfl)
          rw[e7,List.append_nil]
          exact k3
         ·intro a b mm
          unfold upd
          rw[if_neg (h.cz hn mm)]
          exact hw _ _ mm
         ·intro j hj; unfold upd; rw[if_neg hj]
         ·intro j hj
          rw[Ee,List.mem_singleton] at hj
          exact⟨⟨nT,by simp,by simp[upd,hj]⟩,.inl hj⟩
        ·have K:=qz h hT hn (.tail e s ((rows.length+news.length)*s))
         refine⟨.sl (rows++news) (some ay) ⟨false,none⟩,di S ay (.tail e s ((rows.length+news.length)*s)),upd ι nT ay,upd w ay nT,hz _ _ ?_,?_,?_,nI h hn hT hw,?_,?_,oZ hn (kH hB hT),je hB hT,lZ hn⟩
         ·simp only[gO,h1,Ib,Bool.false_eq_true,if_false,h4,Q2,if_true,tD,Ih,Bool.and_self]
         ·refine⟨aY K _ _ h.env,fun k0 l0 hk => ?_,fun k0 e0 s0 hk t0 AU => ?_,fun k0 k1 hk => ?_,fun i j k1 hi hj => ?_,fun k0 b0 hk t0 AU => ?_⟩
          ·rw[bM hT] at hk
           split at hk
           ·cases hk
           ·rename_i e5
            obtain⟨k',eM,n1,n2,n3⟩:=h.cells _ _ hk
            exact⟨k',eM,by simp only[upd,e5,if_false]; exact n1,by rw[aR hn,if_neg (h.cz hn n1)]; exact n2,aY K _ _ n3⟩
          ·rw[bM hT] at hk
           split at hk
           ·rename_i e5
            cases hk
            simp only[upd,e5,if_true,Option.some.injEq] at AU
            subst AU
            exact⟨_,by rw[aR hn,if_pos rfl]⟩
           ·rename_i e5
            simp only[upd,e5,if_false] at AU
            obtain⟨n,n1⟩:=h.own _ _ _ hk _ AU
            exact⟨n,by rw[aR hn,if_neg (h.cz hn AU)]; exact n1⟩
          ·rw[bM hT]
           split
           ·exact⟨_,rfl,fun e=>by cases e⟩
           ·rename_i e5
            simp only[upd,e5,if_false] at hk
            exact h.uP _ _ hk
          ·unfold upd at hi hj
           split at hi<;>split at hj
           ·omega
           ·cases hi; exact(h.cz hn hj rfl).elim
           ·cases hj; exact(h.cz hn hi rfl).elim
           ·exact h.inj i j k1 hi hj
          ·rw[bM hT] at hk
           split at hk
           ·cases hk; trivial
           ·rename_i e5
            simp only[upd,e5,if_false] at AU
            rw[aR hn,if_neg (h.cz hn AU)]
            exact h.mp _ _ hk _ AU
         ·simp only[RT]
          refine⟨V3,.inr ⟨ay,e,s,by simp[upd],rfl,?_⟩⟩
          rw[aR hn,if_pos rfl,List.length_append]
         ·intro j hj; unfold upd; rw[if_neg hj]
         ·intro j hj
          rw[Ee,List.mem_singleton] at hj
          exact⟨⟨nT,by simp,by simp[upd,hj]⟩,.inl hj⟩
       ·
        rename_i g
        split at hr
        ·rename_i e' s' dN
         split at hr
         ·rename_i hes
          simp only[Bool.and_eq_true,beq_iff_eq] at hes
          obtain⟨rfl,rfl⟩:=hes
          simp only[Option.some.injEq] at hr
          subst hr
          have Q2:=Q0 hc
          have YQ:∀ j,(tS.map (oz g))[j]? = (tS[j]?).map (oz g):=fun j=>List.getElem?_map ..
          have hgn:g≠nT:=by
           rintro rfl
           rcases hT with hT | hT
           ·rw[hT] at dN; cases dN
           ·have:=(List.getElem?_eq_some_iff.1 dN).1; omega
          have hBm:mo B (tS.map (oz g)):=fun k hk=>by
           obtain⟨l0,h0⟩:=hB k hk
           exact⟨_,by rw[YQ,h0]; rfl⟩
          have share:∀ (ι':jE) (S':ak),jo ι S ι' S' (fun k=>k=g)→(∀ k k',k≠g→(ι' k=some k'↔ι k=some k'))→(∀ k k' b,k≠g→ι k=some k'→(∀ e s n,b ≠ .tail e s n)→S[k']? = some b→S'[k']? = some b) →
            (∀ t,ι' g=some t→∃ n,S'[t]? = some (.tail e' s' n))→(∀ k k',k≠g→ι k=some k'→ι' g≠some k')→bL ι' (tj g te) (tS.map (oz g)) env S':=by
           intro ι' S' K hιe q9 hg ZN
           refine⟨kB K _ _ h.env,fun k0 l0 hk => ?_,fun k0 e0 s0 hk t0 AU => ?_,fun k0 k1 hk => ?_,fun i j k1 hi hj => ?_,fun k0 b0 hk t0 AU => ?_⟩
           ·rw[YQ] at hk
            simp only[Option.map_eq_some_iff] at hk
            obtain⟨b,hb,Ak⟩:=hk
            have hne:k0≠g:=by rintro rfl; rw[dN] at hb; cases hb; cases Ak
            cases b<;>simp only[oz] at Ak<;>first | (cases Ak; done) | skip
            rename_i lb
            cases Ak
            obtain⟨k',eM,n1,n2,n3⟩:=h.cells _ _ hb
            exact⟨k',eM,(hιe _ _ hne).2 n1,q9 _ _ _ hne n1 (fun _ _ _ e=>by cases e) n2,kB K _ _ n3⟩
           ·rw[YQ] at hk
            simp only[Option.map_eq_some_iff] at hk
            obtain⟨b,hb,Ak⟩:=hk
            cases b<;>simp only[oz] at Ak<;>first | (cases Ak; done) | skip
            cases Ak
            by_cases Yk:k0=g
            ·subst Yk
             rw[dN] at hb
             cases hb
             exact hg _ AU
            ·have X8:=(hιe _ _ Yk).1 AU
             obtain⟨n,n1⟩:=h.own _ _ _ hb _ X8
             exact⟨n,(K k0 t0 Yk X8).2.1 _ _ _ n1⟩
           ·rw[YQ]
            by_cases Yk:k0=g
            ·subst Yk
             exact⟨_,by rw[dN]; rfl,fun e=>by cases e⟩
            ·obtain⟨b,n1,n2⟩:=h.uP _ _ ((hιe _ _ Yk).1 hk)
             exact⟨_,by rw[n1]; rfl,fun e=>by cases b<;>first | (exact n2 rfl) | cases e⟩
           ·by_cases YZ:i=g<;>by_cases YX:j=g
            ·rw[YZ,YX]
            ·subst YZ; exact(ZN _ _ YX ((hιe _ _ YX).1 hj) hi).elim
            ·subst YX; exact(ZN _ _ YZ ((hιe _ _ YZ).1 hi) hj).elim
            ·exact h.inj i j k1 ((hιe _ _ YZ).1 hi) ((hιe _ _ YX).1 hj)
           ·rw[YQ] at hk
            simp only[Option.map_eq_some_iff] at hk
            obtain⟨b,hb,Ak⟩:=hk
            by_cases hne:k0=g
            ·subst hne
             rw[dN] at hb
             cases hb
             subst Ak
             trivial
            have X8:=(hιe _ _ hne).1 AU
            have h1:=h.mp _ _ hb _ X8
            subst Ak
            cases b with
            | map kt l=>exact q9 _ _ _ hne X8 (fun _ _ _ e=>by cases e) h1
            | rows t e l z =>
             obtain⟨q0,q1,ds,q2,q3⟩:=h1
             exact⟨q0,q1,ds,q9 _ _ _ hne X8 (fun _ _ _ e=>by cases e) q2,q3⟩
            | _=>trivial
          by_cases Ib:news.isEmpty=true
          ·have hm:m=[]:=List.eq_nil_of_length_eq_zero (by rw[← Vc,wU Ib]; rfl)
           subst hm
           have e7:(JO▸([]:List k'.den):List k.den)=[]:=List.eq_nil_of_length_eq_zero (by rw[Fi]; rfl)
           refine⟨.sl rows tok f,S,ι,upd w ay nT,hz _ _ (by simp only[gO,h1,Ib,if_true]),share ι S (fun k k' _ hk=>⟨hk,dX rfl⟩) (fun _ _ _=>Iff.rfl) (fun _ _ _ _ _ _ h=>h) (fun t ht=>h.own g _ _ dN t ht) (fun k k' hk h1 h2=>hk (h.inj _ _ _ h1 h2)),?_,?_,?_,?_,Fr.refl _ _ _,hBm,ew _ _⟩
           ·simp only[RT]
            rw[e7,List.append_nil]
            exact⟨k3,kap⟩
           ·intro a b mm
            unfold upd
            rw[if_neg (h.cz hn mm)]
            exact hw _ _ mm
           ·intro j hj; unfold upd; rw[if_neg hj]
           ·intro j hj
            rw[Ee] at hj
            cases tok with
            | none=>simp only[List.mem_singleton] at hj; exact⟨⟨nT,by simp,by simp[upd,hj]⟩,.inl hj⟩
            | some tk =>
             simp only[List.mem_cons,List.not_mem_nil,or_false] at hj
             rcases hj with rfl | rfl
             ·rcases kap with ⟨h0,-⟩ | ⟨t0,e0,s0,a1,a2,a3⟩
              ·cases h0
              ·cases a2
               exact⟨⟨g,by simp,by simp only[upd,h.cz hn a1,if_false]; exact hw _ _ a1⟩,.inr ⟨_,a1⟩⟩
             ·exact⟨⟨nT,by simp,by simp[upd]⟩,.inl rfl⟩
          ·rcases kap with ⟨rfl,tD,adk⟩ | ⟨t0,e0,s0,a1,rfl,a3⟩
           ·have H7:jo ι S (upd ι g ay) (di S ay (.tail e' s' ((rows.length+news.length)*s'))) (fun k=>k=g):=fun k k' hk h2=>⟨by simp only[upd,hk,if_false]; exact h2,dX (by rw[aR hn,if_neg (h.cz hn h2)])⟩
            refine⟨.sl (rows++news) (some ay) ⟨false,none⟩,di S ay (.tail e' s' ((rows.length+news.length)*s')),upd ι g ay,fun j=>if j=ay then some g else w j,hz _ _ ?_,share _ _ H7 (fun k k' hk=>by simp only[upd,hk,if_false]) (fun k k' ds hk h2 _ h3=>by rw[aR hn,if_neg (h.cz hn h2)]; exact h3) (fun t ht => ?_) (fun k k' hk h2 h3 => ?_),?_,?_,?_,?_,oZ hn (S6 hB dN),hBm,lZ hn⟩
            ·simp only[gO,h1,Ib,Bool.false_eq_true,if_false,h4,Q2,if_true,tD,Ih,Bool.and_self]
            ·simp only[upd,if_true,Option.some.injEq] at ht
             subst ht
             exact⟨_,by rw[aR hn,if_pos rfl]⟩
            ·simp only[upd,if_true,Option.some.injEq] at h3
             exact h.cz hn h2 h3.symm
            ·simp only[RT]
             refine⟨V3,.inr ⟨ay,e',s',by simp[upd],rfl,?_⟩⟩
             rw[aR hn,if_pos rfl,List.length_append]
            ·intro a b mm
             unfold upd at mm
             split at mm
             ·rename_i e9; subst e9; cases mm; simp
             ·show (if b=ay then some g else w b)=some a
              rw[if_neg (h.cz hn mm)]; exact hw _ _ mm
            ·intro j hj
             show (if j=ay then some g else w j)=w j
             rw[if_neg hj]
            ·intro j hj
             rw[Ee,List.mem_singleton] at hj
             exact⟨⟨g,by simp,by simp[hj]⟩,.inl hj⟩
           ·obtain⟨n,a4⟩:=h.own g _ _ dN t0 a1
            rw[a3] at a4
            cases a4
            have hne:t0≠ay:=h.cz hn a1
            have hlt:=(List.getElem?_eq_some_iff.1 a3).1
            have aP:∀ j,j≠t0→(S.set t0 (.tail e' s' ((rows.length+news.length)*s')))[j]? = S[j]? := fun j hj=>by rw[List.getElem?_set,if_neg (Ne.symm hj)]
            have H7:jo ι S ι (S.set t0 (.tail e' s' ((rows.length+news.length)*s'))) (fun k=>k=g):=fun k k' hk h2=>⟨h2,dX (by rw[aP k' (fun e9=>hk (h.inj _ _ _ h2 (by rw[e9]; exact a1)))])⟩
            refine⟨.sl (rows++news) (some t0) ⟨false,none⟩,S.set t0 (.tail e' s' ((rows.length+news.length)*s')),ι,fun j=>if j=ay then some nT else w j,hz _ _ ?_,share _ _ H7 (fun _ _ _=>Iff.rfl) (fun k k' ds hk h2 _ h3=>by rw[aP k' (fun e9=>hk (h.inj _ _ _ h2 (by rw[e9]; exact a1)))]; exact h3) (fun t ht => ?_) (fun k k' hk h2 h3=>hk (h.inj _ _ _ h2 h3)),?_,?_,?_,?_,vp a1,hBm,ve a3 (fun e=>by cases e)⟩
            ·simp only[gO,h1,Ib,Bool.false_eq_true,if_false,h4,Q2,if_true,a3,decide_true,Bool.and_self]
            ·rw[a1] at ht
             cases ht
             exact⟨_,by rw[List.getElem?_set,if_pos rfl,if_pos hlt]⟩
            ·simp only[RT]
             refine⟨V3,.inr ⟨t0,e',s',a1,rfl,?_⟩⟩
             rw[List.getElem?_set,if_pos rfl,if_pos hlt,List.length_append]
            ·intro a b mm
             show (if b=ay then some nT else w b)=some a
             rw[if_neg (h.cz hn mm)]; exact hw _ _ mm
            ·intro j hj
             show (if j=ay then some nT else w j)=w j
             rw[if_neg hj]
            ·intro j hj
             rw[Ee] at hj
             simp only[List.mem_cons,List.not_mem_nil,or_false] at hj
             rcases hj with rfl | rfl
             ·exact⟨⟨g,by simp,by simp only[hne,if_false]; exact hw _ _ a1⟩,.inr ⟨_,a1⟩⟩
             ·exact⟨⟨nT,by simp,by simp⟩,.inl rfl⟩
         ·cases hr
        ·cases hr
      ·cases hr
     ·cases hr
    ·cases hr
   ·cases hr
  ·cases hr
 ·cases hr
theorem Om (h:bL ι te tS env S) (hB:mo B tS) (hw:P9 ι w) (hT:u5 tS nT) (hn:u6 S ay) (hr:stepT P ty tt te tS o nT=some r) (hc:r.c):CE P ty aC call yf B ι w env S o ay r:=by
 have pure:(aZ P ty tt te tS o).map (fun r=>(⟨r.1,te,tS,rT te o,r.2⟩:TR))=some r→(∀ j∈eS (ga env) o ay,(∃ k∈rT te o,w j=some k)∧(j=ay∨∃ i,ι i=some j))→CE P ty aC call yf B ι w env S o ay r:=by
  intro hp hf
  simp only[Option.map_eq_some_iff] at hp
  obtain⟨⟨v,c⟩,h1,rfl⟩:=hp
  obtain⟨d,h2,h3⟩:=ES (aC:=aC) (call:=call) (yf:=yf) (ay:=ay) h.env h.cells h1 hc
  exact⟨d,S,ι,w,h2,h,h3,hw,fun _ _=>rfl,hf,Fr.refl _ _ _,hB,ew _ _⟩
 have quiet:eS (ga env) o ay=[]→(∀ j∈eS (ga env) o ay,(∃ k∈rT te o,w j=some k)∧(j=ay∨∃ i,ι i=some j)):=fun e j hj=>by rw[e] at hj; cases hj
 cases ho:o.op with
 | alloc e =>
  simp only[stepT,ho] at hr
  split at hr
  ·rename_i k sz z h1
   cases hr
   refine⟨.ptr ay 0,di S ay (.cells z),upd ι nT ay,upd w ay nT,by simp only[ah,ho,h1],rC h hT hn (qf z),by simp[RT,upd],nI h hn hT hw,fun j hj=>by simp only[upd,hj,if_false],fun j hj => ?_,oZ hn (kH hB hT),je hB hT,lZ hn⟩
   simp only[eS,ho,List.mem_singleton] at hj
   exact⟨⟨nT,by simp,by simp[upd,hj]⟩,.inl hj⟩
  ·cases hr
 | box t x =>
  simp only[stepT,ho] at hr
  split at hr
  ·rename_i v h1
   split at hr
   ·rename_i hk
    cases hr
    obtain⟨d,k1,k2⟩:=aS h.env h1
    refine⟨.ptr ay 0,di S ay (.cells d.cells),upd ι nT ay,upd w ay nT,by simp only[ah,ho,k1],rC h hT hn (o8 hk k2),by simp[RT,upd],nI h hn hT hw,fun j hj=>by simp only[upd,hj,if_false],fun j hj => ?_,oZ hn (kH hB hT),je hB hT,lZ hn⟩
    simp only[eS,ho,List.mem_singleton] at hj
    exact⟨⟨nT,by simp,by simp[upd,hj]⟩,.inl hj⟩
   ·cases hr
  ·cases hr
 | store t a x=>exact Oj h hB hw ho hr
 | load t a =>
  simp only[stepT,ho] at hr
  refine pure hr fun j hj => ?_
  simp only[eS,ho] at hj
  split at hj
  ·rename_i gJ qL h1
   simp only[List.mem_singleton] at hj
   subst hj
   simp only[Option.map_eq_some_iff,aZ,ho] at hr
   obtain⟨q,h2,-⟩:=hr
   split at h2
   ·rename_i td id off h3 h4
    obtain⟨d,k1,k2⟩:=aS h.env h4
    rw[h1] at k1
    cases k1
    simp only[RT] at k2
    exact⟨⟨id,by simp[rT,ho,h4],hw _ _ k2.1⟩,.inr ⟨_,k2.1⟩⟩
   ·rename_i td e l i off h3 h4
    obtain⟨d,k1,k2⟩:=aS h.env h4
    rw[h1] at k1
    cases k1
    simp only[RT] at k2
   ·cases h2
  ·rename_i gJ n' qL h1
   simp only[Option.map_eq_some_iff,aZ,ho] at hr
   obtain⟨q,h2,-⟩:=hr
   split at h2
   ·rename_i td id off h3 h4
    obtain⟨d,k1,k2⟩:=aS h.env h4
    rw[h1] at k1
    cases k1
    simp only[RT] at k2
   ·rename_i td e l i off h3 h4
    obtain⟨d,k1,k2⟩:=aS h.env h4
    rw[h1] at k1
    cases k1
    simp only[RT] at k2
   ·cases h2
  ·cases hj
 | call cl =>
  obtain⟨callee,args,argTypes⟩:=cl
  cases callee with
  | builtin b =>
   cases b with
   | append=>exact Lz h hB hw hT hn ho hr hc
   | _=>simp only[stepT,ho] at hr; exact pure hr (quiet (by simp only[eS,ho]))
  | _=>simp only[stepT,ho] at hr; exact pure hr (quiet (by simp only[eS,ho]))
 | _=>simp only[stepT,ho] at hr; exact pure hr (quiet (by simp only[eS,ho]))
end Go.Tv
end
section
namespace Go.Tv
open Go Go.Di
def JX:TV := .val (.tuple #[])
def j9 (te:List TV) (dst:Option Tmp) (v:TV):List TV :=
 match dst with
 | some d=>te.set d v
 | none=>te
def dh (ops:Array Oper) (te:List TV) (o:Oper):Option Bool :=
 match o.guard with
 | none=>some true
 | some (j,want)=>match (ops[j]?).bind (·.dst) with
  | some d=>match te[d]? with
   | some (.val (.bool b))=>some (match want with | true=>b | false => !b)
   | some .unk=>none
   | some (.val _)=>some false
   | _=>none
  | none=>some false
def kQ (o:Oper):Bool :=
 match o.op with
 | .alloc _ | .box .. | .store .. => true
 | .call { callee := .builtin .append,.. }=>true
 | _=>false
def XB (o:Oper):Bool :=
 match o.op with
 | .call { callee := .value _,.. }=>true
 | _=>false
def Cc (tS:List TB) (nT:Nat):Bool :=
 match tS[nT]? with
 | some .none=>true
 | none=>nT==tS.length
 | _=>false
section
variable (P:Program) (ty:eY) (tt:TypeId→Option TT)
end
section
variable {P:Program} {ty:eY} {tt:TypeId→Option TT} {ι ι' w:jE} {S S':ak} {te:List TV} {env:List DV} {tS:List TB} {aC:bk} {call:aW} {yf:dR} {o:Oper} {ay nT:Nat} {B:List Nat} {r:TR} {ops:Array Oper}
theorem Xg {v:TV} {d:DV} (h:cq ι S te env) (hv:RT ι S v d) (dst:Option Tmp):cq ι S (j9 te dst v) (eP env dst d):=by
 cases dst with
 | none=>exact h
 | some t=>exact xL t h hv
theorem Gv:RT ι S JX aO:=by simp only[JX,aO,RT]
theorem fB (h:cq ι S te env) {b:Bool} (hw:dh ops te o=some b):bD ops env o=b:=by
 unfold dh at hw
 unfold bD
 split at hw
 ·rename_i e; cases hw; rw[e]
 ·rename_i j want e
  rw[e]
  dsimp only
  split at hw
  ·rename_i d e1
   rw[e1]
   dsimp only
   split at hw
   ·rename_i b' e2
    cases hw
    obtain⟨d',k1,k2⟩:=qg h e2
    cases d'<;>simp only[RT] at k2
    subst k2
    rw[k1]
    cases b'<;>cases want<;>rfl
   ·cases hw
   ·rename_i v hv e2
    cases hw
    obtain⟨d',k1,k2⟩:=qg h e2
    cases d'<;>simp only[RT] at k2
    rw[k2] at k1
    rw[k1]
    cases v<;>first | rfl | exact(hv _ rfl).elim
   ·cases hw
  ·rename_i e1
   cases hw
   rw[e1]
theorem Sk (h:Cc tS nT=true):u5 tS nT:=by
 unfold Cc at h
 split at h
 ·rename_i e; exact .inl e
 ·exact .inr (by simpa using h)
 ·cases h
def Es (w:jE) (f ft:cu):Prop:=(f.wr=true→ft.wr=true)∧∀ l,ft.ids=some l→∃ m,f.ids=some m∧∀ j∈m,∃ k∈l,w j=some k
def Does (P:Program) (ty:eY) (aC:bk) (call:aW) (yf:dR) (B:List Nat) (o:Oper) (nT:Nat) (te:List TV) (tS:List TB) (dr:Bool) (Q:TV→List TV→List TB→cu→Prop):Prop :=
 ∀ ι w env S ay,bL ι te tS env S→mo B tS→P9 ι w→u5 tS nT→u6 S ay→(dr=true→S[ay]? = some .none) →
  ∃ d S' ι' w' v bS bV f ft,(dr=false→ah P ty aC call yf (ga env) o S ay=some (d,S'))∧(dr=true→aB P ty aC call yf (ga env) o S ay=some (d,S',f))∧Es w' f ft∧(∀ l m,ft.ids=some l→f.ids=some m→∀ j∈m,j=ay∨∃ i,ι i=some j) ∧
   bL ι' bS bV env S'∧RT ι' S' v d∧P9 ι' w'∧(dr=true→∀ j,j≠ay→w' j=w j)∧Fr B ι S ι' S'∧mo B bV∧Nn ay S S'∧Q v bS bV ft
theorem qB (h:stepT P ty tt te tS o nT=some r) (hc:r.c) (dr:Bool):Does P ty aC call yf B o nT te tS dr fun v bS bV ft=>v=r.v∧bS=r.te∧bV=r.tS∧ft=⟨some r.Cj,kQ o⟩:=by
 intro ι w env S ay hR hB hw hT hn hS
 obtain⟨d,S',ι',w',h1,h2,h3,h4,h5,h6,h7,h8,h9⟩:=Om (aC:=aC) (call:=call) (yf:=yf) hR hB hw hT hn h hc
 refine⟨d,S',ι',w',r.v,r.te,r.tS,⟨some (eS (ga env) o ay),kQ o⟩,⟨some r.Cj,kQ o⟩,fun _=>h1,fun hd => ?_,⟨id,fun l hl=>⟨_,rfl,fun j hj=>by cases hl; exact(h6 j hj).1⟩⟩,fun l m hl hm j hj=>by cases hm; exact(h6 j hj).2,h2,h3,h4,fun _=>h5,h7,h8,h9,rfl,rfl,rfl,rfl⟩
 have ee:=hS hd
 cases ho:o.op with
 | alloc e=>simp only[aB,ho,ee,h1,Option.map_some,eS,kQ]
 | box t x=>simp only[aB,ho,ee,h1,Option.map_some,eS,kQ]
 | store t a x =>
  have:∃ id off,ga env a=some (.ptr id off):=by
   simp only[ah,ho] at h1
   split at h1
   ·rename_i a' v' e1 e2
    simp only[Option.map_eq_some_iff] at h1
    obtain⟨q,h1,-⟩:=h1
    unfold lu at h1
    split at h1
    ·exact⟨_,_,e1⟩
    ·simp only[stepT,ho] at h
     split at h
     ·rename_i t1 t2 t3
      obtain⟨d9,t4,t5⟩:=aS hR.env t2
      rw[e1] at t4
      cases t4
      simp only[RT] at t5
     ·cases h
    ·cases h1
   ·cases h1
  obtain⟨id,off,e⟩:=this
  simp only[aB,ho,e,h1,Option.map_some,eS,kQ]
 | load t a =>
  cases e:ga env a with
  | none=>simp only[ah,ho,e] at h1; cases h1
  | some da=>cases da<;>simp only[aB,ho,e,h1,Option.map_some,eS,kQ]
 | makeMap t x=>simp only[stepT,aZ,ho,Option.map_none] at h; cases h
 | makeSlice t x y=>simp only[stepT,aZ,ho,Option.map_none] at h; cases h
 | buildSlice t n ps =>
  have hh:ty.h o≠1:=by
   simp only[stepT,aZ,ho] at h
   intro e
   split at h
   ·split at h
    ·simp[e] at h
    ·cases h
   ·cases h
  simp only[aB,ho,h1,Option.map_some,eS,kQ]
 | fieldAddr t a f' =>
  cases e:ga env a with
  | none=>simp only[ah,ho,e] at h1; split at h1<;>simp_all
  | some da =>
   cases da with
   | dM id n off =>
    simp only[stepT,aZ,ho] at h
    split at h
    ·rename_i t1 t2
     obtain⟨d9,t4,t5⟩:=aS hR.env t2
     rw[e] at t4
     cases t4
     simp only[RT] at t5
    ·rename_i t1 t2
     obtain⟨d9,t4,t5⟩:=aS hR.env t2
     rw[e] at t4
     cases t4
     simp only[RT] at t5
    ·cases h
   | _=>simp only[aB,ho,e,h1,Option.map_some,eS,kQ]
 | indexAddr t a i =>
  cases e:ga env a with
  | none=>simp only[ah,ho,e] at h1; split at h1<;>simp_all
  | some da =>
   cases da with
   | gI id n ag =>
    simp only[stepT,aZ,ho] at h
    split at h
    ·rename_i t1 t2 t3
     simp only[Option.map_eq_some_iff] at t2
     obtain⟨u,t2,t6⟩:=t2
     obtain⟨d9,t4,t5⟩:=aS hR.env t2
     rw[e] at t4
     cases t4
     have t7:=bO (tt:=tt) (t:=t) t5
     rw[t6] at t7
     simp only[RT] at t7
    ·rename_i t1 t2 t3
     simp only[Option.map_eq_some_iff] at t2
     obtain⟨u,t2,t6⟩:=t2
     obtain⟨d9,t4,t5⟩:=aS hR.env t2
     rw[e] at t4
     cases t4
     have t7:=bO (tt:=tt) (t:=t) t5
     rw[t6] at t7
     simp only[RT] at t7
    ·rename_i t1 t2 t3
     simp only[Option.map_eq_some_iff] at t2
     obtain⟨u,t2,t6⟩:=t2
     obtain⟨d9,t4,t5⟩:=aS hR.env t2
     rw[e] at t4
     cases t4
     have t7:=bO (tt:=tt) (t:=t) t5
     rw[t6] at t7
     simp only[RT] at t7
    ·cases h
   | _=>simp only[aB,ho,e,h1,Option.map_some,eS,kQ]
 | lookup t m k b=>simp only[stepT,aZ,ho,Option.map_none] at h; cases h
 | mapUpdate t m k b=>simp only[stepT,aZ,ho,Option.map_none] at h; cases h
 | call cl =>
  obtain⟨callee,args,argTypes⟩:=cl
  cases callee with
  | builtin b =>
   cases b with
   | append =>
    have key:ty.h o≠1∧∀ id n ag,(args[0]?).bind (ga env)≠some (.gI id n ag):=by
     simp only[stepT,ho] at h
     split at h
     ·rename_i x y t u ha ht
      split at h
      ·rename_i Ma
       refine⟨Ma.2,fun id n ag he => ?_⟩
       have h0:args[0]? = some x:=by rw[← Array.getElem?_toList,ha]; rfl
       rw[h0] at he
       replace he:ga env x=some (.gI id n ag):=he
       split at h
       ·rename_i t1 t2 t3
        simp only[Option.map_eq_some_iff] at t2
        obtain⟨u,t2,t6⟩:=t2
        obtain⟨d9,t4,t5⟩:=aS hR.env t2
        rw[he] at t4
        cases t4
        have t7:=bO (tt:=tt) (t:=t) t5
        rw[t6] at t7
        simp only[RT] at t7
       ·cases h
      ·cases h
     ·cases h
    cases e:(args[0]?).bind (ga env) with
    | none=>simp only[aB,ho,ee,e,h1,Option.map_some,eS,kQ,if_neg key.1,yp,Bool.false_eq_true,if_false]
    | some da =>
     cases da with
     | sl rows tok f=>cases tok<;>simp only[aB,ho,ee,e,h1,Option.map_some,eS,kQ,if_neg key.1,yp,Bool.false_eq_true,if_false]
     | gI id n ag=>exact absurd e (key.2 id n ag)
     | _=>simp only[aB,ho,ee,e,h1,Option.map_some,eS,kQ,if_neg key.1,yp,Bool.false_eq_true,if_false]
   | _=>simp only[aB,ho,h1,Option.map_some,eS,kQ]
  | value f=>simp only[stepT,aZ,ho,Option.map_none] at h; cases h
  | _=>simp only[aB,ho,h1,Option.map_some,eS,kQ]
 | _=>simp only[aB,ho,h1,Option.map_some,eS,kQ]
def WL (P:Program) (ty:eY) (aC:bk) (call:aW) (yf:dR) (B:List Nat) (ops:Array Oper) (k:Nat) (te:List TV) (tS:List TB) (Q:List TV→List TB→Prop):Prop :=
 ∀ ι env S,bL ι te tS env S→mo B tS→∃ ax S' ι' bS bV,Ca P ty aC call yf ops (ops.toList.drop k) env S=some (ax,S')∧bL ι' bS bV ax S'∧mo B bV∧Fr B ι S ι' S'∧Nn S.length S S'∧Q bS bV
theorem Gs (h:bL ι te tS env S):∃ w,P9 ι w:=by
 refine⟨fun k'=>(Classical.epsilon fun o:Option Nat=>∀ k,ι k=some k'→o=some k),fun k k' hk => ?_⟩
 have:∃ o:Option Nat,∀ j,ι j=some k'→o=some j:=⟨some k,fun j hj=>congrArg some (h.inj _ _ _ hk hj)⟩
 exact Classical.epsilon_spec this k hk
theorem pn {rH:ak} (h:Nn S.length S S') (k:Nn S'.length S' rH):Nn S.length S rH:=by
 refine⟨Nat.le_trans h.1 k.1,fun j hj hn => ?_⟩
 have h1:=h.2 j hj hn
 have:=(List.getElem?_eq_some_iff.1 h1).1
 exact k.2 j (by omega) h1
theorem kC (h:bL ι te tS env S) {v:TV} {d:DV} (hv:RT ι S v d) (dst:Option Tmp):bL ι (j9 te dst v) tS (eP env dst d) S:=⟨Xg h.env hv dst,h.cells,h.own,h.uP,h.inj,h.mp⟩
theorem kG {k:Nat} (ho:ops[k]? = some o):ops.toList.drop k=o::ops.toList.drop (k+1):=by
 have h:ops.toList[k]? = some o:=by simpa using ho
 obtain⟨hk,rfl⟩:=List.getElem?_eq_some_iff.1 h
 exact List.drop_eq_getElem_cons hk
theorem WE {k:Nat} (hk:ops.size≤k) {Q:List TV→List TB→Prop} (h:Q te tS):WL P ty aC call yf B ops k te tS Q:=by
 intro ι env S hR hB
 rw[List.drop_eq_nil_of_le (by simpa using hk)]
 exact⟨env,S,ι,te,tS,rfl,hR,hB,Fr.refl _ _ _,ew _ _,h⟩
theorem Rr {k:Nat} (ho:ops[k]? = some o) (hw:dh ops te o=some false) {Q:List TV→List TB→Prop}
  (h:WL P ty aC call yf B ops (k+1) (j9 te o.dst JX) tS Q):WL P ty aC call yf B ops k te tS Q:=by
 intro ι env S hR hB
 obtain⟨ax,rH,ι'',rK,rM,k1,k2,k3,k4,k5,k6⟩:=h ι (eP env o.dst aO) S (kC hR Gv _) hB
 refine⟨ax,rH,ι'',rK,rM,?_,k2,k3,k4,k5,k6⟩
 rw[kG ho]
 simp only[Ca,fB hR.env hw,Bool.false_eq_true,if_false,k1]
theorem FL {k:Nat} {r:List Oper} (h:ops.toList.drop k=o::r):ops[k]? = some o∧r=ops.toList.drop (k+1):=by
 have h1:ops.toList[k]? = some o:=by
  have:=congrArg (·[0]?) h
  simpa using this
 refine⟨by simpa using h1,?_⟩
 have:=congrArg List.tail h
 simpa using this.symm
end
end Go.Tv
end
section
namespace Go.Tv
open Go Go.Di
variable {P:Program} {ty:eY} {tt:TypeId→Option TT} {ι ι' w:jE} {S S':ak} {te:List TV} {env:List DV} {tS:List TB} {aC:bk} {call:aW} {yf:dR} {o:Oper} {ay nT:Nat} {B:List Nat} {r:TR} {ops:Array Oper}
def WQ (P:Program) (ty:eY) (aC:bk) (call:aW) (yf:dR) (ops:Array Oper) (tS:List TB) (k:Nat) (te:List TV) (Q:List TV→Prop):Prop :=
 ∀ ι env S,bL ι te tS env S→∃ ax bS,mq P ty aC call yf ops S (ops.toList.drop k) env=some ax∧bL ι bS tS ax S∧Q bS
theorem Nv {k:Nat} (hk:ops.size≤k) {Q:List TV→Prop} (h:Q te):WQ P ty aC call yf ops tS k te Q:=by
 intro ι env S hR
 rw[List.drop_eq_nil_of_le (by simpa using hk)]
 exact⟨env,te,rfl,hR,h⟩
theorem Rq {k:Nat} (ho:ops[k]? = some o) (hw:dh ops te o=some false) {Q:List TV→Prop} (h:WQ P ty aC call yf ops tS (k+1) (j9 te o.dst JX) Q):WQ P ty aC call yf ops tS k te Q:=by
 intro ι env S hR
 obtain⟨ax,bS,k1,k2,k3⟩:=h ι (eP env o.dst aO) S (kC hR Gv _)
 refine⟨ax,bS,?_,k2,k3⟩
 rw[kG ho]
 simp only[mq,fB hR.env hw,Bool.false_eq_true,if_false,k1]
theorem Ht {ρ:Operand→Option DV} {d:DV} (hp:∃ q,aZ P ty tt te tS o=some q) (h:ah P ty aC call yf ρ o S S.length=some (d,S)):b7 P ty aC call yf ρ o S=some d:=by
 obtain⟨q,hp⟩:=hp
 cases ho:o.op with
 | alloc e=>simp only[aZ,ho] at hp; cases hp
 | box t x=>simp only[aZ,ho] at hp; cases hp
 | store t a x=>simp only[aZ,ho] at hp; cases hp
 | makeMap t x=>simp only[aZ,ho] at hp; cases hp
 | makeSlice t x y=>simp only[aZ,ho] at hp; cases hp
 | buildSlice t n ps =>
  have hh:ty.h o≠1:=by
   simp only[aZ,ho] at hp
   intro e
   split at hp
   ·split at hp
    ·simp[e] at hp
    ·cases hp
   ·cases hp
  simp only[b7,ho,h,Option.map_some]
 | mapUpdate t m k b=>simp only[aZ,ho] at hp; cases hp
 | call cl =>
  obtain⟨callee,args,argTypes⟩:=cl
  cases callee with
  | builtin b =>
   cases b with
   | append=>simp only[aZ,ho] at hp; cases hp
   | _=>simp only[b7,ho,h,Option.map_some]
  | value f=>simp only[aZ,ho] at hp; cases hp
  | _=>simp only[b7,ho,h,Option.map_some]
 | _=>simp only[b7,ho,h,Option.map_some]
theorem IM {k:Nat} {v:TV} {c:Prop} (ho:ops[k]? = some o) (hw:dh ops te o=some true) (hp:aZ P ty tt te tS o=some (v,c)) (hc:c) {Q:List TV→Prop} (h:WQ P ty aC call yf ops tS (k+1) (j9 te o.dst v) Q):WQ P ty aC call yf ops tS k te Q:=by
 intro ι env S hR
 obtain⟨d,h1,h2⟩:=ES (aC:=aC) (call:=call) (yf:=yf) (ay:=S.length) hR.env hR.cells hp hc
 obtain⟨ax,bS,k1,k2,k3⟩:=h ι (eP env o.dst d) S (kC hR h2 _)
 refine⟨ax,bS,?_,k2,k3⟩
 rw[kG ho]
 simp only[mq,fB hR.env hw,if_true,Ht ⟨_,hp⟩ h1,k1]
def IJ (w:jE):List cu→List cu→Prop
 | [],[]=>True
 | f::l,g::m=>Es w f g∧IJ w l m
 | _,_=>False
theorem zf {w:jE}:∀ {l m:List cu} {i:Nat} {f:cu},IJ w l m→l[i]? = some f→∃ g,m[i]? = some g∧Es w f g
 | [],_,_,_,_,h=>by simp at h
 | _::_,[],_,_,h,_=>h.elim
 | f::l,g::m,0,f',h,hx=>by
  simp only[List.getElem?_cons_zero,Option.some.injEq] at hx
  subst hx
  exact⟨g,rfl,h.1⟩
 | f::l,g::m,i+1,f',h,hx=>by
  obtain⟨g',h1,h2⟩:=zf (i:=i) h.2 (by simpa using hx)
  exact⟨g',by simpa using h1,h2⟩
theorem Pa {w:jE} {f g f' g':cu} (hf:Es w f f') (hg:Es w g g') (h:f.meets g=true):f'.meets g'=true:=by
 obtain⟨fi,fw⟩:=f
 obtain⟨gi,gw⟩:=g
 obtain⟨fi',fw'⟩:=f'
 obtain⟨gi',gw'⟩:=g'
 obtain⟨Mg,TE⟩:=hf
 obtain⟨Y0,Qs⟩:=hg
 simp only[cu.meets,Bool.and_eq_true,Bool.or_eq_true] at h ⊢
 refine⟨h.1.imp Mg Y0,?_⟩
 have h:=h.2
 have ne:∀ {m l:List Nat},(∀ j∈m,∃ k∈l,w j=some k)→m≠[]→(!l.isEmpty)=true:=by
  intro m l hml hm
  cases m with
  | nil=>exact(hm rfl).elim
  | cons j m =>
   obtain⟨k,hk,-⟩:=hml j (by simp)
   cases l with
   | nil=>cases hk
   | cons _ _=>rfl
 cases fi' with
 | none =>
  cases gi' with
  | none=>rfl
  | some l' =>
   obtain⟨m,e,hm⟩:=Qs _ rfl
   simp only at e
   subst e
   refine ne hm ?_
   rintro rfl
   cases fi<;>simp at h
 | some l =>
  obtain⟨m,e,hm⟩:=TE _ rfl
  simp only at e
  subst e
  cases gi' with
  | none =>
   refine ne hm ?_
   rintro rfl
   cases gi<;>simp at h
  | some l' =>
   obtain⟨m',e,F0⟩:=Qs _ rfl
   simp only at e
   subst e
   simp only[List.any_eq_true,List.contains_iff_mem] at h ⊢
   obtain⟨j,hj,uS⟩:=h
   obtain⟨k,hk,e1⟩:=hm j hj
   obtain⟨k',pZ,e2⟩:=F0 j uS
   rw[e1] at e2
   cases e2
   exact⟨k,hk,pZ⟩
theorem Xv {w:jE} {b:Array Nat} {fs ft:List cu} (hf:IJ w fs ft) (h:oM b ft=true):oM b fs=true:=by
 simp only[oM,List.all_eq_true,List.mem_iff_getElem?,List.getElem?_zipIdx,Option.map_eq_some_iff,Prod.forall,Prod.mk.injEq] at h ⊢
 rintro f i ⟨i',f0,h1,rfl,rfl⟩ g j ⟨j',g0,h2,rfl,rfl⟩
 obtain⟨f',k1,k2⟩:=zf hf h1
 obtain⟨g',k3,k4⟩:=zf hf h2
 have:=h f' (0+i') ⟨i',f',k1,rfl,rfl⟩ g' (0+j') ⟨j',g',k3,rfl,rfl⟩
 simp only[Bool.or_eq_true,Bool.not_eq_true'] at this ⊢
 refine this.imp (Or.imp (Or.imp id fun hn => ?_) id) id
 cases hm:f0.meets g0 with
 | false=>rfl
 | true=>rw[Pa k2 k4 hm] at hn; cases hn
def WD (P:Program) (ty:eY) (aC:bk) (call:aW) (yf:dR) (B:List Nat) (ops:Array Oper) (k:Nat) (te:List TV) (tS:List TB) (fs:List cu) (Q:List TV→List TB→Prop):Prop :=
 ∀ ι w env S n0,bL ι te tS env S→mo B tS→P9 ι w→(∀ j,k≤j→j<ops.size→S[n0+j]? = some .none) →
  ∃ ax S' x5 ι' w' bS bV ft,oe P ty aC call yf ops n0 (ops.toList.drop k) k env S=some (ax,S',x5)∧IJ w' x5 ft∧(∀ j,(∀ i,k≤i→i<ops.size→j≠n0+i)→w' j=w j)∧oM (Region.before ops) (fs++ft)=true ∧
   bL ι' bS bV ax S'∧mo B bV∧Fr B ι S ι' S'∧(S.length≤S'.length∧∀ j,(∀ i,k≤i→i<ops.size→j≠n0+i)→S[j]? = some .none→S'[j]? = some .none)∧Q bS bV
variable {n0T:Nat} {fs:List cu}
theorem WM {k:Nat} (hk:ops.size≤k) {Q:List TV→List TB→Prop} (hm:oM (Region.before ops) fs=true) (h:Q te tS):WD P ty aC call yf B ops k te tS fs Q:=by
 intro ι w env S n0 hR hB hw hn
 rw[List.drop_eq_nil_of_le (by simpa using hk)]
 exact⟨env,S,[],ι,w,te,tS,[],rfl,trivial,fun _ _=>rfl,by simpa using hm,hR,hB,Fr.refl _ _ _,⟨Nat.le_refl _,fun _ _ h=>h⟩,h⟩
theorem yj {k:Nat} (ho:ops[k]? = some o) (hw:dh ops te o=some true) (qO:Cc tS (n0T+k)=true) {Q:List TV→List TB→Prop} {K:TV→List TV→List TB→cu→Prop} (hd:Does P ty aC call yf B o (n0T+k) te tS true K)
  (h:∀ v bS bV ft,K v bS bV ft→WD P ty aC call yf B ops (k+1) (j9 bS o.dst v) bV (fs++[ft]) Q):WD P ty aC call yf B ops k te tS fs Q:=by
 intro ι w env S n0 hR hB YK hn
 have hsz:k<ops.size:=(Array.getElem?_eq_some_iff.1 ho).1
 have QV:=hn k (Nat.le_refl _) hsz
 obtain⟨d,S',ι',w',v,bS,bV,f,ft,h1,h2,h3,h4,h5,h6,h7,h8,h9,uU,DM,TP⟩:=hd ι w env S (n0+k) hR hB YK (Sk qO) (.inl QV) (fun _=>QV)
 obtain⟨ax,rH,x5,ι'',LZ,rK,rM,fts,k1,k2,k3,k4,k5,k6,k7,k8,k9⟩:=h v bS bV ft TP ι' w' (eP env o.dst d) S' n0 (kC h5 h6 _) uU h7 (fun j hj uS=>DM.2 _ (by omega) (hn j (by omega) uS))
 refine⟨ax,rH,f::x5,ι'',LZ,rK,rM,ft::fts,?_,⟨⟨h3.1,fun l hl => ?_⟩,k2⟩,fun j hj => ?_,?_,k5,k6,h9.trans k7,⟨Nat.le_trans DM.1 k8.1,fun j hj ee => ?_⟩,k9⟩
 ·rw[kG ho]
  simp only[oe,fB hR.env hw,if_true,h2 rfl,k1]
 ·obtain⟨m,e1,e2⟩:=h3.2 l hl
  refine⟨m,e1,fun j hj => ?_⟩
  obtain⟨k',pZ,e3⟩:=e2 j hj
  refine⟨k',pZ,?_⟩
  rw[k3 j ?_]
  ·exact e3
  ·intro i hi H9 he
   rcases h4 l m hl e1 j hj with rfl | ⟨i',ab9⟩
   ·omega
   ·obtain⟨b,e4,e5⟩:=hR.live ab9
    rw[he,hn i (by omega) H9] at e4
    cases e4
    exact e5 rfl
 ·rw[k3 j fun i hi H9=>hj i (by omega) H9,h8 rfl j (hj k (Nat.le_refl _) hsz)]
 ·simpa using k4
 ·exact k8.2 j (fun i hi H9=>hj i (by omega) H9) (DM.2 j (hj k (Nat.le_refl _) hsz) ee)
theorem Rz {k:Nat} (ho:ops[k]? = some o) (hw:dh ops te o=some false) {Q:List TV→List TB→Prop}
  (h:WD P ty aC call yf B ops (k+1) (j9 te o.dst JX) tS (fs++[⟨some [],false⟩]) Q):WD P ty aC call yf B ops k te tS fs Q:=by
 intro ι w env S n0 hR hB YK hn
 have hsz:k<ops.size:=(Array.getElem?_eq_some_iff.1 ho).1
 obtain⟨ax,rH,x5,ι'',LZ,rK,rM,fts,k1,k2,k3,k4,k5,k6,k7,k8,k9⟩:=h ι w (eP env o.dst aO) S n0 (kC hR Gv _) hB YK (fun j hj uS=>hn j (by omega) uS)
 refine⟨ax,rH,⟨some [],false⟩::x5,ι'',LZ,rK,rM,⟨some [],false⟩::fts,?_,⟨⟨id,fun l hl=>⟨[],rfl,fun j hj=>by cases hj⟩⟩,k2⟩,fun j hj => ?_,?_,k5,k6,k7,⟨k8.1,fun j hj ee => ?_⟩,k9⟩
 ·rw[kG ho]
  simp only[oe,fB hR.env hw,Bool.false_eq_true,if_false,k1]
 ·exact k3 j fun i hi H9=>hj i (by omega) H9
 ·simpa using k4
 ·exact k8.2 j (fun i hi H9=>hj i (by omega) H9) ee
def MV (o:Oper):Bool :=
 o.guard.isNone&&match o.op with
 | .alloc _ | .box .. | .store .. | .makeMap .. | .mapUpdate .. => true
 | .call { callee := .builtin .append,.. }=>true
 | _=>false
theorem sw:∀ {l:List Oper} {env:List DV},l.any MV=true→mq P ty aC call yf ops S l env=none
 | [],_,h=>by cases h
 | o::l,env,h=>by
  simp only[List.any_cons,Bool.or_eq_true] at h
  simp only[mq]
  rcases h with h | h
  ·simp only[MV,Bool.and_eq_true] at h
   obtain⟨h1,h2⟩:=h
   have hw:bD ops env o=true:=by
    unfold bD
    rw[Option.isNone_iff_eq_none.1 h1]
   have hq:b7 P ty aC call yf (ga env) o S=none:=by
    split at h2
    ·rename_i ho; simp only[b7,ho]
    ·rename_i ho; simp only[b7,ho]
    ·rename_i ho; simp only[b7,ho]
    ·rename_i ho; simp only[b7,ho]
    ·rename_i ho; simp only[b7,ho]
    ·rename_i ho; simp only[b7,ho]
    ·cases h2
   simp only[hw,if_true,hq]
  ·split
   ·split
    ·exact sw h
    ·rfl
   ·exact sw h
def qY (P:Program) (ops:Array Oper):Bool:=ops.toList.any MV||ops.toList.any (CW P)
theorem Ld {env:List DV} (h:qY P ops=true):(if ops.toList.any (CW P) then none else mq P ty aC call yf ops S ops.toList env)=none:=by
 split
 ·rfl
 ·rename_i hp
  unfold qY at h
  rw[Bool.not_eq_true] at hp
  rw[hp,Bool.or_false] at h
  exact sw h
theorem ext_get {S:ak} {n k:Nat} (h:Lv S k):(S++List.replicate n .none)[k]? = S[k]? := by
 obtain⟨b,h1,-⟩:=h
 exact List.getElem?_append_left (List.getElem?_eq_some_iff.1 h1).1
theorem R5 (h:bL ι te tS env S) (n m:Nat):bL ι te (tS++List.replicate n .none) env (S++List.replicate m .none):=by
 have hl:∀ k k',ι k=some k'→(S++List.replicate m DB.none)[k']? = S[k']? := fun k k' hk=>ext_get (h.live hk)
 have K:jo ι S ι (S++List.replicate m .none) fun _=>False:=fun k k' _ hk=>⟨hk,dX (hl k k' hk)⟩
 have hT:∀ (k:Nat) (b:TB),(tS++List.replicate n TB.none)[k]? = some b→b ≠ .none→tS[k]? = some b:=by
  intro k b hk hb
  rw[List.getElem?_append] at hk
  split at hk
  ·exact hk
  ·rw[List.getElem?_replicate] at hk
   split at hk
   ·cases hk; exact(hb rfl).elim
   ·cases hk
 refine⟨aY K _ _ h.env,fun k l hk => ?_,fun k e s hk t ht => ?_,fun k k' hk => ?_,h.inj,fun k b hk t ht=>by
  rw[hl k t ht]
  cases b with
  | none=>trivial
  | _=>exact h.mp k _ (hT k _ hk (fun e=>by cases e)) t ht⟩
 ·obtain⟨k',ds,h1,h2,h3⟩:=h.cells k l (hT k _ hk (fun e=>by cases e))
  exact⟨k',ds,h1,by rw[hl k k' h1]; exact h2,aY K _ _ h3⟩
 ·obtain⟨n',h1⟩:=h.own k e s (hT k _ hk (fun e=>by cases e)) t ht
  exact⟨n',by rw[hl k t ht]; exact h1⟩
 ·obtain⟨b,h1,h2⟩:=h.uP k k' hk
  exact⟨b,by rw[List.getElem?_append_left (List.getElem?_eq_some_iff.1 h1).1]; exact h1,h2⟩
end Go.Tv
end
