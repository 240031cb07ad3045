import Derived.Test.YtedcgbkilmlbhaaPk02
section
namespace Go.Tv
open Go Go.Di
variable {P:Program} {ty:eS} {tt:TypeId→Option TT} {ι ι' w:jR} {S S':ak} {te:List TV} {env:List DV} {tS:List TB} {aD:bq} {call:bg} {yf:dF} {o:Oper} {ay nT:Nat} {B:List Nat} {r:TR}
theorem MG:∀ {l:List TV} {m:List DV},cG ι S l m→l.all Yt=true→m.all DV.one=true
 | [],m,h,_=>by rw[aM h]; rfl
 | a::l,m,h,k=>by
  obtain⟨d,m',rfl,h1,h2⟩:=aj h
  simp only[List.all_cons,Bool.and_eq_true] at k ⊢
  refine⟨?_,MG h2 k.2⟩
  cases a<;>cases d<;>simp only[RT] at h1<;>first | rfl | (cases k.1; done) | (subst h1; exact k.1)
def B7 (P:Program) (ty:eS) (aD:bq) (call:bg) (yf:dF) (B:List Nat) (ι w:jR) (env:List DV) (S:ak) (o:Oper) (ay:Nat) (r:TR):Prop :=
 ∃ d S' ι' w',ah P ty aD call yf (fM env) o S ay=some (d,S')∧bS ι' r.te r.tS env S'∧RT ι' S' r.v d∧Pj ι' w'∧(∀ j,j≠ay→w' j=w j)∧(∀ j∈eH (fM env) o ay,(∃ k∈r.BL,w' j=some k)∧(j=ay∨∃ i,ι i=some j))∧Fr B ι S ι' S'∧lJ B r.tS∧Nn ay S S'
theorem Nt (h:bS ι te tS env S) (hB:lJ B tS) (hw:Pj ι w) {t:TypeId} {a x:Operand} (ho:o.op = .store t a x) (hr:stepT P ty tt te tS o nT=some r):B7 P ty aD call yf B ι w env S o ay r:=by
 simp only[stepT,ho] at hr
 split at hr
 ·rename_i td id off v h1 h2 h3
  split at hr
  ·rename_i l h4
   split at hr
   ·rename_i hc
    simp only[Bool.and_eq_true,beq_iff_eq] at hc
    obtain⟨⟨c1,c2⟩,c3⟩:=hc
    simp only[Option.map_eq_some_iff] at hr h3
    obtain⟨l',h5,rfl⟩:=hr
    obtain⟨u,h6,h7⟩:=h3
    obtain⟨da,k1,k2⟩:=aS h.env h2
    cases da<;>simp only[RT] at k2
    rename_i gf qi
    obtain⟨k3,rfl⟩:=k2
    obtain⟨d,k4,k5⟩:=aS h.env h6
    have k6:=bN (tt:=tt) (t:=t) k5
    rw[h7] at k6
    have k7:=oL c1 k6
    obtain⟨abH,ds,m1,m2,m3⟩:=h.cells id l h4
    rw[k3] at m1
    cases m1
    obtain⟨fD,m4,m5⟩:=Cq m3 k7 h5
    have K:jx ι S ι (S.set gf (.cells fD)) fun _=>False:=fun k k' _ hk=>⟨hk,by
     rw[List.getElem?_set]
     split
     ·rename_i e1; subst e1; exact wP (by rw[m2]; simp) (by rw[m2]; simp)
     ·exact dU rfl⟩
    have hlt:=(List.getElem?_eq_some_iff.1 m2).1
    refine⟨aV,S.set gf (.cells fD),ι,w,?_,?_,by simp only[RT],hw,fun _ _=>rfl,?_,uu k3,?_,uo m2 (fun e=>by cases e)⟩
    ·have e1:d.cells.length=td.size:=by rw[fJ k7]; exact c2
     simp only[ah,ho,k1,k4,kM,h1,m2,e1,MG k7 c3,decide_true,Bool.and_self,if_true,m4,Option.map_some]
    ·refine⟨bw K _ _ h.env,fun k l0 hk => ?_,fun k e s hk t0 ht => ?_,fun k k' hk => ?_,h.inj,fun k b0 hk t0 ht => ?_⟩
     ·simp only[List.getElem?_set] at hk
      split at hk
      ·rename_i e1
       subst e1
       split at hk
       ·cases hk
        exact⟨gf,fD,k3,by rw[List.getElem?_set,if_pos rfl,if_pos hlt],bw K _ _ m5⟩
       ·cases hk
      ·rename_i e1
       obtain⟨k',Lh,n1,n2,n3⟩:=h.cells k l0 hk
       refine⟨k',Lh,n1,?_,bw K _ _ n3⟩
       rw[List.getElem?_set,if_neg ?_]
       ·exact n2
       ·rintro rfl; exact e1 (h.inj _ _ _ k3 n1)
     ·simp only[List.getElem?_set] at hk
      split at hk
      ·split at hk<;>cases hk
      ·obtain⟨n,n1⟩:=h.own k e s hk t0 ht
       exact⟨n,(K k t0 (fun e=>e) ht).2.1 _ _ _ n1⟩
     ·simp only[List.getElem?_set]
      split
      ·rename_i e1
       subst e1
       have:=(List.getElem?_eq_some_iff.1 h4).1
       exact⟨_,if_pos this,fun e=>by cases e⟩
      ·exact h.sw k k' hk
     ·simp only[List.getElem?_set] at hk
      split at hk
      ·split at hk<;>cases hk
       trivial
      ·rename_i e1
       rw[List.getElem?_set,if_neg]
       ·exact h.mp k b0 hk t0 ht
       ·rintro rfl; exact e1 (h.inj _ _ _ k3 ht)
    ·intro j hj
     simp only[eH,ho,k1,List.mem_singleton] at hj
     subst hj
     exact⟨⟨id,by simp,hw _ _ k3⟩,.inr ⟨_,k3⟩⟩
    ·intro k hk
     simp only[List.getElem?_set]
     split
     ·rename_i e1
      subst e1
      exact⟨_,if_pos (List.getElem?_eq_some_iff.1 h4).1⟩
     ·exact hB k hk
   ·cases hr
  ·cases hr
 ·cases hr
theorem JF {k k':TT} (h:k'=k) {m:List k'.den} {rows:List DV} (hr:dn (CR k') k'.agg m rows):dn (CR k) k.agg (h▸m) rows:=by
 subst h
 exact hr
theorem Ex {k k':TT} (h:k'=k) (m:List k'.den):(h▸m:List k.den).length=m.length:=by
 subst h
 rfl
theorem vM {rows:List DV} (h:rows.isEmpty=true):rows=[]:=List.isEmpty_iff.1 h
theorem Ky (h:bS ι te tS env S) (hB:lJ B tS) (hw:Pj ι w) (hT:uf tS nT) (hn:ug S ay) {args:Array Operand} {argTypes:Array TypeId} (ho:o.op = .call { callee := .builtin .append,args,argTypes }) (hr:stepT P ty tt te tS o nT=some r) (hc:r.c):B7 P ty aD call yf B ι w env S o ay r:=by
 simp only[stepT,ho] at hr
 split at hr
 ·rename_i x y t u ha ht
  split at hr
  ·rename_i K4
   obtain⟨K4,hh⟩:=K4
   subst K4
   split at hr
   ·rename_i e s iO ag sz z0 k l ap k' m _ h1 h2 h3
    split at hr
    ·rename_i k0 sz' z h4
     split at hr
     ·rename_i I6
      split at hr
      ·rename_i kH
       simp only[Bool.and_eq_true,beq_iff_eq,decide_eq_true_eq] at kH
       obtain⟨⟨c1,c2⟩,c3⟩:=kH
       simp only[Option.map_eq_some_iff] at h2 h3
       obtain⟨ux,e1,e2⟩:=h2
       obtain⟨uy,e3,e4⟩:=h3
       obtain⟨da,k1,k2⟩:=aS h.env e1
       have k3:=bN (tt:=tt) (t:=t) k2
       rw[e2] at k3
       obtain⟨db,k4,k5⟩:=aS h.env e3
       have k6:=bN (tt:=tt) (t:=t) k5
       rw[e4] at k6
       cases da<;>simp only[RT] at k3
       rename_i rows tok f
       cases db<;>simp only[RT] at k6
       rename_i news aah f'
       obtain⟨k3,kap⟩:=k3
       obtain⟨k6,-⟩:=k6
       have W4:=iI k3
       have Ua:=iI k6
       have k6':=JF I6 k6
       have U5:=vE k3 k6'
       have Lc:(rows.all fun r=>decide (r.cells.length=s))=true:=List.all_eq_true.2 fun r hr=>decide_eq_true ((ga k3 r hr).trans c3)
       have xe:(news.all fun r=>decide (r.cells.length=s))=true:=List.all_eq_true.2 fun r hr=>decide_eq_true ((ga k6' r hr).trans c3)
       have hx:(args[0]?).bind (fM env)=some (.sl rows tok f):=by
        have:args[0]? = some x:=by rw[← Array.getElem?_toList,ha]; rfl
        rw[this]; exact k1
       have Dr:eH (fM env) o ay=match tok with | some t=>[t,ay] | none=>[ay]:=by
        simp only[eH,ho,hx]
        cases tok<;>rfl
       have P8:l.length+m.length≤1000000000→(decide (0<s)&&decide ((rows.length+news.length)*iO≤dz)&&decide (rows.length+news.length≤140737488355328-4096)&&news.all (fun r=>decide (r.cells.length=s)))=true:=by
        intro hle
        simp only[Bool.and_eq_true,decide_eq_true_eq]
        rw[W4,Ua]
        refine⟨⟨⟨c1,?_⟩,by omega⟩,xe⟩
        calc (l.length+m.length)*iO≤1000000000*100000:=Nat.mul_le_mul hle c2
         _≤dz:=by decide
       have hz:∀ d S',gq ty S ay t (.sl rows tok f) (.sl news aah f')=some (d,S')→ah P ty aD call yf (fM env) o S ay=some (d,S'):=by
        intro d S' hd
        simp only[ah,ho,ha,ht,if_true,k1,k4,hd]
       split at hr
       ·cases hr
       ·
        split at hr
        rotate_left
        ·cases hr
        rename_i MQ
        simp only[Option.some.injEq] at hr
        subst hr
        obtain⟨rfl,sG⟩:=kap
        have P9:=P8 hc
        by_cases Hh:news.isEmpty=true
        ·have hm:m=[]:=List.eq_nil_of_length_eq_zero (by rw[← Ua,vM Hh]; rfl)
         subst hm
         refine⟨.sl rows none f,S,ι,upd w ay nT,hz _ _ (by simp only[gq,h1,Hh,if_true]),?_,?_,?_,?_,?_,Fr.refl _ _ _,iK hB hT,dZ _ _⟩
         ·refine⟨h.env,fun k0 l0 hk => ?_,fun k0 e0 s0 hk t0 Ah => ?_,fun k0 k1 hk => ?_,h.inj,fun k0 b0 hk t0 Ah => ?_⟩
          ·rw[bK hT] at hk
           split at hk
           ·cases hk
           ·exact h.cells _ _ hk
          ·rw[bK hT] at hk
           split at hk
           ·rename_i e5; subst e5; rw[h.new hT] at Ah; cases Ah
           ·exact h.own _ _ _ hk _ Ah
          ·rw[bK hT]
           split
           ·exact⟨_,rfl,fun e=>by cases e⟩
           ·exact h.sw _ _ hk
          ·rw[bK hT] at hk
           split at hk
           ·cases hk; trivial
           ·exact h.mp _ _ hk _ Ah
         ·simp only[RT]
          have Uc:l=[]:=by
           cases l with
           | nil=>rfl
           | cons a l=>simp[MU] at MQ
          refine⟨?_,.inl ⟨rfl,sG,by rw[W4,Uc]; rfl⟩⟩
          have e7:(I6▸([]:List k'.den):List k.den)=[]:=List.eq_nil_of_length_eq_zero (by rw[Ex]; rfl)
          rw[e7,List.append_nil]
          exact k3
         ·intro a b kV
          unfold upd
          rw[if_neg (h.cC hn kV)]
          exact hw _ _ kV
         ·intro j hj; unfold upd; rw[if_neg hj]
         ·intro j hj
          rw[Dr,List.mem_singleton] at hj
          exact⟨⟨nT,by simp,by simp[upd,hj]⟩,.inl hj⟩
        ·have K:=pV h hT hn (.tail e s ((rows.length+news.length)*s))
         refine⟨.sl (rows++news) (some ay) ⟨false,none⟩,cW S ay (.tail e s ((rows.length+news.length)*s)),upd ι nT ay,upd w ay nT,hz _ _ ?_,?_,?_,nj h hn hT hw,?_,?_,oF hn (j5 hB hT),iK hB hT,lF hn⟩
         ·simp only[gq,h1,Hh,Bool.false_eq_true,if_false,h4,P9,if_true,sG,Lc,Bool.and_self]
         ·refine⟨bw K _ _ h.env,fun k0 l0 hk => ?_,fun k0 e0 s0 hk t0 Ah => ?_,fun k0 k1 hk => ?_,fun i j k1 hi hj => ?_,fun k0 b0 hk t0 Ah => ?_⟩
          ·rw[bK hT] at hk
           split at hk
           ·cases hk
           ·rename_i e5
            obtain⟨k',fD,n1,n2,n3⟩:=h.cells _ _ hk
            exact⟨k',fD,by simp only[upd,e5,if_false]; exact n1,by rw[aQ hn,if_neg (h.cC hn n1)]; exact n2,bw K _ _ n3⟩
          ·rw[bK hT] at hk
           split at hk
           ·rename_i e5
            cases hk
            simp only[upd,e5,if_true,Option.some.injEq] at Ah
            subst Ah
            exact⟨_,by rw[aQ hn,if_pos rfl]⟩
           ·rename_i e5
            simp only[upd,e5,if_false] at Ah
            obtain⟨n,n1⟩:=h.own _ _ _ hk _ Ah
            exact⟨n,by rw[aQ hn,if_neg (h.cC hn Ah)]; exact n1⟩
          ·rw[bK hT]
           split
           ·exact⟨_,rfl,fun e=>by cases e⟩
           ·rename_i e5
            simp only[upd,e5,if_false] at hk
            exact h.sw _ _ hk
          ·unfold upd at hi hj
           split at hi<;>split at hj
           ·omega
           ·cases hi; exact(h.cC hn hj rfl).elim
           ·cases hj; exact(h.cC hn hi rfl).elim
           ·exact h.inj i j k1 hi hj
          ·rw[bK hT] at hk
           split at hk
           ·cases hk; trivial
           ·rename_i e5
            simp only[upd,e5,if_false] at Ah
            rw[aQ hn,if_neg (h.cC hn Ah)]
            exact h.mp _ _ hk _ Ah
         ·simp only[RT]
          refine⟨U5,.inr ⟨ay,e,s,by simp[upd],rfl,?_⟩⟩
          rw[aQ hn,if_pos rfl,List.length_append]
         ·intro j hj; unfold upd; rw[if_neg hj]
         ·intro j hj
          rw[Dr,List.mem_singleton] at hj
          exact⟨⟨nT,by simp,by simp[upd,hj]⟩,.inl hj⟩
       ·
        rename_i g
        split at hr
        ·rename_i e' s' dm
         split at hr
         ·rename_i hes
          simp only[Bool.and_eq_true,beq_iff_eq] at hes
          obtain⟨rfl,rfl⟩:=hes
          simp only[Option.some.injEq] at hr
          subst hr
          have P9:=P8 hc
          have XK:∀ j,(tS.map (nW g))[j]? = (tS[j]?).map (nW g):=fun j=>List.getElem?_map ..
          have hgn:g≠nT:=by
           rintro rfl
           rcases hT with hT | hT
           ·rw[hT] at dm; cases dm
           ·have:=(List.getElem?_eq_some_iff.1 dm).1; omega
          have hBm:lJ B (tS.map (nW g)):=fun k hk=>by
           obtain⟨l0,h0⟩:=hB k hk
           exact⟨_,by rw[XK,h0]; rfl⟩
          have share:∀ (ι':jR) (S':ak),jx ι S ι' S' (fun k=>k=g)→(∀ k k',k≠g→(ι' k=some k'↔ι k=some k'))→(∀ k k' b,k≠g→ι k=some k'→(∀ e s n,b ≠ .tail e s n)→S[k']? = some b→S'[k']? = some b) →
            (∀ t,ι' g=some t→∃ n,S'[t]? = some (.tail e' s' n))→(∀ k k',k≠g→ι k=some k'→ι' g≠some k')→bS ι' (sB g te) (tS.map (nW g)) env S':=by
           intro ι' S' K hιe nQ hg YH
           refine⟨jW K _ _ h.env,fun k0 l0 hk => ?_,fun k0 e0 s0 hk t0 Ah => ?_,fun k0 k1 hk => ?_,fun i j k1 hi hj => ?_,fun k0 b0 hk t0 Ah => ?_⟩
           ·rw[XK] at hk
            simp only[Option.map_eq_some_iff] at hk
            obtain⟨b,hb,zo⟩:=hk
            have hne:k0≠g:=by rintro rfl; rw[dm] at hb; cases hb; cases zo
            cases b<;>simp only[nW] at zo<;>first | (cases zo; done) | skip
            rename_i lb
            cases zo
            obtain⟨k',fD,n1,n2,n3⟩:=h.cells _ _ hb
            exact⟨k',fD,(hιe _ _ hne).2 n1,nQ _ _ _ hne n1 (fun _ _ _ e=>by cases e) n2,jW K _ _ n3⟩
           ·rw[XK] at hk
            simp only[Option.map_eq_some_iff] at hk
            obtain⟨b,hb,zo⟩:=hk
            cases b<;>simp only[nW] at zo<;>first | (cases zo; done) | skip
            cases zo
            by_cases W9:k0=g
            ·subst W9
             rw[dm] at hb
             cases hb
             exact hg _ Ah
            ·have WV:=(hιe _ _ W9).1 Ah
             obtain⟨n,n1⟩:=h.own _ _ _ hb _ WV
             exact⟨n,(K k0 t0 W9 WV).2.1 _ _ _ n1⟩
           ·rw[XK]
            by_cases W9:k0=g
            ·subst W9
             exact⟨_,by rw[dm]; rfl,fun e=>by cases e⟩
            ·obtain⟨b,n1,n2⟩:=h.sw _ _ ((hιe _ _ W9).1 hk)
             exact⟨_,by rw[n1]; rfl,fun e=>by cases b<;>first | (exact n2 rfl) | cases e⟩
           ·by_cases XU:i=g<;>by_cases XS:j=g
            ·rw[XU,XS]
            ·subst XU; exact(YH _ _ XS ((hιe _ _ XS).1 hj) hi).elim
            ·subst XS; exact(YH _ _ XU ((hιe _ _ XU).1 hi) hj).elim
            ·exact h.inj i j k1 ((hιe _ _ XU).1 hi) ((hιe _ _ XS).1 hj)
           ·rw[XK] at hk
            simp only[Option.map_eq_some_iff] at hk
            obtain⟨b,hb,zo⟩:=hk
            by_cases hne:k0=g
            ·subst hne
             rw[dm] at hb
             cases hb
             subst zo
             trivial
            have WV:=(hιe _ _ hne).1 Ah
            have h1:=h.mp _ _ hb _ WV
            subst zo
            cases b with
            | map kt l=>exact nQ _ _ _ hne WV (fun _ _ _ e=>by cases e) h1
            | rows t e l z =>
             obtain⟨q0,q1,ds,q2,q3⟩:=h1
             exact⟨q0,q1,ds,nQ _ _ _ hne WV (fun _ _ _ e=>by cases e) q2,q3⟩
            | _=>trivial
          by_cases Hh:news.isEmpty=true
          ·have hm:m=[]:=List.eq_nil_of_length_eq_zero (by rw[← Ua,vM Hh]; rfl)
           subst hm
           have e7:(I6▸([]:List k'.den):List k.den)=[]:=List.eq_nil_of_length_eq_zero (by rw[Ex]; rfl)
           refine⟨.sl rows tok f,S,ι,upd w ay nT,hz _ _ (by simp only[gq,h1,Hh,if_true]),share ι S (fun k k' _ hk=>⟨hk,dU rfl⟩) (fun _ _ _=>Iff.rfl) (fun _ _ _ _ _ _ h=>h) (fun t ht=>h.own g _ _ dm t ht) (fun k k' hk h1 h2=>hk (h.inj _ _ _ h1 h2)),?_,?_,?_,?_,Fr.refl _ _ _,hBm,dZ _ _⟩
           ·simp only[RT]
            rw[e7,List.append_nil]
            exact⟨k3,kap⟩
           ·intro a b kV
            unfold upd
            rw[if_neg (h.cC hn kV)]
            exact hw _ _ kV
           ·intro j hj; unfold upd; rw[if_neg hj]
           ·intro j hj
            rw[Dr] at hj
            cases tok with
            | none=>simp only[List.mem_singleton] at hj; exact⟨⟨nT,by simp,by simp[upd,hj]⟩,.inl hj⟩
            | some tk =>
             simp only[List.mem_cons,List.not_mem_nil,or_false] at hj
             rcases hj with rfl | rfl
             ·rcases kap with ⟨h0,-⟩ | ⟨t0,e0,s0,a1,a2,a3⟩
              ·cases h0
              ·cases a2
               exact⟨⟨g,by simp,by simp only[upd,h.cC hn a1,if_false]; exact hw _ _ a1⟩,.inr ⟨_,a1⟩⟩
             ·exact⟨⟨nT,by simp,by simp[upd]⟩,.inl rfl⟩
          ·rcases kap with ⟨rfl,sG,acw⟩ | ⟨t0,e0,s0,a1,rfl,a3⟩
           ·have I7:jx ι S (upd ι g ay) (cW S ay (.tail e' s' ((rows.length+news.length)*s'))) (fun k=>k=g):=fun k k' hk h2=>⟨by simp only[upd,hk,if_false]; exact h2,dU (by rw[aQ hn,if_neg (h.cC hn h2)])⟩
            refine⟨.sl (rows++news) (some ay) ⟨false,none⟩,cW S ay (.tail e' s' ((rows.length+news.length)*s')),upd ι g ay,fun j=>if j=ay then some g else w j,hz _ _ ?_,share _ _ I7 (fun k k' hk=>by simp only[upd,hk,if_false]) (fun k k' ds hk h2 _ h3=>by rw[aQ hn,if_neg (h.cC hn h2)]; exact h3) (fun t ht => ?_) (fun k k' hk h2 h3 => ?_),?_,?_,?_,?_,oF hn (RX hB dm),hBm,lF hn⟩
            ·simp only[gq,h1,Hh,Bool.false_eq_true,if_false,h4,P9,if_true,sG,Lc,Bool.and_self]
            ·simp only[upd,if_true,Option.some.injEq] at ht
             subst ht
             exact⟨_,by rw[aQ hn,if_pos rfl]⟩
            ·simp only[upd,if_true,Option.some.injEq] at h3
             exact h.cC hn h2 h3.symm
            ·simp only[RT]
             refine⟨U5,.inr ⟨ay,e',s',by simp[upd],rfl,?_⟩⟩
             rw[aQ hn,if_pos rfl,List.length_append]
            ·intro a b kV
             unfold upd at kV
             split at kV
             ·rename_i e9; subst e9; cases kV; simp
             ·show (if b=ay then some g else w b)=some a
              rw[if_neg (h.cC hn kV)]; exact hw _ _ kV
            ·intro j hj
             show (if j=ay then some g else w j)=w j
             rw[if_neg hj]
            ·intro j hj
             rw[Dr,List.mem_singleton] at hj
             exact⟨⟨g,by simp,by simp[hj]⟩,.inl hj⟩
           ·obtain⟨n,a4⟩:=h.own g _ _ dm t0 a1
            rw[a3] at a4
            cases a4
            have hne:t0≠ay:=h.cC hn a1
            have hlt:=(List.getElem?_eq_some_iff.1 a3).1
            have aU:∀ j,j≠t0→(S.set t0 (.tail e' s' ((rows.length+news.length)*s')))[j]? = S[j]? := fun j hj=>by rw[List.getElem?_set,if_neg (Ne.symm hj)]
            have I7:jx ι S ι (S.set t0 (.tail e' s' ((rows.length+news.length)*s'))) (fun k=>k=g):=fun k k' hk h2=>⟨h2,dU (by rw[aU k' (fun e9=>hk (h.inj _ _ _ h2 (by rw[e9]; exact a1)))])⟩
            refine⟨.sl (rows++news) (some t0) ⟨false,none⟩,S.set t0 (.tail e' s' ((rows.length+news.length)*s')),ι,fun j=>if j=ay then some nT else w j,hz _ _ ?_,share _ _ I7 (fun _ _ _=>Iff.rfl) (fun k k' ds hk h2 _ h3=>by rw[aU k' (fun e9=>hk (h.inj _ _ _ h2 (by rw[e9]; exact a1)))]; exact h3) (fun t ht => ?_) (fun k k' hk h2 h3=>hk (h.inj _ _ _ h2 h3)),?_,?_,?_,?_,uu a1,hBm,uo a3 (fun e=>by cases e)⟩
            ·simp only[gq,h1,Hh,Bool.false_eq_true,if_false,h4,P9,if_true,a3,decide_true,Bool.and_self]
            ·rw[a1] at ht
             cases ht
             exact⟨_,by rw[List.getElem?_set,if_pos rfl,if_pos hlt]⟩
            ·simp only[RT]
             refine⟨U5,.inr ⟨t0,e',s',a1,rfl,?_⟩⟩
             rw[List.getElem?_set,if_pos rfl,if_pos hlt,List.length_append]
            ·intro a b kV
             show (if b=ay then some nT else w b)=some a
             rw[if_neg (h.cC hn kV)]; exact hw _ _ kV
            ·intro j hj
             show (if j=ay then some nT else w j)=w j
             rw[if_neg hj]
            ·intro j hj
             rw[Dr] at hj
             simp only[List.mem_cons,List.not_mem_nil,or_false] at hj
             rcases hj with rfl | rfl
             ·exact⟨⟨g,by simp,by simp only[hne,if_false]; exact hw _ _ a1⟩,.inr ⟨_,a1⟩⟩
             ·exact⟨⟨nT,by simp,by simp⟩,.inl rfl⟩
         ·cases hr
        ·cases hr
      ·cases hr
     ·cases hr
    ·cases hr
   ·cases hr
  ·cases hr
 ·cases hr
theorem Nv (h:bS ι te tS env S) (hB:lJ B tS) (hw:Pj ι w) (hT:uf tS nT) (hn:ug S ay) (hr:stepT P ty tt te tS o nT=some r) (hc:r.c):B7 P ty aD call yf B ι w env S o ay r:=by
 have pure:(bh P ty tt te tS o).map (fun r=>(⟨r.1,te,tS,qY te o,r.2⟩:TR))=some r→(∀ j∈eH (fM env) o ay,(∃ k∈qY te o,w j=some k)∧(j=ay∨∃ i,ι i=some j))→B7 P ty aD call yf B ι w env S o ay r:=by
  intro hp hf
  simp only[Option.map_eq_some_iff] at hp
  obtain⟨⟨v,c⟩,h1,rfl⟩:=hp
  obtain⟨d,h2,h3⟩:=Ec (aD:=aD) (call:=call) (yf:=yf) (ay:=ay) h.env h.cells h1 hc
  exact⟨d,S,ι,w,h2,h,h3,hw,fun _ _=>rfl,hf,Fr.refl _ _ _,hB,dZ _ _⟩
 have quiet:eH (fM env) o ay=[]→(∀ j∈eH (fM env) o ay,(∃ k∈qY te o,w j=some k)∧(j=ay∨∃ i,ι i=some j)):=fun e j hj=>by rw[e] at hj; cases hj
 cases ho:o.op with
 | alloc e =>
  simp only[stepT,ho] at hr
  split at hr
  ·rename_i k sz z h1
   cases hr
   refine⟨.ptr ay 0,cW S ay (.cells z),upd ι nT ay,upd w ay nT,by simp only[ah,ho,h1],qJ h hT hn (pz z),by simp[RT,upd],nj h hn hT hw,fun j hj=>by simp only[upd,hj,if_false],fun j hj => ?_,oF hn (j5 hB hT),iK hB hT,lF hn⟩
   simp only[eH,ho,List.mem_singleton] at hj
   exact⟨⟨nT,by simp,by simp[upd,hj]⟩,.inl hj⟩
  ·cases hr
 | box t x =>
  simp only[stepT,ho] at hr
  split at hr
  ·rename_i v h1
   split at hr
   ·rename_i hk
    cases hr
    obtain⟨d,k1,k2⟩:=aS h.env h1
    refine⟨.ptr ay 0,cW S ay (.cells d.cells),upd ι nT ay,upd w ay nT,by simp only[ah,ho,k1],qJ h hT hn (oL hk k2),by simp[RT,upd],nj h hn hT hw,fun j hj=>by simp only[upd,hj,if_false],fun j hj => ?_,oF hn (j5 hB hT),iK hB hT,lF hn⟩
    simp only[eH,ho,List.mem_singleton] at hj
    exact⟨⟨nT,by simp,by simp[upd,hj]⟩,.inl hj⟩
   ·cases hr
  ·cases hr
 | store t a x=>exact Nt h hB hw ho hr
 | load t a =>
  simp only[stepT,ho] at hr
  refine pure hr fun j hj => ?_
  simp only[eH,ho] at hj
  split at hj
  ·rename_i gf qi h1
   simp only[List.mem_singleton] at hj
   subst hj
   simp only[Option.map_eq_some_iff,bh,ho] at hr
   obtain⟨q,h2,-⟩:=hr
   split at h2
   ·rename_i td id off h3 h4
    obtain⟨d,k1,k2⟩:=aS h.env h4
    rw[h1] at k1
    cases k1
    simp only[RT] at k2
    exact⟨⟨id,by simp[qY,ho,h4],hw _ _ k2.1⟩,.inr ⟨_,k2.1⟩⟩
   ·rename_i td e l i off h3 h4
    obtain⟨d,k1,k2⟩:=aS h.env h4
    rw[h1] at k1
    cases k1
    simp only[RT] at k2
   ·cases h2
  ·rename_i gf n' qi h1
   simp only[Option.map_eq_some_iff,bh,ho] at hr
   obtain⟨q,h2,-⟩:=hr
   split at h2
   ·rename_i td id off h3 h4
    obtain⟨d,k1,k2⟩:=aS h.env h4
    rw[h1] at k1
    cases k1
    simp only[RT] at k2
   ·rename_i td e l i off h3 h4
    obtain⟨d,k1,k2⟩:=aS h.env h4
    rw[h1] at k1
    cases k1
    simp only[RT] at k2
   ·cases h2
  ·cases hj
 | call cl =>
  obtain⟨callee,args,argTypes⟩:=cl
  cases callee with
  | builtin b =>
   cases b with
   | append=>exact Ky h hB hw hT hn ho hr hc
   | _=>simp only[stepT,ho] at hr; exact pure hr (quiet (by simp only[eH,ho]))
  | _=>simp only[stepT,ho] at hr; exact pure hr (quiet (by simp only[eH,ho]))
 | _=>simp only[stepT,ho] at hr; exact pure hr (quiet (by simp only[eH,ho]))
end Go.Tv
end
section
namespace Go.Tv
open Go Go.Di
def Jb:TV := .val (.tuple #[])
def jM (te:List TV) (dst:Option Tmp) (v:TV):List TV :=
 match dst with
 | some d=>te.set d v
 | none=>te
def cV (ops:Array Oper) (te:List TV) (o:Oper):Option Bool :=
 match o.guard with
 | none=>some true
 | some (j,want)=>match (ops[j]?).bind (·.dst) with
  | some d=>match te[d]? with
   | some (.val (.bool b))=>some (match want with | true=>b | false => !b)
   | some .unk=>none
   | some (.val _)=>some false
   | _=>none
  | none=>some false
def kA (o:Oper):Bool :=
 match o.op with
 | .alloc _ | .box .. | .store .. => true
 | .call { callee := .builtin .append,.. }=>true
 | _=>false
def Wa (o:Oper):Bool :=
 match o.op with
 | .call { callee := .value _,.. }=>true
 | _=>false
def BD (tS:List TB) (nT:Nat):Bool :=
 match tS[nT]? with
 | some .none=>true
 | none=>nT==tS.length
 | _=>false
section
variable (P:Program) (ty:eS) (tt:TypeId→Option TT)
end
section
variable {P:Program} {ty:eS} {tt:TypeId→Option TT} {ι ι' w:jR} {S S':ak} {te:List TV} {env:List DV} {tS:List TB} {aD:bq} {call:bg} {yf:dF} {o:Oper} {ay nT:Nat} {B:List Nat} {r:TR} {ops:Array Oper}
theorem VS {v:TV} {d:DV} (h:cG ι S te env) (hv:RT ι S v d) (dst:Option Tmp):cG ι S (jM te dst v) (gC env dst d):=by
 cases dst with
 | none=>exact h
 | some t=>exact Ia t h hv
theorem FI:RT ι S Jb aV:=by simp only[Jb,aV,RT]
theorem eW (h:cG ι S te env) {b:Bool} (hw:cV ops te o=some b):bC ops env o=b:=by
 unfold cV at hw
 unfold bC
 split at hw
 ·rename_i e; cases hw; rw[e]
 ·rename_i j want e
  rw[e]
  dsimp only
  split at hw
  ·rename_i d e1
   rw[e1]
   dsimp only
   split at hw
   ·rename_i b' e2
    cases hw
    obtain⟨d',k1,k2⟩:=pE h e2
    cases d'<;>simp only[RT] at k2
    subst k2
    rw[k1]
    cases b'<;>cases want<;>rfl
   ·cases hw
   ·rename_i v hv e2
    cases hw
    obtain⟨d',k1,k2⟩:=pE h e2
    cases d'<;>simp only[RT] at k2
    rw[k2] at k1
    rw[k1]
    cases v<;>first | rfl | exact(hv _ rfl).elim
   ·cases hw
  ·rename_i e1
   cases hw
   rw[e1]
theorem Re (h:BD tS nT=true):uf tS nT:=by
 unfold BD at h
 split at h
 ·rename_i e; exact .inl e
 ·exact .inr (by simpa using h)
 ·cases h
def DG (w:jR) (f ft:cz):Prop:=(f.wr=true→ft.wr=true)∧∀ l,ft.ids=some l→∃ m,f.ids=some m∧∀ j∈m,∃ k∈l,w j=some k
def Does (P:Program) (ty:eS) (aD:bq) (call:bg) (yf:dF) (B:List Nat) (o:Oper) (nT:Nat) (te:List TV) (tS:List TB) (dr:Bool) (Q:TV→List TV→List TB→cz→Prop):Prop :=
 ∀ ι w env S ay,bS ι te tS env S→lJ B tS→Pj ι w→uf tS nT→ug S ay→(dr=true→S[ay]? = some .none) →
  ∃ d S' ι' w' v bT bU f ft,(dr=false→ah P ty aD call yf (fM env) o S ay=some (d,S'))∧(dr=true→aB P ty aD call yf (fM env) o S ay=some (d,S',f))∧DG w' f ft∧(∀ l m,ft.ids=some l→f.ids=some m→∀ j∈m,j=ay∨∃ i,ι i=some j) ∧
   bS ι' bT bU env S'∧RT ι' S' v d∧Pj ι' w'∧(dr=true→∀ j,j≠ay→w' j=w j)∧Fr B ι S ι' S'∧lJ B bU∧Nn ay S S'∧Q v bT bU ft
theorem pY (h:stepT P ty tt te tS o nT=some r) (hc:r.c) (dr:Bool):Does P ty aD call yf B o nT te tS dr fun v bT bU ft=>v=r.v∧bT=r.te∧bU=r.tS∧ft=⟨some r.BL,kA o⟩:=by
 intro ι w env S ay hR hB hw hT hn hS
 obtain⟨d,S',ι',w',h1,h2,h3,h4,h5,h6,h7,h8,h9⟩:=Nv (aD:=aD) (call:=call) (yf:=yf) hR hB hw hT hn h hc
 refine⟨d,S',ι',w',r.v,r.te,r.tS,⟨some (eH (fM env) o ay),kA o⟩,⟨some r.BL,kA o⟩,fun _=>h1,fun hd => ?_,⟨id,fun l hl=>⟨_,rfl,fun j hj=>by cases hl; exact(h6 j hj).1⟩⟩,fun l m hl hm j hj=>by cases hm; exact(h6 j hj).2,h2,h3,h4,fun _=>h5,h7,h8,h9,rfl,rfl,rfl,rfl⟩
 have dI:=hS hd
 cases ho:o.op with
 | alloc e=>simp only[aB,ho,dI,h1,Option.map_some,eH,kA]
 | box t x=>simp only[aB,ho,dI,h1,Option.map_some,eH,kA]
 | store t a x =>
  have:∃ id off,fM env a=some (.ptr id off):=by
   simp only[ah,ho] at h1
   split at h1
   ·rename_i a' v' e1 e2
    simp only[Option.map_eq_some_iff] at h1
    obtain⟨q,h1,-⟩:=h1
    unfold kM at h1
    split at h1
    ·exact⟨_,_,e1⟩
    ·simp only[stepT,ho] at h
     split at h
     ·rename_i t1 t2 t3
      obtain⟨d9,t4,t5⟩:=aS hR.env t2
      rw[e1] at t4
      cases t4
      simp only[RT] at t5
     ·cases h
    ·cases h1
   ·cases h1
  obtain⟨id,off,e⟩:=this
  simp only[aB,ho,e,h1,Option.map_some,eH,kA]
 | load t a =>
  cases e:fM env a with
  | none=>simp only[ah,ho,e] at h1; cases h1
  | some da=>cases da<;>simp only[aB,ho,e,h1,Option.map_some,eH,kA]
 | makeMap t x=>simp only[stepT,bh,ho,Option.map_none] at h; cases h
 | makeSlice t x y=>simp only[stepT,bh,ho,Option.map_none] at h; cases h
 | buildSlice t n ps =>
  have hh:ty.h o≠1:=by
   simp only[stepT,bh,ho] at h
   intro e
   split at h
   ·split at h
    ·simp[e] at h
    ·cases h
   ·cases h
  simp only[aB,ho,h1,Option.map_some,eH,kA]
 | fieldAddr t a f' =>
  cases e:fM env a with
  | none=>simp only[ah,ho,e] at h1; split at h1<;>simp_all
  | some da =>
   cases da with
   | er id n off =>
    simp only[stepT,bh,ho] at h
    split at h
    ·rename_i t1 t2
     obtain⟨d9,t4,t5⟩:=aS hR.env t2
     rw[e] at t4
     cases t4
     simp only[RT] at t5
    ·rename_i t1 t2
     obtain⟨d9,t4,t5⟩:=aS hR.env t2
     rw[e] at t4
     cases t4
     simp only[RT] at t5
    ·cases h
   | _=>simp only[aB,ho,e,h1,Option.map_some,eH,kA]
 | indexAddr t a i =>
  cases e:fM env a with
  | none=>simp only[ah,ho,e] at h1; split at h1<;>simp_all
  | some da =>
   cases da with
   | gQ id n ag =>
    simp only[stepT,bh,ho] at h
    split at h
    ·rename_i t1 t2 t3
     simp only[Option.map_eq_some_iff] at t2
     obtain⟨u,t2,t6⟩:=t2
     obtain⟨d9,t4,t5⟩:=aS hR.env t2
     rw[e] at t4
     cases t4
     have t7:=bN (tt:=tt) (t:=t) t5
     rw[t6] at t7
     simp only[RT] at t7
    ·rename_i t1 t2 t3
     simp only[Option.map_eq_some_iff] at t2
     obtain⟨u,t2,t6⟩:=t2
     obtain⟨d9,t4,t5⟩:=aS hR.env t2
     rw[e] at t4
     cases t4
     have t7:=bN (tt:=tt) (t:=t) t5
     rw[t6] at t7
     simp only[RT] at t7
    ·rename_i t1 t2 t3
     simp only[Option.map_eq_some_iff] at t2
     obtain⟨u,t2,t6⟩:=t2
     obtain⟨d9,t4,t5⟩:=aS hR.env t2
     rw[e] at t4
     cases t4
     have t7:=bN (tt:=tt) (t:=t) t5
     rw[t6] at t7
     simp only[RT] at t7
    ·cases h
   | _=>simp only[aB,ho,e,h1,Option.map_some,eH,kA]
 | lookup t m k b=>simp only[stepT,bh,ho,Option.map_none] at h; cases h
 | mapUpdate t m k b=>simp only[stepT,bh,ho,Option.map_none] at h; cases h
 | call cl =>
  obtain⟨callee,args,argTypes⟩:=cl
  cases callee with
  | builtin b =>
   cases b with
   | append =>
    have key:ty.h o≠1∧∀ id n ag,(args[0]?).bind (fM env)≠some (.gQ id n ag):=by
     simp only[stepT,ho] at h
     split at h
     ·rename_i x y t u ha ht
      split at h
      ·rename_i K4
       refine⟨K4.2,fun id n ag he => ?_⟩
       have h0:args[0]? = some x:=by rw[← Array.getElem?_toList,ha]; rfl
       rw[h0] at he
       replace he:fM env x=some (.gQ id n ag):=he
       split at h
       ·rename_i t1 t2 t3
        simp only[Option.map_eq_some_iff] at t2
        obtain⟨u,t2,t6⟩:=t2
        obtain⟨d9,t4,t5⟩:=aS hR.env t2
        rw[he] at t4
        cases t4
        have t7:=bN (tt:=tt) (t:=t) t5
        rw[t6] at t7
        simp only[RT] at t7
       ·cases h
      ·cases h
     ·cases h
    cases e:(args[0]?).bind (fM env) with
    | none=>simp only[aB,ho,dI,e,h1,Option.map_some,eH,kA,if_neg key.1,xA,Bool.false_eq_true,if_false]
    | some da =>
     cases da with
     | sl rows tok f=>cases tok<;>simp only[aB,ho,dI,e,h1,Option.map_some,eH,kA,if_neg key.1,xA,Bool.false_eq_true,if_false]
     | gQ id n ag=>exact absurd e (key.2 id n ag)
     | _=>simp only[aB,ho,dI,e,h1,Option.map_some,eH,kA,if_neg key.1,xA,Bool.false_eq_true,if_false]
   | _=>simp only[aB,ho,h1,Option.map_some,eH,kA]
  | value f=>simp only[stepT,bh,ho,Option.map_none] at h; cases h
  | _=>simp only[aB,ho,h1,Option.map_some,eH,kA]
 | _=>simp only[aB,ho,h1,Option.map_some,eH,kA]
def WL (P:Program) (ty:eS) (aD:bq) (call:bg) (yf:dF) (B:List Nat) (ops:Array Oper) (k:Nat) (te:List TV) (tS:List TB) (Q:List TV→List TB→Prop):Prop :=
 ∀ ι env S,bS ι te tS env S→lJ B tS→∃ az S' ι' bT bU,BB P ty aD call yf ops (ops.toList.drop k) env S=some (az,S')∧bS ι' bT bU az S'∧lJ B bU∧Fr B ι S ι' S'∧Nn S.length S S'∧Q bT bU
theorem FH (h:bS ι te tS env S):∃ w,Pj ι w:=by
 refine⟨fun k'=>(Classical.epsilon fun o:Option Nat=>∀ k,ι k=some k'→o=some k),fun k k' hk => ?_⟩
 have:∃ o:Option Nat,∀ j,ι j=some k'→o=some j:=⟨some k,fun j hj=>congrArg some (h.inj _ _ _ hk hj)⟩
 exact Classical.epsilon_spec this k hk
theorem oN {qP:ak} (h:Nn S.length S S') (k:Nn S'.length S' qP):Nn S.length S qP:=by
 refine⟨Nat.le_trans h.1 k.1,fun j hj hn => ?_⟩
 have h1:=h.2 j hj hn
 have:=(List.getElem?_eq_some_iff.1 h1).1
 exact k.2 j (by omega) h1
theorem jX (h:bS ι te tS env S) {v:TV} {d:DV} (hv:RT ι S v d) (dst:Option Tmp):bS ι (jM te dst v) tS (gC env dst d) S:=⟨VS h.env hv dst,h.cells,h.own,h.sw,h.inj,h.mp⟩
theorem j4 {k:Nat} (ho:ops[k]? = some o):ops.toList.drop k=o::ops.toList.drop (k+1):=by
 have h:ops.toList[k]? = some o:=by simpa using ho
 obtain⟨hk,rfl⟩:=List.getElem?_eq_some_iff.1 h
 exact List.drop_eq_getElem_cons hk
theorem Vs {k:Nat} (hk:ops.size≤k) {Q:List TV→List TB→Prop} (h:Q te tS):WL P ty aD call yf B ops k te tS Q:=by
 intro ι env S hR hB
 rw[List.drop_eq_nil_of_le (by simpa using hk)]
 exact⟨env,S,ι,te,tS,rfl,hR,hB,Fr.refl _ _ _,dZ _ _,h⟩
theorem Qt {k:Nat} (ho:ops[k]? = some o) (hw:cV ops te o=some false) {Q:List TV→List TB→Prop}
  (h:WL P ty aD call yf B ops (k+1) (jM te o.dst Jb) tS Q):WL P ty aD call yf B ops k te tS Q:=by
 intro ι env S hR hB
 obtain⟨az,qP,ι'',qS,qT,k1,k2,k3,k4,k5,k6⟩:=h ι (gC env o.dst aV) S (jX hR FI _) hB
 refine⟨az,qP,ι'',qS,qT,?_,k2,k3,k4,k5,k6⟩
 rw[j4 ho]
 simp only[BB,eW hR.env hw,Bool.false_eq_true,if_false,k1]
theorem EW {k:Nat} {r:List Oper} (h:ops.toList.drop k=o::r):ops[k]? = some o∧r=ops.toList.drop (k+1):=by
 have h1:ops.toList[k]? = some o:=by
  have:=congrArg (·[0]?) h
  simpa using this
 refine⟨by simpa using h1,?_⟩
 have:=congrArg List.tail h
 simpa using this.symm
end
end Go.Tv
end
section
namespace Go.Tv
open Go Go.Di
variable {P:Program} {ty:eS} {tt:TypeId→Option TT} {ι ι' w:jR} {S S':ak} {te:List TV} {env:List DV} {tS:List TB} {aD:bq} {call:bg} {yf:dF} {o:Oper} {ay nT:Nat} {B:List Nat} {r:TR} {ops:Array Oper}
def WQ (P:Program) (ty:eS) (aD:bq) (call:bg) (yf:dF) (ops:Array Oper) (tS:List TB) (k:Nat) (te:List TV) (Q:List TV→Prop):Prop :=
 ∀ ι env S,bS ι te tS env S→∃ az bT,lN P ty aD call yf ops S (ops.toList.drop k) env=some az∧bS ι bT tS az S∧Q bT
theorem Ms {k:Nat} (hk:ops.size≤k) {Q:List TV→Prop} (h:Q te):WQ P ty aD call yf ops tS k te Q:=by
 intro ι env S hR
 rw[List.drop_eq_nil_of_le (by simpa using hk)]
 exact⟨env,te,rfl,hR,h⟩
theorem Qs {k:Nat} (ho:ops[k]? = some o) (hw:cV ops te o=some false) {Q:List TV→Prop} (h:WQ P ty aD call yf ops tS (k+1) (jM te o.dst Jb) Q):WQ P ty aD call yf ops tS k te Q:=by
 intro ι env S hR
 obtain⟨az,bT,k1,k2,k3⟩:=h ι (gC env o.dst aV) S (jX hR FI _)
 refine⟨az,bT,?_,k2,k3⟩
 rw[j4 ho]
 simp only[lN,eW hR.env hw,Bool.false_eq_true,if_false,k1]
theorem Gz {ρ:Operand→Option DV} {d:DV} (hp:∃ q,bh P ty tt te tS o=some q) (h:ah P ty aD call yf ρ o S S.length=some (d,S)):bZ P ty aD call yf ρ o S=some d:=by
 obtain⟨q,hp⟩:=hp
 cases ho:o.op with
 | alloc e=>simp only[bh,ho] at hp; cases hp
 | box t x=>simp only[bh,ho] at hp; cases hp
 | store t a x=>simp only[bh,ho] at hp; cases hp
 | makeMap t x=>simp only[bh,ho] at hp; cases hp
 | makeSlice t x y=>simp only[bh,ho] at hp; cases hp
 | buildSlice t n ps =>
  have hh:ty.h o≠1:=by
   simp only[bh,ho] at hp
   intro e
   split at hp
   ·split at hp
    ·simp[e] at hp
    ·cases hp
   ·cases hp
  simp only[bZ,ho,h,Option.map_some]
 | mapUpdate t m k b=>simp only[bh,ho] at hp; cases hp
 | call cl =>
  obtain⟨callee,args,argTypes⟩:=cl
  cases callee with
  | builtin b =>
   cases b with
   | append=>simp only[bh,ho] at hp; cases hp
   | _=>simp only[bZ,ho,h,Option.map_some]
  | value f=>simp only[bh,ho] at hp; cases hp
  | _=>simp only[bZ,ho,h,Option.map_some]
 | _=>simp only[bZ,ho,h,Option.map_some]
theorem HM {k:Nat} {v:TV} {c:Prop} (ho:ops[k]? = some o) (hw:cV ops te o=some true) (hp:bh P ty tt te tS o=some (v,c)) (hc:c) {Q:List TV→Prop} (h:WQ P ty aD call yf ops tS (k+1) (jM te o.dst v) Q):WQ P ty aD call yf ops tS k te Q:=by
 intro ι env S hR
 obtain⟨d,h1,h2⟩:=Ec (aD:=aD) (call:=call) (yf:=yf) (ay:=S.length) hR.env hR.cells hp hc
 obtain⟨az,bT,k1,k2,k3⟩:=h ι (gC env o.dst d) S (jX hR h2 _)
 refine⟨az,bT,?_,k2,k3⟩
 rw[j4 ho]
 simp only[lN,eW hR.env hw,if_true,Gz ⟨_,hp⟩ h1,k1]
def HI (w:jR):List cz→List cz→Prop
 | [],[]=>True
 | f::l,g::m=>DG w f g∧HI w l m
 | _,_=>False
theorem yy {w:jR}:∀ {l m:List cz} {i:Nat} {f:cz},HI w l m→l[i]? = some f→∃ g,m[i]? = some g∧DG w f g
 | [],_,_,_,_,h=>by simp at h
 | _::_,[],_,_,h,_=>h.elim
 | f::l,g::m,0,f',h,hx=>by
  simp only[List.getElem?_cons_zero,Option.some.injEq] at hx
  subst hx
  exact⟨g,rfl,h.1⟩
 | f::l,g::m,i+1,f',h,hx=>by
  obtain⟨g',h1,h2⟩:=yy (i:=i) h.2 (by simpa using hx)
  exact⟨g',by simpa using h1,h2⟩
theorem Om {w:jR} {f g f' g':cz} (hf:DG w f f') (hg:DG w g g') (h:f.meets g=true):f'.meets g'=true:=by
 obtain⟨fi,fw⟩:=f
 obtain⟨gi,gw⟩:=g
 obtain⟨fi',fw'⟩:=f'
 obtain⟨gi',gw'⟩:=g'
 obtain⟨La,Sn⟩:=hf
 obtain⟨XV,W7⟩:=hg
 simp only[cz.meets,Bool.and_eq_true,Bool.or_eq_true] at h ⊢
 refine⟨h.1.imp La XV,?_⟩
 have h:=h.2
 have ne:∀ {m l:List Nat},(∀ j∈m,∃ k∈l,w j=some k)→m≠[]→(!l.isEmpty)=true:=by
  intro m l hml hm
  cases m with
  | nil=>exact(hm rfl).elim
  | cons j m =>
   obtain⟨k,hk,-⟩:=hml j (by simp)
   cases l with
   | nil=>cases hk
   | cons _ _=>rfl
 cases fi' with
 | none =>
  cases gi' with
  | none=>rfl
  | some l' =>
   obtain⟨m,e,hm⟩:=W7 _ rfl
   simp only at e
   subst e
   refine ne hm ?_
   rintro rfl
   cases fi<;>simp at h
 | some l =>
  obtain⟨m,e,hm⟩:=Sn _ rfl
  simp only at e
  subst e
  cases gi' with
  | none =>
   refine ne hm ?_
   rintro rfl
   cases gi<;>simp at h
  | some l' =>
   obtain⟨m',e,E7⟩:=W7 _ rfl
   simp only at e
   subst e
   simp only[List.any_eq_true,List.contains_iff_mem] at h ⊢
   obtain⟨j,hj,wB⟩:=h
   obtain⟨k,hk,e1⟩:=hm j hj
   obtain⟨k',qx,e2⟩:=E7 j wB
   rw[e1] at e2
   cases e2
   exact⟨k,hk,qx⟩
theorem V4 {w:jR} {b:Array Nat} {fs ft:List cz} (hf:HI w fs ft) (h:ou b ft=true):ou b fs=true:=by
 simp only[ou,List.all_eq_true,List.mem_iff_getElem?,List.getElem?_zipIdx,Option.map_eq_some_iff,Prod.forall,Prod.mk.injEq] at h ⊢
 rintro f i ⟨i',f0,h1,rfl,rfl⟩ g j ⟨j',g0,h2,rfl,rfl⟩
 obtain⟨f',k1,k2⟩:=yy hf h1
 obtain⟨g',k3,k4⟩:=yy hf h2
 have:=h f' (0+i') ⟨i',f',k1,rfl,rfl⟩ g' (0+j') ⟨j',g',k3,rfl,rfl⟩
 simp only[Bool.or_eq_true,Bool.not_eq_true'] at this ⊢
 refine this.imp (Or.imp (Or.imp id fun hn => ?_) id) id
 cases hm:f0.meets g0 with
 | false=>rfl
 | true=>rw[Om k2 k4 hm] at hn; cases hn
def WD (P:Program) (ty:eS) (aD:bq) (call:bg) (yf:dF) (B:List Nat) (ops:Array Oper) (k:Nat) (te:List TV) (tS:List TB) (fs:List cz) (Q:List TV→List TB→Prop):Prop :=
 ∀ ι w env S n0,bS ι te tS env S→lJ B tS→Pj ι w→(∀ j,k≤j→j<ops.size→S[n0+j]? = some .none) →
  ∃ az S' xg ι' w' bT bU ft,nO P ty aD call yf ops n0 (ops.toList.drop k) k env S=some (az,S',xg)∧HI w' xg ft∧(∀ j,(∀ i,k≤i→i<ops.size→j≠n0+i)→w' j=w j)∧ou (Region.before ops) (fs++ft)=true ∧
   bS ι' bT bU az S'∧lJ B bU∧Fr B ι S ι' S'∧(S.length≤S'.length∧∀ j,(∀ i,k≤i→i<ops.size→j≠n0+i)→S[j]? = some .none→S'[j]? = some .none)∧Q bT bU
variable {n0T:Nat} {fs:List cz}
theorem Vx {k:Nat} (hk:ops.size≤k) {Q:List TV→List TB→Prop} (hm:ou (Region.before ops) fs=true) (h:Q te tS):WD P ty aD call yf B ops k te tS fs Q:=by
 intro ι w env S n0 hR hB hw hn
 rw[List.drop_eq_nil_of_le (by simpa using hk)]
 exact⟨env,S,[],ι,w,te,tS,[],rfl,trivial,fun _ _=>rfl,by simpa using hm,hR,hB,Fr.refl _ _ _,⟨Nat.le_refl _,fun _ _ h=>h⟩,h⟩
theorem xy {k:Nat} (ho:ops[k]? = some o) (hw:cV ops te o=some true) (ue:BD tS (n0T+k)=true) {Q:List TV→List TB→Prop} {K:TV→List TV→List TB→cz→Prop} (hd:Does P ty aD call yf B o (n0T+k) te tS true K)
  (h:∀ v bT bU ft,K v bT bU ft→WD P ty aD call yf B ops (k+1) (jM bT o.dst v) bU (fs++[ft]) Q):WD P ty aD call yf B ops k te tS fs Q:=by
 intro ι w env S n0 hR hB XF hn
 have hsz:k<ops.size:=(Array.getElem?_eq_some_iff.1 ho).1
 have P4:=hn k (Nat.le_refl _) hsz
 obtain⟨d,S',ι',w',v,bT,bU,f,ft,h1,h2,h3,h4,h5,h6,h7,h8,h9,rX,zu,KU⟩:=hd ι w env S (n0+k) hR hB XF (Re ue) (.inl P4) (fun _=>P4)
 obtain⟨az,qP,xg,ι'',KY,qS,qT,fts,k1,k2,k3,k4,k5,k6,k7,k8,k9⟩:=h v bT bU ft KU ι' w' (gC env o.dst d) S' n0 (jX h5 h6 _) rX h7 (fun j hj wB=>zu.2 _ (by omega) (hn j (by omega) wB))
 refine⟨az,qP,f::xg,ι'',KY,qS,qT,ft::fts,?_,⟨⟨h3.1,fun l hl => ?_⟩,k2⟩,fun j hj => ?_,?_,k5,k6,h9.trans k7,⟨Nat.le_trans zu.1 k8.1,fun j hj dI => ?_⟩,k9⟩
 ·rw[j4 ho]
  simp only[nO,eW hR.env hw,if_true,h2 rfl,k1]
 ·obtain⟨m,e1,e2⟩:=h3.2 l hl
  refine⟨m,e1,fun j hj => ?_⟩
  obtain⟨k',qx,e3⟩:=e2 j hj
  refine⟨k',qx,?_⟩
  rw[k3 j ?_]
  ·exact e3
  ·intro i hi Hf he
   rcases h4 l m hl e1 j hj with rfl | ⟨i',aaC⟩
   ·omega
   ·obtain⟨b,e4,e5⟩:=hR.live aaC
    rw[he,hn i (by omega) Hf] at e4
    cases e4
    exact e5 rfl
 ·rw[k3 j fun i hi Hf=>hj i (by omega) Hf,h8 rfl j (hj k (Nat.le_refl _) hsz)]
 ·simpa using k4
 ·exact k8.2 j (fun i hi Hf=>hj i (by omega) Hf) (zu.2 j (hj k (Nat.le_refl _) hsz) dI)
theorem Qw {k:Nat} (ho:ops[k]? = some o) (hw:cV ops te o=some false) {Q:List TV→List TB→Prop}
  (h:WD P ty aD call yf B ops (k+1) (jM te o.dst Jb) tS (fs++[⟨some [],false⟩]) Q):WD P ty aD call yf B ops k te tS fs Q:=by
 intro ι w env S n0 hR hB XF hn
 have hsz:k<ops.size:=(Array.getElem?_eq_some_iff.1 ho).1
 obtain⟨az,qP,xg,ι'',KY,qS,qT,fts,k1,k2,k3,k4,k5,k6,k7,k8,k9⟩:=h ι w (gC env o.dst aV) S n0 (jX hR FI _) hB XF (fun j hj wB=>hn j (by omega) wB)
 refine⟨az,qP,⟨some [],false⟩::xg,ι'',KY,qS,qT,⟨some [],false⟩::fts,?_,⟨⟨id,fun l hl=>⟨[],rfl,fun j hj=>by cases hj⟩⟩,k2⟩,fun j hj => ?_,?_,k5,k6,k7,⟨k8.1,fun j hj dI => ?_⟩,k9⟩
 ·rw[j4 ho]
  simp only[nO,eW hR.env hw,Bool.false_eq_true,if_false,k1]
 ·exact k3 j fun i hi Hf=>hj i (by omega) Hf
 ·simpa using k4
 ·exact k8.2 j (fun i hi Hf=>hj i (by omega) Hf) dI
def LW (o:Oper):Bool :=
 o.guard.isNone&&match o.op with
 | .alloc _ | .box .. | .store .. | .makeMap .. | .mapUpdate .. => true
 | .call { callee := .builtin .append,.. }=>true
 | _=>false
theorem rB:∀ {l:List Oper} {env:List DV},l.any LW=true→lN P ty aD call yf ops S l env=none
 | [],_,h=>by cases h
 | o::l,env,h=>by
  simp only[List.any_cons,Bool.or_eq_true] at h
  simp only[lN]
  rcases h with h | h
  ·simp only[LW,Bool.and_eq_true] at h
   obtain⟨h1,h2⟩:=h
   have hw:bC ops env o=true:=by
    unfold bC
    rw[Option.isNone_iff_eq_none.1 h1]
   have hq:bZ P ty aD call yf (fM env) o S=none:=by
    split at h2
    ·rename_i ho; simp only[bZ,ho]
    ·rename_i ho; simp only[bZ,ho]
    ·rename_i ho; simp only[bZ,ho]
    ·rename_i ho; simp only[bZ,ho]
    ·rename_i ho; simp only[bZ,ho]
    ·rename_i ho; simp only[bZ,ho]
    ·cases h2
   simp only[hw,if_true,hq]
  ·split
   ·split
    ·exact rB h
    ·rfl
   ·exact rB h
def qz (P:Program) (ops:Array Oper):Bool:=ops.toList.any LW||ops.toList.any (Cr P)
theorem Kg {env:List DV} (h:qz P ops=true):(if ops.toList.any (Cr P) then none else lN P ty aD call yf ops S ops.toList env)=none:=by
 split
 ·rfl
 ·rename_i hp
  unfold qz at h
  rw[Bool.not_eq_true] at hp
  rw[hp,Bool.or_false] at h
  exact rB h
theorem ext_get {S:ak} {n k:Nat} (h:Lv S k):(S++List.replicate n .none)[k]? = S[k]? := by
 obtain⟨b,h1,-⟩:=h
 exact List.getElem?_append_left (List.getElem?_eq_some_iff.1 h1).1
theorem QY (h:bS ι te tS env S) (n m:Nat):bS ι te (tS++List.replicate n .none) env (S++List.replicate m .none):=by
 have hl:∀ k k',ι k=some k'→(S++List.replicate m DB.none)[k']? = S[k']? := fun k k' hk=>ext_get (h.live hk)
 have K:jx ι S ι (S++List.replicate m .none) fun _=>False:=fun k k' _ hk=>⟨hk,dU (hl k k' hk)⟩
 have hT:∀ (k:Nat) (b:TB),(tS++List.replicate n TB.none)[k]? = some b→b ≠ .none→tS[k]? = some b:=by
  intro k b hk hb
  rw[List.getElem?_append] at hk
  split at hk
  ·exact hk
  ·rw[List.getElem?_replicate] at hk
   split at hk
   ·cases hk; exact(hb rfl).elim
   ·cases hk
 refine⟨bw K _ _ h.env,fun k l hk => ?_,fun k e s hk t ht => ?_,fun k k' hk => ?_,h.inj,fun k b hk t ht=>by
  rw[hl k t ht]
  cases b with
  | none=>trivial
  | _=>exact h.mp k _ (hT k _ hk (fun e=>by cases e)) t ht⟩
 ·obtain⟨k',ds,h1,h2,h3⟩:=h.cells k l (hT k _ hk (fun e=>by cases e))
  exact⟨k',ds,h1,by rw[hl k k' h1]; exact h2,bw K _ _ h3⟩
 ·obtain⟨n',h1⟩:=h.own k e s (hT k _ hk (fun e=>by cases e)) t ht
  exact⟨n',by rw[hl k t ht]; exact h1⟩
 ·obtain⟨b,h1,h2⟩:=h.sw k k' hk
  exact⟨b,by rw[List.getElem?_append_left (List.getElem?_eq_some_iff.1 h1).1]; exact h1,h2⟩
end Go.Tv
end
