import Derived.Test.YtedcgbkilmlbhaaGreatPk02
section
namespace Go.Tv
open Go Go.Di
variable {P:Program} {ty:eV} {tt:TypeId→Option TT} {ι ι' w:jF} {S S':ak} {te:List TV} {env:List DV} {tS:List TB} {aD:bn} {call:aW} {yf:dH} {o:Oper} {aA nT:Nat} {B:List Nat} {r:TR}
theorem M5:∀ {l:List TV} {m:List DV},cA ι S l m→l.all Zi=true→m.all DV.one=true
 | [],m,h,_=>by rw[aJ h]; rfl
 | a::l,m,h,k=>by
  obtain⟨d,m',rfl,h1,h2⟩:=aj h
  simp only[List.all_cons,Bool.and_eq_true] at k ⊢
  refine⟨?_,M5 h2 k.2⟩
  cases a<;>cases d<;>simp only[RT] at h1<;>first | rfl | (cases k.1; done) | (subst h1; exact k.1)
def Cq (P:Program) (ty:eV) (aD:bn) (call:aW) (yf:dH) (B:List Nat) (ι w:jF) (env:List DV) (S:ak) (o:Oper) (aA:Nat) (r:TR):Prop :=
 ∃ d S' ι' w',ai P ty aD call yf (ga env) o S aA=some (d,S')∧bK ι' r.te r.tS env S'∧RT ι' S' r.v d∧PG ι' w'∧(∀ j,j≠aA→w' j=w j)∧(∀ j∈eL (ga env) o aA,(∃ k∈r.B4,w' j=some k)∧(j=aA∨∃ i,ι i=some j))∧Fr B ι S ι' S'∧lY B r.tS∧Nn aA S S'
theorem NM (h:bK ι te tS env S) (hB:lY B tS) (hw:PG ι w) {t:TypeId} {a x:Operand} (ho:o.op = .store t a x) (hr:stepT P ty tt te tS o nT=some r):Cq P ty aD call yf B ι w env S o aA r:=by
 simp only[stepT,ho] at hr
 split at hr
 ·rename_i td id off v h1 h2 h3
  split at hr
  ·rename_i l h4
   split at hr
   ·rename_i hc
    simp only[Bool.and_eq_true,beq_iff_eq] at hc
    obtain⟨⟨c1,c2⟩,c3⟩:=hc
    simp only[Option.map_eq_some_iff] at hr h3
    obtain⟨l',h5,rfl⟩:=hr
    obtain⟨u,h6,h7⟩:=h3
    obtain⟨da,k1,k2⟩:=aT h.env h2
    cases da<;>simp only[RT] at k2
    rename_i gE qD
    obtain⟨k3,rfl⟩:=k2
    obtain⟨d,k4,k5⟩:=aT h.env h6
    have k6:=bN (tt:=tt) (t:=t) k5
    rw[h7] at k6
    have k7:=oV c1 k6
    obtain⟨acV,ds,m1,m2,m3⟩:=h.cells id l h4
    rw[k3] at m1
    cases m1
    obtain⟨eE,m4,m5⟩:=CG m3 k7 h5
    have K:jg ι S ι (S.set gE (.cells eE)) fun _=>False:=fun k k' _ hk=>⟨hk,by
     rw[List.getElem?_set]
     split
     ·rename_i e1; subst e1; exact tH (by rw[m2]; simp) (by rw[m2]; simp)
     ·exact dM rfl⟩
    have hlt:=(List.getElem?_eq_some_iff.1 m2).1
    refine⟨aP,S.set gE (.cells eE),ι,w,?_,?_,by simp only[RT],hw,fun _ _=>rfl,?_,uW k3,?_,uS m2 (fun e=>by cases e)⟩
    ·have e1:d.cells.length=td.size:=by rw[ff k7]; exact c2
     simp only[ai,ho,k1,k4,kY,h1,m2,e1,M5 k7 c3,decide_true,Bool.and_self,if_true,m4,Option.map_some]
    ·refine⟨aY K _ _ h.env,fun k l0 hk => ?_,fun k e s hk t0 ht => ?_,fun k k' hk => ?_,h.inj,fun k b0 hk t0 ht => ?_⟩
     ·simp only[List.getElem?_set] at hk
      split at hk
      ·rename_i e1
       subst e1
       split at hk
       ·cases hk
        exact⟨gE,eE,k3,by rw[List.getElem?_set,if_pos rfl,if_pos hlt],aY K _ _ m5⟩
       ·cases hk
      ·rename_i e1
       obtain⟨k',Jk,n1,n2,n3⟩:=h.cells k l0 hk
       refine⟨k',Jk,n1,?_,aY K _ _ n3⟩
       rw[List.getElem?_set,if_neg ?_]
       ·exact n2
       ·rintro rfl; exact e1 (h.inj _ _ _ k3 n1)
     ·simp only[List.getElem?_set] at hk
      split at hk
      ·split at hk<;>cases hk
      ·obtain⟨n,n1⟩:=h.own k e s hk t0 ht
       exact⟨n,(K k t0 (fun e=>e) ht).2.1 _ _ _ n1⟩
     ·simp only[List.getElem?_set]
      split
      ·rename_i e1
       subst e1
       have:=(List.getElem?_eq_some_iff.1 h4).1
       exact⟨_,if_pos this,fun e=>by cases e⟩
      ·exact h.uE k k' hk
     ·simp only[List.getElem?_set] at hk
      split at hk
      ·split at hk<;>cases hk
       trivial
      ·rename_i e1
       rw[List.getElem?_set,if_neg]
       ·exact h.mp k b0 hk t0 ht
       ·rintro rfl; exact e1 (h.inj _ _ _ k3 ht)
    ·intro j hj
     simp only[eL,ho,k1,List.mem_singleton] at hj
     subst hj
     exact⟨⟨id,by simp,hw _ _ k3⟩,.inr ⟨_,k3⟩⟩
    ·intro k hk
     simp only[List.getElem?_set]
     split
     ·rename_i e1
      subst e1
      exact⟨_,if_pos (List.getElem?_eq_some_iff.1 h4).1⟩
     ·exact hB k hk
   ·cases hr
  ·cases hr
 ·cases hr
theorem JU {k k':TT} (h:k'=k) {m:List k'.den} {rows:List DV} (hr:dK (CR k') k'.agg m rows):dK (CR k) k.agg (h▸m) rows:=by
 subst h
 exact hr
theorem EZ {k k':TT} (h:k'=k) (m:List k'.den):(h▸m:List k.den).length=m.length:=by
 subst h
 rfl
theorem wD {rows:List DV} (h:rows.isEmpty=true):rows=[]:=List.isEmpty_iff.1 h
theorem KS (h:bK ι te tS env S) (hB:lY B tS) (hw:PG ι w) (hT:uN tS nT) (hn:uO S aA) {args:Array Operand} {argTypes:Array TypeId} (ho:o.op = .call { callee := .builtin .append,args,argTypes }) (hr:stepT P ty tt te tS o nT=some r) (hc:r.c):Cq P ty aD call yf B ι w env S o aA r:=by
 simp only[stepT,ho] at hr
 split at hr
 ·rename_i x y t u ha ht
  split at hr
  ·rename_i Lx
   obtain⟨Lx,hh⟩:=Lx
   subst Lx
   split at hr
   ·rename_i e s iZ ag sz z0 k l ap k' m _ h1 h2 h3
    split at hr
    ·rename_i k0 sz' z h4
     split at hr
     ·rename_i Jg
      split at hr
      ·rename_i kT
       simp only[Bool.and_eq_true,beq_iff_eq,decide_eq_true_eq] at kT
       obtain⟨⟨c1,c2⟩,c3⟩:=kT
       simp only[Option.map_eq_some_iff] at h2 h3
       obtain⟨ux,e1,e2⟩:=h2
       obtain⟨uy,e3,e4⟩:=h3
       obtain⟨da,k1,k2⟩:=aT h.env e1
       have k3:=bN (tt:=tt) (t:=t) k2
       rw[e2] at k3
       obtain⟨db,k4,k5⟩:=aT h.env e3
       have k6:=bN (tt:=tt) (t:=t) k5
       rw[e4] at k6
       cases da<;>simp only[RT] at k3
       rename_i rows tok f
       cases db<;>simp only[RT] at k6
       rename_i news abg f'
       obtain⟨k3,kap⟩:=k3
       obtain⟨k6,-⟩:=k6
       have XW:=iS k3
       have UO:=iS k6
       have k6':=JU Jg k6
       have VO:=wo k3 k6'
       have HP:(rows.all fun r=>decide (r.cells.length=s))=true:=List.all_eq_true.2 fun r hr=>decide_eq_true ((gA k3 r hr).trans c3)
       have wP:(news.all fun r=>decide (r.cells.length=s))=true:=List.all_eq_true.2 fun r hr=>decide_eq_true ((gA k6' r hr).trans c3)
       have hx:(args[0]?).bind (ga env)=some (.sl rows tok f):=by
        have:args[0]? = some x:=by rw[← Array.getElem?_toList,ha]; rfl
        rw[this]; exact k1
       have D1:eL (ga env) o aA=match tok with | some t=>[t,aA] | none=>[aA]:=by
        simp only[eL,ho,hx]
        cases tok<;>rfl
       have Qy:l.length+m.length≤1000000000→(decide (0<s)&&decide ((rows.length+news.length)*iZ≤dG)&&decide (rows.length+news.length≤140737488355328-4096)&&news.all (fun r=>decide (r.cells.length=s)))=true:=by
        intro hle
        simp only[Bool.and_eq_true,decide_eq_true_eq]
        rw[XW,UO]
        refine⟨⟨⟨c1,?_⟩,by omega⟩,wP⟩
        calc (l.length+m.length)*iZ≤1000000000*100000:=Nat.mul_le_mul hle c2
         _≤dG:=by decide
       have hz:∀ d S',gI ty S aA t (.sl rows tok f) (.sl news abg f')=some (d,S')→ai P ty aD call yf (ga env) o S aA=some (d,S'):=by
        intro d S' hd
        simp only[ai,ho,ha,ht,if_true,k1,k4,hd]
       split at hr
       ·cases hr
       ·
        split at hr
        rotate_left
        ·cases hr
        rename_i Nh
        simp only[Option.some.injEq] at hr
        subst hr
        obtain⟨rfl,tj⟩:=kap
        have QA:=Qy hc
        by_cases HL:news.isEmpty=true
        ·have hm:m=[]:=List.eq_nil_of_length_eq_zero (by rw[← UO,wD HL]; rfl)
         subst hm
         refine⟨.sl rows none f,S,ι,upd w aA nT,hz _ _ (by simp only[gI,h1,HL,if_true]),?_,?_,?_,?_,?_,Fr.refl _ _ _,iV hB hT,ek _ _⟩
         ·refine⟨h.env,fun k0 l0 hk => ?_,fun k0 e0 s0 hk t0 AG => ?_,fun k0 k1 hk => ?_,h.inj,fun k0 b0 hk t0 AG => ?_⟩
          ·rw[bL hT] at hk
           split at hk
           ·cases hk
           ·exact h.cells _ _ hk
          ·rw[bL hT] at hk
           split at hk
           ·rename_i e5; subst e5; rw[h.new hT] at AG; cases AG
           ·exact h.own _ _ _ hk _ AG
          ·rw[bL hT]
           split
           ·exact⟨_,rfl,fun e=>by cases e⟩
           ·exact h.uE _ _ hk
          ·rw[bL hT] at hk
           split at hk
           ·cases hk; trivial
           ·exact h.mp _ _ hk _ AG
         ·simp only[RT]
          have UR:l=[]:=by
           cases l with
           | nil=>rfl
           | cons a l=>simp[Nl] at Nh
          refine⟨?_,.inl ⟨rfl,tj,by rw[XW,UR]; rfl⟩⟩
          have e7:(Jg▸([]:List k'.den):List k.den)=[]:=List.eq_nil_of_length_eq_zero (by rw[EZ]; rfl)
          rw[e7,List.append_nil]
          exact k3
         ·intro a b lX
          unfold upd
          rw[if_neg (h.cz hn lX)]
          exact hw _ _ lX
         ·intro j hj; unfold upd; rw[if_neg hj]
         ·intro j hj
          rw[D1,List.mem_singleton] at hj
          exact⟨⟨nT,by simp,by simp[upd,hj]⟩,.inl hj⟩
        ·have K:=qo h hT hn (.tail e s ((rows.length+news.length)*s))
         refine⟨.sl (rows++news) (some aA) ⟨false,none⟩,de S aA (.tail e s ((rows.length+news.length)*s)),upd ι nT aA,upd w aA nT,hz _ _ ?_,?_,?_,nE h hn hT hw,?_,?_,oR hn (kD hB hT),iV hB hT,lR hn⟩
         ·simp only[gI,h1,HL,Bool.false_eq_true,if_false,h4,QA,if_true,tj,HP,Bool.and_self]
         ·refine⟨aY K _ _ h.env,fun k0 l0 hk => ?_,fun k0 e0 s0 hk t0 AG => ?_,fun k0 k1 hk => ?_,fun i j k1 hi hj => ?_,fun k0 b0 hk t0 AG => ?_⟩
          ·rw[bL hT] at hk
           split at hk
           ·cases hk
           ·rename_i e5
            obtain⟨k',eE,n1,n2,n3⟩:=h.cells _ _ hk
            exact⟨k',eE,by simp only[upd,e5,if_false]; exact n1,by rw[aS hn,if_neg (h.cz hn n1)]; exact n2,aY K _ _ n3⟩
          ·rw[bL hT] at hk
           split at hk
           ·rename_i e5
            cases hk
            simp only[upd,e5,if_true,Option.some.injEq] at AG
            subst AG
            exact⟨_,by rw[aS hn,if_pos rfl]⟩
           ·rename_i e5
            simp only[upd,e5,if_false] at AG
            obtain⟨n,n1⟩:=h.own _ _ _ hk _ AG
            exact⟨n,by rw[aS hn,if_neg (h.cz hn AG)]; exact n1⟩
          ·rw[bL hT]
           split
           ·exact⟨_,rfl,fun e=>by cases e⟩
           ·rename_i e5
            simp only[upd,e5,if_false] at hk
            exact h.uE _ _ hk
          ·unfold upd at hi hj
           split at hi<;>split at hj
           ·omega
           ·cases hi; exact(h.cz hn hj rfl).elim
           ·cases hj; exact(h.cz hn hi rfl).elim
           ·exact h.inj i j k1 hi hj
          ·rw[bL hT] at hk
           split at hk
           ·cases hk; trivial
           ·rename_i e5
            simp only[upd,e5,if_false] at AG
            rw[aS hn,if_neg (h.cz hn AG)]
            exact h.mp _ _ hk _ AG
         ·simp only[RT]
          refine⟨VO,.inr ⟨aA,e,s,by simp[upd],rfl,?_⟩⟩
          rw[aS hn,if_pos rfl,List.length_append]
         ·intro j hj; unfold upd; rw[if_neg hj]
         ·intro j hj
          rw[D1,List.mem_singleton] at hj
          exact⟨⟨nT,by simp,by simp[upd,hj]⟩,.inl hj⟩
       ·
        rename_i g
        split at hr
        ·rename_i e' s' dD
         split at hr
         ·rename_i hes
          simp only[Bool.and_eq_true,beq_iff_eq] at hes
          obtain⟨rfl,rfl⟩:=hes
          simp only[Option.some.injEq] at hr
          subst hr
          have QA:=Qy hc
          have Yw:∀ j,(tS.map (ou g))[j]? = (tS[j]?).map (ou g):=fun j=>List.getElem?_map ..
          have hgn:g≠nT:=by
           rintro rfl
           rcases hT with hT | hT
           ·rw[hT] at dD; cases dD
           ·have:=(List.getElem?_eq_some_iff.1 dD).1; omega
          have hBm:lY B (tS.map (ou g)):=fun k hk=>by
           obtain⟨l0,h0⟩:=hB k hk
           exact⟨_,by rw[Yw,h0]; rfl⟩
          have share:∀ (ι':jF) (S':ak),jg ι S ι' S' (fun k=>k=g)→(∀ k k',k≠g→(ι' k=some k'↔ι k=some k'))→(∀ k k' b,k≠g→ι k=some k'→(∀ e s n,b ≠ .tail e s n)→S[k']? = some b→S'[k']? = some b) →
            (∀ t,ι' g=some t→∃ n,S'[t]? = some (.tail e' s' n))→(∀ k k',k≠g→ι k=some k'→ι' g≠some k')→bK ι' (s6 g te) (tS.map (ou g)) env S':=by
           intro ι' S' K hιe oc hg ZC
           refine⟨ko K _ _ h.env,fun k0 l0 hk => ?_,fun k0 e0 s0 hk t0 AG => ?_,fun k0 k1 hk => ?_,fun i j k1 hi hj => ?_,fun k0 b0 hk t0 AG => ?_⟩
           ·rw[Yw] at hk
            simp only[Option.map_eq_some_iff] at hk
            obtain⟨b,hb,zZ⟩:=hk
            have hne:k0≠g:=by rintro rfl; rw[dD] at hb; cases hb; cases zZ
            cases b<;>simp only[ou] at zZ<;>first | (cases zZ; done) | skip
            rename_i lb
            cases zZ
            obtain⟨k',eE,n1,n2,n3⟩:=h.cells _ _ hb
            exact⟨k',eE,(hιe _ _ hne).2 n1,oc _ _ _ hne n1 (fun _ _ _ e=>by cases e) n2,ko K _ _ n3⟩
           ·rw[Yw] at hk
            simp only[Option.map_eq_some_iff] at hk
            obtain⟨b,hb,zZ⟩:=hk
            cases b<;>simp only[ou] at zZ<;>first | (cases zZ; done) | skip
            cases zZ
            by_cases X0:k0=g
            ·subst X0
             rw[dD] at hb
             cases hb
             exact hg _ AG
            ·have XP:=(hιe _ _ X0).1 AG
             obtain⟨n,n1⟩:=h.own _ _ _ hb _ XP
             exact⟨n,(K k0 t0 X0 XP).2.1 _ _ _ n1⟩
           ·rw[Yw]
            by_cases X0:k0=g
            ·subst X0
             exact⟨_,by rw[dD]; rfl,fun e=>by cases e⟩
            ·obtain⟨b,n1,n2⟩:=h.uE _ _ ((hιe _ _ X0).1 hk)
             exact⟨_,by rw[n1]; rfl,fun e=>by cases b<;>first | (exact n2 rfl) | cases e⟩
           ·by_cases YG:i=g<;>by_cases YE:j=g
            ·rw[YG,YE]
            ·subst YG; exact(ZC _ _ YE ((hιe _ _ YE).1 hj) hi).elim
            ·subst YE; exact(ZC _ _ YG ((hιe _ _ YG).1 hi) hj).elim
            ·exact h.inj i j k1 ((hιe _ _ YG).1 hi) ((hιe _ _ YE).1 hj)
           ·rw[Yw] at hk
            simp only[Option.map_eq_some_iff] at hk
            obtain⟨b,hb,zZ⟩:=hk
            by_cases hne:k0=g
            ·subst hne
             rw[dD] at hb
             cases hb
             subst zZ
             trivial
            have XP:=(hιe _ _ hne).1 AG
            have h1:=h.mp _ _ hb _ XP
            subst zZ
            cases b with
            | map kt l=>exact oc _ _ _ hne XP (fun _ _ _ e=>by cases e) h1
            | rows t e l z =>
             obtain⟨q0,q1,ds,q2,q3⟩:=h1
             exact⟨q0,q1,ds,oc _ _ _ hne XP (fun _ _ _ e=>by cases e) q2,q3⟩
            | _=>trivial
          by_cases HL:news.isEmpty=true
          ·have hm:m=[]:=List.eq_nil_of_length_eq_zero (by rw[← UO,wD HL]; rfl)
           subst hm
           have e7:(Jg▸([]:List k'.den):List k.den)=[]:=List.eq_nil_of_length_eq_zero (by rw[EZ]; rfl)
           refine⟨.sl rows tok f,S,ι,upd w aA nT,hz _ _ (by simp only[gI,h1,HL,if_true]),share ι S (fun k k' _ hk=>⟨hk,dM rfl⟩) (fun _ _ _=>Iff.rfl) (fun _ _ _ _ _ _ h=>h) (fun t ht=>h.own g _ _ dD t ht) (fun k k' hk h1 h2=>hk (h.inj _ _ _ h1 h2)),?_,?_,?_,?_,Fr.refl _ _ _,hBm,ek _ _⟩
           ·simp only[RT]
            rw[e7,List.append_nil]
            exact⟨k3,kap⟩
           ·intro a b lX
            unfold upd
            rw[if_neg (h.cz hn lX)]
            exact hw _ _ lX
           ·intro j hj; unfold upd; rw[if_neg hj]
           ·intro j hj
            rw[D1] at hj
            cases tok with
            | none=>simp only[List.mem_singleton] at hj; exact⟨⟨nT,by simp,by simp[upd,hj]⟩,.inl hj⟩
            | some tk =>
             simp only[List.mem_cons,List.not_mem_nil,or_false] at hj
             rcases hj with rfl | rfl
             ·rcases kap with ⟨h0,-⟩ | ⟨t0,e0,s0,a1,a2,a3⟩
              ·cases h0
              ·cases a2
               exact⟨⟨g,by simp,by simp only[upd,h.cz hn a1,if_false]; exact hw _ _ a1⟩,.inr ⟨_,a1⟩⟩
             ·exact⟨⟨nT,by simp,by simp[upd]⟩,.inl rfl⟩
          ·rcases kap with ⟨rfl,tj,adI⟩ | ⟨t0,e0,s0,a1,rfl,a3⟩
           ·have HH:jg ι S (upd ι g aA) (de S aA (.tail e' s' ((rows.length+news.length)*s'))) (fun k=>k=g):=fun k k' hk h2=>⟨by simp only[upd,hk,if_false]; exact h2,dM (by rw[aS hn,if_neg (h.cz hn h2)])⟩
            refine⟨.sl (rows++news) (some aA) ⟨false,none⟩,de S aA (.tail e' s' ((rows.length+news.length)*s')),upd ι g aA,fun j=>if j=aA then some g else w j,hz _ _ ?_,share _ _ HH (fun k k' hk=>by simp only[upd,hk,if_false]) (fun k k' ds hk h2 _ h3=>by rw[aS hn,if_neg (h.cz hn h2)]; exact h3) (fun t ht => ?_) (fun k k' hk h2 h3 => ?_),?_,?_,?_,?_,oR hn (SA hB dD),hBm,lR hn⟩
            ·simp only[gI,h1,HL,Bool.false_eq_true,if_false,h4,QA,if_true,tj,HP,Bool.and_self]
            ·simp only[upd,if_true,Option.some.injEq] at ht
             subst ht
             exact⟨_,by rw[aS hn,if_pos rfl]⟩
            ·simp only[upd,if_true,Option.some.injEq] at h3
             exact h.cz hn h2 h3.symm
            ·simp only[RT]
             refine⟨VO,.inr ⟨aA,e',s',by simp[upd],rfl,?_⟩⟩
             rw[aS hn,if_pos rfl,List.length_append]
            ·intro a b lX
             unfold upd at lX
             split at lX
             ·rename_i e9; subst e9; cases lX; simp
             ·show (if b=aA then some g else w b)=some a
              rw[if_neg (h.cz hn lX)]; exact hw _ _ lX
            ·intro j hj
             show (if j=aA then some g else w j)=w j
             rw[if_neg hj]
            ·intro j hj
             rw[D1,List.mem_singleton] at hj
             exact⟨⟨g,by simp,by simp[hj]⟩,.inl hj⟩
           ·obtain⟨n,a4⟩:=h.own g _ _ dD t0 a1
            rw[a3] at a4
            cases a4
            have hne:t0≠aA:=h.cz hn a1
            have hlt:=(List.getElem?_eq_some_iff.1 a3).1
            have aQ:∀ j,j≠t0→(S.set t0 (.tail e' s' ((rows.length+news.length)*s')))[j]? = S[j]? := fun j hj=>by rw[List.getElem?_set,if_neg (Ne.symm hj)]
            have HH:jg ι S ι (S.set t0 (.tail e' s' ((rows.length+news.length)*s'))) (fun k=>k=g):=fun k k' hk h2=>⟨h2,dM (by rw[aQ k' (fun e9=>hk (h.inj _ _ _ h2 (by rw[e9]; exact a1)))])⟩
            refine⟨.sl (rows++news) (some t0) ⟨false,none⟩,S.set t0 (.tail e' s' ((rows.length+news.length)*s')),ι,fun j=>if j=aA then some nT else w j,hz _ _ ?_,share _ _ HH (fun _ _ _=>Iff.rfl) (fun k k' ds hk h2 _ h3=>by rw[aQ k' (fun e9=>hk (h.inj _ _ _ h2 (by rw[e9]; exact a1)))]; exact h3) (fun t ht => ?_) (fun k k' hk h2 h3=>hk (h.inj _ _ _ h2 h3)),?_,?_,?_,?_,uW a1,hBm,uS a3 (fun e=>by cases e)⟩
            ·simp only[gI,h1,HL,Bool.false_eq_true,if_false,h4,QA,if_true,a3,decide_true,Bool.and_self]
            ·rw[a1] at ht
             cases ht
             exact⟨_,by rw[List.getElem?_set,if_pos rfl,if_pos hlt]⟩
            ·simp only[RT]
             refine⟨VO,.inr ⟨t0,e',s',a1,rfl,?_⟩⟩
             rw[List.getElem?_set,if_pos rfl,if_pos hlt,List.length_append]
            ·intro a b lX
             show (if b=aA then some nT else w b)=some a
             rw[if_neg (h.cz hn lX)]; exact hw _ _ lX
            ·intro j hj
             show (if j=aA then some nT else w j)=w j
             rw[if_neg hj]
            ·intro j hj
             rw[D1] at hj
             simp only[List.mem_cons,List.not_mem_nil,or_false] at hj
             rcases hj with rfl | rfl
             ·exact⟨⟨g,by simp,by simp only[hne,if_false]; exact hw _ _ a1⟩,.inr ⟨_,a1⟩⟩
             ·exact⟨⟨nT,by simp,by simp⟩,.inl rfl⟩
         ·cases hr
        ·cases hr
      ·cases hr
     ·cases hr
    ·cases hr
   ·cases hr
  ·cases hr
 ·cases hr
theorem NP (h:bK ι te tS env S) (hB:lY B tS) (hw:PG ι w) (hT:uN tS nT) (hn:uO S aA) (hr:stepT P ty tt te tS o nT=some r) (hc:r.c):Cq P ty aD call yf B ι w env S o aA r:=by
 have pure:(bg P ty tt te tS o).map (fun r=>(⟨r.1,te,tS,rJ te o,r.2⟩:TR))=some r→(∀ j∈eL (ga env) o aA,(∃ k∈rJ te o,w j=some k)∧(j=aA∨∃ i,ι i=some j))→Cq P ty aD call yf B ι w env S o aA r:=by
  intro hp hf
  simp only[Option.map_eq_some_iff] at hp
  obtain⟨⟨v,c⟩,h1,rfl⟩:=hp
  obtain⟨d,h2,h3⟩:=EC (aD:=aD) (call:=call) (yf:=yf) (aA:=aA) h.env h.cells h1 hc
  exact⟨d,S,ι,w,h2,h,h3,hw,fun _ _=>rfl,hf,Fr.refl _ _ _,hB,ek _ _⟩
 have quiet:eL (ga env) o aA=[]→(∀ j∈eL (ga env) o aA,(∃ k∈rJ te o,w j=some k)∧(j=aA∨∃ i,ι i=some j)):=fun e j hj=>by rw[e] at hj; cases hj
 cases ho:o.op with
 | alloc e =>
  simp only[stepT,ho] at hr
  split at hr
  ·rename_i k sz z h1
   cases hr
   refine⟨.ptr aA 0,de S aA (.cells z),upd ι nT aA,upd w aA nT,by simp only[ai,ho,h1],qU h hT hn (pW z),by simp[RT,upd],nE h hn hT hw,fun j hj=>by simp only[upd,hj,if_false],fun j hj => ?_,oR hn (kD hB hT),iV hB hT,lR hn⟩
   simp only[eL,ho,List.mem_singleton] at hj
   exact⟨⟨nT,by simp,by simp[upd,hj]⟩,.inl hj⟩
  ·cases hr
 | box t x =>
  simp only[stepT,ho] at hr
  split at hr
  ·rename_i v h1
   split at hr
   ·rename_i hk
    cases hr
    obtain⟨d,k1,k2⟩:=aT h.env h1
    refine⟨.ptr aA 0,de S aA (.cells d.cells),upd ι nT aA,upd w aA nT,by simp only[ai,ho,k1],qU h hT hn (oV hk k2),by simp[RT,upd],nE h hn hT hw,fun j hj=>by simp only[upd,hj,if_false],fun j hj => ?_,oR hn (kD hB hT),iV hB hT,lR hn⟩
    simp only[eL,ho,List.mem_singleton] at hj
    exact⟨⟨nT,by simp,by simp[upd,hj]⟩,.inl hj⟩
   ·cases hr
  ·cases hr
 | store t a x=>exact NM h hB hw ho hr
 | load t a =>
  simp only[stepT,ho] at hr
  refine pure hr fun j hj => ?_
  simp only[eL,ho] at hj
  split at hj
  ·rename_i gE qD h1
   simp only[List.mem_singleton] at hj
   subst hj
   simp only[Option.map_eq_some_iff,bg,ho] at hr
   obtain⟨q,h2,-⟩:=hr
   split at h2
   ·rename_i td id off h3 h4
    obtain⟨d,k1,k2⟩:=aT h.env h4
    rw[h1] at k1
    cases k1
    simp only[RT] at k2
    exact⟨⟨id,by simp[rJ,ho,h4],hw _ _ k2.1⟩,.inr ⟨_,k2.1⟩⟩
   ·rename_i td e l i off h3 h4
    obtain⟨d,k1,k2⟩:=aT h.env h4
    rw[h1] at k1
    cases k1
    simp only[RT] at k2
   ·cases h2
  ·rename_i gE n' qD h1
   simp only[Option.map_eq_some_iff,bg,ho] at hr
   obtain⟨q,h2,-⟩:=hr
   split at h2
   ·rename_i td id off h3 h4
    obtain⟨d,k1,k2⟩:=aT h.env h4
    rw[h1] at k1
    cases k1
    simp only[RT] at k2
   ·rename_i td e l i off h3 h4
    obtain⟨d,k1,k2⟩:=aT h.env h4
    rw[h1] at k1
    cases k1
    simp only[RT] at k2
   ·cases h2
  ·cases hj
 | call cl =>
  obtain⟨callee,args,argTypes⟩:=cl
  cases callee with
  | builtin b =>
   cases b with
   | append=>exact KS h hB hw hT hn ho hr hc
   | _=>simp only[stepT,ho] at hr; exact pure hr (quiet (by simp only[eL,ho]))
  | _=>simp only[stepT,ho] at hr; exact pure hr (quiet (by simp only[eL,ho]))
 | _=>simp only[stepT,ho] at hr; exact pure hr (quiet (by simp only[eL,ho]))
end Go.Tv
end
section
namespace Go.Tv
open Go Go.Di
def Jm:TV := .val (.tuple #[])
def jZ (te:List TV) (dst:Option Tmp) (v:TV):List TV :=
 match dst with
 | some d=>te.set d v
 | none=>te
def dc (ops:Array Oper) (te:List TV) (o:Oper):Option Bool :=
 match o.guard with
 | none=>some true
 | some (j,want)=>match (ops[j]?).bind (·.dst) with
  | some d=>match te[d]? with
   | some (.val (.bool b))=>some (match want with | true=>b | false => !b)
   | some .unk=>none
   | some (.val _)=>some false
   | _=>none
  | none=>some false
def kL (o:Oper):Bool :=
 match o.op with
 | .alloc _ | .box .. | .store .. => true
 | .call { callee := .builtin .append,.. }=>true
 | _=>false
def Xh (o:Oper):Bool :=
 match o.op with
 | .call { callee := .value _,.. }=>true
 | _=>false
def BX (tS:List TB) (nT:Nat):Bool :=
 match tS[nT]? with
 | some .none=>true
 | none=>nT==tS.length
 | _=>false
section
variable (P:Program) (ty:eV) (tt:TypeId→Option TT)
end
section
variable {P:Program} {ty:eV} {tt:TypeId→Option TT} {ι ι' w:jF} {S S':ak} {te:List TV} {env:List DV} {tS:List TB} {aD:bn} {call:aW} {yf:dH} {o:Oper} {aA nT:Nat} {B:List Nat} {r:TR} {ops:Array Oper}
theorem WU {v:TV} {d:DV} (h:cA ι S te env) (hv:RT ι S v d) (dst:Option Tmp):cA ι S (jZ te dst v) (eH env dst d):=by
 cases dst with
 | none=>exact h
 | some t=>exact xo t h hv
theorem F9:RT ι S Jm aP:=by simp only[Jm,aP,RT]
theorem fq (h:cA ι S te env) {b:Bool} (hw:dc ops te o=some b):bD ops env o=b:=by
 unfold dc at hw
 unfold bD
 split at hw
 ·rename_i e; cases hw; rw[e]
 ·rename_i j want e
  rw[e]
  dsimp only
  split at hw
  ·rename_i d e1
   rw[e1]
   dsimp only
   split at hw
   ·rename_i b' e2
    cases hw
    obtain⟨d',k1,k2⟩:=pX h e2
    cases d'<;>simp only[RT] at k2
    subst k2
    rw[k1]
    cases b'<;>cases want<;>rfl
   ·cases hw
   ·rename_i v hv e2
    cases hw
    obtain⟨d',k1,k2⟩:=pX h e2
    cases d'<;>simp only[RT] at k2
    rw[k2] at k1
    rw[k1]
    cases v<;>first | rfl | exact(hv _ rfl).elim
   ·cases hw
  ·rename_i e1
   cases hw
   rw[e1]
theorem RM (h:BX tS nT=true):uN tS nT:=by
 unfold BX at h
 split at h
 ·rename_i e; exact .inl e
 ·exact .inr (by simpa using h)
 ·cases h
def Ed (w:jF) (f ft:cu):Prop:=(f.wr=true→ft.wr=true)∧∀ l,ft.ids=some l→∃ m,f.ids=some m∧∀ j∈m,∃ k∈l,w j=some k
def Does (P:Program) (ty:eV) (aD:bn) (call:aW) (yf:dH) (B:List Nat) (o:Oper) (nT:Nat) (te:List TV) (tS:List TB) (dr:Bool) (Q:TV→List TV→List TB→cu→Prop):Prop :=
 ∀ ι w env S aA,bK ι te tS env S→lY B tS→PG ι w→uN tS nT→uO S aA→(dr=true→S[aA]? = some .none) →
  ∃ d S' ι' w' v bT bV f ft,(dr=false→ai P ty aD call yf (ga env) o S aA=some (d,S'))∧(dr=true→aC P ty aD call yf (ga env) o S aA=some (d,S',f))∧Ed w' f ft∧(∀ l m,ft.ids=some l→f.ids=some m→∀ j∈m,j=aA∨∃ i,ι i=some j) ∧
   bK ι' bT bV env S'∧RT ι' S' v d∧PG ι' w'∧(dr=true→∀ j,j≠aA→w' j=w j)∧Fr B ι S ι' S'∧lY B bV∧Nn aA S S'∧Q v bT bV ft
theorem qq (h:stepT P ty tt te tS o nT=some r) (hc:r.c) (dr:Bool):Does P ty aD call yf B o nT te tS dr fun v bT bV ft=>v=r.v∧bT=r.te∧bV=r.tS∧ft=⟨some r.B4,kL o⟩:=by
 intro ι w env S aA hR hB hw hT hn hS
 obtain⟨d,S',ι',w',h1,h2,h3,h4,h5,h6,h7,h8,h9⟩:=NP (aD:=aD) (call:=call) (yf:=yf) hR hB hw hT hn h hc
 refine⟨d,S',ι',w',r.v,r.te,r.tS,⟨some (eL (ga env) o aA),kL o⟩,⟨some r.B4,kL o⟩,fun _=>h1,fun hd => ?_,⟨id,fun l hl=>⟨_,rfl,fun j hj=>by cases hl; exact(h6 j hj).1⟩⟩,fun l m hl hm j hj=>by cases hm; exact(h6 j hj).2,h2,h3,h4,fun _=>h5,h7,h8,h9,rfl,rfl,rfl,rfl⟩
 have dN:=hS hd
 cases ho:o.op with
 | alloc e=>simp only[aC,ho,dN,h1,Option.map_some,eL,kL]
 | box t x=>simp only[aC,ho,dN,h1,Option.map_some,eL,kL]
 | store t a x =>
  have:∃ id off,ga env a=some (.ptr id off):=by
   simp only[ai,ho] at h1
   split at h1
   ·rename_i a' v' e1 e2
    simp only[Option.map_eq_some_iff] at h1
    obtain⟨q,h1,-⟩:=h1
    unfold kY at h1
    split at h1
    ·exact⟨_,_,e1⟩
    ·simp only[stepT,ho] at h
     split at h
     ·rename_i t1 t2 t3
      obtain⟨d9,t4,t5⟩:=aT hR.env t2
      rw[e1] at t4
      cases t4
      simp only[RT] at t5
     ·cases h
    ·cases h1
   ·cases h1
  obtain⟨id,off,e⟩:=this
  simp only[aC,ho,e,h1,Option.map_some,eL,kL]
 | load t a =>
  cases e:ga env a with
  | none=>simp only[ai,ho,e] at h1; cases h1
  | some da=>cases da<;>simp only[aC,ho,e,h1,Option.map_some,eL,kL]
 | makeMap t x=>simp only[stepT,bg,ho,Option.map_none] at h; cases h
 | makeSlice t x y=>simp only[stepT,bg,ho,Option.map_none] at h; cases h
 | buildSlice t n ps =>
  have hh:ty.h o≠1:=by
   simp only[stepT,bg,ho] at h
   intro e
   split at h
   ·split at h
    ·simp[e] at h
    ·cases h
   ·cases h
  simp only[aC,ho,h1,Option.map_some,eL,kL]
 | fieldAddr t a f' =>
  cases e:ga env a with
  | none=>simp only[ai,ho,e] at h1; split at h1<;>simp_all
  | some da =>
   cases da with
   | dB id n off =>
    simp only[stepT,bg,ho] at h
    split at h
    ·rename_i t1 t2
     obtain⟨d9,t4,t5⟩:=aT hR.env t2
     rw[e] at t4
     cases t4
     simp only[RT] at t5
    ·rename_i t1 t2
     obtain⟨d9,t4,t5⟩:=aT hR.env t2
     rw[e] at t4
     cases t4
     simp only[RT] at t5
    ·cases h
   | _=>simp only[aC,ho,e,h1,Option.map_some,eL,kL]
 | indexAddr t a i =>
  cases e:ga env a with
  | none=>simp only[ai,ho,e] at h1; split at h1<;>simp_all
  | some da =>
   cases da with
   | gD id n ag =>
    simp only[stepT,bg,ho] at h
    split at h
    ·rename_i t1 t2 t3
     simp only[Option.map_eq_some_iff] at t2
     obtain⟨u,t2,t6⟩:=t2
     obtain⟨d9,t4,t5⟩:=aT hR.env t2
     rw[e] at t4
     cases t4
     have t7:=bN (tt:=tt) (t:=t) t5
     rw[t6] at t7
     simp only[RT] at t7
    ·rename_i t1 t2 t3
     simp only[Option.map_eq_some_iff] at t2
     obtain⟨u,t2,t6⟩:=t2
     obtain⟨d9,t4,t5⟩:=aT hR.env t2
     rw[e] at t4
     cases t4
     have t7:=bN (tt:=tt) (t:=t) t5
     rw[t6] at t7
     simp only[RT] at t7
    ·rename_i t1 t2 t3
     simp only[Option.map_eq_some_iff] at t2
     obtain⟨u,t2,t6⟩:=t2
     obtain⟨d9,t4,t5⟩:=aT hR.env t2
     rw[e] at t4
     cases t4
     have t7:=bN (tt:=tt) (t:=t) t5
     rw[t6] at t7
     simp only[RT] at t7
    ·cases h
   | _=>simp only[aC,ho,e,h1,Option.map_some,eL,kL]
 | lookup t m k b=>simp only[stepT,bg,ho,Option.map_none] at h; cases h
 | mapUpdate t m k b=>simp only[stepT,bg,ho,Option.map_none] at h; cases h
 | call cl =>
  obtain⟨callee,args,argTypes⟩:=cl
  cases callee with
  | builtin b =>
   cases b with
   | append =>
    have key:ty.h o≠1∧∀ id n ag,(args[0]?).bind (ga env)≠some (.gD id n ag):=by
     simp only[stepT,ho] at h
     split at h
     ·rename_i x y t u ha ht
      split at h
      ·rename_i Lx
       refine⟨Lx.2,fun id n ag he => ?_⟩
       have h0:args[0]? = some x:=by rw[← Array.getElem?_toList,ha]; rfl
       rw[h0] at he
       replace he:ga env x=some (.gD id n ag):=he
       split at h
       ·rename_i t1 t2 t3
        simp only[Option.map_eq_some_iff] at t2
        obtain⟨u,t2,t6⟩:=t2
        obtain⟨d9,t4,t5⟩:=aT hR.env t2
        rw[he] at t4
        cases t4
        have t7:=bN (tt:=tt) (t:=t) t5
        rw[t6] at t7
        simp only[RT] at t7
       ·cases h
      ·cases h
     ·cases h
    cases e:(args[0]?).bind (ga env) with
    | none=>simp only[aC,ho,dN,e,h1,Option.map_some,eL,kL,if_neg key.1,xZ,Bool.false_eq_true,if_false]
    | some da =>
     cases da with
     | sl rows tok f=>cases tok<;>simp only[aC,ho,dN,e,h1,Option.map_some,eL,kL,if_neg key.1,xZ,Bool.false_eq_true,if_false]
     | gD id n ag=>exact absurd e (key.2 id n ag)
     | _=>simp only[aC,ho,dN,e,h1,Option.map_some,eL,kL,if_neg key.1,xZ,Bool.false_eq_true,if_false]
   | _=>simp only[aC,ho,h1,Option.map_some,eL,kL]
  | value f=>simp only[stepT,bg,ho,Option.map_none] at h; cases h
  | _=>simp only[aC,ho,h1,Option.map_some,eL,kL]
 | _=>simp only[aC,ho,h1,Option.map_some,eL,kL]
def WL (P:Program) (ty:eV) (aD:bn) (call:aW) (yf:dH) (B:List Nat) (ops:Array Oper) (k:Nat) (te:List TV) (tS:List TB) (Q:List TV→List TB→Prop):Prop :=
 ∀ ι env S,bK ι te tS env S→lY B tS→∃ ay S' ι' bT bV,BV P ty aD call yf ops (ops.toList.drop k) env S=some (ay,S')∧bK ι' bT bV ay S'∧lY B bV∧Fr B ι S ι' S'∧Nn S.length S S'∧Q bT bV
theorem F8 (h:bK ι te tS env S):∃ w,PG ι w:=by
 refine⟨fun k'=>(Classical.epsilon fun o:Option Nat=>∀ k,ι k=some k'→o=some k),fun k k' hk => ?_⟩
 have:∃ o:Option Nat,∀ j,ι j=some k'→o=some j:=⟨some k,fun j hj=>congrArg some (h.inj _ _ _ hk hj)⟩
 exact Classical.epsilon_spec this k hk
theorem o6 {ry:ak} (h:Nn S.length S S') (k:Nn S'.length S' ry):Nn S.length S ry:=by
 refine⟨Nat.le_trans h.1 k.1,fun j hj hn => ?_⟩
 have h1:=h.2 j hj hn
 have:=(List.getElem?_eq_some_iff.1 h1).1
 exact k.2 j (by omega) h1
theorem ku (h:bK ι te tS env S) {v:TV} {d:DV} (hv:RT ι S v d) (dst:Option Tmp):bK ι (jZ te dst v) tS (eH env dst d) S:=⟨WU h.env hv dst,h.cells,h.own,h.uE,h.inj,h.mp⟩
theorem kC {k:Nat} (ho:ops[k]? = some o):ops.toList.drop k=o::ops.toList.drop (k+1):=by
 have h:ops.toList[k]? = some o:=by simpa using ho
 obtain⟨hk,rfl⟩:=List.getElem?_eq_some_iff.1 h
 exact List.drop_eq_getElem_cons hk
theorem Wn {k:Nat} (hk:ops.size≤k) {Q:List TV→List TB→Prop} (h:Q te tS):WL P ty aD call yf B ops k te tS Q:=by
 intro ι env S hR hB
 rw[List.drop_eq_nil_of_le (by simpa using hk)]
 exact⟨env,S,ι,te,tS,rfl,hR,hB,Fr.refl _ _ _,ek _ _,h⟩
theorem QX {k:Nat} (ho:ops[k]? = some o) (hw:dc ops te o=some false) {Q:List TV→List TB→Prop}
  (h:WL P ty aD call yf B ops (k+1) (jZ te o.dst Jm) tS Q):WL P ty aD call yf B ops k te tS Q:=by
 intro ι env S hR hB
 obtain⟨ay,ry,ι'',rB,rC,k1,k2,k3,k4,k5,k6⟩:=h ι (eH env o.dst aP) S (ku hR F9 _) hB
 refine⟨ay,ry,ι'',rB,rC,?_,k2,k3,k4,k5,k6⟩
 rw[kC ho]
 simp only[BV,fq hR.env hw,Bool.false_eq_true,if_false,k1]
theorem Fu {k:Nat} {r:List Oper} (h:ops.toList.drop k=o::r):ops[k]? = some o∧r=ops.toList.drop (k+1):=by
 have h1:ops.toList[k]? = some o:=by
  have:=congrArg (·[0]?) h
  simpa using this
 refine⟨by simpa using h1,?_⟩
 have:=congrArg List.tail h
 simpa using this.symm
end
end Go.Tv
end
section
namespace Go.Tv
open Go Go.Di
variable {P:Program} {ty:eV} {tt:TypeId→Option TT} {ι ι' w:jF} {S S':ak} {te:List TV} {env:List DV} {tS:List TB} {aD:bn} {call:aW} {yf:dH} {o:Oper} {aA nT:Nat} {B:List Nat} {r:TR} {ops:Array Oper}
def WQ (P:Program) (ty:eV) (aD:bn) (call:aW) (yf:dH) (ops:Array Oper) (tS:List TB) (k:Nat) (te:List TV) (Q:List TV→Prop):Prop :=
 ∀ ι env S,bK ι te tS env S→∃ ay bT,lZ P ty aD call yf ops S (ops.toList.drop k) env=some ay∧bK ι bT tS ay S∧Q bT
theorem MQ {k:Nat} (hk:ops.size≤k) {Q:List TV→Prop} (h:Q te):WQ P ty aD call yf ops tS k te Q:=by
 intro ι env S hR
 rw[List.drop_eq_nil_of_le (by simpa using hk)]
 exact⟨env,te,rfl,hR,h⟩
theorem QW {k:Nat} (ho:ops[k]? = some o) (hw:dc ops te o=some false) {Q:List TV→Prop} (h:WQ P ty aD call yf ops tS (k+1) (jZ te o.dst Jm) Q):WQ P ty aD call yf ops tS k te Q:=by
 intro ι env S hR
 obtain⟨ay,bT,k1,k2,k3⟩:=h ι (eH env o.dst aP) S (ku hR F9 _)
 refine⟨ay,bT,?_,k2,k3⟩
 rw[kC ho]
 simp only[lZ,fq hR.env hw,Bool.false_eq_true,if_false,k1]
theorem GX {ρ:Operand→Option DV} {d:DV} (hp:∃ q,bg P ty tt te tS o=some q) (h:ai P ty aD call yf ρ o S S.length=some (d,S)):bZ P ty aD call yf ρ o S=some d:=by
 obtain⟨q,hp⟩:=hp
 cases ho:o.op with
 | alloc e=>simp only[bg,ho] at hp; cases hp
 | box t x=>simp only[bg,ho] at hp; cases hp
 | store t a x=>simp only[bg,ho] at hp; cases hp
 | makeMap t x=>simp only[bg,ho] at hp; cases hp
 | makeSlice t x y=>simp only[bg,ho] at hp; cases hp
 | buildSlice t n ps =>
  have hh:ty.h o≠1:=by
   simp only[bg,ho] at hp
   intro e
   split at hp
   ·split at hp
    ·simp[e] at hp
    ·cases hp
   ·cases hp
  simp only[bZ,ho,h,Option.map_some]
 | mapUpdate t m k b=>simp only[bg,ho] at hp; cases hp
 | call cl =>
  obtain⟨callee,args,argTypes⟩:=cl
  cases callee with
  | builtin b =>
   cases b with
   | append=>simp only[bg,ho] at hp; cases hp
   | _=>simp only[bZ,ho,h,Option.map_some]
  | value f=>simp only[bg,ho] at hp; cases hp
  | _=>simp only[bZ,ho,h,Option.map_some]
 | _=>simp only[bZ,ho,h,Option.map_some]
theorem Im {k:Nat} {v:TV} {c:Prop} (ho:ops[k]? = some o) (hw:dc ops te o=some true) (hp:bg P ty tt te tS o=some (v,c)) (hc:c) {Q:List TV→Prop} (h:WQ P ty aD call yf ops tS (k+1) (jZ te o.dst v) Q):WQ P ty aD call yf ops tS k te Q:=by
 intro ι env S hR
 obtain⟨d,h1,h2⟩:=EC (aD:=aD) (call:=call) (yf:=yf) (aA:=S.length) hR.env hR.cells hp hc
 obtain⟨ay,bT,k1,k2,k3⟩:=h ι (eH env o.dst d) S (ku hR h2 _)
 refine⟨ay,bT,?_,k2,k3⟩
 rw[kC ho]
 simp only[lZ,fq hR.env hw,if_true,GX ⟨_,hp⟩ h1,k1]
def Ij (w:jF):List cu→List cu→Prop
 | [],[]=>True
 | f::l,g::m=>Ed w f g∧Ij w l m
 | _,_=>False
theorem yV {w:jF}:∀ {l m:List cu} {i:Nat} {f:cu},Ij w l m→l[i]? = some f→∃ g,m[i]? = some g∧Ed w f g
 | [],_,_,_,_,h=>by simp at h
 | _::_,[],_,_,h,_=>h.elim
 | f::l,g::m,0,f',h,hx=>by
  simp only[List.getElem?_cons_zero,Option.some.injEq] at hx
  subst hx
  exact⟨g,rfl,h.1⟩
 | f::l,g::m,i+1,f',h,hx=>by
  obtain⟨g',h1,h2⟩:=yV (i:=i) h.2 (by simpa using hx)
  exact⟨g',by simpa using h1,h2⟩
theorem OJ {w:jF} {f g f' g':cu} (hf:Ed w f f') (hg:Ed w g g') (h:f.meets g=true):f'.meets g'=true:=by
 obtain⟨fi,fw⟩:=f
 obtain⟨gi,gw⟩:=g
 obtain⟨fi',fw'⟩:=f'
 obtain⟨gi',gw'⟩:=g'
 obtain⟨LD,S6⟩:=hf
 obtain⟨YI,P4⟩:=hg
 simp only[cu.meets,Bool.and_eq_true,Bool.or_eq_true] at h ⊢
 refine⟨h.1.imp LD YI,?_⟩
 have h:=h.2
 have ne:∀ {m l:List Nat},(∀ j∈m,∃ k∈l,w j=some k)→m≠[]→(!l.isEmpty)=true:=by
  intro m l hml hm
  cases m with
  | nil=>exact(hm rfl).elim
  | cons j m =>
   obtain⟨k,hk,-⟩:=hml j (by simp)
   cases l with
   | nil=>cases hk
   | cons _ _=>rfl
 cases fi' with
 | none =>
  cases gi' with
  | none=>rfl
  | some l' =>
   obtain⟨m,e,hm⟩:=P4 _ rfl
   simp only at e
   subst e
   refine ne hm ?_
   rintro rfl
   cases fi<;>simp at h
 | some l =>
  obtain⟨m,e,hm⟩:=S6 _ rfl
  simp only at e
  subst e
  cases gi' with
  | none =>
   refine ne hm ?_
   rintro rfl
   cases gi<;>simp at h
  | some l' =>
   obtain⟨m',e,FH⟩:=P4 _ rfl
   simp only at e
   subst e
   simp only[List.any_eq_true,List.contains_iff_mem] at h ⊢
   obtain⟨j,hj,sU⟩:=h
   obtain⟨k,hk,e1⟩:=hm j hj
   obtain⟨k',pR,e2⟩:=FH j sU
   rw[e1] at e2
   cases e2
   exact⟨k,hk,pR⟩
theorem Xb {w:jF} {b:Array Nat} {fs ft:List cu} (hf:Ij w fs ft) (h:oG b ft=true):oG b fs=true:=by
 simp only[oG,List.all_eq_true,List.mem_iff_getElem?,List.getElem?_zipIdx,Option.map_eq_some_iff,Prod.forall,Prod.mk.injEq] at h ⊢
 rintro f i ⟨i',f0,h1,rfl,rfl⟩ g j ⟨j',g0,h2,rfl,rfl⟩
 obtain⟨f',k1,k2⟩:=yV hf h1
 obtain⟨g',k3,k4⟩:=yV hf h2
 have:=h f' (0+i') ⟨i',f',k1,rfl,rfl⟩ g' (0+j') ⟨j',g',k3,rfl,rfl⟩
 simp only[Bool.or_eq_true,Bool.not_eq_true'] at this ⊢
 refine this.imp (Or.imp (Or.imp id fun hn => ?_) id) id
 cases hm:f0.meets g0 with
 | false=>rfl
 | true=>rw[OJ k2 k4 hm] at hn; cases hn
def WD (P:Program) (ty:eV) (aD:bn) (call:aW) (yf:dH) (B:List Nat) (ops:Array Oper) (k:Nat) (te:List TV) (tS:List TB) (fs:List cu) (Q:List TV→List TB→Prop):Prop :=
 ∀ ι w env S n0,bK ι te tS env S→lY B tS→PG ι w→(∀ j,k≤j→j<ops.size→S[n0+j]? = some .none) →
  ∃ ay S' xI ι' w' bT bV ft,nZ P ty aD call yf ops n0 (ops.toList.drop k) k env S=some (ay,S',xI)∧Ij w' xI ft∧(∀ j,(∀ i,k≤i→i<ops.size→j≠n0+i)→w' j=w j)∧oG (Region.before ops) (fs++ft)=true ∧
   bK ι' bT bV ay S'∧lY B bV∧Fr B ι S ι' S'∧(S.length≤S'.length∧∀ j,(∀ i,k≤i→i<ops.size→j≠n0+i)→S[j]? = some .none→S'[j]? = some .none)∧Q bT bV
variable {n0T:Nat} {fs:List cu}
theorem Wt {k:Nat} (hk:ops.size≤k) {Q:List TV→List TB→Prop} (hm:oG (Region.before ops) fs=true) (h:Q te tS):WD P ty aD call yf B ops k te tS fs Q:=by
 intro ι w env S n0 hR hB hw hn
 rw[List.drop_eq_nil_of_le (by simpa using hk)]
 exact⟨env,S,[],ι,w,te,tS,[],rfl,trivial,fun _ _=>rfl,by simpa using hm,hR,hB,Fr.refl _ _ _,⟨Nat.le_refl _,fun _ _ h=>h⟩,h⟩
theorem xU {k:Nat} (ho:ops[k]? = some o) (hw:dc ops te o=some true) (qF:BX tS (n0T+k)=true) {Q:List TV→List TB→Prop} {K:TV→List TV→List TB→cu→Prop} (hd:Does P ty aD call yf B o (n0T+k) te tS true K)
  (h:∀ v bT bV ft,K v bT bV ft→WD P ty aD call yf B ops (k+1) (jZ bT o.dst v) bV (fs++[ft]) Q):WD P ty aD call yf B ops k te tS fs Q:=by
 intro ι w env S n0 hR hB Yq hn
 have hsz:k<ops.size:=(Array.getElem?_eq_some_iff.1 ho).1
 have Qu:=hn k (Nat.le_refl _) hsz
 obtain⟨d,S',ι',w',v,bT,bV,f,ft,h1,h2,h3,h4,h5,h6,h7,h8,h9,qZ,z7,Lg⟩:=hd ι w env S (n0+k) hR hB Yq (RM qF) (.inl Qu) (fun _=>Qu)
 obtain⟨ay,ry,xI,ι'',Lm,rB,rC,fts,k1,k2,k3,k4,k5,k6,k7,k8,k9⟩:=h v bT bV ft Lg ι' w' (eH env o.dst d) S' n0 (ku h5 h6 _) qZ h7 (fun j hj sU=>z7.2 _ (by omega) (hn j (by omega) sU))
 refine⟨ay,ry,f::xI,ι'',Lm,rB,rC,ft::fts,?_,⟨⟨h3.1,fun l hl => ?_⟩,k2⟩,fun j hj => ?_,?_,k5,k6,h9.trans k7,⟨Nat.le_trans z7.1 k8.1,fun j hj dN => ?_⟩,k9⟩
 ·rw[kC ho]
  simp only[nZ,fq hR.env hw,if_true,h2 rfl,k1]
 ·obtain⟨m,e1,e2⟩:=h3.2 l hl
  refine⟨m,e1,fun j hj => ?_⟩
  obtain⟨k',pR,e3⟩:=e2 j hj
  refine⟨k',pR,?_⟩
  rw[k3 j ?_]
  ·exact e3
  ·intro i hi HJ he
   rcases h4 l m hl e1 j hj with rfl | ⟨i',abJ⟩
   ·omega
   ·obtain⟨b,e4,e5⟩:=hR.live abJ
    rw[he,hn i (by omega) HJ] at e4
    cases e4
    exact e5 rfl
 ·rw[k3 j fun i hi HJ=>hj i (by omega) HJ,h8 rfl j (hj k (Nat.le_refl _) hsz)]
 ·simpa using k4
 ·exact k8.2 j (fun i hi HJ=>hj i (by omega) HJ) (z7.2 j (hj k (Nat.le_refl _) hsz) dN)
theorem Q3 {k:Nat} (ho:ops[k]? = some o) (hw:dc ops te o=some false) {Q:List TV→List TB→Prop}
  (h:WD P ty aD call yf B ops (k+1) (jZ te o.dst Jm) tS (fs++[⟨some [],false⟩]) Q):WD P ty aD call yf B ops k te tS fs Q:=by
 intro ι w env S n0 hR hB Yq hn
 have hsz:k<ops.size:=(Array.getElem?_eq_some_iff.1 ho).1
 obtain⟨ay,ry,xI,ι'',Lm,rB,rC,fts,k1,k2,k3,k4,k5,k6,k7,k8,k9⟩:=h ι w (eH env o.dst aP) S n0 (ku hR F9 _) hB Yq (fun j hj sU=>hn j (by omega) sU)
 refine⟨ay,ry,⟨some [],false⟩::xI,ι'',Lm,rB,rC,⟨some [],false⟩::fts,?_,⟨⟨id,fun l hl=>⟨[],rfl,fun j hj=>by cases hj⟩⟩,k2⟩,fun j hj => ?_,?_,k5,k6,k7,⟨k8.1,fun j hj dN => ?_⟩,k9⟩
 ·rw[kC ho]
  simp only[nZ,fq hR.env hw,Bool.false_eq_true,if_false,k1]
 ·exact k3 j fun i hi HJ=>hj i (by omega) HJ
 ·simpa using k4
 ·exact k8.2 j (fun i hi HJ=>hj i (by omega) HJ) dN
def Mo (o:Oper):Bool :=
 o.guard.isNone&&match o.op with
 | .alloc _ | .box .. | .store .. | .makeMap .. | .mapUpdate .. => true
 | .call { callee := .builtin .append,.. }=>true
 | _=>false
theorem rV:∀ {l:List Oper} {env:List DV},l.any Mo=true→lZ P ty aD call yf ops S l env=none
 | [],_,h=>by cases h
 | o::l,env,h=>by
  simp only[List.any_cons,Bool.or_eq_true] at h
  simp only[lZ]
  rcases h with h | h
  ·simp only[Mo,Bool.and_eq_true] at h
   obtain⟨h1,h2⟩:=h
   have hw:bD ops env o=true:=by
    unfold bD
    rw[Option.isNone_iff_eq_none.1 h1]
   have hq:bZ P ty aD call yf (ga env) o S=none:=by
    split at h2
    ·rename_i ho; simp only[bZ,ho]
    ·rename_i ho; simp only[bZ,ho]
    ·rename_i ho; simp only[bZ,ho]
    ·rename_i ho; simp only[bZ,ho]
    ·rename_i ho; simp only[bZ,ho]
    ·rename_i ho; simp only[bZ,ho]
    ·cases h2
   simp only[hw,if_true,hq]
  ·split
   ·split
    ·exact rV h
    ·rfl
   ·exact rV h
def qM (P:Program) (ops:Array Oper):Bool:=ops.toList.any Mo||ops.toList.any (CH P)
theorem Ku {env:List DV} (h:qM P ops=true):(if ops.toList.any (CH P) then none else lZ P ty aD call yf ops S ops.toList env)=none:=by
 split
 ·rfl
 ·rename_i hp
  unfold qM at h
  rw[Bool.not_eq_true] at hp
  rw[hp,Bool.or_false] at h
  exact rV h
theorem ext_get {S:ak} {n k:Nat} (h:Lv S k):(S++List.replicate n .none)[k]? = S[k]? := by
 obtain⟨b,h1,-⟩:=h
 exact List.getElem?_append_left (List.getElem?_eq_some_iff.1 h1).1
theorem Rs (h:bK ι te tS env S) (n m:Nat):bK ι te (tS++List.replicate n .none) env (S++List.replicate m .none):=by
 have hl:∀ k k',ι k=some k'→(S++List.replicate m DB.none)[k']? = S[k']? := fun k k' hk=>ext_get (h.live hk)
 have K:jg ι S ι (S++List.replicate m .none) fun _=>False:=fun k k' _ hk=>⟨hk,dM (hl k k' hk)⟩
 have hT:∀ (k:Nat) (b:TB),(tS++List.replicate n TB.none)[k]? = some b→b ≠ .none→tS[k]? = some b:=by
  intro k b hk hb
  rw[List.getElem?_append] at hk
  split at hk
  ·exact hk
  ·rw[List.getElem?_replicate] at hk
   split at hk
   ·cases hk; exact(hb rfl).elim
   ·cases hk
 refine⟨aY K _ _ h.env,fun k l hk => ?_,fun k e s hk t ht => ?_,fun k k' hk => ?_,h.inj,fun k b hk t ht=>by
  rw[hl k t ht]
  cases b with
  | none=>trivial
  | _=>exact h.mp k _ (hT k _ hk (fun e=>by cases e)) t ht⟩
 ·obtain⟨k',ds,h1,h2,h3⟩:=h.cells k l (hT k _ hk (fun e=>by cases e))
  exact⟨k',ds,h1,by rw[hl k k' h1]; exact h2,aY K _ _ h3⟩
 ·obtain⟨n',h1⟩:=h.own k e s (hT k _ hk (fun e=>by cases e)) t ht
  exact⟨n',by rw[hl k t ht]; exact h1⟩
 ·obtain⟨b,h1,h2⟩:=h.uE k k' hk
  exact⟨b,by rw[List.getElem?_append_left (List.getElem?_eq_some_iff.1 h1).1]; exact h1,h2⟩
end Go.Tv
end
