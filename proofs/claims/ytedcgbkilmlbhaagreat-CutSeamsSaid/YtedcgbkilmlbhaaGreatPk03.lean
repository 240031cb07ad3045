import Derived.Test.YtedcgbkilmlbhaaGreatPk02
section
namespace Go.Tv
open Go Go.Di
variable {P:Program} {ty:ir} {tt:TypeId→Option TT} {ι ι' w:mm} {S S':ax} {te:List TV} {env:List DV} {tS:List TB} {aM:bV} {call:bP} {yf:fI} {o:Oper} {aH nT:Nat} {B:List Nat} {r:TR}
theorem Rq:∀ {l:List TV} {m:List DV},dw ι S l m→l.all abV=true→m.all DV.one=true
 | [],m,h,_=>by rw[aU h]; rfl
 | a::l,m,h,k=>by
  obtain⟨d,m',rfl,h1,h2⟩:=aj h
  simp only[List.all_cons,aI] at k ⊢
  refine⟨?_,Rq h2 k.2⟩
  cases a<;>cases d<;>simp only[RT] at h1<;>first | rfl | (cases k.1; done) | (subst h1; exact k.1)
def FH (P:Program) (ty:ir) (aM:bV) (call:bP) (yf:fI) (B:List Nat) (ι w:mm) (env:List DV) (S:ax) (o:Oper) (aH:Nat) (r:TR):Prop :=
 ∃ d S' ι' w',ah P ty aM call yf (jb env) o S aH=some (d,S')∧cK ι' r.te r.tS env S'∧RT ι' S' r.v d∧Uz ι' w'∧(∀ j,j≠aH→w' j=w j)∧(∀ j∈gW (jb env) o aH,(∃ k∈r.Fg,w' j=some k)∧(j=aH∨∃ i,ι i=some j))∧Fr B ι S ι' S'∧pg B r.tS∧Nn aH S S'
theorem Sb (h:cK ι te tS env S) (hB:pg B tS) (hw:Uz ι w) {t:TypeId} {a x:Operand} (ho:o.op = .store t a x) (hr:stepT P ty tt te tS o nT=some r):FH P ty aM call yf B ι w env S o aH r:=by
 simp only[stepT,ho] at hr
 split at hr
 ·rename_i td id off v h1 h2 h3
  split at hr
  ·rename_i l h4
   split at hr
   ·rename_i hc
    simp only[aI,ek] at hc
    obtain⟨⟨c1,c2⟩,c3⟩:=hc
    simp only[ai] at hr h3
    obtain⟨l',h5,rfl⟩:=hr
    obtain⟨u,h6,h7⟩:=h3
    obtain⟨da,k1,k2⟩:=bC h.env h2
    cases da<;>simp only[RT] at k2
    rename_i jE uB
    obtain⟨k3,rfl⟩:=k2
    obtain⟨d,k4,k5⟩:=bC h.env h6
    have k6:=cN (tt:=tt) (t:=t) k5
    rw[h7] at k6
    have k7:=sP c1 k6
    obtain⟨afD,ds,m1,m2,m3⟩:=h.cells id l h4
    rw[k3] at m1
    cases m1
    obtain⟨gR,m4,m5⟩:=FW m3 k7 h5
    have K:lU ι S ι (S.set jE (.cells gR)) fun _=>False:=fun k k' _ hk=>⟨hk,by
     rw[aQ]
     split
     ·rename_i e1; subst e1; exact xd (by rw[m2]; simp) (by rw[m2]; simp)
     ·exact fR rfl⟩
    have hlt:=(aJ.1 m2).1
    refine⟨bh,S.set jE (.cells gR),ι,w,?_,?_,by simp only[RT],hw,fun _ _=>rfl,?_,yu k3,?_,ym m2 (fun e=>by cases e)⟩
    ·have e1:d.cells.length=td.size:=by rw[iB k7]; exact c2
     simp only[ah,ho,k1,k4,oq,h1,m2,e1,Rq k7 c3,decide_true,gA,if_true,m4,Option.map_some]
    ·refine⟨bU K _ _ h.env,fun k l0 hk => ?_,fun k e s hk t0 ht => ?_,fun k k' hk => ?_,h.inj,fun k b0 hk t0 ht => ?_⟩
     ·simp only[aQ] at hk
      split at hk
      ·rename_i e1
       subst e1
       split at hk
       ·cases hk
        exact⟨jE,gR,k3,by rw[aQ,if_pos rfl,if_pos hlt],bU K _ _ m5⟩
       ·cases hk
      ·rename_i e1
       obtain⟨k',Nk,n1,n2,n3⟩:=h.cells k l0 hk
       refine⟨k',Nk,n1,?_,bU K _ _ n3⟩
       rw[aQ,if_neg ?_]
       ·exact n2
       ·rintro rfl; exact e1 (h.inj _ _ _ k3 n1)
     ·simp only[aQ] at hk
      split at hk
      ·split at hk<;>cases hk
      ·obtain⟨n,n1⟩:=h.own k e s hk t0 ht
       exact⟨n,(K k t0 (fun e=>e) ht).2.1 _ _ _ n1⟩
     ·simp only[aQ]
      split
      ·rename_i e1
       subst e1
       have:=(aJ.1 h4).1
       exact⟨_,if_pos this,fun e=>by cases e⟩
      ·exact h.xY k k' hk
     ·simp only[aQ] at hk
      split at hk
      ·split at hk<;>cases hk
       trivial
      ·rename_i e1
       rw[aQ,if_neg]
       ·exact h.mp k b0 hk t0 ht
       ·rintro rfl; exact e1 (h.inj _ _ _ k3 ht)
    ·intro j hj
     simp only[gW,ho,k1,bN] at hj
     subst hj
     exact⟨⟨id,by simp,hw _ _ k3⟩,.inr ⟨_,k3⟩⟩
    ·intro k hk
     simp only[aQ]
     split
     ·rename_i e1
      subst e1
      exact⟨_,if_pos (aJ.1 h4).1⟩
     ·exact hB k hk
   ·cases hr
  ·cases hr
 ·cases hr
theorem N3 {k k':TT} (h:k'=k) {m:List k'.den} {rows:List DV} (hr:eN (CR k') k'.agg m rows):eN (CR k) k.agg (h▸m) rows:=by
 subst h
 exact hr
theorem ID {k k':TT} (h:k'=k) (m:List k'.den):(h▸m:List k.den).length=m.length:=by
 subst h
 rfl
theorem zY {rows:List DV} (h:rows.isEmpty=true):rows=[]:=List.isEmpty_iff.1 h
theorem O0 (h:cK ι te tS env S) (hB:pg B tS) (hw:Uz ι w) (hT:ye tS nT) (hn:yg S aH) {args:Array Operand} {argTypes:Array TypeId} (ho:o.op = .call { callee := .builtin .append,args,argTypes }) (hr:stepT P ty tt te tS o nT=some r) (hc:r.c):FH P ty aM call yf B ι w env S o aH r:=by
 simp only[stepT,ho] at hr
 split at hr
 ·rename_i x y t u ha ht
  split at hr
  ·rename_i PA
   obtain⟨PA,hh⟩:=PA
   subst PA
   split at hr
   ·rename_i e s lK ag sz z0 k l ap k' m _ h1 h2 h3
    split at hr
    ·rename_i k0 sz' z h4
     split at hr
     ·rename_i Nf
      split at hr
      ·rename_i od
       simp only[aI,ek,bJ] at od
       obtain⟨⟨c1,c2⟩,c3⟩:=od
       simp only[ai] at h2 h3
       obtain⟨ux,e1,e2⟩:=h2
       obtain⟨uy,e3,e4⟩:=h3
       obtain⟨da,k1,k2⟩:=bC h.env e1
       have k3:=cN (tt:=tt) (t:=t) k2
       rw[e2] at k3
       obtain⟨db,k4,k5⟩:=bC h.env e3
       have k6:=cN (tt:=tt) (t:=t) k5
       rw[e4] at k6
       cases da<;>simp only[RT] at k3
       rename_i rows tok f
       cases db<;>simp only[RT] at k6
       rename_i news aed f'
       obtain⟨k3,kap⟩:=k3
       obtain⟨k6,-⟩:=k6
       have hla:=lz k3
       have Y7:=lz k6
       have k6':=N3 Nf k6
       have ZX:=zK k3 k6'
       have Lp:(rows.all fun r=>decide (r.cells.length=s))=true:=bt.2 fun r hr=>gB ((jA k3 r hr).trans c3)
       have DI:(news.all fun r=>decide (r.cells.length=s))=true:=bt.2 fun r hr=>gB ((jA k6' r hr).trans c3)
       have hx:(args[0]?).bind (jb env)=some (.sl rows tok f):=by
        have:args[0]? = some x:=by rw[← gE,ha]; rfl
        rw[this]; exact k1
       have Hr:gW (jb env) o aH=match tok with | some t=>[t,aH] | none=>[aH]:=by
        simp only[gW,ho,hx]
        cases tok<;>rfl
       have Vt:l.length+m.length≤1000000000→(decide (0<s)&&decide ((rows.length+news.length)*lK≤fG)&&decide (rows.length+news.length≤140737488355328-4096)&&news.all (fun r=>decide (r.cells.length=s)))=true:=by
        intro hle
        simp only[aI,bJ]
        rw[hla,Y7]
        refine⟨⟨⟨c1,?_⟩,by omega⟩,DI⟩
        calc (l.length+m.length)*lK≤1000000000*100000:=Nat.mul_le_mul hle c2
         _≤fG:=by decide
       have hz:∀ d S',jK ty S aH t (.sl rows tok f) (.sl news aed f')=some (d,S')→ah P ty aM call yf (jb env) o S aH=some (d,S'):=by
        intro d S' hd
        simp only[ah,ho,ha,ht,if_true,k1,k4,hd]
       split at hr
       ·cases hr
       ·
        split at hr
        rotate_left
        ·cases hr
        rename_i RB
        simp only[aB] at hr
        subst hr
        obtain⟨rfl,wN⟩:=kap
        have Vv:=Vt hc
        by_cases Lk:news.isEmpty=true
        ·have hm:m=[]:=eF (by rw[← Y7,zY Lk]; rfl)
         subst hm
         refine⟨.sl rows none f,S,ι,upd w aH nT,hz _ _ (by simp only[jK,h1,Lk,if_true]),?_,?_,?_,?_,?_,Fr.refl _ _ _,lF hB hT,gu _ _⟩
         ·refine⟨h.env,fun k0 l0 hk => ?_,fun k0 e0 s0 hk t0 DF => ?_,fun k0 k1 hk => ?_,h.inj,fun k0 b0 hk t0 DF => ?_⟩
          ·rw[cL hT] at hk
           split at hk
           ·cases hk
           ·exact h.cells _ _ hk
          ·rw[cL hT] at hk
           split at hk
           ·rename_i e5; subst e5; rw[h.new hT] at DF; cases DF
           ·exact h.own _ _ _ hk _ DF
          ·rw[cL hT]
           split
           ·exact⟨_,rfl,fun e=>by cases e⟩
           ·exact h.xY _ _ hk
          ·rw[cL hT] at hk
           split at hk
           ·cases hk; trivial
           ·exact h.mp _ _ hk _ DF
         ·simp only[RT]
          have Y8:l=[]:=by
           cases l with
           | nil=>rfl
           | cons a l=>simp[RG] at RB
          refine⟨?_,.inl ⟨rfl,wN,by rw[hla,Y8]; rfl⟩⟩
          have e7:(Nf▸([]:List k'.den):List k.den)=[]:=eF (by rw[ID]; rfl)
          rw[e7,ff]
          exact k3
         ·intro a b pO
          unfold upd
          rw[if_neg (h.dI hn pO)]
          exact hw _ _ pO
         ·intro j hj; unfold upd; rw[if_neg hj]
         ·intro j hj
          rw[Hr,bN] at hj
          exact⟨⟨nT,by simp,by simp[upd,hj]⟩,.inl hj⟩
        ·have K:=uf h hT hn (.tail e s ((rows.length+news.length)*s))
         refine⟨.sl (rows++news) (some aH) ⟨false,none⟩,eV S aH (.tail e s ((rows.length+news.length)*s)),upd ι nT aH,upd w aH nT,hz _ _ ?_,?_,?_,qH h hn hT hw,?_,?_,sK hn (nG hB hT),lF hB hT,oS hn⟩
         ·simp only[jK,h1,Lk,aF,if_false,h4,Vv,if_true,wN,Lp,gA]
         ·refine⟨bU K _ _ h.env,fun k0 l0 hk => ?_,fun k0 e0 s0 hk t0 DF => ?_,fun k0 k1 hk => ?_,fun i j k1 hi hj => ?_,fun k0 b0 hk t0 DF => ?_⟩
          ·rw[cL hT] at hk
           split at hk
           ·cases hk
           ·rename_i e5
            obtain⟨k',gR,n1,n2,n3⟩:=h.cells _ _ hk
            exact⟨k',gR,by simp only[upd,e5,if_false]; exact n1,by rw[bz hn,if_neg (h.dI hn n1)]; exact n2,bU K _ _ n3⟩
          ·rw[cL hT] at hk
           split at hk
           ·rename_i e5
            cases hk
            simp only[upd,e5,if_true,aB] at DF
            subst DF
            exact⟨_,by rw[bz hn,if_pos rfl]⟩
           ·rename_i e5
            simp only[upd,e5,if_false] at DF
            obtain⟨n,n1⟩:=h.own _ _ _ hk _ DF
            exact⟨n,by rw[bz hn,if_neg (h.dI hn DF)]; exact n1⟩
          ·rw[cL hT]
           split
           ·exact⟨_,rfl,fun e=>by cases e⟩
           ·rename_i e5
            simp only[upd,e5,if_false] at hk
            exact h.xY _ _ hk
          ·unfold upd at hi hj
           split at hi<;>split at hj
           ·omega
           ·cases hi; exact(h.dI hn hj rfl).elim
           ·cases hj; exact(h.dI hn hi rfl).elim
           ·exact h.inj i j k1 hi hj
          ·rw[cL hT] at hk
           split at hk
           ·cases hk; trivial
           ·rename_i e5
            simp only[upd,e5,if_false] at DF
            rw[bz hn,if_neg (h.dI hn DF)]
            exact h.mp _ _ hk _ DF
         ·simp only[RT]
          refine⟨ZX,.inr ⟨aH,e,s,by simp[upd],rfl,?_⟩⟩
          rw[bz hn,if_pos rfl,b9]
         ·intro j hj; unfold upd; rw[if_neg hj]
         ·intro j hj
          rw[Hr,bN] at hj
          exact⟨⟨nT,by simp,by simp[upd,hj]⟩,.inl hj⟩
       ·
        rename_i g
        split at hr
        ·rename_i e' s' fD
         split at hr
         ·rename_i hes
          simp only[aI,ek] at hes
          obtain⟨rfl,rfl⟩:=hes
          simp only[aB] at hr
          subst hr
          have Vv:=Vt hc
          have htS:∀ j,(tS.map (rR g))[j]? = (tS[j]?).map (rR g):=fun j=>eE ..
          have hgn:g≠nT:=by
           rintro rfl
           rcases hT with hT | hT
           ·rw[hT] at fD; cases fD
           ·have:=(aJ.1 fD).1; omega
          have hBm:pg B (tS.map (rR g)):=fun k hk=>by
           obtain⟨l0,h0⟩:=hB k hk
           exact⟨_,by rw[htS,h0]; rfl⟩
          have share:∀ (ι':mm) (S':ax),lU ι S ι' S' (fun k=>k=g)→(∀ k k',k≠g→(ι' k=some k'↔ι k=some k'))→(∀ k k' b,k≠g→ι k=some k'→(∀ e s n,b ≠ .tail e s n)→S[k']? = some b→S'[k']? = some b) →
            (∀ t,ι' g=some t→∃ n,S'[t]? = some (.tail e' s' n))→(∀ k k',k≠g→ι k=some k'→ι' g≠some k')→cK ι' (wI g te) (tS.map (rR g)) env S':=by
           intro ι' S' K hιe uV hg acf
           refine⟨nA K _ _ h.env,fun k0 l0 hk => ?_,fun k0 e0 s0 hk t0 DF => ?_,fun k0 k1 hk => ?_,fun i j k1 hi hj => ?_,fun k0 b0 hk t0 DF => ?_⟩
           ·rw[htS] at hk
            simp only[ai] at hk
            obtain⟨b,hb,C7⟩:=hk
            have hne:k0≠g:=by rintro rfl; rw[fD] at hb; cases hb; cases C7
            cases b<;>simp only[rR] at C7<;>first | (cases C7; done) | skip
            rename_i lb
            cases C7
            obtain⟨k',gR,n1,n2,n3⟩:=h.cells _ _ hb
            exact⟨k',gR,(hιe _ _ hne).2 n1,uV _ _ _ hne n1 (fun _ _ _ e=>by cases e) n2,nA K _ _ n3⟩
           ·rw[htS] at hk
            simp only[ai] at hk
            obtain⟨b,hb,C7⟩:=hk
            cases b<;>simp only[rR] at C7<;>first | (cases C7; done) | skip
            cases C7
            by_cases hg0:k0=g
            ·subst hg0
             rw[fD] at hb
             cases hb
             exact hg _ DF
            ·have ht1:=(hιe _ _ hg0).1 DF
             obtain⟨n,n1⟩:=h.own _ _ _ hb _ ht1
             exact⟨n,(K k0 t0 hg0 ht1).2.1 _ _ _ n1⟩
           ·rw[htS]
            by_cases hg0:k0=g
            ·subst hg0
             exact⟨_,by rw[fD]; rfl,fun e=>by cases e⟩
            ·obtain⟨b,n1,n2⟩:=h.xY _ _ ((hιe _ _ hg0).1 hk)
             exact⟨_,by rw[n1]; rfl,fun e=>by cases b<;>first | (exact n2 rfl) | cases e⟩
           ·by_cases hig:i=g<;>by_cases hjg:j=g
            ·rw[hig,hjg]
            ·subst hig; exact(acf _ _ hjg ((hιe _ _ hjg).1 hj) hi).elim
            ·subst hjg; exact(acf _ _ hig ((hιe _ _ hig).1 hi) hj).elim
            ·exact h.inj i j k1 ((hιe _ _ hig).1 hi) ((hιe _ _ hjg).1 hj)
           ·rw[htS] at hk
            simp only[ai] at hk
            obtain⟨b,hb,C7⟩:=hk
            by_cases hne:k0=g
            ·subst hne
             rw[fD] at hb
             cases hb
             subst C7
             trivial
            have ht1:=(hιe _ _ hne).1 DF
            have h1:=h.mp _ _ hb _ ht1
            subst C7
            cases b with
            | map kt l=>exact uV _ _ _ hne ht1 (fun _ _ _ e=>by cases e) h1
            | rows t e l z =>
             obtain⟨q0,q1,ds,q2,q3⟩:=h1
             exact⟨q0,q1,ds,uV _ _ _ hne ht1 (fun _ _ _ e=>by cases e) q2,q3⟩
            | _=>trivial
          by_cases Lk:news.isEmpty=true
          ·have hm:m=[]:=eF (by rw[← Y7,zY Lk]; rfl)
           subst hm
           have e7:(Nf▸([]:List k'.den):List k.den)=[]:=eF (by rw[ID]; rfl)
           refine⟨.sl rows tok f,S,ι,upd w aH nT,hz _ _ (by simp only[jK,h1,Lk,if_true]),share ι S (fun k k' _ hk=>⟨hk,fR rfl⟩) (fun _ _ _=>Iff.rfl) (fun _ _ _ _ _ _ h=>h) (fun t ht=>h.own g _ _ fD t ht) (fun k k' hk h1 h2=>hk (h.inj _ _ _ h1 h2)),?_,?_,?_,?_,Fr.refl _ _ _,hBm,gu _ _⟩
           ·simp only[RT]
            rw[e7,ff]
            exact⟨k3,kap⟩
           ·intro a b pO
            unfold upd
            rw[if_neg (h.dI hn pO)]
            exact hw _ _ pO
           ·intro j hj; unfold upd; rw[if_neg hj]
           ·intro j hj
            rw[Hr] at hj
            cases tok with
            | none=>simp only[bN] at hj; exact⟨⟨nT,by simp,by simp[upd,hj]⟩,.inl hj⟩
            | some tk =>
             simp only[bI,ep,or_false] at hj
             rcases hj with rfl | rfl
             ·rcases kap with ⟨h0,-⟩ | ⟨t0,e0,s0,a1,a2,a3⟩
              ·cases h0
              ·cases a2
               exact⟨⟨g,by simp,by simp only[upd,h.dI hn a1,if_false]; exact hw _ _ a1⟩,.inr ⟨_,a1⟩⟩
             ·exact⟨⟨nT,by simp,by simp[upd]⟩,.inl rfl⟩
          ·rcases kap with ⟨rfl,wN,afU⟩ | ⟨t0,e0,s0,a1,rfl,a3⟩
           ·have Lh:lU ι S (upd ι g aH) (eV S aH (.tail e' s' ((rows.length+news.length)*s'))) (fun k=>k=g):=fun k k' hk h2=>⟨by simp only[upd,hk,if_false]; exact h2,fR (by rw[bz hn,if_neg (h.dI hn h2)])⟩
            refine⟨.sl (rows++news) (some aH) ⟨false,none⟩,eV S aH (.tail e' s' ((rows.length+news.length)*s')),upd ι g aH,fun j=>if j=aH then some g else w j,hz _ _ ?_,share _ _ Lh (fun k k' hk=>by simp only[upd,hk,if_false]) (fun k k' ds hk h2 _ h3=>by rw[bz hn,if_neg (h.dI hn h2)]; exact h3) (fun t ht => ?_) (fun k k' hk h2 h3 => ?_),?_,?_,?_,?_,sK hn (Xs hB fD),hBm,oS hn⟩
            ·simp only[jK,h1,Lk,aF,if_false,h4,Vv,if_true,wN,Lp,gA]
            ·simp only[upd,if_true,aB] at ht
             subst ht
             exact⟨_,by rw[bz hn,if_pos rfl]⟩
            ·simp only[upd,if_true,aB] at h3
             exact h.dI hn h2 h3.symm
            ·simp only[RT]
             refine⟨ZX,.inr ⟨aH,e',s',by simp[upd],rfl,?_⟩⟩
             rw[bz hn,if_pos rfl,b9]
            ·intro a b pO
             unfold upd at pO
             split at pO
             ·rename_i e9; subst e9; cases pO; simp
             ·show (if b=aH then some g else w b)=some a
              rw[if_neg (h.dI hn pO)]; exact hw _ _ pO
            ·intro j hj
             show (if j=aH then some g else w j)=w j
             rw[if_neg hj]
            ·intro j hj
             rw[Hr,bN] at hj
             exact⟨⟨g,by simp,by simp[hj]⟩,.inl hj⟩
           ·obtain⟨n,a4⟩:=h.own g _ _ fD t0 a1
            rw[a3] at a4
            cases a4
            have hne:t0≠aH:=h.dI hn a1
            have hlt:=(aJ.1 a3).1
            have bn:∀ j,j≠t0→(S.set t0 (.tail e' s' ((rows.length+news.length)*s')))[j]? = S[j]? := fun j hj=>by rw[aQ,if_neg (Ne.symm hj)]
            have Lh:lU ι S ι (S.set t0 (.tail e' s' ((rows.length+news.length)*s'))) (fun k=>k=g):=fun k k' hk h2=>⟨h2,fR (by rw[bn k' (fun e9=>hk (h.inj _ _ _ h2 (by rw[e9]; exact a1)))])⟩
            refine⟨.sl (rows++news) (some t0) ⟨false,none⟩,S.set t0 (.tail e' s' ((rows.length+news.length)*s')),ι,fun j=>if j=aH then some nT else w j,hz _ _ ?_,share _ _ Lh (fun _ _ _=>Iff.rfl) (fun k k' ds hk h2 _ h3=>by rw[bn k' (fun e9=>hk (h.inj _ _ _ h2 (by rw[e9]; exact a1)))]; exact h3) (fun t ht => ?_) (fun k k' hk h2 h3=>hk (h.inj _ _ _ h2 h3)),?_,?_,?_,?_,yu a1,hBm,ym a3 (fun e=>by cases e)⟩
            ·simp only[jK,h1,Lk,aF,if_false,h4,Vv,if_true,a3,decide_true,gA]
            ·rw[a1] at ht
             cases ht
             exact⟨_,by rw[aQ,if_pos rfl,if_pos hlt]⟩
            ·simp only[RT]
             refine⟨ZX,.inr ⟨t0,e',s',a1,rfl,?_⟩⟩
             rw[aQ,if_pos rfl,if_pos hlt,b9]
            ·intro a b pO
             show (if b=aH then some nT else w b)=some a
             rw[if_neg (h.dI hn pO)]; exact hw _ _ pO
            ·intro j hj
             show (if j=aH then some nT else w j)=w j
             rw[if_neg hj]
            ·intro j hj
             rw[Hr] at hj
             simp only[bI,ep,or_false] at hj
             rcases hj with rfl | rfl
             ·exact⟨⟨g,by simp,by simp only[hne,if_false]; exact hw _ _ a1⟩,.inr ⟨_,a1⟩⟩
             ·exact⟨⟨nT,by simp,by simp⟩,.inl rfl⟩
         ·cases hr
        ·cases hr
      ·cases hr
     ·cases hr
    ·cases hr
   ·cases hr
  ·cases hr
 ·cases hr
theorem Se (h:cK ι te tS env S) (hB:pg B tS) (hw:Uz ι w) (hT:ye tS nT) (hn:yg S aH) (hr:stepT P ty tt te tS o nT=some r) (hc:r.c):FH P ty aM call yf B ι w env S o aH r:=by
 have pure:(bX P ty tt te tS o).map (fun r=>(⟨r.1,te,tS,vz te o,r.2⟩:TR))=some r→(∀ j∈gW (jb env) o aH,(∃ k∈vz te o,w j=some k)∧(j=aH∨∃ i,ι i=some j))→FH P ty aM call yf B ι w env S o aH r:=by
  intro hp hf
  simp only[ai] at hp
  obtain⟨⟨v,c⟩,h1,rfl⟩:=hp
  obtain⟨d,h2,h3⟩:=Ic (aM:=aM) (call:=call) (yf:=yf) (aH:=aH) h.env h.cells h1 hc
  exact⟨d,S,ι,w,h2,h,h3,hw,fun _ _=>rfl,hf,Fr.refl _ _ _,hB,gu _ _⟩
 have quiet:gW (jb env) o aH=[]→(∀ j∈gW (jb env) o aH,(∃ k∈vz te o,w j=some k)∧(j=aH∨∃ i,ι i=some j)):=fun e j hj=>by rw[e] at hj; cases hj
 cases ho:o.op with
 | alloc e =>
  simp only[stepT,ho] at hr
  split at hr
  ·rename_i k sz z h1
   cases hr
   refine⟨.ptr aH 0,eV S aH (.cells z),upd ι nT aH,upd w aH nT,by simp only[ah,ho,h1],u7 h hT hn (tG z),by simp[RT,upd],qH h hn hT hw,fun j hj=>by simp only[upd,hj,if_false],fun j hj => ?_,sK hn (nG hB hT),lF hB hT,oS hn⟩
   simp only[gW,ho,bN] at hj
   exact⟨⟨nT,by simp,by simp[upd,hj]⟩,.inl hj⟩
  ·cases hr
 | box t x =>
  simp only[stepT,ho] at hr
  split at hr
  ·rename_i v h1
   split at hr
   ·rename_i hk
    cases hr
    obtain⟨d,k1,k2⟩:=bC h.env h1
    refine⟨.ptr aH 0,eV S aH (.cells d.cells),upd ι nT aH,upd w aH nT,by simp only[ah,ho,k1],u7 h hT hn (sP hk k2),by simp[RT,upd],qH h hn hT hw,fun j hj=>by simp only[upd,hj,if_false],fun j hj => ?_,sK hn (nG hB hT),lF hB hT,oS hn⟩
    simp only[gW,ho,bN] at hj
    exact⟨⟨nT,by simp,by simp[upd,hj]⟩,.inl hj⟩
   ·cases hr
  ·cases hr
 | store t a x=>exact Sb h hB hw ho hr
 | load t a =>
  simp only[stepT,ho] at hr
  refine pure hr fun j hj => ?_
  simp only[gW,ho] at hj
  split at hj
  ·rename_i jE uB h1
   simp only[bN] at hj
   subst hj
   simp only[ai,bX,ho] at hr
   obtain⟨q,h2,-⟩:=hr
   split at h2
   ·rename_i td id off h3 h4
    obtain⟨d,k1,k2⟩:=bC h.env h4
    rw[h1] at k1
    cases k1
    simp only[RT] at k2
    exact⟨⟨id,by simp[vz,ho,h4],hw _ _ k2.1⟩,.inr ⟨_,k2.1⟩⟩
   ·rename_i td e l i off h3 h4
    obtain⟨d,k1,k2⟩:=bC h.env h4
    rw[h1] at k1
    cases k1
    simp only[RT] at k2
   ·cases h2
  ·rename_i jE n' uB h1
   simp only[ai,bX,ho] at hr
   obtain⟨q,h2,-⟩:=hr
   split at h2
   ·rename_i td id off h3 h4
    obtain⟨d,k1,k2⟩:=bC h.env h4
    rw[h1] at k1
    cases k1
    simp only[RT] at k2
   ·rename_i td e l i off h3 h4
    obtain⟨d,k1,k2⟩:=bC h.env h4
    rw[h1] at k1
    cases k1
    simp only[RT] at k2
   ·cases h2
  ·cases hj
 | call cl =>
  obtain⟨callee,args,argTypes⟩:=cl
  cases callee with
  | builtin b =>
   cases b with
   | append=>exact O0 h hB hw hT hn ho hr hc
   | _=>simp only[stepT,ho] at hr; exact pure hr (quiet (by simp only[gW,ho]))
  | _=>simp only[stepT,ho] at hr; exact pure hr (quiet (by simp only[gW,ho]))
 | _=>simp only[stepT,ho] at hr; exact pure hr (quiet (by simp only[gW,ho]))
end Go.Tv
end
section
namespace Go.Tv
open Go Go.Di
def Nq:TV := .val (.tuple #[])
def mZ (te:List TV) (dst:Option Tmp) (v:TV):List TV :=
 match dst with
 | some d=>te.set d v
 | none=>te
def eS (ops:Array Oper) (te:List TV) (o:Oper):Option Bool :=
 match o.guard with
 | none=>some true
 | some (j,want)=>match (ops[j]?).bind (·.dst) with
  | some d=>match te[d]? with
   | some (.val (.bool b))=>some (match want with | true=>b | false => !b)
   | some .unk=>none
   | some (.val _)=>some false
   | _=>none
  | none=>some false
def nU (o:Oper):Bool :=
 match o.op with
 | .alloc _ | .box .. | .store .. => true
 | .call { callee := .builtin .append,.. }=>true
 | _=>false
def abj (o:Oper):Bool :=
 match o.op with
 | .call { callee := .value _,.. }=>true
 | _=>false
def Fa (tS:List TB) (nT:Nat):Bool :=
 match tS[nT]? with
 | some .none=>true
 | none=>nT==tS.length
 | _=>false
section
variable (P:Program) (ty:ir) (tt:TypeId→Option TT)
end
section
variable {P:Program} {ty:ir} {tt:TypeId→Option TT} {ι ι' w:mm} {S S':ax} {te:List TV} {env:List DV} {tS:List TB} {aM:bV} {call:bP} {yf:fI} {o:Oper} {aH nT:Nat} {B:List Nat} {r:TR} {ops:Array Oper}
theorem aaY {v:TV} {d:DV} (h:dw ι S te env) (hv:RT ι S v d) (dst:Option Tmp):dw ι S (mZ te dst v) (gV env dst d):=by
 cases dst with
 | none=>exact h
 | some t=>exact AH t h hv
theorem JQ:RT ι S Nq bh:=by simp only[Nq,bh,RT]
theorem iF (h:dw ι S te env) {b:Bool} (hw:eS ops te o=some b):cu ops env o=b:=by
 unfold eS at hw
 unfold cu
 split at hw
 ·rename_i e; cases hw; rw[e]
 ·rename_i j want e
  rw[e]
  dsimp only
  split at hw
  ·rename_i d e1
   rw[e1]
   dsimp only
   split at hw
   ·rename_i b' e2
    cases hw
    obtain⟨d',k1,k2⟩:=tH h e2
    cases d'<;>simp only[RT] at k2
    subst k2
    rw[k1]
    cases b'<;>cases want<;>rfl
   ·cases hw
   ·rename_i v hv e2
    cases hw
    obtain⟨d',k1,k2⟩:=tH h e2
    cases d'<;>simp only[RT] at k2
    rw[k2] at k1
    rw[k1]
    cases v<;>first | rfl | exact(hv _ rfl).elim
   ·cases hw
  ·rename_i e1
   cases hw
   rw[e1]
theorem WK (h:Fa tS nT=true):ye tS nT:=by
 unfold Fa at h
 split at h
 ·rename_i e; exact .inl e
 ·exact .inr (by simpa using h)
 ·cases h
def HH (w:mm) (f ft:dD):Prop:=(f.wr=true→ft.wr=true)∧∀ l,ft.ids=some l→∃ m,f.ids=some m∧∀ j∈m,∃ k∈l,w j=some k
def Does (P:Program) (ty:ir) (aM:bV) (call:bP) (yf:fI) (B:List Nat) (o:Oper) (nT:Nat) (te:List TV) (tS:List TB) (dr:Bool) (Q:TV→List TV→List TB→dD→Prop):Prop :=
 ∀ ι w env S aH,cK ι te tS env S→pg B tS→Uz ι w→ye tS nT→yg S aH→(dr=true→S[aH]? = some .none) →
  ∃ d S' ι' w' v cT cU f ft,(dr=false→ah P ty aM call yf (jb env) o S aH=some (d,S'))∧(dr=true→aL P ty aM call yf (jb env) o S aH=some (d,S',f))∧HH w' f ft∧(∀ l m,ft.ids=some l→f.ids=some m→∀ j∈m,j=aH∨∃ i,ι i=some j) ∧
   cK ι' cT cU env S'∧RT ι' S' v d∧Uz ι' w'∧(dr=true→∀ j,j≠aH→w' j=w j)∧Fr B ι S ι' S'∧pg B cU∧Nn aH S S'∧Q v cT cU ft
theorem uh (h:stepT P ty tt te tS o nT=some r) (hc:r.c) (dr:Bool):Does P ty aM call yf B o nT te tS dr fun v cT cU ft=>v=r.v∧cT=r.te∧cU=r.tS∧ft=⟨some r.Fg,nU o⟩:=by
 intro ι w env S aH hR hB hw hT hn hS
 obtain⟨d,S',ι',w',h1,h2,h3,h4,h5,h6,h7,h8,h9⟩:=Se (aM:=aM) (call:=call) (yf:=yf) hR hB hw hT hn h hc
 refine⟨d,S',ι',w',r.v,r.te,r.tS,⟨some (gW (jb env) o aH),nU o⟩,⟨some r.Fg,nU o⟩,fun _=>h1,fun hd => ?_,⟨id,fun l hl=>⟨_,rfl,fun j hj=>by cases hl; exact(h6 j hj).1⟩⟩,fun l m hl hm j hj=>by cases hm; exact(h6 j hj).2,h2,h3,h4,fun _=>h5,h7,h8,h9,rfl,rfl,rfl,rfl⟩
 have fV:=hS hd
 cases ho:o.op with
 | alloc e=>simp only[aL,ho,fV,h1,Option.map_some,gW,nU]
 | box t x=>simp only[aL,ho,fV,h1,Option.map_some,gW,nU]
 | store t a x =>
  have:∃ id off,jb env a=some (.ptr id off):=by
   simp only[ah,ho] at h1
   split at h1
   ·rename_i a' v' e1 e2
    simp only[ai] at h1
    obtain⟨q,h1,-⟩:=h1
    unfold oq at h1
    split at h1
    ·exact⟨_,_,e1⟩
    ·simp only[stepT,ho] at h
     split at h
     ·rename_i t1 t2 t3
      obtain⟨d9,t4,t5⟩:=bC hR.env t2
      rw[e1] at t4
      cases t4
      simp only[RT] at t5
     ·cases h
    ·cases h1
   ·cases h1
  obtain⟨id,off,e⟩:=this
  simp only[aL,ho,e,h1,Option.map_some,gW,nU]
 | load t a =>
  cases e:jb env a with
  | none=>simp only[ah,ho,e] at h1; cases h1
  | some da=>cases da<;>simp only[aL,ho,e,h1,Option.map_some,gW,nU]
 | makeMap t x=>simp only[stepT,bX,ho,Option.map_none] at h; cases h
 | makeSlice t x y=>simp only[stepT,bX,ho,Option.map_none] at h; cases h
 | buildSlice t n ps =>
  have hh:ty.h o≠1:=by
   simp only[stepT,bX,ho] at h
   intro e
   split at h
   ·split at h
    ·simp[e] at h
    ·cases h
   ·cases h
  simp only[aL,ho,h1,Option.map_some,gW,nU]
 | fieldAddr t a f' =>
  cases e:jb env a with
  | none=>simp only[ah,ho,e] at h1; split at h1<;>simp_all
  | some da =>
   cases da with
   | fC id n off =>
    simp only[stepT,bX,ho] at h
    split at h
    ·rename_i t1 t2
     obtain⟨d9,t4,t5⟩:=bC hR.env t2
     rw[e] at t4
     cases t4
     simp only[RT] at t5
    ·rename_i t1 t2
     obtain⟨d9,t4,t5⟩:=bC hR.env t2
     rw[e] at t4
     cases t4
     simp only[RT] at t5
    ·cases h
   | _=>simp only[aL,ho,e,h1,Option.map_some,gW,nU]
 | indexAddr t a i =>
  cases e:jb env a with
  | none=>simp only[ah,ho,e] at h1; split at h1<;>simp_all
  | some da =>
   cases da with
   | jD id n ag =>
    simp only[stepT,bX,ho] at h
    split at h
    ·rename_i t1 t2 t3
     simp only[ai] at t2
     obtain⟨u,t2,t6⟩:=t2
     obtain⟨d9,t4,t5⟩:=bC hR.env t2
     rw[e] at t4
     cases t4
     have t7:=cN (tt:=tt) (t:=t) t5
     rw[t6] at t7
     simp only[RT] at t7
    ·rename_i t1 t2 t3
     simp only[ai] at t2
     obtain⟨u,t2,t6⟩:=t2
     obtain⟨d9,t4,t5⟩:=bC hR.env t2
     rw[e] at t4
     cases t4
     have t7:=cN (tt:=tt) (t:=t) t5
     rw[t6] at t7
     simp only[RT] at t7
    ·rename_i t1 t2 t3
     simp only[ai] at t2
     obtain⟨u,t2,t6⟩:=t2
     obtain⟨d9,t4,t5⟩:=bC hR.env t2
     rw[e] at t4
     cases t4
     have t7:=cN (tt:=tt) (t:=t) t5
     rw[t6] at t7
     simp only[RT] at t7
    ·cases h
   | _=>simp only[aL,ho,e,h1,Option.map_some,gW,nU]
 | lookup t m k b=>simp only[stepT,bX,ho,Option.map_none] at h; cases h
 | mapUpdate t m k b=>simp only[stepT,bX,ho,Option.map_none] at h; cases h
 | call cl =>
  obtain⟨callee,args,argTypes⟩:=cl
  cases callee with
  | builtin b =>
   cases b with
   | append =>
    have key:ty.h o≠1∧∀ id n ag,(args[0]?).bind (jb env)≠some (.jD id n ag):=by
     simp only[stepT,ho] at h
     split at h
     ·rename_i x y t u ha ht
      split at h
      ·rename_i PA
       refine⟨PA.2,fun id n ag he => ?_⟩
       have h0:args[0]? = some x:=by rw[← gE,ha]; rfl
       rw[h0] at he
       replace he:jb env x=some (.jD id n ag):=he
       split at h
       ·rename_i t1 t2 t3
        simp only[ai] at t2
        obtain⟨u,t2,t6⟩:=t2
        obtain⟨d9,t4,t5⟩:=bC hR.env t2
        rw[he] at t4
        cases t4
        have t7:=cN (tt:=tt) (t:=t) t5
        rw[t6] at t7
        simp only[RT] at t7
       ·cases h
      ·cases h
     ·cases h
    cases e:(args[0]?).bind (jb env) with
    | none=>simp only[aL,ho,fV,e,h1,Option.map_some,gW,nU,if_neg key.1,Br,aF,if_false]
    | some da =>
     cases da with
     | sl rows tok f=>cases tok<;>simp only[aL,ho,fV,e,h1,Option.map_some,gW,nU,if_neg key.1,Br,aF,if_false]
     | jD id n ag=>exact absurd e (key.2 id n ag)
     | _=>simp only[aL,ho,fV,e,h1,Option.map_some,gW,nU,if_neg key.1,Br,aF,if_false]
   | _=>simp only[aL,ho,h1,Option.map_some,gW,nU]
  | value f=>simp only[stepT,bX,ho,Option.map_none] at h; cases h
  | _=>simp only[aL,ho,h1,Option.map_some,gW,nU]
 | _=>simp only[aL,ho,h1,Option.map_some,gW,nU]
def WL (P:Program) (ty:ir) (aM:bV) (call:bP) (yf:fI) (B:List Nat) (ops:Array Oper) (k:Nat) (te:List TV) (tS:List TB) (Q:List TV→List TB→Prop):Prop :=
 ∀ ι env S,cK ι te tS env S→pg B tS→∃ aD S' ι' cT cU,E8 P ty aM call yf ops (ops.toList.drop k) env S=some (aD,S')∧cK ι' cT cU aD S'∧pg B cU∧Fr B ι S ι' S'∧Nn S.length S S'∧Q cT cU
theorem JP (h:cK ι te tS env S):∃ w,Uz ι w:=by
 refine⟨fun k'=>(Classical.epsilon fun o:Option Nat=>∀ k,ι k=some k'→o=some k),fun k k' hk => ?_⟩
 have:∃ o:Option Nat,∀ j,ι j=some k'→o=some j:=⟨some k,fun j hj=>congrArg some (h.inj _ _ _ hk hj)⟩
 exact Classical.epsilon_spec this k hk
theorem sS {vk:ax} (h:Nn S.length S S') (k:Nn S'.length S' vk):Nn S.length S vk:=by
 refine⟨aS h.1 k.1,fun j hj hn => ?_⟩
 have h1:=h.2 j hj hn
 have:=(aJ.1 h1).1
 exact k.2 j (by omega) h1
theorem nB (h:cK ι te tS env S) {v:TV} {d:DV} (hv:RT ι S v d) (dst:Option Tmp):cK ι (mZ te dst v) tS (gV env dst d) S:=⟨aaY h.env hv dst,h.cells,h.own,h.xY,h.inj,h.mp⟩
theorem nF {k:Nat} (ho:ops[k]? = some o):ops.toList.drop k=o::ops.toList.drop (k+1):=by
 have h:ops.toList[k]? = some o:=by simpa using ho
 obtain⟨hk,rfl⟩:=aJ.1 h
 exact nL hk
theorem aax {k:Nat} (hk:ops.size≤k) {Q:List TV→List TB→Prop} (h:Q te tS):WL P ty aM call yf B ops k te tS Q:=by
 intro ι env S hR hB
 rw[jN (by simpa using hk)]
 exact⟨env,S,ι,te,tS,rfl,hR,hB,Fr.refl _ _ _,gu _ _,h⟩
theorem VT {k:Nat} (ho:ops[k]? = some o) (hw:eS ops te o=some false) {Q:List TV→List TB→Prop}
  (h:WL P ty aM call yf B ops (k+1) (mZ te o.dst Nq) tS Q):WL P ty aM call yf B ops k te tS Q:=by
 intro ι env S hR hB
 obtain⟨aD,vk,ι'',vq,vr,k1,k2,k3,k4,k5,k6⟩:=h ι (gV env o.dst bh) S (nB hR JQ _) hB
 refine⟨aD,vk,ι'',vq,vr,?_,k2,k3,k4,k5,k6⟩
 rw[nF ho]
 simp only[E8,iF hR.env hw,aF,if_false,k1]
theorem I8 {k:Nat} {r:List Oper} (h:ops.toList.drop k=o::r):ops[k]? = some o∧r=ops.toList.drop (k+1):=by
 have h1:ops.toList[k]? = some o:=by
  have:=congrArg (·[0]?) h
  simpa using this
 refine⟨by simpa using h1,?_⟩
 have:=congrArg List.tail h
 simpa using this.symm
end
end Go.Tv
end
section
namespace Go.Tv
open Go Go.Di
variable {P:Program} {ty:ir} {tt:TypeId→Option TT} {ι ι' w:mm} {S S':ax} {te:List TV} {env:List DV} {tS:List TB} {aM:bV} {call:bP} {yf:fI} {o:Oper} {aH nT:Nat} {B:List Nat} {r:TR} {ops:Array Oper}
def WQ (P:Program) (ty:ir) (aM:bV) (call:bP) (yf:fI) (ops:Array Oper) (tS:List TB) (k:Nat) (te:List TV) (Q:List TV→Prop):Prop :=
 ∀ ι env S,cK ι te tS env S→∃ aD cT,pn P ty aM call yf ops S (ops.toList.drop k) env=some aD∧cK ι cT tS aD S∧Q cT
theorem QY {k:Nat} (hk:ops.size≤k) {Q:List TV→Prop} (h:Q te):WQ P ty aM call yf ops tS k te Q:=by
 intro ι env S hR
 rw[jN (by simpa using hk)]
 exact⟨env,te,rfl,hR,h⟩
theorem VS {k:Nat} (ho:ops[k]? = some o) (hw:eS ops te o=some false) {Q:List TV→Prop} (h:WQ P ty aM call yf ops tS (k+1) (mZ te o.dst Nq) Q):WQ P ty aM call yf ops tS k te Q:=by
 intro ι env S hR
 obtain⟨aD,cT,k1,k2,k3⟩:=h ι (gV env o.dst bh) S (nB hR JQ _)
 refine⟨aD,cT,?_,k2,k3⟩
 rw[nF ho]
 simp only[pn,iF hR.env hw,aF,if_false,k1]
theorem KI {ρ:Operand→Option DV} {d:DV} (hp:∃ q,bX P ty tt te tS o=some q) (h:ah P ty aM call yf ρ o S S.length=some (d,S)):dc P ty aM call yf ρ o S=some d:=by
 obtain⟨q,hp⟩:=hp
 cases ho:o.op with
 | alloc e=>simp only[bX,ho] at hp; cases hp
 | box t x=>simp only[bX,ho] at hp; cases hp
 | store t a x=>simp only[bX,ho] at hp; cases hp
 | makeMap t x=>simp only[bX,ho] at hp; cases hp
 | makeSlice t x y=>simp only[bX,ho] at hp; cases hp
 | buildSlice t n ps =>
  have hh:ty.h o≠1:=by
   simp only[bX,ho] at hp
   intro e
   split at hp
   ·split at hp
    ·simp[e] at hp
    ·cases hp
   ·cases hp
  simp only[dc,ho,h,Option.map_some]
 | mapUpdate t m k b=>simp only[bX,ho] at hp; cases hp
 | call cl =>
  obtain⟨callee,args,argTypes⟩:=cl
  cases callee with
  | builtin b =>
   cases b with
   | append=>simp only[bX,ho] at hp; cases hp
   | _=>simp only[dc,ho,h,Option.map_some]
  | value f=>simp only[bX,ho] at hp; cases hp
  | _=>simp only[dc,ho,h,Option.map_some]
 | _=>simp only[dc,ho,h,Option.map_some]
theorem LZ {k:Nat} {v:TV} {c:Prop} (ho:ops[k]? = some o) (hw:eS ops te o=some true) (hp:bX P ty tt te tS o=some (v,c)) (hc:c) {Q:List TV→Prop} (h:WQ P ty aM call yf ops tS (k+1) (mZ te o.dst v) Q):WQ P ty aM call yf ops tS k te Q:=by
 intro ι env S hR
 obtain⟨d,h1,h2⟩:=Ic (aM:=aM) (call:=call) (yf:=yf) (aH:=S.length) hR.env hR.cells hp hc
 obtain⟨aD,cT,k1,k2,k3⟩:=h ι (gV env o.dst d) S (nB hR h2 _)
 refine⟨aD,cT,?_,k2,k3⟩
 rw[nF ho]
 simp only[pn,iF hR.env hw,if_true,KI ⟨_,hp⟩ h1,k1]
def LW (w:mm):List dD→List dD→Prop
 | [],[]=>True
 | f::l,g::m=>HH w f g∧LW w l m
 | _,_=>False
theorem Cg {w:mm}:∀ {l m:List dD} {i:Nat} {f:dD},LW w l m→l[i]? = some f→∃ g,m[i]? = some g∧HH w f g
 | [],_,_,_,_,h=>by simp at h
 | _::_,[],_,_,h,_=>h.elim
 | f::l,g::m,0,f',h,hx=>by
  simp only[List.getElem?_cons_zero,aB] at hx
  subst hx
  exact⟨g,rfl,h.1⟩
 | f::l,g::m,i+1,f',h,hx=>by
  obtain⟨g',h1,h2⟩:=Cg (i:=i) h.2 (by simpa using hx)
  exact⟨g',by simpa using h1,h2⟩
theorem Tk {w:mm} {f g f' g':dD} (hf:HH w f f') (hg:HH w g g') (h:f.meets g=true):f'.meets g'=true:=by
 obtain⟨fi,fw⟩:=f
 obtain⟨gi,gw⟩:=g
 obtain⟨fi',fw'⟩:=f'
 obtain⟨gi',gw'⟩:=g'
 obtain⟨PI,XP⟩:=hf
 obtain⟨hg1,UT⟩:=hg
 simp only[dD.meets,aI,iZ] at h ⊢
 refine⟨h.1.imp PI hg1,?_⟩
 have h:=h.2
 have ne:∀ {m l:List Nat},(∀ j∈m,∃ k∈l,w j=some k)→m≠[]→(!l.isEmpty)=true:=by
  intro m l hml hm
  cases m with
  | nil=>exact(hm rfl).elim
  | cons j m =>
   obtain⟨k,hk,-⟩:=hml j (by simp)
   cases l with
   | nil=>cases hk
   | cons _ _=>rfl
 cases fi' with
 | none =>
  cases gi' with
  | none=>rfl
  | some l' =>
   obtain⟨m,e,hm⟩:=UT _ rfl
   simp only at e
   subst e
   refine ne hm ?_
   rintro rfl
   cases fi<;>simp at h
 | some l =>
  obtain⟨m,e,hm⟩:=XP _ rfl
  simp only at e
  subst e
  cases gi' with
  | none =>
   refine ne hm ?_
   rintro rfl
   cases gi<;>simp at h
  | some l' =>
   obtain⟨m',e,Jk⟩:=UT _ rfl
   simp only at e
   subst e
   simp only[List.any_eq_true,List.contains_iff_mem] at h ⊢
   obtain⟨j,hj,wB⟩:=h
   obtain⟨k,hk,e1⟩:=hm j hj
   obtain⟨k',pK,e2⟩:=Jk j wB
   rw[e1] at e2
   cases e2
   exact⟨k,hk,pK⟩
theorem abd {w:mm} {b:Array Nat} {fs ft:List dD} (hf:LW w fs ft) (h:sw b ft=true):sw b fs=true:=by
 simp only[sw,bt,qS,List.getElem?_zipIdx,ai,Prod.forall,ay] at h ⊢
 rintro f i ⟨i',f0,h1,rfl,rfl⟩ g j ⟨j',g0,h2,rfl,rfl⟩
 obtain⟨f',k1,k2⟩:=Cg hf h1
 obtain⟨g',k3,k4⟩:=Cg hf h2
 have:=h f' (0+i') ⟨i',f',k1,rfl,rfl⟩ g' (0+j') ⟨j',g',k3,rfl,rfl⟩
 simp only[iZ,Bool.not_eq_true'] at this ⊢
 refine this.imp (Or.imp (Or.imp id fun hn => ?_) id) id
 cases hm:f0.meets g0 with
 | false=>rfl
 | true=>rw[Tk k2 k4 hm] at hn; cases hn
def WD (P:Program) (ty:ir) (aM:bV) (call:bP) (yf:fI) (B:List Nat) (ops:Array Oper) (k:Nat) (te:List TV) (tS:List TB) (fs:List dD) (Q:List TV→List TB→Prop):Prop :=
 ∀ ι w env S n0,cK ι te tS env S→pg B tS→Uz ι w→(∀ j,k≤j→j<ops.size→S[n0+j]? = some .none) →
  ∃ aD S' A6 ι' w' cT cU ft,rF P ty aM call yf ops n0 (ops.toList.drop k) k env S=some (aD,S',A6)∧LW w' A6 ft∧(∀ j,(∀ i,k≤i→i<ops.size→j≠n0+i)→w' j=w j)∧sw (Region.before ops) (fs++ft)=true ∧
   cK ι' cT cU aD S'∧pg B cU∧Fr B ι S ι' S'∧(S.length≤S'.length∧∀ j,(∀ i,k≤i→i<ops.size→j≠n0+i)→S[j]? = some .none→S'[j]? = some .none)∧Q cT cU
variable {n0T:Nat} {fs:List dD}
theorem aaC {k:Nat} (hk:ops.size≤k) {Q:List TV→List TB→Prop} (hm:sw (Region.before ops) fs=true) (h:Q te tS):WD P ty aM call yf B ops k te tS fs Q:=by
 intro ι w env S n0 hR hB hw hn
 rw[jN (by simpa using hk)]
 exact⟨env,S,[],ι,w,te,tS,[],rfl,trivial,fun _ _=>rfl,by simpa using hm,hR,hB,Fr.refl _ _ _,⟨ak _,fun _ _ h=>h⟩,h⟩
theorem Bj {k:Nat} (ho:ops[k]? = some o) (hw:eS ops te o=some true) (uD:Fa tS (n0T+k)=true) {Q:List TV→List TB→Prop} {K:TV→List TV→List TB→dD→Prop} (hd:Does P ty aM call yf B o (n0T+k) te tS true K)
  (h:∀ v cT cU ft,K v cT cU ft→WD P ty aM call yf B ops (k+1) (mZ cT o.dst v) cU (fs++[ft]) Q):WD P ty aM call yf B ops k te tS fs Q:=by
 intro ι w env S n0 hR hB hwk hn
 have hsz:k<ops.size:=(aR.1 ho).1
 have Vo:=hn k (ak _) hsz
 obtain⟨d,S',ι',w',v,cT,cU,f,ft,h1,h2,h3,h4,h5,h6,h7,h8,h9,x6,GQ,XW⟩:=hd ι w env S (n0+k) hR hB hwk (WK uD) (.inl Vo) (fun _=>Vo)
 obtain⟨aD,vk,A6,ι'',Pu,vq,vr,fts,k1,k2,k3,k4,k5,k6,k7,k8,k9⟩:=h v cT cU ft XW ι' w' (gV env o.dst d) S' n0 (nB h5 h6 _) x6 h7 (fun j hj wB=>GQ.2 _ (by omega) (hn j (by omega) wB))
 refine⟨aD,vk,f::A6,ι'',Pu,vq,vr,ft::fts,?_,⟨⟨h3.1,fun l hl => ?_⟩,k2⟩,fun j hj => ?_,?_,k5,k6,h9.trans k7,⟨aS GQ.1 k8.1,fun j hj fV => ?_⟩,k9⟩
 ·rw[nF ho]
  simp only[rF,iF hR.env hw,if_true,h2 rfl,k1]
 ·obtain⟨m,e1,e2⟩:=h3.2 l hl
  refine⟨m,e1,fun j hj => ?_⟩
  obtain⟨k',pK,e3⟩:=e2 j hj
  refine⟨k',pK,?_⟩
  rw[k3 j ?_]
  ·exact e3
  ·intro i hi C4 he
   rcases h4 l m hl e1 j hj with rfl | ⟨i',aeQ⟩
   ·omega
   ·obtain⟨b,e4,e5⟩:=hR.live aeQ
    rw[he,hn i (by omega) C4] at e4
    cases e4
    exact e5 rfl
 ·rw[k3 j fun i hi C4=>hj i (by omega) C4,h8 rfl j (hj k (ak _) hsz)]
 ·simpa using k4
 ·exact k8.2 j (fun i hi C4=>hj i (by omega) C4) (GQ.2 j (hj k (ak _) hsz) fV)
theorem VZ {k:Nat} (ho:ops[k]? = some o) (hw:eS ops te o=some false) {Q:List TV→List TB→Prop}
  (h:WD P ty aM call yf B ops (k+1) (mZ te o.dst Nq) tS (fs++[⟨some [],false⟩]) Q):WD P ty aM call yf B ops k te tS fs Q:=by
 intro ι w env S n0 hR hB hwk hn
 have hsz:k<ops.size:=(aR.1 ho).1
 obtain⟨aD,vk,A6,ι'',Pu,vq,vr,fts,k1,k2,k3,k4,k5,k6,k7,k8,k9⟩:=h ι w (gV env o.dst bh) S n0 (nB hR JQ _) hB hwk (fun j hj wB=>hn j (by omega) wB)
 refine⟨aD,vk,⟨some [],false⟩::A6,ι'',Pu,vq,vr,⟨some [],false⟩::fts,?_,⟨⟨id,fun l hl=>⟨[],rfl,fun j hj=>by cases hj⟩⟩,k2⟩,fun j hj => ?_,?_,k5,k6,k7,⟨k8.1,fun j hj fV => ?_⟩,k9⟩
 ·rw[nF ho]
  simp only[rF,iF hR.env hw,aF,if_false,k1]
 ·exact k3 j fun i hi C4=>hj i (by omega) C4
 ·simpa using k4
 ·exact k8.2 j (fun i hi C4=>hj i (by omega) C4) fV
def Qt (o:Oper):Bool :=
 o.guard.isNone&&match o.op with
 | .alloc _ | .box .. | .store .. | .makeMap .. | .mapUpdate .. => true
 | .call { callee := .builtin .append,.. }=>true
 | _=>false
theorem vI:∀ {l:List Oper} {env:List DV},l.any Qt=true→pn P ty aM call yf ops S l env=none
 | [],_,h=>by cases h
 | o::l,env,h=>by
  simp only[List.any_cons,iZ] at h
  simp only[pn]
  rcases h with h | h
  ·simp only[Qt,aI] at h
   obtain⟨h1,h2⟩:=h
   have hw:cu ops env o=true:=by
    unfold cu
    rw[Option.isNone_iff_eq_none.1 h1]
   have hq:dc P ty aM call yf (jb env) o S=none:=by
    split at h2
    ·rename_i ho; simp only[dc,ho]
    ·rename_i ho; simp only[dc,ho]
    ·rename_i ho; simp only[dc,ho]
    ·rename_i ho; simp only[dc,ho]
    ·rename_i ho; simp only[dc,ho]
    ·rename_i ho; simp only[dc,ho]
    ·cases h2
   simp only[hw,if_true,hq]
  ·split
   ·split
    ·exact vI h
    ·rfl
   ·exact vI h
def uR (P:Program) (ops:Array Oper):Bool:=ops.toList.any Qt||ops.toList.any (FX P)
theorem OG {env:List DV} (h:uR P ops=true):(if ops.toList.any (FX P) then none else pn P ty aM call yf ops S ops.toList env)=none:=by
 split
 ·rfl
 ·rename_i hp
  unfold uR at h
  rw[Bool.not_eq_true] at hp
  rw[hp,Bool.or_false] at h
  exact vI h
theorem ext_get {S:ax} {n k:Nat} (h:Lv S k):(S++List.replicate n .none)[k]? = S[k]? := by
 obtain⟨b,h1,-⟩:=h
 exact fq (aJ.1 h1).1
theorem Wt (h:cK ι te tS env S) (n m:Nat):cK ι te (tS++List.replicate n .none) env (S++List.replicate m .none):=by
 have hl:∀ k k',ι k=some k'→(S++List.replicate m DB.none)[k']? = S[k']? := fun k k' hk=>ext_get (h.live hk)
 have K:lU ι S ι (S++List.replicate m .none) fun _=>False:=fun k k' _ hk=>⟨hk,fR (hl k k' hk)⟩
 have hT:∀ (k:Nat) (b:TB),(tS++List.replicate n TB.none)[k]? = some b→b ≠ .none→tS[k]? = some b:=by
  intro k b hk hb
  rw[qP] at hk
  split at hk
  ·exact hk
  ·rw[nK] at hk
   split at hk
   ·cases hk; exact(hb rfl).elim
   ·cases hk
 refine⟨bU K _ _ h.env,fun k l hk => ?_,fun k e s hk t ht => ?_,fun k k' hk => ?_,h.inj,fun k b hk t ht=>by
  rw[hl k t ht]
  cases b with
  | none=>trivial
  | _=>exact h.mp k _ (hT k _ hk (fun e=>by cases e)) t ht⟩
 ·obtain⟨k',ds,h1,h2,h3⟩:=h.cells k l (hT k _ hk (fun e=>by cases e))
  exact⟨k',ds,h1,by rw[hl k k' h1]; exact h2,bU K _ _ h3⟩
 ·obtain⟨n',h1⟩:=h.own k e s (hT k _ hk (fun e=>by cases e)) t ht
  exact⟨n',by rw[hl k t ht]; exact h1⟩
 ·obtain⟨b,h1,h2⟩:=h.xY k k' hk
  exact⟨b,by rw[fq (aJ.1 h1).1]; exact h1,h2⟩
end Go.Tv
end
