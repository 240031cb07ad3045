import Derived.Test.YtedcgbkilmlbhaaGreatPk02
section
namespace Go.Tv
open Go Go.Di
variable {P:Program} {ty:gF} {tt:TypeId→Option TT} {ι ι' w:lW} {S S':av} {te:List TV} {env:List DV} {tS:List TB} {aI:bP} {call:bM} {yf:eW} {o:Oper} {aB nT:Nat} {B:List Nat} {r:TR}
theorem Pd:∀ {l:List TV} {m:List DV},dg ι S l m→l.all aaf=true→m.all DV.one=true
 | [],m,h,_=>by rw[aW h]; rfl
 | a::l,m,h,k=>by
  obtain⟨d,m',rfl,h1,h2⟩:=ak h
  simp only[List.all_cons,aG] at k ⊢
  refine⟨?_,Pd h2 k.2⟩
  cases a<;>cases d<;>simp only[RT] at h1<;>first | rfl | (cases k.1; done) | (subst h1; exact k.1)
def D3 (P:Program) (ty:gF) (aI:bP) (call:bM) (yf:eW) (B:List Nat) (ι w:lW) (env:List DV) (S:av) (o:Oper) (aB:Nat) (r:TR):Prop :=
 ∃ d S' ι' w',af P ty aI call yf (iB env) o S aB=some (d,S')∧cM ι' r.te r.tS env S'∧RT ι' S' r.v d∧RZ ι' w'∧(∀ j,j≠aB→w' j=w j)∧(∀ j∈gu (iB env) o aB,(∃ k∈r.DC,w' j=some k)∧(j=aB∨∃ i,ι i=some j))∧Fr B ι S ι' S'∧ow B r.tS∧Nn aB S S'
theorem PY (h:cM ι te tS env S) (hB:ow B tS) (hw:RZ ι w) {t:TypeId} {a x:Operand} (ho:o.op = .store t a x) (hr:stepT P ty tt te tS o nT=some r):D3 P ty aI call yf B ι w env S o aB r:=by
 simp only[stepT,ho] at hr
 split at hr
 ·rename_i td id off v h1 h2 h3
  split at hr
  ·rename_i l h4
   split at hr
   ·rename_i hc
    simp only[aG,dX] at hc
    obtain⟨⟨c1,c2⟩,c3⟩:=hc
    simp only[ah] at hr h3
    obtain⟨l',h5,rfl⟩:=hr
    obtain⟨u,h6,h7⟩:=h3
    obtain⟨da,k1,k2⟩:=bt h.env h2
    cases da<;>simp only[RT] at k2
    rename_i iT sS
    obtain⟨k3,rfl⟩:=k2
    obtain⟨d,k4,k5⟩:=bt h.env h6
    have k6:=cE (tt:=tt) (t:=t) k5
    rw[h7] at k6
    have k7:=ry c1 k6
    obtain⟨adY,ds,m1,m2,m3⟩:=h.cells id l h4
    rw[k3] at m1
    cases m1
    obtain⟨gW,m4,m5⟩:=Ek m3 k7 h5
    have K:lH ι S ι (S.set iT (.cells gW)) fun _=>False:=fun k k' _ hk=>⟨hk,by
     rw[aP]
     split
     ·rename_i e1; subst e1; exact y9 (by rw[m2]; simp) (by rw[m2]; simp)
     ·exact fH rfl⟩
    have hlt:=(aJ.1 m2).1
    refine⟨bz,S.set iT (.cells gW),ι,w,?_,?_,by simp only[RT],hw,fun _ _=>rfl,?_,wS k3,?_,wN m2 (fun e=>by cases e)⟩
    ·have e1:d.cells.length=td.size:=by rw[ig k7]; exact c2
     simp only[af,ho,k1,k4,nG,h1,m2,e1,Pd k7 c3,decide_true,gm,if_true,m4,Option.map_some]
    ·refine⟨bW K _ _ h.env,fun k l0 hk => ?_,fun k e s hk t0 ht => ?_,fun k k' hk => ?_,h.inj,fun k b0 hk t0 ht => ?_⟩
     ·simp only[aP] at hk
      split at hk
      ·rename_i e1
       subst e1
       split at hk
       ·cases hk
        exact⟨iT,gW,k3,by rw[aP,if_pos rfl,if_pos hlt],bW K _ _ m5⟩
       ·cases hk
      ·rename_i e1
       obtain⟨k',NN,n1,n2,n3⟩:=h.cells k l0 hk
       refine⟨k',NN,n1,?_,bW K _ _ n3⟩
       rw[aP,if_neg ?_]
       ·exact n2
       ·rintro rfl; exact e1 (h.inj _ _ _ k3 n1)
     ·simp only[aP] at hk
      split at hk
      ·split at hk<;>cases hk
      ·obtain⟨n,n1⟩:=h.own k e s hk t0 ht
       exact⟨n,(K k t0 (fun e=>e) ht).2.1 _ _ _ n1⟩
     ·simp only[aP]
      split
      ·rename_i e1
       subst e1
       have:=(aJ.1 h4).1
       exact⟨_,if_pos this,fun e=>by cases e⟩
      ·exact h.xH k k' hk
     ·simp only[aP] at hk
      split at hk
      ·split at hk<;>cases hk
       trivial
      ·rename_i e1
       rw[aP,if_neg]
       ·exact h.mp k b0 hk t0 ht
       ·rintro rfl; exact e1 (h.inj _ _ _ k3 ht)
    ·intro j hj
     simp only[gu,ho,k1,bJ] at hj
     subst hj
     exact⟨⟨id,by simp,hw _ _ k3⟩,.inr ⟨_,k3⟩⟩
    ·intro k hk
     simp only[aP]
     split
     ·rename_i e1
      subst e1
      exact⟨_,if_pos (aJ.1 h4).1⟩
     ·exact hB k hk
   ·cases hr
  ·cases hr
 ·cases hr
theorem L5 {k k':TT} (h:k'=k) {m:List k'.den} {rows:List DV} (hr:ek (CR k') k'.agg m rows):ek (CR k) k.agg (h▸m) rows:=by
 subst h
 exact hr
theorem GB {k k':TT} (h:k'=k) (m:List k'.den):(h▸m:List k.den).length=m.length:=by
 subst h
 rfl
theorem ym {rows:List DV} (h:rows.isEmpty=true):rows=[]:=List.isEmpty_iff.1 h
theorem M0 (h:cM ι te tS env S) (hB:ow B tS) (hw:RZ ι w) (hT:wF tS nT) (hn:wG S aB) {args:Array Operand} {argTypes:Array TypeId} (ho:o.op = .call { callee := .builtin .append,args,argTypes }) (hr:stepT P ty tt te tS o nT=some r) (hc:r.c):D3 P ty aI call yf B ι w env S o aB r:=by
 simp only[stepT,ho] at hr
 split at hr
 ·rename_i x y t u ha ht
  split at hr
  ·rename_i Ny
   obtain⟨Ny,hh⟩:=Ny
   subst Ny
   split at hr
   ·rename_i e s kF ag sz z0 k l ap k' m _ h1 h2 h3
    split at hr
    ·rename_i k0 sz' z h4
     split at hr
     ·rename_i Li
      split at hr
      ·rename_i nA
       simp only[aG,dX,bI] at nA
       obtain⟨⟨c1,c2⟩,c3⟩:=nA
       simp only[ah] at h2 h3
       obtain⟨ux,e1,e2⟩:=h2
       obtain⟨uy,e3,e4⟩:=h3
       obtain⟨da,k1,k2⟩:=bt h.env e1
       have k3:=cE (tt:=tt) (t:=t) k2
       rw[e2] at k3
       obtain⟨db,k4,k5⟩:=bt h.env e3
       have k6:=cE (tt:=tt) (t:=t) k5
       rw[e4] at k6
       cases da<;>simp only[RT] at k3
       rename_i rows tok f
       cases db<;>simp only[RT] at k6
       rename_i news acr f'
       obtain⟨k3,kap⟩:=k3
       obtain⟨k6,-⟩:=k6
       have ZF:=kz k3
       have WH:=kz k6
       have k6':=L5 Li k6
       have XD:=yb k3 k6'
       have NI:(rows.all fun r=>decide (r.cells.length=s))=true:=bh.2 fun r hr=>fM ((iQ k3 r hr).trans c3)
       have EX:(news.all fun r=>decide (r.cells.length=s))=true:=bh.2 fun r hr=>fM ((iQ k6' r hr).trans c3)
       have hx:(args[0]?).bind (iB env)=some (.sl rows tok f):=by
        have:args[0]? = some x:=by rw[← gN,ha]; rfl
        rw[this]; exact k1
       have FA:gu (iB env) o aB=match tok with | some t=>[t,aB] | none=>[aB]:=by
        simp only[gu,ho,hx]
        cases tok<;>rfl
       have SR:l.length+m.length≤1000000000→(decide (0<s)&&decide ((rows.length+news.length)*kF≤eR)&&decide (rows.length+news.length≤140737488355328-4096)&&news.all (fun r=>decide (r.cells.length=s)))=true:=by
        intro hle
        simp only[aG,bI]
        rw[ZF,WH]
        refine⟨⟨⟨c1,?_⟩,by omega⟩,EX⟩
        calc (l.length+m.length)*kF≤1000000000*100000:=Nat.mul_le_mul hle c2
         _≤eR:=by decide
       have hz:∀ d S',iY ty S aB t (.sl rows tok f) (.sl news acr f')=some (d,S')→af P ty aI call yf (iB env) o S aB=some (d,S'):=by
        intro d S' hd
        simp only[af,ho,ha,ht,if_true,k1,k4,hd]
       split at hr
       ·cases hr
       ·
        split at hr
        rotate_left
        ·cases hr
        rename_i Pq
        simp only[az] at hr
        subst hr
        obtain⟨rfl,uX⟩:=kap
        have SS:=SR hc
        by_cases Jx:news.isEmpty=true
        ·have hm:m=[]:=dY (by rw[← WH,ym Jx]; rfl)
         subst hm
         refine⟨.sl rows none f,S,ι,upd w aB nT,hz _ _ (by simp only[iY,h1,Jx,if_true]),?_,?_,?_,?_,?_,Fr.refl _ _ _,kB hB hT,fJ _ _⟩
         ·refine⟨h.env,fun k0 l0 hk => ?_,fun k0 e0 s0 hk t0 B7 => ?_,fun k0 k1 hk => ?_,h.inj,fun k0 b0 hk t0 B7 => ?_⟩
          ·rw[cC hT] at hk
           split at hk
           ·cases hk
           ·exact h.cells _ _ hk
          ·rw[cC hT] at hk
           split at hk
           ·rename_i e5; subst e5; rw[h.new hT] at B7; cases B7
           ·exact h.own _ _ _ hk _ B7
          ·rw[cC hT]
           split
           ·exact⟨_,rfl,fun e=>by cases e⟩
           ·exact h.xH _ _ hk
          ·rw[cC hT] at hk
           split at hk
           ·cases hk; trivial
           ·exact h.mp _ _ hk _ B7
         ·simp only[RT]
          have WJ:l=[]:=by
           cases l with
           | nil=>rfl
           | cons a l=>simp[Pw] at Pq
          refine⟨?_,.inl ⟨rfl,uX,by rw[ZF,WJ]; rfl⟩⟩
          have e7:(Li▸([]:List k'.den):List k.den)=[]:=dY (by rw[GB]; rfl)
          rw[e7,eU]
          exact k3
         ·intro a b pK
          unfold upd
          rw[if_neg (h.dn hn pK)]
          exact hw _ _ pK
         ·intro j hj; unfold upd; rw[if_neg hj]
         ·intro j hj
          rw[FA,bJ] at hj
          exact⟨⟨nT,by simp,by simp[upd,hj]⟩,.inl hj⟩
        ·have K:=sE h hT hn (.tail e s ((rows.length+news.length)*s))
         refine⟨.sl (rows++news) (some aB) ⟨false,none⟩,ez S aB (.tail e s ((rows.length+news.length)*s)),upd ι nT aB,upd w aB nT,hz _ _ ?_,?_,?_,pP h hn hT hw,?_,?_,qY hn (mG hB hT),kB hB hT,nZ hn⟩
         ·simp only[iY,h1,Jx,aD,if_false,h4,SS,if_true,uX,NI,gm]
         ·refine⟨bW K _ _ h.env,fun k0 l0 hk => ?_,fun k0 e0 s0 hk t0 B7 => ?_,fun k0 k1 hk => ?_,fun i j k1 hi hj => ?_,fun k0 b0 hk t0 B7 => ?_⟩
          ·rw[cC hT] at hk
           split at hk
           ·cases hk
           ·rename_i e5
            obtain⟨k',gW,n1,n2,n3⟩:=h.cells _ _ hk
            exact⟨k',gW,by simp only[upd,e5,if_false]; exact n1,by rw[bn hn,if_neg (h.dn hn n1)]; exact n2,bW K _ _ n3⟩
          ·rw[cC hT] at hk
           split at hk
           ·rename_i e5
            cases hk
            simp only[upd,e5,if_true,az] at B7
            subst B7
            exact⟨_,by rw[bn hn,if_pos rfl]⟩
           ·rename_i e5
            simp only[upd,e5,if_false] at B7
            obtain⟨n,n1⟩:=h.own _ _ _ hk _ B7
            exact⟨n,by rw[bn hn,if_neg (h.dn hn B7)]; exact n1⟩
          ·rw[cC hT]
           split
           ·exact⟨_,rfl,fun e=>by cases e⟩
           ·rename_i e5
            simp only[upd,e5,if_false] at hk
            exact h.xH _ _ hk
          ·unfold upd at hi hj
           split at hi<;>split at hj
           ·omega
           ·cases hi; exact(h.dn hn hj rfl).elim
           ·cases hj; exact(h.dn hn hi rfl).elim
           ·exact h.inj i j k1 hi hj
          ·rw[cC hT] at hk
           split at hk
           ·cases hk; trivial
           ·rename_i e5
            simp only[upd,e5,if_false] at B7
            rw[bn hn,if_neg (h.dn hn B7)]
            exact h.mp _ _ hk _ B7
         ·simp only[RT]
          refine⟨XD,.inr ⟨aB,e,s,by simp[upd],rfl,?_⟩⟩
          rw[bn hn,if_pos rfl,bU]
         ·intro j hj; unfold upd; rw[if_neg hj]
         ·intro j hj
          rw[FA,bJ] at hj
          exact⟨⟨nT,by simp,by simp[upd,hj]⟩,.inl hj⟩
       ·
        rename_i g
        split at hr
        ·rename_i e' s' eN
         split at hr
         ·rename_i hes
          simp only[aG,dX] at hes
          obtain⟨rfl,rfl⟩:=hes
          simp only[az] at hr
          subst hr
          have SS:=SR hc
          have htS:∀ j,(tS.map (qC g))[j]? = (tS[j]?).map (qC g):=fun j=>fQ ..
          have hgn:g≠nT:=by
           rintro rfl
           rcases hT with hT | hT
           ·rw[hT] at eN; cases eN
           ·have:=(aJ.1 eN).1; omega
          have hBm:ow B (tS.map (qC g)):=fun k hk=>by
           obtain⟨l0,h0⟩:=hB k hk
           exact⟨_,by rw[htS,h0]; rfl⟩
          have share:∀ (ι':lW) (S':av),lH ι S ι' S' (fun k=>k=g)→(∀ k k',k≠g→(ι' k=some k'↔ι k=some k'))→(∀ k k' b,k≠g→ι k=some k'→(∀ e s n,b ≠ .tail e s n)→S[k']? = some b→S'[k']? = some b) →
            (∀ t,ι' g=some t→∃ n,S'[t]? = some (.tail e' s' n))→(∀ k k',k≠g→ι k=some k'→ι' g≠some k')→cM ι' (uR g te) (tS.map (qC g)) env S':=by
           intro ι' S' K hιe tj hg aau
           refine⟨mw K _ _ h.env,fun k0 l0 hk => ?_,fun k0 e0 s0 hk t0 B7 => ?_,fun k0 k1 hk => ?_,fun i j k1 hi hj => ?_,fun k0 b0 hk t0 B7 => ?_⟩
           ·rw[htS] at hk
            simp only[ah] at hk
            obtain⟨b,hb,Bx⟩:=hk
            have hne:k0≠g:=by rintro rfl; rw[eN] at hb; cases hb; cases Bx
            cases b<;>simp only[qC] at Bx<;>first | (cases Bx; done) | skip
            rename_i lb
            cases Bx
            obtain⟨k',gW,n1,n2,n3⟩:=h.cells _ _ hb
            exact⟨k',gW,(hιe _ _ hne).2 n1,tj _ _ _ hne n1 (fun _ _ _ e=>by cases e) n2,mw K _ _ n3⟩
           ·rw[htS] at hk
            simp only[ah] at hk
            obtain⟨b,hb,Bx⟩:=hk
            cases b<;>simp only[qC] at Bx<;>first | (cases Bx; done) | skip
            cases Bx
            by_cases ZI:k0=g
            ·subst ZI
             rw[eN] at hb
             cases hb
             exact hg _ B7
            ·have Zy:=(hιe _ _ ZI).1 B7
             obtain⟨n,n1⟩:=h.own _ _ _ hb _ Zy
             exact⟨n,(K k0 t0 ZI Zy).2.1 _ _ _ n1⟩
           ·rw[htS]
            by_cases ZI:k0=g
            ·subst ZI
             exact⟨_,by rw[eN]; rfl,fun e=>by cases e⟩
            ·obtain⟨b,n1,n2⟩:=h.xH _ _ ((hιe _ _ ZI).1 hk)
             exact⟨_,by rw[n1]; rfl,fun e=>by cases b<;>first | (exact n2 rfl) | cases e⟩
           ·by_cases hig:i=g<;>by_cases hjg:j=g
            ·rw[hig,hjg]
            ·subst hig; exact(aau _ _ hjg ((hιe _ _ hjg).1 hj) hi).elim
            ·subst hjg; exact(aau _ _ hig ((hιe _ _ hig).1 hi) hj).elim
            ·exact h.inj i j k1 ((hιe _ _ hig).1 hi) ((hιe _ _ hjg).1 hj)
           ·rw[htS] at hk
            simp only[ah] at hk
            obtain⟨b,hb,Bx⟩:=hk
            by_cases hne:k0=g
            ·subst hne
             rw[eN] at hb
             cases hb
             subst Bx
             trivial
            have Zy:=(hιe _ _ hne).1 B7
            have h1:=h.mp _ _ hb _ Zy
            subst Bx
            cases b with
            | map kt l=>exact tj _ _ _ hne Zy (fun _ _ _ e=>by cases e) h1
            | rows t e l z =>
             obtain⟨q0,q1,ds,q2,q3⟩:=h1
             exact⟨q0,q1,ds,tj _ _ _ hne Zy (fun _ _ _ e=>by cases e) q2,q3⟩
            | _=>trivial
          by_cases Jx:news.isEmpty=true
          ·have hm:m=[]:=dY (by rw[← WH,ym Jx]; rfl)
           subst hm
           have e7:(Li▸([]:List k'.den):List k.den)=[]:=dY (by rw[GB]; rfl)
           refine⟨.sl rows tok f,S,ι,upd w aB nT,hz _ _ (by simp only[iY,h1,Jx,if_true]),share ι S (fun k k' _ hk=>⟨hk,fH rfl⟩) (fun _ _ _=>Iff.rfl) (fun _ _ _ _ _ _ h=>h) (fun t ht=>h.own g _ _ eN t ht) (fun k k' hk h1 h2=>hk (h.inj _ _ _ h1 h2)),?_,?_,?_,?_,Fr.refl _ _ _,hBm,fJ _ _⟩
           ·simp only[RT]
            rw[e7,eU]
            exact⟨k3,kap⟩
           ·intro a b pK
            unfold upd
            rw[if_neg (h.dn hn pK)]
            exact hw _ _ pK
           ·intro j hj; unfold upd; rw[if_neg hj]
           ·intro j hj
            rw[FA] at hj
            cases tok with
            | none=>simp only[bJ] at hj; exact⟨⟨nT,by simp,by simp[upd,hj]⟩,.inl hj⟩
            | some tk =>
             simp only[bH,eu,or_false] at hj
             rcases hj with rfl | rfl
             ·rcases kap with ⟨h0,-⟩ | ⟨t0,e0,s0,a1,a2,a3⟩
              ·cases h0
              ·cases a2
               exact⟨⟨g,by simp,by simp only[upd,h.dn hn a1,if_false]; exact hw _ _ a1⟩,.inr ⟨_,a1⟩⟩
             ·exact⟨⟨nT,by simp,by simp[upd]⟩,.inl rfl⟩
          ·rcases kap with ⟨rfl,uX,aeh⟩ | ⟨t0,e0,s0,a1,rfl,a3⟩
           ·have Jv:lH ι S (upd ι g aB) (ez S aB (.tail e' s' ((rows.length+news.length)*s'))) (fun k=>k=g):=fun k k' hk h2=>⟨by simp only[upd,hk,if_false]; exact h2,fH (by rw[bn hn,if_neg (h.dn hn h2)])⟩
            refine⟨.sl (rows++news) (some aB) ⟨false,none⟩,ez S aB (.tail e' s' ((rows.length+news.length)*s')),upd ι g aB,fun j=>if j=aB then some g else w j,hz _ _ ?_,share _ _ Jv (fun k k' hk=>by simp only[upd,hk,if_false]) (fun k k' ds hk h2 _ h3=>by rw[bn hn,if_neg (h.dn hn h2)]; exact h3) (fun t ht => ?_) (fun k k' hk h2 h3 => ?_),?_,?_,?_,?_,qY hn (UY hB eN),hBm,nZ hn⟩
            ·simp only[iY,h1,Jx,aD,if_false,h4,SS,if_true,uX,NI,gm]
            ·simp only[upd,if_true,az] at ht
             subst ht
             exact⟨_,by rw[bn hn,if_pos rfl]⟩
            ·simp only[upd,if_true,az] at h3
             exact h.dn hn h2 h3.symm
            ·simp only[RT]
             refine⟨XD,.inr ⟨aB,e',s',by simp[upd],rfl,?_⟩⟩
             rw[bn hn,if_pos rfl,bU]
            ·intro a b pK
             unfold upd at pK
             split at pK
             ·rename_i e9; subst e9; cases pK; simp
             ·show (if b=aB then some g else w b)=some a
              rw[if_neg (h.dn hn pK)]; exact hw _ _ pK
            ·intro j hj
             show (if j=aB then some g else w j)=w j
             rw[if_neg hj]
            ·intro j hj
             rw[FA,bJ] at hj
             exact⟨⟨g,by simp,by simp[hj]⟩,.inl hj⟩
           ·obtain⟨n,a4⟩:=h.own g _ _ eN t0 a1
            rw[a3] at a4
            cases a4
            have hne:t0≠aB:=h.dn hn a1
            have hlt:=(aJ.1 a3).1
            have bC:∀ j,j≠t0→(S.set t0 (.tail e' s' ((rows.length+news.length)*s')))[j]? = S[j]? := fun j hj=>by rw[aP,if_neg (Ne.symm hj)]
            have Jv:lH ι S ι (S.set t0 (.tail e' s' ((rows.length+news.length)*s'))) (fun k=>k=g):=fun k k' hk h2=>⟨h2,fH (by rw[bC k' (fun e9=>hk (h.inj _ _ _ h2 (by rw[e9]; exact a1)))])⟩
            refine⟨.sl (rows++news) (some t0) ⟨false,none⟩,S.set t0 (.tail e' s' ((rows.length+news.length)*s')),ι,fun j=>if j=aB then some nT else w j,hz _ _ ?_,share _ _ Jv (fun _ _ _=>Iff.rfl) (fun k k' ds hk h2 _ h3=>by rw[bC k' (fun e9=>hk (h.inj _ _ _ h2 (by rw[e9]; exact a1)))]; exact h3) (fun t ht => ?_) (fun k k' hk h2 h3=>hk (h.inj _ _ _ h2 h3)),?_,?_,?_,?_,wS a1,hBm,wN a3 (fun e=>by cases e)⟩
            ·simp only[iY,h1,Jx,aD,if_false,h4,SS,if_true,a3,decide_true,gm]
            ·rw[a1] at ht
             cases ht
             exact⟨_,by rw[aP,if_pos rfl,if_pos hlt]⟩
            ·simp only[RT]
             refine⟨XD,.inr ⟨t0,e',s',a1,rfl,?_⟩⟩
             rw[aP,if_pos rfl,if_pos hlt,bU]
            ·intro a b pK
             show (if b=aB then some nT else w b)=some a
             rw[if_neg (h.dn hn pK)]; exact hw _ _ pK
            ·intro j hj
             show (if j=aB then some nT else w j)=w j
             rw[if_neg hj]
            ·intro j hj
             rw[FA] at hj
             simp only[bH,eu,or_false] at hj
             rcases hj with rfl | rfl
             ·exact⟨⟨g,by simp,by simp only[hne,if_false]; exact hw _ _ a1⟩,.inr ⟨_,a1⟩⟩
             ·exact⟨⟨nT,by simp,by simp⟩,.inl rfl⟩
         ·cases hr
        ·cases hr
      ·cases hr
     ·cases hr
    ·cases hr
   ·cases hr
  ·cases hr
 ·cases hr
theorem P7 (h:cM ι te tS env S) (hB:ow B tS) (hw:RZ ι w) (hT:wF tS nT) (hn:wG S aB) (hr:stepT P ty tt te tS o nT=some r) (hc:r.c):D3 P ty aI call yf B ι w env S o aB r:=by
 have pure:(bL P ty tt te tS o).map (fun r=>(⟨r.1,te,tS,tU te o,r.2⟩:TR))=some r→(∀ j∈gu (iB env) o aB,(∃ k∈tU te o,w j=some k)∧(j=aB∨∃ i,ι i=some j))→D3 P ty aI call yf B ι w env S o aB r:=by
  intro hp hf
  simp only[ah] at hp
  obtain⟨⟨v,c⟩,h1,rfl⟩:=hp
  obtain⟨d,h2,h3⟩:=F8 (aI:=aI) (call:=call) (yf:=yf) (aB:=aB) h.env h.cells h1 hc
  exact⟨d,S,ι,w,h2,h,h3,hw,fun _ _=>rfl,hf,Fr.refl _ _ _,hB,fJ _ _⟩
 have quiet:gu (iB env) o aB=[]→(∀ j∈gu (iB env) o aB,(∃ k∈tU te o,w j=some k)∧(j=aB∨∃ i,ι i=some j)):=fun e j hj=>by rw[e] at hj; cases hj
 cases ho:o.op with
 | alloc e =>
  simp only[stepT,ho] at hr
  split at hr
  ·rename_i k sz z h1
   cases hr
   refine⟨.ptr aB 0,ez S aB (.cells z),upd ι nT aB,upd w aB nT,by simp only[af,ho,h1],tC h hT hn (rV z),by simp[RT,upd],pP h hn hT hw,fun j hj=>by simp only[upd,hj,if_false],fun j hj => ?_,qY hn (mG hB hT),kB hB hT,nZ hn⟩
   simp only[gu,ho,bJ] at hj
   exact⟨⟨nT,by simp,by simp[upd,hj]⟩,.inl hj⟩
  ·cases hr
 | box t x =>
  simp only[stepT,ho] at hr
  split at hr
  ·rename_i v h1
   split at hr
   ·rename_i hk
    cases hr
    obtain⟨d,k1,k2⟩:=bt h.env h1
    refine⟨.ptr aB 0,ez S aB (.cells d.cells),upd ι nT aB,upd w aB nT,by simp only[af,ho,k1],tC h hT hn (ry hk k2),by simp[RT,upd],pP h hn hT hw,fun j hj=>by simp only[upd,hj,if_false],fun j hj => ?_,qY hn (mG hB hT),kB hB hT,nZ hn⟩
    simp only[gu,ho,bJ] at hj
    exact⟨⟨nT,by simp,by simp[upd,hj]⟩,.inl hj⟩
   ·cases hr
  ·cases hr
 | store t a x=>exact PY h hB hw ho hr
 | load t a =>
  simp only[stepT,ho] at hr
  refine pure hr fun j hj => ?_
  simp only[gu,ho] at hj
  split at hj
  ·rename_i iT sS h1
   simp only[bJ] at hj
   subst hj
   simp only[ah,bL,ho] at hr
   obtain⟨q,h2,-⟩:=hr
   split at h2
   ·rename_i td id off h3 h4
    obtain⟨d,k1,k2⟩:=bt h.env h4
    rw[h1] at k1
    cases k1
    simp only[RT] at k2
    exact⟨⟨id,by simp[tU,ho,h4],hw _ _ k2.1⟩,.inr ⟨_,k2.1⟩⟩
   ·rename_i td e l i off h3 h4
    obtain⟨d,k1,k2⟩:=bt h.env h4
    rw[h1] at k1
    cases k1
    simp only[RT] at k2
   ·cases h2
  ·rename_i iT n' sS h1
   simp only[ah,bL,ho] at hr
   obtain⟨q,h2,-⟩:=hr
   split at h2
   ·rename_i td id off h3 h4
    obtain⟨d,k1,k2⟩:=bt h.env h4
    rw[h1] at k1
    cases k1
    simp only[RT] at k2
   ·rename_i td e l i off h3 h4
    obtain⟨d,k1,k2⟩:=bt h.env h4
    rw[h1] at k1
    cases k1
    simp only[RT] at k2
   ·cases h2
  ·cases hj
 | call cl =>
  obtain⟨callee,args,argTypes⟩:=cl
  cases callee with
  | builtin b =>
   cases b with
   | append=>exact M0 h hB hw hT hn ho hr hc
   | _=>simp only[stepT,ho] at hr; exact pure hr (quiet (by simp only[gu,ho]))
  | _=>simp only[stepT,ho] at hr; exact pure hr (quiet (by simp only[gu,ho]))
 | _=>simp only[stepT,ho] at hr; exact pure hr (quiet (by simp only[gu,ho]))
end Go.Tv
end
section
namespace Go.Tv
open Go Go.Di
def Lm:TV := .val (.tuple #[])
def lY (te:List TV) (dst:Option Tmp) (v:TV):List TV :=
 match dst with
 | some d=>te.set d v
 | none=>te
def er (ops:Array Oper) (te:List TV) (o:Oper):Option Bool :=
 match o.guard with
 | none=>some true
 | some (j,want)=>match (ops[j]?).bind (·.dst) with
  | some d=>match te[d]? with
   | some (.val (.bool b))=>some (match want with | true=>b | false => !b)
   | some .unk=>none
   | some (.val _)=>some false
   | _=>none
  | none=>some false
def mZ (o:Oper):Bool :=
 match o.op with
 | .alloc _ | .box .. | .store .. => true
 | .call { callee := .builtin .append,.. }=>true
 | _=>false
def YV (o:Oper):Bool :=
 match o.op with
 | .call { callee := .value _,.. }=>true
 | _=>false
def Du (tS:List TB) (nT:Nat):Bool :=
 match tS[nT]? with
 | some .none=>true
 | none=>nT==tS.length
 | _=>false
section
variable (P:Program) (ty:gF) (tt:TypeId→Option TT)
end
section
variable {P:Program} {ty:gF} {tt:TypeId→Option TT} {ι ι' w:lW} {S S':av} {te:List TV} {env:List DV} {tS:List TB} {aI:bP} {call:bM} {yf:eW} {o:Oper} {aB nT:Nat} {B:List Nat} {r:TR} {ops:Array Oper}
theorem YC {v:TV} {d:DV} (h:dg ι S te env) (hv:RT ι S v d) (dst:Option Tmp):dg ι S (lY te dst v) (jj env dst d):=by
 cases dst with
 | none=>exact h
 | some t=>exact Kh t h hv
theorem HZ:RT ι S Lm bz:=by simp only[Lm,bz,RT]
theorem gO (h:dg ι S te env) {b:Bool} (hw:er ops te o=some b):bY ops env o=b:=by
 unfold er at hw
 unfold bY
 split at hw
 ·rename_i e; cases hw; rw[e]
 ·rename_i j want e
  rw[e]
  dsimp only
  split at hw
  ·rename_i d e1
   rw[e1]
   dsimp only
   split at hw
   ·rename_i b' e2
    cases hw
    obtain⟨d',k1,k2⟩:=rW h e2
    cases d'<;>simp only[RT] at k2
    subst k2
    rw[k1]
    cases b'<;>cases want<;>rfl
   ·cases hw
   ·rename_i v hv e2
    cases hw
    obtain⟨d',k1,k2⟩:=rW h e2
    cases d'<;>simp only[RT] at k2
    rw[k2] at k1
    rw[k1]
    cases v<;>first | rfl | exact(hv _ rfl).elim
   ·cases hw
  ·rename_i e1
   cases hw
   rw[e1]
theorem Uq (h:Du tS nT=true):wF tS nT:=by
 unfold Du at h
 split at h
 ·rename_i e; exact .inl e
 ·exact .inr (by simpa using h)
 ·cases h
def FL (w:lW) (f ft:dh):Prop:=(f.wr=true→ft.wr=true)∧∀ l,ft.ids=some l→∃ m,f.ids=some m∧∀ j∈m,∃ k∈l,w j=some k
def Does (P:Program) (ty:gF) (aI:bP) (call:bM) (yf:eW) (B:List Nat) (o:Oper) (nT:Nat) (te:List TV) (tS:List TB) (dr:Bool) (Q:TV→List TV→List TB→dh→Prop):Prop :=
 ∀ ι w env S aB,cM ι te tS env S→ow B tS→RZ ι w→wF tS nT→wG S aB→(dr=true→S[aB]? = some .none) →
  ∃ d S' ι' w' v cL cN f ft,(dr=false→af P ty aI call yf (iB env) o S aB=some (d,S'))∧(dr=true→aH P ty aI call yf (iB env) o S aB=some (d,S',f))∧FL w' f ft∧(∀ l m,ft.ids=some l→f.ids=some m→∀ j∈m,j=aB∨∃ i,ι i=some j) ∧
   cM ι' cL cN env S'∧RT ι' S' v d∧RZ ι' w'∧(dr=true→∀ j,j≠aB→w' j=w j)∧Fr B ι S ι' S'∧ow B cN∧Nn aB S S'∧Q v cL cN ft
theorem sH (h:stepT P ty tt te tS o nT=some r) (hc:r.c) (dr:Bool):Does P ty aI call yf B o nT te tS dr fun v cL cN ft=>v=r.v∧cL=r.te∧cN=r.tS∧ft=⟨some r.DC,mZ o⟩:=by
 intro ι w env S aB hR hB hw hT hn hS
 obtain⟨d,S',ι',w',h1,h2,h3,h4,h5,h6,h7,h8,h9⟩:=P7 (aI:=aI) (call:=call) (yf:=yf) hR hB hw hT hn h hc
 refine⟨d,S',ι',w',r.v,r.te,r.tS,⟨some (gu (iB env) o aB),mZ o⟩,⟨some r.DC,mZ o⟩,fun _=>h1,fun hd => ?_,⟨id,fun l hl=>⟨_,rfl,fun j hj=>by cases hl; exact(h6 j hj).1⟩⟩,fun l m hl hm j hj=>by cases hm; exact(h6 j hj).2,h2,h3,h4,fun _=>h5,h7,h8,h9,rfl,rfl,rfl,rfl⟩
 have eZ:=hS hd
 cases ho:o.op with
 | alloc e=>simp only[aH,ho,eZ,h1,Option.map_some,gu,mZ]
 | box t x=>simp only[aH,ho,eZ,h1,Option.map_some,gu,mZ]
 | store t a x =>
  have:∃ id off,iB env a=some (.ptr id off):=by
   simp only[af,ho] at h1
   split at h1
   ·rename_i a' v' e1 e2
    simp only[ah] at h1
    obtain⟨q,h1,-⟩:=h1
    unfold nG at h1
    split at h1
    ·exact⟨_,_,e1⟩
    ·simp only[stepT,ho] at h
     split at h
     ·rename_i t1 t2 t3
      obtain⟨d9,t4,t5⟩:=bt hR.env t2
      rw[e1] at t4
      cases t4
      simp only[RT] at t5
     ·cases h
    ·cases h1
   ·cases h1
  obtain⟨id,off,e⟩:=this
  simp only[aH,ho,e,h1,Option.map_some,gu,mZ]
 | load t a =>
  cases e:iB env a with
  | none=>simp only[af,ho,e] at h1; cases h1
  | some da=>cases da<;>simp only[aH,ho,e,h1,Option.map_some,gu,mZ]
 | makeMap t x=>simp only[stepT,bL,ho,Option.map_none] at h; cases h
 | makeSlice t x y=>simp only[stepT,bL,ho,Option.map_none] at h; cases h
 | buildSlice t n ps =>
  have hh:ty.h o≠1:=by
   simp only[stepT,bL,ho] at h
   intro e
   split at h
   ·split at h
    ·simp[e] at h
    ·cases h
   ·cases h
  simp only[aH,ho,h1,Option.map_some,gu,mZ]
 | fieldAddr t a f' =>
  cases e:iB env a with
  | none=>simp only[af,ho,e] at h1; split at h1<;>simp_all
  | some da =>
   cases da with
   | fW id n off =>
    simp only[stepT,bL,ho] at h
    split at h
    ·rename_i t1 t2
     obtain⟨d9,t4,t5⟩:=bt hR.env t2
     rw[e] at t4
     cases t4
     simp only[RT] at t5
    ·rename_i t1 t2
     obtain⟨d9,t4,t5⟩:=bt hR.env t2
     rw[e] at t4
     cases t4
     simp only[RT] at t5
    ·cases h
   | _=>simp only[aH,ho,e,h1,Option.map_some,gu,mZ]
 | indexAddr t a i =>
  cases e:iB env a with
  | none=>simp only[af,ho,e] at h1; split at h1<;>simp_all
  | some da =>
   cases da with
   | jG id n ag =>
    simp only[stepT,bL,ho] at h
    split at h
    ·rename_i t1 t2 t3
     simp only[ah] at t2
     obtain⟨u,t2,t6⟩:=t2
     obtain⟨d9,t4,t5⟩:=bt hR.env t2
     rw[e] at t4
     cases t4
     have t7:=cE (tt:=tt) (t:=t) t5
     rw[t6] at t7
     simp only[RT] at t7
    ·rename_i t1 t2 t3
     simp only[ah] at t2
     obtain⟨u,t2,t6⟩:=t2
     obtain⟨d9,t4,t5⟩:=bt hR.env t2
     rw[e] at t4
     cases t4
     have t7:=cE (tt:=tt) (t:=t) t5
     rw[t6] at t7
     simp only[RT] at t7
    ·rename_i t1 t2 t3
     simp only[ah] at t2
     obtain⟨u,t2,t6⟩:=t2
     obtain⟨d9,t4,t5⟩:=bt hR.env t2
     rw[e] at t4
     cases t4
     have t7:=cE (tt:=tt) (t:=t) t5
     rw[t6] at t7
     simp only[RT] at t7
    ·cases h
   | _=>simp only[aH,ho,e,h1,Option.map_some,gu,mZ]
 | lookup t m k b=>simp only[stepT,bL,ho,Option.map_none] at h; cases h
 | mapUpdate t m k b=>simp only[stepT,bL,ho,Option.map_none] at h; cases h
 | call cl =>
  obtain⟨callee,args,argTypes⟩:=cl
  cases callee with
  | builtin b =>
   cases b with
   | append =>
    have key:ty.h o≠1∧∀ id n ag,(args[0]?).bind (iB env)≠some (.jG id n ag):=by
     simp only[stepT,ho] at h
     split at h
     ·rename_i x y t u ha ht
      split at h
      ·rename_i Ny
       refine⟨Ny.2,fun id n ag he => ?_⟩
       have h0:args[0]? = some x:=by rw[← gN,ha]; rfl
       rw[h0] at he
       replace he:iB env x=some (.jG id n ag):=he
       split at h
       ·rename_i t1 t2 t3
        simp only[ah] at t2
        obtain⟨u,t2,t6⟩:=t2
        obtain⟨d9,t4,t5⟩:=bt hR.env t2
        rw[he] at t4
        cases t4
        have t7:=cE (tt:=tt) (t:=t) t5
        rw[t6] at t7
        simp only[RT] at t7
       ·cases h
      ·cases h
     ·cases h
    cases e:(args[0]?).bind (iB env) with
    | none=>simp only[aH,ho,eZ,e,h1,Option.map_some,gu,mZ,if_neg key.1,zT,aD,if_false]
    | some da =>
     cases da with
     | sl rows tok f=>cases tok<;>simp only[aH,ho,eZ,e,h1,Option.map_some,gu,mZ,if_neg key.1,zT,aD,if_false]
     | jG id n ag=>exact absurd e (key.2 id n ag)
     | _=>simp only[aH,ho,eZ,e,h1,Option.map_some,gu,mZ,if_neg key.1,zT,aD,if_false]
   | _=>simp only[aH,ho,h1,Option.map_some,gu,mZ]
  | value f=>simp only[stepT,bL,ho,Option.map_none] at h; cases h
  | _=>simp only[aH,ho,h1,Option.map_some,gu,mZ]
 | _=>simp only[aH,ho,h1,Option.map_some,gu,mZ]
def WL (P:Program) (ty:gF) (aI:bP) (call:bM) (yf:eW) (B:List Nat) (ops:Array Oper) (k:Nat) (te:List TV) (tS:List TB) (Q:List TV→List TB→Prop):Prop :=
 ∀ ι env S,cM ι te tS env S→ow B tS→∃ aC S' ι' cL cN,Dt P ty aI call yf ops (ops.toList.drop k) env S=some (aC,S')∧cM ι' cL cN aC S'∧ow B cN∧Fr B ι S ι' S'∧Nn S.length S S'∧Q cL cN
theorem HY (h:cM ι te tS env S):∃ w,RZ ι w:=by
 refine⟨fun k'=>(Classical.epsilon fun o:Option Nat=>∀ k,ι k=some k'→o=some k),fun k k' hk => ?_⟩
 have:∃ o:Option Nat,∀ j,ι j=some k'→o=some j:=⟨some k,fun j hj=>congrArg some (h.inj _ _ _ hk hj)⟩
 exact Classical.epsilon_spec this k hk
theorem rA {tI:av} (h:Nn S.length S S') (k:Nn S'.length S' tI):Nn S.length S tI:=by
 refine⟨aM h.1 k.1,fun j hj hn => ?_⟩
 have h1:=h.2 j hj hn
 have:=(aJ.1 h1).1
 exact k.2 j (by omega) h1
theorem mz (h:cM ι te tS env S) {v:TV} {d:DV} (hv:RT ι S v d) (dst:Option Tmp):cM ι (lY te dst v) tS (jj env dst d) S:=⟨YC h.env hv dst,h.cells,h.own,h.xH,h.inj,h.mp⟩
theorem mF {k:Nat} (ho:ops[k]? = some o):ops.toList.drop k=o::ops.toList.drop (k+1):=by
 have h:ops.toList[k]? = some o:=by simpa using ho
 obtain⟨hk,rfl⟩:=aJ.1 h
 exact mO hk
theorem Ya {k:Nat} (hk:ops.size≤k) {Q:List TV→List TB→Prop} (h:Q te tS):WL P ty aI call yf B ops k te tS Q:=by
 intro ι env S hR hB
 rw[ja (by simpa using hk)]
 exact⟨env,S,ι,te,tS,rfl,hR,hB,Fr.refl _ _ _,fJ _ _,h⟩
theorem Ti {k:Nat} (ho:ops[k]? = some o) (hw:er ops te o=some false) {Q:List TV→List TB→Prop}
  (h:WL P ty aI call yf B ops (k+1) (lY te o.dst Lm) tS Q):WL P ty aI call yf B ops k te tS Q:=by
 intro ι env S hR hB
 obtain⟨aC,tI,ι'',tM,tN,k1,k2,k3,k4,k5,k6⟩:=h ι (jj env o.dst bz) S (mz hR HZ _) hB
 refine⟨aC,tI,ι'',tM,tN,?_,k2,k3,k4,k5,k6⟩
 rw[mF ho]
 simp only[Dt,gO hR.env hw,aD,if_false,k1]
theorem G8 {k:Nat} {r:List Oper} (h:ops.toList.drop k=o::r):ops[k]? = some o∧r=ops.toList.drop (k+1):=by
 have h1:ops.toList[k]? = some o:=by
  have:=congrArg (·[0]?) h
  simpa using this
 refine⟨by simpa using h1,?_⟩
 have:=congrArg List.tail h
 simpa using this.symm
end
end Go.Tv
end
section
namespace Go.Tv
open Go Go.Di
variable {P:Program} {ty:gF} {tt:TypeId→Option TT} {ι ι' w:lW} {S S':av} {te:List TV} {env:List DV} {tS:List TB} {aI:bP} {call:bM} {yf:eW} {o:Oper} {aB nT:Nat} {B:List Nat} {r:TR} {ops:Array Oper}
def WQ (P:Program) (ty:gF) (aI:bP) (call:bM) (yf:eW) (ops:Array Oper) (tS:List TB) (k:Nat) (te:List TV) (Q:List TV→Prop):Prop :=
 ∀ ι env S,cM ι te tS env S→∃ aC cL,oy P ty aI call yf ops S (ops.toList.drop k) env=some aC∧cM ι cL tS aC S∧Q cL
theorem OY {k:Nat} (hk:ops.size≤k) {Q:List TV→Prop} (h:Q te):WQ P ty aI call yf ops tS k te Q:=by
 intro ι env S hR
 rw[ja (by simpa using hk)]
 exact⟨env,te,rfl,hR,h⟩
theorem Tg {k:Nat} (ho:ops[k]? = some o) (hw:er ops te o=some false) {Q:List TV→Prop} (h:WQ P ty aI call yf ops tS (k+1) (lY te o.dst Lm) Q):WQ P ty aI call yf ops tS k te Q:=by
 intro ι env S hR
 obtain⟨aC,cL,k1,k2,k3⟩:=h ι (jj env o.dst bz) S (mz hR HZ _)
 refine⟨aC,cL,?_,k2,k3⟩
 rw[mF ho]
 simp only[oy,gO hR.env hw,aD,if_false,k1]
theorem IX {ρ:Operand→Option DV} {d:DV} (hp:∃ q,bL P ty tt te tS o=some q) (h:af P ty aI call yf ρ o S S.length=some (d,S)):cS P ty aI call yf ρ o S=some d:=by
 obtain⟨q,hp⟩:=hp
 cases ho:o.op with
 | alloc e=>simp only[bL,ho] at hp; cases hp
 | box t x=>simp only[bL,ho] at hp; cases hp
 | store t a x=>simp only[bL,ho] at hp; cases hp
 | makeMap t x=>simp only[bL,ho] at hp; cases hp
 | makeSlice t x y=>simp only[bL,ho] at hp; cases hp
 | buildSlice t n ps =>
  have hh:ty.h o≠1:=by
   simp only[bL,ho] at hp
   intro e
   split at hp
   ·split at hp
    ·simp[e] at hp
    ·cases hp
   ·cases hp
  simp only[cS,ho,h,Option.map_some]
 | mapUpdate t m k b=>simp only[bL,ho] at hp; cases hp
 | call cl =>
  obtain⟨callee,args,argTypes⟩:=cl
  cases callee with
  | builtin b =>
   cases b with
   | append=>simp only[bL,ho] at hp; cases hp
   | _=>simp only[cS,ho,h,Option.map_some]
  | value f=>simp only[bL,ho] at hp; cases hp
  | _=>simp only[cS,ho,h,Option.map_some]
 | _=>simp only[cS,ho,h,Option.map_some]
theorem J3 {k:Nat} {v:TV} {c:Prop} (ho:ops[k]? = some o) (hw:er ops te o=some true) (hp:bL P ty tt te tS o=some (v,c)) (hc:c) {Q:List TV→Prop} (h:WQ P ty aI call yf ops tS (k+1) (lY te o.dst v) Q):WQ P ty aI call yf ops tS k te Q:=by
 intro ι env S hR
 obtain⟨d,h1,h2⟩:=F8 (aI:=aI) (call:=call) (yf:=yf) (aB:=S.length) hR.env hR.cells hp hc
 obtain⟨aC,cL,k1,k2,k3⟩:=h ι (jj env o.dst d) S (mz hR h2 _)
 refine⟨aC,cL,?_,k2,k3⟩
 rw[mF ho]
 simp only[oy,gO hR.env hw,if_true,IX ⟨_,hp⟩ h1,k1]
def JZ (w:lW):List dh→List dh→Prop
 | [],[]=>True
 | f::l,g::m=>FL w f g∧JZ w l m
 | _,_=>False
theorem AM {w:lW}:∀ {l m:List dh} {i:Nat} {f:dh},JZ w l m→l[i]? = some f→∃ g,m[i]? = some g∧FL w f g
 | [],_,_,_,_,h=>by simp at h
 | _::_,[],_,_,h,_=>h.elim
 | f::l,g::m,0,f',h,hx=>by
  simp only[List.getElem?_cons_zero,az] at hx
  subst hx
  exact⟨g,rfl,h.1⟩
 | f::l,g::m,i+1,f',h,hx=>by
  obtain⟨g',h1,h2⟩:=AM (i:=i) h.2 (by simpa using hx)
  exact⟨g',by simpa using h1,h2⟩
theorem QZ {w:lW} {f g f' g':dh} (hf:FL w f f') (hg:FL w g g') (h:f.meets g=true):f'.meets g'=true:=by
 obtain⟨fi,fw⟩:=f
 obtain⟨gi,gw⟩:=g
 obtain⟨fi',fw'⟩:=f'
 obtain⟨gi',gw'⟩:=g'
 obtain⟨NG,Vk⟩:=hf
 obtain⟨Sj,Ht⟩:=hg
 simp only[dh.meets,aG,iq] at h ⊢
 refine⟨h.1.imp NG Sj,?_⟩
 have h:=h.2
 have ne:∀ {m l:List Nat},(∀ j∈m,∃ k∈l,w j=some k)→m≠[]→(!l.isEmpty)=true:=by
  intro m l hml hm
  cases m with
  | nil=>exact(hm rfl).elim
  | cons j m =>
   obtain⟨k,hk,-⟩:=hml j (by simp)
   cases l with
   | nil=>cases hk
   | cons _ _=>rfl
 cases fi' with
 | none =>
  cases gi' with
  | none=>rfl
  | some l' =>
   obtain⟨m,e,hm⟩:=Ht _ rfl
   simp only at e
   subst e
   refine ne hm ?_
   rintro rfl
   cases fi<;>simp at h
 | some l =>
  obtain⟨m,e,hm⟩:=Vk _ rfl
  simp only at e
  subst e
  cases gi' with
  | none =>
   refine ne hm ?_
   rintro rfl
   cases gi<;>simp at h
  | some l' =>
   obtain⟨m',e,Hs⟩:=Ht _ rfl
   simp only at e
   subst e
   simp only[List.any_eq_true,List.contains_iff_mem] at h ⊢
   obtain⟨j,hj,oJ⟩:=h
   obtain⟨k,hk,e1⟩:=hm j hj
   obtain⟨k',oI,e2⟩:=Hs j oJ
   rw[e1] at e2
   cases e2
   exact⟨k,hk,oI⟩
theorem YP {w:lW} {b:Array Nat} {fs ft:List dh} (hf:JZ w fs ft) (h:qL b ft=true):qL b fs=true:=by
 simp only[qL,bh,pZ,List.getElem?_zipIdx,ah,Prod.forall,ax] at h ⊢
 rintro f i ⟨i',f0,h1,rfl,rfl⟩ g j ⟨j',g0,h2,rfl,rfl⟩
 obtain⟨f',k1,k2⟩:=AM hf h1
 obtain⟨g',k3,k4⟩:=AM hf h2
 have:=h f' (0+i') ⟨i',f',k1,rfl,rfl⟩ g' (0+j') ⟨j',g',k3,rfl,rfl⟩
 simp only[iq,Bool.not_eq_true'] at this ⊢
 refine this.imp (Or.imp (Or.imp id fun hn => ?_) id) id
 cases hm:f0.meets g0 with
 | false=>rfl
 | true=>rw[QZ k2 k4 hm] at hn; cases hn
def WD (P:Program) (ty:gF) (aI:bP) (call:bM) (yf:eW) (B:List Nat) (ops:Array Oper) (k:Nat) (te:List TV) (tS:List TB) (fs:List dh) (Q:List TV→List TB→Prop):Prop :=
 ∀ ι w env S n0,cM ι te tS env S→ow B tS→RZ ι w→(∀ j,k≤j→j<ops.size→S[n0+j]? = some .none) →
  ∃ aC S' zB ι' w' cL cN ft,qv P ty aI call yf ops n0 (ops.toList.drop k) k env S=some (aC,S',zB)∧JZ w' zB ft∧(∀ j,(∀ i,k≤i→i<ops.size→j≠n0+i)→w' j=w j)∧qL (Region.before ops) (fs++ft)=true ∧
   cM ι' cL cN aC S'∧ow B cN∧Fr B ι S ι' S'∧(S.length≤S'.length∧∀ j,(∀ i,k≤i→i<ops.size→j≠n0+i)→S[j]? = some .none→S'[j]? = some .none)∧Q cL cN
variable {n0T:Nat} {fs:List dh}
theorem Yg {k:Nat} (hk:ops.size≤k) {Q:List TV→List TB→Prop} (hm:qL (Region.before ops) fs=true) (h:Q te tS):WD P ty aI call yf B ops k te tS fs Q:=by
 intro ι w env S n0 hR hB hw hn
 rw[ja (by simpa using hk)]
 exact⟨env,S,[],ι,w,te,tS,[],rfl,trivial,fun _ _=>rfl,by simpa using hm,hR,hB,Fr.refl _ _ _,⟨ai _,fun _ _ h=>h⟩,h⟩
theorem zP {k:Nat} (ho:ops[k]? = some o) (hw:er ops te o=some true) (wD:Du tS (n0T+k)=true) {Q:List TV→List TB→Prop} {K:TV→List TV→List TB→dh→Prop} (hd:Does P ty aI call yf B o (n0T+k) te tS true K)
  (h:∀ v cL cN ft,K v cL cN ft→WD P ty aI call yf B ops (k+1) (lY cL o.dst v) cN (fs++[ft]) Q):WD P ty aI call yf B ops k te tS fs Q:=by
 intro ι w env S n0 hR hB hwk hn
 have hsz:k<ops.size:=(aN.1 ho).1
 have SM:=hn k (ai _) hsz
 obtain⟨d,S',ι',w',v,cL,cN,f,ft,h1,h2,h3,h4,h5,h6,h7,h8,h9,wB,Fe,Vr⟩:=hd ι w env S (n0+k) hR hB hwk (Uq wD) (.inl SM) (fun _=>SM)
 obtain⟨aC,tI,zB,ι'',Nt,tM,tN,fts,k1,k2,k3,k4,k5,k6,k7,k8,k9⟩:=h v cL cN ft Vr ι' w' (jj env o.dst d) S' n0 (mz h5 h6 _) wB h7 (fun j hj oJ=>Fe.2 _ (by omega) (hn j (by omega) oJ))
 refine⟨aC,tI,f::zB,ι'',Nt,tM,tN,ft::fts,?_,⟨⟨h3.1,fun l hl => ?_⟩,k2⟩,fun j hj => ?_,?_,k5,k6,h9.trans k7,⟨aM Fe.1 k8.1,fun j hj eZ => ?_⟩,k9⟩
 ·rw[mF ho]
  simp only[qv,gO hR.env hw,if_true,h2 rfl,k1]
 ·obtain⟨m,e1,e2⟩:=h3.2 l hl
  refine⟨m,e1,fun j hj => ?_⟩
  obtain⟨k',oI,e3⟩:=e2 j hj
  refine⟨k',oI,?_⟩
  rw[k3 j ?_]
  ·exact e3
  ·intro i hi EU he
   rcases h4 l m hl e1 j hj with rfl | ⟨i',ac5⟩
   ·omega
   ·obtain⟨b,e4,e5⟩:=hR.live ac5
    rw[he,hn i (by omega) EU] at e4
    cases e4
    exact e5 rfl
 ·rw[k3 j fun i hi EU=>hj i (by omega) EU,h8 rfl j (hj k (ai _) hsz)]
 ·simpa using k4
 ·exact k8.2 j (fun i hi EU=>hj i (by omega) EU) (Fe.2 j (hj k (ai _) hsz) eZ)
theorem Tq {k:Nat} (ho:ops[k]? = some o) (hw:er ops te o=some false) {Q:List TV→List TB→Prop}
  (h:WD P ty aI call yf B ops (k+1) (lY te o.dst Lm) tS (fs++[⟨some [],false⟩]) Q):WD P ty aI call yf B ops k te tS fs Q:=by
 intro ι w env S n0 hR hB hwk hn
 have hsz:k<ops.size:=(aN.1 ho).1
 obtain⟨aC,tI,zB,ι'',Nt,tM,tN,fts,k1,k2,k3,k4,k5,k6,k7,k8,k9⟩:=h ι w (jj env o.dst bz) S n0 (mz hR HZ _) hB hwk (fun j hj oJ=>hn j (by omega) oJ)
 refine⟨aC,tI,⟨some [],false⟩::zB,ι'',Nt,tM,tN,⟨some [],false⟩::fts,?_,⟨⟨id,fun l hl=>⟨[],rfl,fun j hj=>by cases hj⟩⟩,k2⟩,fun j hj => ?_,?_,k5,k6,k7,⟨k8.1,fun j hj eZ => ?_⟩,k9⟩
 ·rw[mF ho]
  simp only[qv,gO hR.env hw,aD,if_false,k1]
 ·exact k3 j fun i hi EU=>hj i (by omega) EU
 ·simpa using k4
 ·exact k8.2 j (fun i hi EU=>hj i (by omega) EU) eZ
def Oq (o:Oper):Bool :=
 o.guard.isNone&&match o.op with
 | .alloc _ | .box .. | .store .. | .makeMap .. | .mapUpdate .. => true
 | .call { callee := .builtin .append,.. }=>true
 | _=>false
theorem ue:∀ {l:List Oper} {env:List DV},l.any Oq=true→oy P ty aI call yf ops S l env=none
 | [],_,h=>by cases h
 | o::l,env,h=>by
  simp only[List.any_cons,iq] at h
  simp only[oy]
  rcases h with h | h
  ·simp only[Oq,aG] at h
   obtain⟨h1,h2⟩:=h
   have hw:bY ops env o=true:=by
    unfold bY
    rw[Option.isNone_iff_eq_none.1 h1]
   have hq:cS P ty aI call yf (iB env) o S=none:=by
    split at h2
    ·rename_i ho; simp only[cS,ho]
    ·rename_i ho; simp only[cS,ho]
    ·rename_i ho; simp only[cS,ho]
    ·rename_i ho; simp only[cS,ho]
    ·rename_i ho; simp only[cS,ho]
    ·rename_i ho; simp only[cS,ho]
    ·cases h2
   simp only[hw,if_true,hq]
  ·split
   ·split
    ·exact ue h
    ·rfl
   ·exact ue h
def tc (P:Program) (ops:Array Oper):Bool:=ops.toList.any Oq||ops.toList.any (El P)
theorem MF {env:List DV} (h:tc P ops=true):(if ops.toList.any (El P) then none else oy P ty aI call yf ops S ops.toList env)=none:=by
 split
 ·rfl
 ·rename_i hp
  unfold tc at h
  rw[Bool.not_eq_true] at hp
  rw[hp,Bool.or_false] at h
  exact ue h
theorem ext_get {S:av} {n k:Nat} (h:Lv S k):(S++List.replicate n .none)[k]? = S[k]? := by
 obtain⟨b,h1,-⟩:=h
 exact eG (aJ.1 h1).1
theorem Ua (h:cM ι te tS env S) (n m:Nat):cM ι te (tS++List.replicate n .none) env (S++List.replicate m .none):=by
 have hl:∀ k k',ι k=some k'→(S++List.replicate m DB.none)[k']? = S[k']? := fun k k' hk=>ext_get (h.live hk)
 have K:lH ι S ι (S++List.replicate m .none) fun _=>False:=fun k k' _ hk=>⟨hk,fH (hl k k' hk)⟩
 have hT:∀ (k:Nat) (b:TB),(tS++List.replicate n TB.none)[k]? = some b→b ≠ .none→tS[k]? = some b:=by
  intro k b hk hb
  rw[pX] at hk
  split at hk
  ·exact hk
  ·rw[mN] at hk
   split at hk
   ·cases hk; exact(hb rfl).elim
   ·cases hk
 refine⟨bW K _ _ h.env,fun k l hk => ?_,fun k e s hk t ht => ?_,fun k k' hk => ?_,h.inj,fun k b hk t ht=>by
  rw[hl k t ht]
  cases b with
  | none=>trivial
  | _=>exact h.mp k _ (hT k _ hk (fun e=>by cases e)) t ht⟩
 ·obtain⟨k',ds,h1,h2,h3⟩:=h.cells k l (hT k _ hk (fun e=>by cases e))
  exact⟨k',ds,h1,by rw[hl k k' h1]; exact h2,bW K _ _ h3⟩
 ·obtain⟨n',h1⟩:=h.own k e s (hT k _ hk (fun e=>by cases e)) t ht
  exact⟨n',by rw[hl k t ht]; exact h1⟩
 ·obtain⟨b,h1,h2⟩:=h.xH k k' hk
  exact⟨b,by rw[eG (aJ.1 h1).1]; exact h1,h2⟩
end Go.Tv
end
