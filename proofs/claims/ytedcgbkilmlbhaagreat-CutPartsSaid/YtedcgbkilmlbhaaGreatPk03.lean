import Derived.Test.YtedcgbkilmlbhaaGreatPk02
section
namespace Go.Tv
open Go Go.Di
variable {P:Program} {ty:fI} {tt:TypeId→Option TT} {ι ι' w:lK} {S S':ak} {te:List TV} {env:List DV} {tS:List TB} {aI:bM} {call:bz} {yf:eE} {o:Oper} {ay nT:Nat} {B:List Nat} {r:TR}
theorem OR:∀ {l:List TV} {m:List DV},cQ ι S l m→l.all aae=true→m.all DV.one=true
 | [],m,h,_=>by rw[aU h]; rfl
 | a::l,m,h,k=>by
  obtain⟨d,m',rfl,h1,h2⟩:=ax h
  simp only[List.all_cons,aB] at k ⊢
  refine⟨?_,OR h2 k.2⟩
  cases a<;>cases d<;>simp only[RT] at h1<;>first | rfl | (cases k.1; done) | (subst h1; exact k.1)
def DO (P:Program) (ty:fI) (aI:bM) (call:bz) (yf:eE) (B:List Nat) (ι w:lK) (env:List DV) (S:ak) (o:Oper) (ay:Nat) (r:TR):Prop :=
 ∃ d S' ι' w',af P ty aI call yf (gX env) o S ay=some (d,S')∧b9 ι' r.te r.tS env S'∧RT ι' S' r.v d∧Q9 ι' w'∧(∀ j,j≠ay→w' j=w j)∧(∀ j∈fS (gX env) o ay,(∃ k∈r.Dy,w' j=some k)∧(j=ay∨∃ i,ι i=some j))∧Fr B ι S ι' S'∧nL B r.tS∧Nn ay S S'
theorem Pt (h:b9 ι te tS env S) (hB:nL B tS) (hw:Q9 ι w) {t:TypeId} {a x:Operand} (ho:o.op = .store t a x) (hr:stepT P ty tt te tS o nT=some r):DO P ty aI call yf B ι w env S o ay r:=by
 simp only[stepT,ho] at hr
 split at hr
 ·rename_i td id off v h1 h2 h3
  split at hr
  ·rename_i l h4
   split at hr
   ·rename_i hc
    simp only[aB,cV] at hc
    obtain⟨⟨c1,c2⟩,c3⟩:=hc
    simp only[ah] at hr h3
    obtain⟨l',h5,rfl⟩:=hr
    obtain⟨u,h6,h7⟩:=h3
    obtain⟨da,k1,k2⟩:=bg h.env h2
    cases da<;>simp only[RT] at k2
    rename_i gR sL
    obtain⟨k3,rfl⟩:=k2
    obtain⟨d,k4,k5⟩:=bg h.env h6
    have k6:=cq (tt:=tt) (t:=t) k5
    rw[h7] at k6
    have k7:=qU c1 k6
    obtain⟨adx,ds,m1,m2,m3⟩:=h.cells id l h4
    rw[k3] at m1
    cases m1
    obtain⟨gT,m4,m5⟩:=D8 m3 k7 h5
    have K:kV ι S ι (S.set gR (.cells gT)) fun _=>False:=fun k k' _ hk=>⟨hk,by
     rw[aK]
     split
     ·rename_i e1; subst e1; exact zi (by rw[m2]; simp) (by rw[m2]; simp)
     ·exact eW rfl⟩
    have hlt:=(aJ.1 m2).1
    refine⟨aX,S.set gR (.cells gT),ι,w,?_,?_,by simp only[RT],hw,fun _ _=>rfl,?_,wL k3,?_,wG m2 (fun e=>by cases e)⟩
    ·have e1:d.cells.length=td.size:=by rw[fM k7]; exact c2
     simp only[af,ho,k1,k4,mQ,h1,m2,e1,OR k7 c3,decide_true,fP,if_true,m4,Option.map_some]
    ·refine⟨bO K _ _ h.env,fun k l0 hk => ?_,fun k e s hk t0 ht => ?_,fun k k' hk => ?_,h.inj,fun k b0 hk t0 ht => ?_⟩
     ·simp only[aK] at hk
      split at hk
      ·rename_i e1
       subst e1
       split at hk
       ·cases hk
        exact⟨gR,gT,k3,by rw[aK,if_pos rfl,if_pos hlt],bO K _ _ m5⟩
       ·cases hk
      ·rename_i e1
       obtain⟨k',NA,n1,n2,n3⟩:=h.cells k l0 hk
       refine⟨k',NA,n1,?_,bO K _ _ n3⟩
       rw[aK,if_neg ?_]
       ·exact n2
       ·rintro rfl; exact e1 (h.inj _ _ _ k3 n1)
     ·simp only[aK] at hk
      split at hk
      ·split at hk<;>cases hk
      ·obtain⟨n,n1⟩:=h.own k e s hk t0 ht
       exact⟨n,(K k t0 (fun e=>e) ht).2.1 _ _ _ n1⟩
     ·simp only[aK]
      split
      ·rename_i e1
       subst e1
       have:=(aJ.1 h4).1
       exact⟨_,if_pos this,fun e=>by cases e⟩
      ·exact h.xI k k' hk
     ·simp only[aK] at hk
      split at hk
      ·split at hk<;>cases hk
       trivial
      ·rename_i e1
       rw[aK,if_neg]
       ·exact h.mp k b0 hk t0 ht
       ·rintro rfl; exact e1 (h.inj _ _ _ k3 ht)
    ·intro j hj
     simp only[fS,ho,k1,bH] at hj
     subst hj
     exact⟨⟨id,by simp,hw _ _ k3⟩,.inr ⟨_,k3⟩⟩
    ·intro k hk
     simp only[aK]
     split
     ·rename_i e1
      subst e1
      exact⟨_,if_pos (aJ.1 h4).1⟩
     ·exact hB k hk
   ·cases hr
  ·cases hr
 ·cases hr
theorem LJ {k k':TT} (h:k'=k) {m:List k'.den} {rows:List DV} (hr:dW (CR k') k'.agg m rows):dW (CR k) k.agg (h▸m) rows:=by
 subst h
 exact hr
theorem Gr {k k':TT} (h:k'=k) (m:List k'.den):(h▸m:List k.den).length=m.length:=by
 subst h
 rfl
theorem yo {rows:List DV} (h:rows.isEmpty=true):rows=[]:=List.isEmpty_iff.1 h
theorem ME (h:b9 ι te tS env S) (hB:nL B tS) (hw:Q9 ι w) (hT:wA tS nT) (hn:wB S ay) {args:Array Operand} {argTypes:Array TypeId} (ho:o.op = .call { callee := .builtin .append,args,argTypes }) (hr:stepT P ty tt te tS o nT=some r) (hc:r.c):DO P ty aI call yf B ι w env S o ay r:=by
 simp only[stepT,ho] at hr
 split at hr
 ·rename_i x y t u ha ht
  split at hr
  ·rename_i Ng
   obtain⟨Ng,hh⟩:=Ng
   subst Ng
   split at hr
   ·rename_i e s jZ ag sz z0 k l ap k' m _ h1 h2 h3
    split at hr
    ·rename_i k0 sz' z h4
     split at hr
     ·rename_i K3
      split at hr
      ·rename_i mM
       simp only[aB,cV,bJ] at mM
       obtain⟨⟨c1,c2⟩,c3⟩:=mM
       simp only[ah] at h2 h3
       obtain⟨ux,e1,e2⟩:=h2
       obtain⟨uy,e3,e4⟩:=h3
       obtain⟨da,k1,k2⟩:=bg h.env e1
       have k3:=cq (tt:=tt) (t:=t) k2
       rw[e2] at k3
       obtain⟨db,k4,k5⟩:=bg h.env e3
       have k6:=cq (tt:=tt) (t:=t) k5
       rw[e4] at k6
       cases da<;>simp only[RT] at k3
       rename_i rows tok f
       cases db<;>simp only[RT] at k6
       rename_i news aci f'
       obtain⟨k3,kap⟩:=k3
       obtain⟨k6,-⟩:=k6
       have YX:=ja k3
       have Wd:=ja k6
       have k6':=LJ K3 k6
       have W7:=yb k3 k6'
       have Nu:(rows.all fun r=>decide (r.cells.length=s))=true:=aW.2 fun r hr=>iF ((iw k3 r hr).trans c3)
       have Hx:(news.all fun r=>decide (r.cells.length=s))=true:=aW.2 fun r hr=>iF ((iw k6' r hr).trans c3)
       have hx:(args[0]?).bind (gX env)=some (.sl rows tok f):=by
        have:args[0]? = some x:=by rw[← gy,ha]; rfl
        rw[this]; exact k1
       have Fh:fS (gX env) o ay=match tok with | some t=>[t,ay] | none=>[ay]:=by
        simp only[fS,ho,hx]
        cases tok<;>rfl
       have Sb:l.length+m.length≤1000000000→(decide (0<s)&&decide ((rows.length+news.length)*jZ≤eD)&&decide (rows.length+news.length≤140737488355328-4096)&&news.all (fun r=>decide (r.cells.length=s)))=true:=by
        intro hle
        simp only[aB,bJ]
        rw[YX,Wd]
        refine⟨⟨⟨c1,?_⟩,by omega⟩,Hx⟩
        calc (l.length+m.length)*jZ≤1000000000*100000:=Nat.mul_le_mul hle c2
         _≤eD:=by decide
       have hz:∀ d S',iE ty S ay t (.sl rows tok f) (.sl news aci f')=some (d,S')→af P ty aI call yf (gX env) o S ay=some (d,S'):=by
        intro d S' hd
        simp only[af,ho,ha,ht,if_true,k1,k4,hd]
       split at hr
       ·cases hr
       ·
        split at hr
        rotate_left
        ·cases hr
        rename_i OY
        simp only[az] at hr
        subst hr
        obtain⟨rfl,uQ⟩:=kap
        have Sd:=Sb hc
        by_cases Jk:news.isEmpty=true
        ·have hm:m=[]:=dm (by rw[← Wd,yo Jk]; rfl)
         subst hm
         refine⟨.sl rows none f,S,ι,upd w ay nT,hz _ _ (by simp only[iE,h1,Jk,if_true]),?_,?_,?_,?_,?_,Fr.refl _ _ _,jb hB hT,eX _ _⟩
         ·refine⟨h.env,fun k0 l0 hk => ?_,fun k0 e0 s0 hk t0 B5 => ?_,fun k0 k1 hk => ?_,h.inj,fun k0 b0 hk t0 B5 => ?_⟩
          ·rw[cg hT] at hk
           split at hk
           ·cases hk
           ·exact h.cells _ _ hk
          ·rw[cg hT] at hk
           split at hk
           ·rename_i e5; subst e5; rw[h.new hT] at B5; cases B5
           ·exact h.own _ _ _ hk _ B5
          ·rw[cg hT]
           split
           ·exact⟨_,rfl,fun e=>by cases e⟩
           ·exact h.xI _ _ hk
          ·rw[cg hT] at hk
           split at hk
           ·cases hk; trivial
           ·exact h.mp _ _ hk _ B5
         ·simp only[RT]
          have We:l=[]:=by
           cases l with
           | nil=>rfl
           | cons a l=>simp[O1] at OY
          refine⟨?_,.inl ⟨rfl,uQ,by rw[YX,We]; rfl⟩⟩
          have e7:(K3▸([]:List k'.den):List k.den)=[]:=dm (by rw[Gr]; rfl)
          rw[e7,gu]
          exact k3
         ·intro a b oW
          unfold upd
          rw[if_neg (h.dc hn oW)]
          exact hw _ _ oW
         ·intro j hj; unfold upd; rw[if_neg hj]
         ·intro j hj
          rw[Fh,bH] at hj
          exact⟨⟨nT,by simp,by simp[upd,hj]⟩,.inl hj⟩
        ·have K:=sk h hT hn (.tail e s ((rows.length+news.length)*s))
         refine⟨.sl (rows++news) (some ay) ⟨false,none⟩,dP S ay (.tail e s ((rows.length+news.length)*s)),upd ι nT ay,upd w ay nT,hz _ _ ?_,?_,?_,nv h hn hT hw,?_,?_,pg hn (kJ hB hT),jb hB hT,lR hn⟩
         ·simp only[iE,h1,Jk,aD,if_false,h4,Sd,if_true,uQ,Nu,fP]
         ·refine⟨bO K _ _ h.env,fun k0 l0 hk => ?_,fun k0 e0 s0 hk t0 B5 => ?_,fun k0 k1 hk => ?_,fun i j k1 hi hj => ?_,fun k0 b0 hk t0 B5 => ?_⟩
          ·rw[cg hT] at hk
           split at hk
           ·cases hk
           ·rename_i e5
            obtain⟨k',gT,n1,n2,n3⟩:=h.cells _ _ hk
            exact⟨k',gT,by simp only[upd,e5,if_false]; exact n1,by rw[aZ hn,if_neg (h.dc hn n1)]; exact n2,bO K _ _ n3⟩
          ·rw[cg hT] at hk
           split at hk
           ·rename_i e5
            cases hk
            simp only[upd,e5,if_true,az] at B5
            subst B5
            exact⟨_,by rw[aZ hn,if_pos rfl]⟩
           ·rename_i e5
            simp only[upd,e5,if_false] at B5
            obtain⟨n,n1⟩:=h.own _ _ _ hk _ B5
            exact⟨n,by rw[aZ hn,if_neg (h.dc hn B5)]; exact n1⟩
          ·rw[cg hT]
           split
           ·exact⟨_,rfl,fun e=>by cases e⟩
           ·rename_i e5
            simp only[upd,e5,if_false] at hk
            exact h.xI _ _ hk
          ·unfold upd at hi hj
           split at hi<;>split at hj
           ·omega
           ·cases hi; exact(h.dc hn hj rfl).elim
           ·cases hj; exact(h.dc hn hi rfl).elim
           ·exact h.inj i j k1 hi hj
          ·rw[cg hT] at hk
           split at hk
           ·cases hk; trivial
           ·rename_i e5
            simp only[upd,e5,if_false] at B5
            rw[aZ hn,if_neg (h.dc hn B5)]
            exact h.mp _ _ hk _ B5
         ·simp only[RT]
          refine⟨W7,.inr ⟨ay,e,s,by simp[upd],rfl,?_⟩⟩
          rw[aZ hn,if_pos rfl,cO]
         ·intro j hj; unfold upd; rw[if_neg hj]
         ·intro j hj
          rw[Fh,bH] at hj
          exact⟨⟨nT,by simp,by simp[upd,hj]⟩,.inl hj⟩
       ·
        rename_i g
        split at hr
        ·rename_i e' s' eA
         split at hr
         ·rename_i hes
          simp only[aB,cV] at hes
          obtain⟨rfl,rfl⟩:=hes
          simp only[az] at hr
          subst hr
          have Sd:=Sb hc
          have Zw:∀ j,(tS.map (qx g))[j]? = (tS[j]?).map (qx g):=fun j=>en ..
          have hgn:g≠nT:=by
           rintro rfl
           rcases hT with hT | hT
           ·rw[hT] at eA; cases eA
           ·have:=(aJ.1 eA).1; omega
          have hBm:nL B (tS.map (qx g)):=fun k hk=>by
           obtain⟨l0,h0⟩:=hB k hk
           exact⟨_,by rw[Zw,h0]; rfl⟩
          have share:∀ (ι':lK) (S':ak),kV ι S ι' S' (fun k=>k=g)→(∀ k k',k≠g→(ι' k=some k'↔ι k=some k'))→(∀ k k' b,k≠g→ι k=some k'→(∀ e s n,b ≠ .tail e s n)→S[k']? = some b→S'[k']? = some b) →
            (∀ t,ι' g=some t→∃ n,S'[t]? = some (.tail e' s' n))→(∀ k k',k≠g→ι k=some k'→ι' g≠some k')→b9 ι' (uK g te) (tS.map (qx g)) env S':=by
           intro ι' S' K hιe sZ hg aas
           refine⟨lN K _ _ h.env,fun k0 l0 hk => ?_,fun k0 e0 s0 hk t0 B5 => ?_,fun k0 k1 hk => ?_,fun i j k1 hi hj => ?_,fun k0 b0 hk t0 B5 => ?_⟩
           ·rw[Zw] at hk
            simp only[ah] at hk
            obtain⟨b,hb,Bv⟩:=hk
            have hne:k0≠g:=by rintro rfl; rw[eA] at hb; cases hb; cases Bv
            cases b<;>simp only[qx] at Bv<;>first | (cases Bv; done) | skip
            rename_i lb
            cases Bv
            obtain⟨k',gT,n1,n2,n3⟩:=h.cells _ _ hb
            exact⟨k',gT,(hιe _ _ hne).2 n1,sZ _ _ _ hne n1 (fun _ _ _ e=>by cases e) n2,lN K _ _ n3⟩
           ·rw[Zw] at hk
            simp only[ah] at hk
            obtain⟨b,hb,Bv⟩:=hk
            cases b<;>simp only[qx] at Bv<;>first | (cases Bv; done) | skip
            cases Bv
            by_cases Y1:k0=g
            ·subst Y1
             rw[eA] at hb
             cases hb
             exact hg _ B5
            ·have YQ:=(hιe _ _ Y1).1 B5
             obtain⟨n,n1⟩:=h.own _ _ _ hb _ YQ
             exact⟨n,(K k0 t0 Y1 YQ).2.1 _ _ _ n1⟩
           ·rw[Zw]
            by_cases Y1:k0=g
            ·subst Y1
             exact⟨_,by rw[eA]; rfl,fun e=>by cases e⟩
            ·obtain⟨b,n1,n2⟩:=h.xI _ _ ((hιe _ _ Y1).1 hk)
             exact⟨_,by rw[n1]; rfl,fun e=>by cases b<;>first | (exact n2 rfl) | cases e⟩
           ·by_cases ZG:i=g<;>by_cases ZE:j=g
            ·rw[ZG,ZE]
            ·subst ZG; exact(aas _ _ ZE ((hιe _ _ ZE).1 hj) hi).elim
            ·subst ZE; exact(aas _ _ ZG ((hιe _ _ ZG).1 hi) hj).elim
            ·exact h.inj i j k1 ((hιe _ _ ZG).1 hi) ((hιe _ _ ZE).1 hj)
           ·rw[Zw] at hk
            simp only[ah] at hk
            obtain⟨b,hb,Bv⟩:=hk
            by_cases hne:k0=g
            ·subst hne
             rw[eA] at hb
             cases hb
             subst Bv
             trivial
            have YQ:=(hιe _ _ hne).1 B5
            have h1:=h.mp _ _ hb _ YQ
            subst Bv
            cases b with
            | map kt l=>exact sZ _ _ _ hne YQ (fun _ _ _ e=>by cases e) h1
            | rows t e l z =>
             obtain⟨q0,q1,ds,q2,q3⟩:=h1
             exact⟨q0,q1,ds,sZ _ _ _ hne YQ (fun _ _ _ e=>by cases e) q2,q3⟩
            | _=>trivial
          by_cases Jk:news.isEmpty=true
          ·have hm:m=[]:=dm (by rw[← Wd,yo Jk]; rfl)
           subst hm
           have e7:(K3▸([]:List k'.den):List k.den)=[]:=dm (by rw[Gr]; rfl)
           refine⟨.sl rows tok f,S,ι,upd w ay nT,hz _ _ (by simp only[iE,h1,Jk,if_true]),share ι S (fun k k' _ hk=>⟨hk,eW rfl⟩) (fun _ _ _=>Iff.rfl) (fun _ _ _ _ _ _ h=>h) (fun t ht=>h.own g _ _ eA t ht) (fun k k' hk h1 h2=>hk (h.inj _ _ _ h1 h2)),?_,?_,?_,?_,Fr.refl _ _ _,hBm,eX _ _⟩
           ·simp only[RT]
            rw[e7,gu]
            exact⟨k3,kap⟩
           ·intro a b oW
            unfold upd
            rw[if_neg (h.dc hn oW)]
            exact hw _ _ oW
           ·intro j hj; unfold upd; rw[if_neg hj]
           ·intro j hj
            rw[Fh] at hj
            cases tok with
            | none=>simp only[bH] at hj; exact⟨⟨nT,by simp,by simp[upd,hj]⟩,.inl hj⟩
            | some tk =>
             simp only[bt,dL,or_false] at hj
             rcases hj with rfl | rfl
             ·rcases kap with ⟨h0,-⟩ | ⟨t0,e0,s0,a1,a2,a3⟩
              ·cases h0
              ·cases a2
               exact⟨⟨g,by simp,by simp only[upd,h.dc hn a1,if_false]; exact hw _ _ a1⟩,.inr ⟨_,a1⟩⟩
             ·exact⟨⟨nT,by simp,by simp[upd]⟩,.inl rfl⟩
          ·rcases kap with ⟨rfl,uQ,adN⟩ | ⟨t0,e0,s0,a1,rfl,a3⟩
           ·have Hh:kV ι S (upd ι g ay) (dP S ay (.tail e' s' ((rows.length+news.length)*s'))) (fun k=>k=g):=fun k k' hk h2=>⟨by simp only[upd,hk,if_false]; exact h2,eW (by rw[aZ hn,if_neg (h.dc hn h2)])⟩
            refine⟨.sl (rows++news) (some ay) ⟨false,none⟩,dP S ay (.tail e' s' ((rows.length+news.length)*s')),upd ι g ay,fun j=>if j=ay then some g else w j,hz _ _ ?_,share _ _ Hh (fun k k' hk=>by simp only[upd,hk,if_false]) (fun k k' ds hk h2 _ h3=>by rw[aZ hn,if_neg (h.dc hn h2)]; exact h3) (fun t ht => ?_) (fun k k' hk h2 h3 => ?_),?_,?_,?_,?_,pg hn (Us hB eA),hBm,lR hn⟩
            ·simp only[iE,h1,Jk,aD,if_false,h4,Sd,if_true,uQ,Nu,fP]
            ·simp only[upd,if_true,az] at ht
             subst ht
             exact⟨_,by rw[aZ hn,if_pos rfl]⟩
            ·simp only[upd,if_true,az] at h3
             exact h.dc hn h2 h3.symm
            ·simp only[RT]
             refine⟨W7,.inr ⟨ay,e',s',by simp[upd],rfl,?_⟩⟩
             rw[aZ hn,if_pos rfl,cO]
            ·intro a b oW
             unfold upd at oW
             split at oW
             ·rename_i e9; subst e9; cases oW; simp
             ·show (if b=ay then some g else w b)=some a
              rw[if_neg (h.dc hn oW)]; exact hw _ _ oW
            ·intro j hj
             show (if j=ay then some g else w j)=w j
             rw[if_neg hj]
            ·intro j hj
             rw[Fh,bH] at hj
             exact⟨⟨g,by simp,by simp[hj]⟩,.inl hj⟩
           ·obtain⟨n,a4⟩:=h.own g _ _ eA t0 a1
            rw[a3] at a4
            cases a4
            have hne:t0≠ay:=h.dc hn a1
            have hlt:=(aJ.1 a3).1
            have bh:∀ j,j≠t0→(S.set t0 (.tail e' s' ((rows.length+news.length)*s')))[j]? = S[j]? := fun j hj=>by rw[aK,if_neg (Ne.symm hj)]
            have Hh:kV ι S ι (S.set t0 (.tail e' s' ((rows.length+news.length)*s'))) (fun k=>k=g):=fun k k' hk h2=>⟨h2,eW (by rw[bh k' (fun e9=>hk (h.inj _ _ _ h2 (by rw[e9]; exact a1)))])⟩
            refine⟨.sl (rows++news) (some t0) ⟨false,none⟩,S.set t0 (.tail e' s' ((rows.length+news.length)*s')),ι,fun j=>if j=ay then some nT else w j,hz _ _ ?_,share _ _ Hh (fun _ _ _=>Iff.rfl) (fun k k' ds hk h2 _ h3=>by rw[bh k' (fun e9=>hk (h.inj _ _ _ h2 (by rw[e9]; exact a1)))]; exact h3) (fun t ht => ?_) (fun k k' hk h2 h3=>hk (h.inj _ _ _ h2 h3)),?_,?_,?_,?_,wL a1,hBm,wG a3 (fun e=>by cases e)⟩
            ·simp only[iE,h1,Jk,aD,if_false,h4,Sd,if_true,a3,decide_true,fP]
            ·rw[a1] at ht
             cases ht
             exact⟨_,by rw[aK,if_pos rfl,if_pos hlt]⟩
            ·simp only[RT]
             refine⟨W7,.inr ⟨t0,e',s',a1,rfl,?_⟩⟩
             rw[aK,if_pos rfl,if_pos hlt,cO]
            ·intro a b oW
             show (if b=ay then some nT else w b)=some a
             rw[if_neg (h.dc hn oW)]; exact hw _ _ oW
            ·intro j hj
             show (if j=ay then some nT else w j)=w j
             rw[if_neg hj]
            ·intro j hj
             rw[Fh] at hj
             simp only[bt,dL,or_false] at hj
             rcases hj with rfl | rfl
             ·exact⟨⟨g,by simp,by simp only[hne,if_false]; exact hw _ _ a1⟩,.inr ⟨_,a1⟩⟩
             ·exact⟨⟨nT,by simp,by simp⟩,.inl rfl⟩
         ·cases hr
        ·cases hr
      ·cases hr
     ·cases hr
    ·cases hr
   ·cases hr
  ·cases hr
 ·cases hr
theorem Pv (h:b9 ι te tS env S) (hB:nL B tS) (hw:Q9 ι w) (hT:wA tS nT) (hn:wB S ay) (hr:stepT P ty tt te tS o nT=some r) (hc:r.c):DO P ty aI call yf B ι w env S o ay r:=by
 have pure:(bI P ty tt te tS o).map (fun r=>(⟨r.1,te,tS,tJ te o,r.2⟩:TR))=some r→(∀ j∈fS (gX env) o ay,(∃ k∈tJ te o,w j=some k)∧(j=ay∨∃ i,ι i=some j))→DO P ty aI call yf B ι w env S o ay r:=by
  intro hp hf
  simp only[ah] at hp
  obtain⟨⟨v,c⟩,h1,rfl⟩:=hp
  obtain⟨d,h2,h3⟩:=FX (aI:=aI) (call:=call) (yf:=yf) (ay:=ay) h.env h.cells h1 hc
  exact⟨d,S,ι,w,h2,h,h3,hw,fun _ _=>rfl,hf,Fr.refl _ _ _,hB,eX _ _⟩
 have quiet:fS (gX env) o ay=[]→(∀ j∈fS (gX env) o ay,(∃ k∈tJ te o,w j=some k)∧(j=ay∨∃ i,ι i=some j)):=fun e j hj=>by rw[e] at hj; cases hj
 cases ho:o.op with
 | alloc e =>
  simp only[stepT,ho] at hr
  split at hr
  ·rename_i k sz z h1
   cases hr
   refine⟨.ptr ay 0,dP S ay (.cells z),upd ι nT ay,upd w ay nT,by simp only[af,ho,h1],s9 h hT hn (rL z),by simp[RT,upd],nv h hn hT hw,fun j hj=>by simp only[upd,hj,if_false],fun j hj => ?_,pg hn (kJ hB hT),jb hB hT,lR hn⟩
   simp only[fS,ho,bH] at hj
   exact⟨⟨nT,by simp,by simp[upd,hj]⟩,.inl hj⟩
  ·cases hr
 | box t x =>
  simp only[stepT,ho] at hr
  split at hr
  ·rename_i v h1
   split at hr
   ·rename_i hk
    cases hr
    obtain⟨d,k1,k2⟩:=bg h.env h1
    refine⟨.ptr ay 0,dP S ay (.cells d.cells),upd ι nT ay,upd w ay nT,by simp only[af,ho,k1],s9 h hT hn (qU hk k2),by simp[RT,upd],nv h hn hT hw,fun j hj=>by simp only[upd,hj,if_false],fun j hj => ?_,pg hn (kJ hB hT),jb hB hT,lR hn⟩
    simp only[fS,ho,bH] at hj
    exact⟨⟨nT,by simp,by simp[upd,hj]⟩,.inl hj⟩
   ·cases hr
  ·cases hr
 | store t a x=>exact Pt h hB hw ho hr
 | load t a =>
  simp only[stepT,ho] at hr
  refine pure hr fun j hj => ?_
  simp only[fS,ho] at hj
  split at hj
  ·rename_i gR sL h1
   simp only[bH] at hj
   subst hj
   simp only[ah,bI,ho] at hr
   obtain⟨q,h2,-⟩:=hr
   split at h2
   ·rename_i td id off h3 h4
    obtain⟨d,k1,k2⟩:=bg h.env h4
    rw[h1] at k1
    cases k1
    simp only[RT] at k2
    exact⟨⟨id,by simp[tJ,ho,h4],hw _ _ k2.1⟩,.inr ⟨_,k2.1⟩⟩
   ·rename_i td e l i off h3 h4
    obtain⟨d,k1,k2⟩:=bg h.env h4
    rw[h1] at k1
    cases k1
    simp only[RT] at k2
   ·cases h2
  ·rename_i gR n' sL h1
   simp only[ah,bI,ho] at hr
   obtain⟨q,h2,-⟩:=hr
   split at h2
   ·rename_i td id off h3 h4
    obtain⟨d,k1,k2⟩:=bg h.env h4
    rw[h1] at k1
    cases k1
    simp only[RT] at k2
   ·rename_i td e l i off h3 h4
    obtain⟨d,k1,k2⟩:=bg h.env h4
    rw[h1] at k1
    cases k1
    simp only[RT] at k2
   ·cases h2
  ·cases hj
 | call cl =>
  obtain⟨callee,args,argTypes⟩:=cl
  cases callee with
  | builtin b =>
   cases b with
   | append=>exact ME h hB hw hT hn ho hr hc
   | _=>simp only[stepT,ho] at hr; exact pure hr (quiet (by simp only[fS,ho]))
  | _=>simp only[stepT,ho] at hr; exact pure hr (quiet (by simp only[fS,ho]))
 | _=>simp only[stepT,ho] at hr; exact pure hr (quiet (by simp only[fS,ho]))
end Go.Tv
end
section
namespace Go.Tv
open Go Go.Di
def K7:TV := .val (.tuple #[])
def lF (te:List TV) (dst:Option Tmp) (v:TV):List TV :=
 match dst with
 | some d=>te.set d v
 | none=>te
def dK (ops:Array Oper) (te:List TV) (o:Oper):Option Bool :=
 match o.guard with
 | none=>some true
 | some (j,want)=>match (ops[j]?).bind (·.dst) with
  | some d=>match te[d]? with
   | some (.val (.bool b))=>some (match want with | true=>b | false => !b)
   | some .unk=>none
   | some (.val _)=>some false
   | _=>none
  | none=>some false
def mC (o:Oper):Bool :=
 match o.op with
 | .alloc _ | .box .. | .store .. => true
 | .call { callee := .builtin .append,.. }=>true
 | _=>false
def Yi (o:Oper):Bool :=
 match o.op with
 | .call { callee := .value _,.. }=>true
 | _=>false
def BM (tS:List TB) (nT:Nat):Bool :=
 match tS[nT]? with
 | some .none=>true
 | none=>nT==tS.length
 | _=>false
section
variable (P:Program) (ty:fI) (tt:TypeId→Option TT)
end
section
variable {P:Program} {ty:fI} {tt:TypeId→Option TT} {ι ι' w:lK} {S S':ak} {te:List TV} {env:List DV} {tS:List TB} {aI:bM} {call:bz} {yf:eE} {o:Oper} {ay nT:Nat} {B:List Nat} {r:TR} {ops:Array Oper}
theorem X0 {v:TV} {d:DV} (h:cQ ι S te env) (hv:RT ι S v d) (dst:Option Tmp):cQ ι S (lF te dst v) (iM env dst d):=by
 cases dst with
 | none=>exact h
 | some t=>exact D4 t h hv
theorem HM:RT ι S K7 aX:=by simp only[K7,aX,RT]
theorem gA (h:cQ ι S te env) {b:Bool} (hw:dK ops te o=some b):bQ ops env o=b:=by
 unfold dK at hw
 unfold bQ
 split at hw
 ·rename_i e; cases hw; rw[e]
 ·rename_i j want e
  rw[e]
  dsimp only
  split at hw
  ·rename_i d e1
   rw[e1]
   dsimp only
   split at hw
   ·rename_i b' e2
    cases hw
    obtain⟨d',k1,k2⟩:=lM h e2
    cases d'<;>simp only[RT] at k2
    subst k2
    rw[k1]
    cases b'<;>cases want<;>rfl
   ·cases hw
   ·rename_i v hv e2
    cases hw
    obtain⟨d',k1,k2⟩:=lM h e2
    cases d'<;>simp only[RT] at k2
    rw[k2] at k1
    rw[k1]
    cases v<;>first | rfl | exact(hv _ rfl).elim
   ·cases hw
  ·rename_i e1
   cases hw
   rw[e1]
theorem TG (h:BM tS nT=true):wA tS nT:=by
 unfold BM at h
 split at h
 ·rename_i e; exact .inl e
 ·exact .inr (by simpa using h)
 ·cases h
def FB (w:lK) (f ft:cT):Prop:=(f.wr=true→ft.wr=true)∧∀ l,ft.ids=some l→∃ m,f.ids=some m∧∀ j∈m,∃ k∈l,w j=some k
def Does (P:Program) (ty:fI) (aI:bM) (call:bz) (yf:eE) (B:List Nat) (o:Oper) (nT:Nat) (te:List TV) (tS:List TB) (dr:Bool) (Q:TV→List TV→List TB→cT→Prop):Prop :=
 ∀ ι w env S ay,b9 ι te tS env S→nL B tS→Q9 ι w→wA tS nT→wB S ay→(dr=true→S[ay]? = some .none) →
  ∃ d S' ι' w' v ck cu f ft,(dr=false→af P ty aI call yf (gX env) o S ay=some (d,S'))∧(dr=true→aF P ty aI call yf (gX env) o S ay=some (d,S',f))∧FB w' f ft∧(∀ l m,ft.ids=some l→f.ids=some m→∀ j∈m,j=ay∨∃ i,ι i=some j) ∧
   b9 ι' ck cu env S'∧RT ι' S' v d∧Q9 ι' w'∧(dr=true→∀ j,j≠ay→w' j=w j)∧Fr B ι S ι' S'∧nL B cu∧Nn ay S S'∧Q v ck cu ft
theorem sw (h:stepT P ty tt te tS o nT=some r) (hc:r.c) (dr:Bool):Does P ty aI call yf B o nT te tS dr fun v ck cu ft=>v=r.v∧ck=r.te∧cu=r.tS∧ft=⟨some r.Dy,mC o⟩:=by
 intro ι w env S ay hR hB hw hT hn hS
 obtain⟨d,S',ι',w',h1,h2,h3,h4,h5,h6,h7,h8,h9⟩:=Pv (aI:=aI) (call:=call) (yf:=yf) hR hB hw hT hn h hc
 refine⟨d,S',ι',w',r.v,r.te,r.tS,⟨some (fS (gX env) o ay),mC o⟩,⟨some r.Dy,mC o⟩,fun _=>h1,fun hd => ?_,⟨id,fun l hl=>⟨_,rfl,fun j hj=>by cases hl; exact(h6 j hj).1⟩⟩,fun l m hl hm j hj=>by cases hm; exact(h6 j hj).2,h2,h3,h4,fun _=>h5,h7,h8,h9,rfl,rfl,rfl,rfl⟩
 have eG:=hS hd
 cases ho:o.op with
 | alloc e=>simp only[aF,ho,eG,h1,Option.map_some,fS,mC]
 | box t x=>simp only[aF,ho,eG,h1,Option.map_some,fS,mC]
 | store t a x =>
  have:∃ id off,gX env a=some (.ptr id off):=by
   simp only[af,ho] at h1
   split at h1
   ·rename_i a' v' e1 e2
    simp only[ah] at h1
    obtain⟨q,h1,-⟩:=h1
    unfold mQ at h1
    split at h1
    ·exact⟨_,_,e1⟩
    ·simp only[stepT,ho] at h
     split at h
     ·rename_i t1 t2 t3
      obtain⟨d9,t4,t5⟩:=bg hR.env t2
      rw[e1] at t4
      cases t4
      simp only[RT] at t5
     ·cases h
    ·cases h1
   ·cases h1
  obtain⟨id,off,e⟩:=this
  simp only[aF,ho,e,h1,Option.map_some,fS,mC]
 | load t a =>
  cases e:gX env a with
  | none=>simp only[af,ho,e] at h1; cases h1
  | some da=>cases da<;>simp only[aF,ho,e,h1,Option.map_some,fS,mC]
 | makeMap t x=>simp only[stepT,bI,ho,Option.map_none] at h; cases h
 | makeSlice t x y=>simp only[stepT,bI,ho,Option.map_none] at h; cases h
 | buildSlice t n ps =>
  have hh:ty.h o≠1:=by
   simp only[stepT,bI,ho] at h
   intro e
   split at h
   ·split at h
    ·simp[e] at h
    ·cases h
   ·cases h
  simp only[aF,ho,h1,Option.map_some,fS,mC]
 | fieldAddr t a f' =>
  cases e:gX env a with
  | none=>simp only[af,ho,e] at h1; split at h1<;>simp_all
  | some da =>
   cases da with
   | eT id n off =>
    simp only[stepT,bI,ho] at h
    split at h
    ·rename_i t1 t2
     obtain⟨d9,t4,t5⟩:=bg hR.env t2
     rw[e] at t4
     cases t4
     simp only[RT] at t5
    ·rename_i t1 t2
     obtain⟨d9,t4,t5⟩:=bg hR.env t2
     rw[e] at t4
     cases t4
     simp only[RT] at t5
    ·cases h
   | _=>simp only[aF,ho,e,h1,Option.map_some,fS,mC]
 | indexAddr t a i =>
  cases e:gX env a with
  | none=>simp only[af,ho,e] at h1; split at h1<;>simp_all
  | some da =>
   cases da with
   | gV id n ag =>
    simp only[stepT,bI,ho] at h
    split at h
    ·rename_i t1 t2 t3
     simp only[ah] at t2
     obtain⟨u,t2,t6⟩:=t2
     obtain⟨d9,t4,t5⟩:=bg hR.env t2
     rw[e] at t4
     cases t4
     have t7:=cq (tt:=tt) (t:=t) t5
     rw[t6] at t7
     simp only[RT] at t7
    ·rename_i t1 t2 t3
     simp only[ah] at t2
     obtain⟨u,t2,t6⟩:=t2
     obtain⟨d9,t4,t5⟩:=bg hR.env t2
     rw[e] at t4
     cases t4
     have t7:=cq (tt:=tt) (t:=t) t5
     rw[t6] at t7
     simp only[RT] at t7
    ·rename_i t1 t2 t3
     simp only[ah] at t2
     obtain⟨u,t2,t6⟩:=t2
     obtain⟨d9,t4,t5⟩:=bg hR.env t2
     rw[e] at t4
     cases t4
     have t7:=cq (tt:=tt) (t:=t) t5
     rw[t6] at t7
     simp only[RT] at t7
    ·cases h
   | _=>simp only[aF,ho,e,h1,Option.map_some,fS,mC]
 | lookup t m k b=>simp only[stepT,bI,ho,Option.map_none] at h; cases h
 | mapUpdate t m k b=>simp only[stepT,bI,ho,Option.map_none] at h; cases h
 | call cl =>
  obtain⟨callee,args,argTypes⟩:=cl
  cases callee with
  | builtin b =>
   cases b with
   | append =>
    have key:ty.h o≠1∧∀ id n ag,(args[0]?).bind (gX env)≠some (.gV id n ag):=by
     simp only[stepT,ho] at h
     split at h
     ·rename_i x y t u ha ht
      split at h
      ·rename_i Ng
       refine⟨Ng.2,fun id n ag he => ?_⟩
       have h0:args[0]? = some x:=by rw[← gy,ha]; rfl
       rw[h0] at he
       replace he:gX env x=some (.gV id n ag):=he
       split at h
       ·rename_i t1 t2 t3
        simp only[ah] at t2
        obtain⟨u,t2,t6⟩:=t2
        obtain⟨d9,t4,t5⟩:=bg hR.env t2
        rw[he] at t4
        cases t4
        have t7:=cq (tt:=tt) (t:=t) t5
        rw[t6] at t7
        simp only[RT] at t7
       ·cases h
      ·cases h
     ·cases h
    cases e:(args[0]?).bind (gX env) with
    | none=>simp only[aF,ho,eG,e,h1,Option.map_some,fS,mC,if_neg key.1,zK,aD,if_false]
    | some da =>
     cases da with
     | sl rows tok f=>cases tok<;>simp only[aF,ho,eG,e,h1,Option.map_some,fS,mC,if_neg key.1,zK,aD,if_false]
     | gV id n ag=>exact absurd e (key.2 id n ag)
     | _=>simp only[aF,ho,eG,e,h1,Option.map_some,fS,mC,if_neg key.1,zK,aD,if_false]
   | _=>simp only[aF,ho,h1,Option.map_some,fS,mC]
  | value f=>simp only[stepT,bI,ho,Option.map_none] at h; cases h
  | _=>simp only[aF,ho,h1,Option.map_some,fS,mC]
 | _=>simp only[aF,ho,h1,Option.map_some,fS,mC]
def WL (P:Program) (ty:fI) (aI:bM) (call:bz) (yf:eE) (B:List Nat) (ops:Array Oper) (k:Nat) (te:List TV) (tS:List TB) (Q:List TV→List TB→Prop):Prop :=
 ∀ ι env S,b9 ι te tS env S→nL B tS→∃ aC S' ι' ck cu,Dr P ty aI call yf ops (ops.toList.drop k) env S=some (aC,S')∧b9 ι' ck cu aC S'∧nL B cu∧Fr B ι S ι' S'∧Nn S.length S S'∧Q ck cu
theorem HK (h:b9 ι te tS env S):∃ w,Q9 ι w:=by
 refine⟨fun k'=>(Classical.epsilon fun o:Option Nat=>∀ k,ι k=some k'→o=some k),fun k k' hk => ?_⟩
 have:∃ o:Option Nat,∀ j,ι j=some k'→o=some j:=⟨some k,fun j hj=>congrArg some (h.inj _ _ _ hk hj)⟩
 exact Classical.epsilon_spec this k hk
theorem qW {tj:ak} (h:Nn S.length S S') (k:Nn S'.length S' tj):Nn S.length S tj:=by
 refine⟨bk h.1 k.1,fun j hj hn => ?_⟩
 have h1:=h.2 j hj hn
 have:=(aJ.1 h1).1
 exact k.2 j (by omega) h1
theorem lP (h:b9 ι te tS env S) {v:TV} {d:DV} (hv:RT ι S v d) (dst:Option Tmp):b9 ι (lF te dst v) tS (iM env dst d) S:=⟨X0 h.env hv dst,h.cells,h.own,h.xI,h.inj,h.mp⟩
theorem lV {k:Nat} (ho:ops[k]? = some o):ops.toList.drop k=o::ops.toList.drop (k+1):=by
 have h:ops.toList[k]? = some o:=by simpa using ho
 obtain⟨hk,rfl⟩:=aJ.1 h
 exact mg hk
theorem XB {k:Nat} (hk:ops.size≤k) {Q:List TV→List TB→Prop} (h:Q te tS):WL P ty aI call yf B ops k te tS Q:=by
 intro ι env S hR hB
 rw[gz (by simpa using hk)]
 exact⟨env,S,ι,te,tS,rfl,hR,hB,Fr.refl _ _ _,eX _ _,h⟩
theorem SE {k:Nat} (ho:ops[k]? = some o) (hw:dK ops te o=some false) {Q:List TV→List TB→Prop}
  (h:WL P ty aI call yf B ops (k+1) (lF te o.dst K7) tS Q):WL P ty aI call yf B ops k te tS Q:=by
 intro ι env S hR hB
 obtain⟨aC,tj,ι'',tA,tB,k1,k2,k3,k4,k5,k6⟩:=h ι (iM env o.dst aX) S (lP hR HM _) hB
 refine⟨aC,tj,ι'',tA,tB,?_,k2,k3,k4,k5,k6⟩
 rw[lV ho]
 simp only[Dr,gA hR.env hw,aD,if_false,k1]
theorem GR {k:Nat} {r:List Oper} (h:ops.toList.drop k=o::r):ops[k]? = some o∧r=ops.toList.drop (k+1):=by
 have h1:ops.toList[k]? = some o:=by
  have:=congrArg (·[0]?) h
  simpa using this
 refine⟨by simpa using h1,?_⟩
 have:=congrArg List.tail h
 simpa using this.symm
end
end Go.Tv
end
section
namespace Go.Tv
open Go Go.Di
variable {P:Program} {ty:fI} {tt:TypeId→Option TT} {ι ι' w:lK} {S S':ak} {te:List TV} {env:List DV} {tS:List TB} {aI:bM} {call:bz} {yf:eE} {o:Oper} {ay nT:Nat} {B:List Nat} {r:TR} {ops:Array Oper}
def WQ (P:Program) (ty:fI) (aI:bM) (call:bz) (yf:eE) (ops:Array Oper) (tS:List TB) (k:Nat) (te:List TV) (Q:List TV→Prop):Prop :=
 ∀ ι env S,b9 ι te tS env S→∃ aC ck,nN P ty aI call yf ops S (ops.toList.drop k) env=some aC∧b9 ι ck tS aC S∧Q ck
theorem OG {k:Nat} (hk:ops.size≤k) {Q:List TV→Prop} (h:Q te):WQ P ty aI call yf ops tS k te Q:=by
 intro ι env S hR
 rw[gz (by simpa using hk)]
 exact⟨env,te,rfl,hR,h⟩
theorem SD {k:Nat} (ho:ops[k]? = some o) (hw:dK ops te o=some false) {Q:List TV→Prop} (h:WQ P ty aI call yf ops tS (k+1) (lF te o.dst K7) Q):WQ P ty aI call yf ops tS k te Q:=by
 intro ι env S hR
 obtain⟨aC,ck,k1,k2,k3⟩:=h ι (iM env o.dst aX) S (lP hR HM _)
 refine⟨aC,ck,?_,k2,k3⟩
 rw[lV ho]
 simp only[nN,gA hR.env hw,aD,if_false,k1]
theorem IE {ρ:Operand→Option DV} {d:DV} (hp:∃ q,bI P ty tt te tS o=some q) (h:af P ty aI call yf ρ o S S.length=some (d,S)):cF P ty aI call yf ρ o S=some d:=by
 obtain⟨q,hp⟩:=hp
 cases ho:o.op with
 | alloc e=>simp only[bI,ho] at hp; cases hp
 | box t x=>simp only[bI,ho] at hp; cases hp
 | store t a x=>simp only[bI,ho] at hp; cases hp
 | makeMap t x=>simp only[bI,ho] at hp; cases hp
 | makeSlice t x y=>simp only[bI,ho] at hp; cases hp
 | buildSlice t n ps =>
  have hh:ty.h o≠1:=by
   simp only[bI,ho] at hp
   intro e
   split at hp
   ·split at hp
    ·simp[e] at hp
    ·cases hp
   ·cases hp
  simp only[cF,ho,h,Option.map_some]
 | mapUpdate t m k b=>simp only[bI,ho] at hp; cases hp
 | call cl =>
  obtain⟨callee,args,argTypes⟩:=cl
  cases callee with
  | builtin b =>
   cases b with
   | append=>simp only[bI,ho] at hp; cases hp
   | _=>simp only[cF,ho,h,Option.map_some]
  | value f=>simp only[bI,ho] at hp; cases hp
  | _=>simp only[cF,ho,h,Option.map_some]
 | _=>simp only[cF,ho,h,Option.map_some]
theorem JM {k:Nat} {v:TV} {c:Prop} (ho:ops[k]? = some o) (hw:dK ops te o=some true) (hp:bI P ty tt te tS o=some (v,c)) (hc:c) {Q:List TV→Prop} (h:WQ P ty aI call yf ops tS (k+1) (lF te o.dst v) Q):WQ P ty aI call yf ops tS k te Q:=by
 intro ι env S hR
 obtain⟨d,h1,h2⟩:=FX (aI:=aI) (call:=call) (yf:=yf) (ay:=S.length) hR.env hR.cells hp hc
 obtain⟨aC,ck,k1,k2,k3⟩:=h ι (iM env o.dst d) S (lP hR h2 _)
 refine⟨aC,ck,?_,k2,k3⟩
 rw[lV ho]
 simp only[nN,gA hR.env hw,if_true,IE ⟨_,hp⟩ h1,k1]
def JJ (w:lK):List cT→List cT→Prop
 | [],[]=>True
 | f::l,g::m=>FB w f g∧JJ w l m
 | _,_=>False
theorem AK {w:lK}:∀ {l m:List cT} {i:Nat} {f:cT},JJ w l m→l[i]? = some f→∃ g,m[i]? = some g∧FB w f g
 | [],_,_,_,_,h=>by simp at h
 | _::_,[],_,_,h,_=>h.elim
 | f::l,g::m,0,f',h,hx=>by
  simp only[List.getElem?_cons_zero,az] at hx
  subst hx
  exact⟨g,rfl,h.1⟩
 | f::l,g::m,i+1,f',h,hx=>by
  obtain⟨g',h1,h2⟩:=AK (i:=i) h.2 (by simpa using hx)
  exact⟨g',by simpa using h1,h2⟩
theorem Qm {w:lK} {f g f' g':cT} (hf:FB w f f') (hg:FB w g g') (h:f.meets g=true):f'.meets g'=true:=by
 obtain⟨fi,fw⟩:=f
 obtain⟨gi,gw⟩:=g
 obtain⟨fi',fw'⟩:=f'
 obtain⟨gi',gw'⟩:=g'
 obtain⟨Ns,UM⟩:=hf
 obtain⟨ZH,Y0⟩:=hg
 simp only[cT.meets,aB,eP] at h ⊢
 refine⟨h.1.imp Ns ZH,?_⟩
 have h:=h.2
 have ne:∀ {m l:List Nat},(∀ j∈m,∃ k∈l,w j=some k)→m≠[]→(!l.isEmpty)=true:=by
  intro m l hml hm
  cases m with
  | nil=>exact(hm rfl).elim
  | cons j m =>
   obtain⟨k,hk,-⟩:=hml j (by simp)
   cases l with
   | nil=>cases hk
   | cons _ _=>rfl
 cases fi' with
 | none =>
  cases gi' with
  | none=>rfl
  | some l' =>
   obtain⟨m,e,hm⟩:=Y0 _ rfl
   simp only at e
   subst e
   refine ne hm ?_
   rintro rfl
   cases fi<;>simp at h
 | some l =>
  obtain⟨m,e,hm⟩:=UM _ rfl
  simp only at e
  subst e
  cases gi' with
  | none =>
   refine ne hm ?_
   rintro rfl
   cases gi<;>simp at h
  | some l' =>
   obtain⟨m',e,Hf⟩:=Y0 _ rfl
   simp only at e
   subst e
   simp only[List.any_eq_true,List.contains_iff_mem] at h ⊢
   obtain⟨j,hj,yY⟩:=h
   obtain⟨k,hk,e1⟩:=hm j hj
   obtain⟨k',sS,e2⟩:=Hf j yY
   rw[e1] at e2
   cases e2
   exact⟨k,hk,sS⟩
theorem Yc {w:lK} {b:Array Nat} {fs ft:List cT} (hf:JJ w fs ft) (h:qG b ft=true):qG b fs=true:=by
 simp only[qG,aW,pN,List.getElem?_zipIdx,ah,Prod.forall,av] at h ⊢
 rintro f i ⟨i',f0,h1,rfl,rfl⟩ g j ⟨j',g0,h2,rfl,rfl⟩
 obtain⟨f',k1,k2⟩:=AK hf h1
 obtain⟨g',k3,k4⟩:=AK hf h2
 have:=h f' (0+i') ⟨i',f',k1,rfl,rfl⟩ g' (0+j') ⟨j',g',k3,rfl,rfl⟩
 simp only[eP,Bool.not_eq_true'] at this ⊢
 refine this.imp (Or.imp (Or.imp id fun hn => ?_) id) id
 cases hm:f0.meets g0 with
 | false=>rfl
 | true=>rw[Qm k2 k4 hm] at hn; cases hn
def WD (P:Program) (ty:fI) (aI:bM) (call:bz) (yf:eE) (B:List Nat) (ops:Array Oper) (k:Nat) (te:List TV) (tS:List TB) (fs:List cT) (Q:List TV→List TB→Prop):Prop :=
 ∀ ι w env S n0,b9 ι te tS env S→nL B tS→Q9 ι w→(∀ j,k≤j→j<ops.size→S[n0+j]? = some .none) →
  ∃ aC S' y6 ι' w' ck cu ft,qd P ty aI call yf ops n0 (ops.toList.drop k) k env S=some (aC,S',y6)∧JJ w' y6 ft∧(∀ j,(∀ i,k≤i→i<ops.size→j≠n0+i)→w' j=w j)∧qG (Region.before ops) (fs++ft)=true ∧
   b9 ι' ck cu aC S'∧nL B cu∧Fr B ι S ι' S'∧(S.length≤S'.length∧∀ j,(∀ i,k≤i→i<ops.size→j≠n0+i)→S[j]? = some .none→S'[j]? = some .none)∧Q ck cu
variable {n0T:Nat} {fs:List cT}
theorem XF {k:Nat} (hk:ops.size≤k) {Q:List TV→List TB→Prop} (hm:qG (Region.before ops) fs=true) (h:Q te tS):WD P ty aI call yf B ops k te tS fs Q:=by
 intro ι w env S n0 hR hB hw hn
 rw[gz (by simpa using hk)]
 exact⟨env,S,[],ι,w,te,tS,[],rfl,trivial,fun _ _=>rfl,by simpa using hm,hR,hB,Fr.refl _ _ _,⟨ai _,fun _ _ h=>h⟩,h⟩
theorem xJ {k:Nat} (ho:ops[k]? = some o) (hw:dK ops te o=some true) (uG:BM tS (n0T+k)=true) {Q:List TV→List TB→Prop} {K:TV→List TV→List TB→cT→Prop} (hd:Does P ty aI call yf B o (n0T+k) te tS true K)
  (h:∀ v ck cu ft,K v ck cu ft→WD P ty aI call yf B ops (k+1) (lF ck o.dst v) cu (fs++[ft]) Q):WD P ty aI call yf B ops k te tS fs Q:=by
 intro ι w env S n0 hR hB Zr hn
 have hsz:k<ops.size:=(aG.1 ho).1
 have RZ:=hn k (ai _) hsz
 obtain⟨d,S',ι',w',v,ck,cu,f,ft,h1,h2,h3,h4,h5,h6,h7,h8,h9,uD,Dk,Q5⟩:=hd ι w env S (n0+k) hR hB Zr (TG uG) (.inl RZ) (fun _=>RZ)
 obtain⟨aC,tj,y6,ι'',M5,tA,tB,fts,k1,k2,k3,k4,k5,k6,k7,k8,k9⟩:=h v ck cu ft Q5 ι' w' (iM env o.dst d) S' n0 (lP h5 h6 _) uD h7 (fun j hj yY=>Dk.2 _ (by omega) (hn j (by omega) yY))
 refine⟨aC,tj,f::y6,ι'',M5,tA,tB,ft::fts,?_,⟨⟨h3.1,fun l hl => ?_⟩,k2⟩,fun j hj => ?_,?_,k5,k6,h9.trans k7,⟨bk Dk.1 k8.1,fun j hj eG => ?_⟩,k9⟩
 ·rw[lV ho]
  simp only[qd,gA hR.env hw,if_true,h2 rfl,k1]
 ·obtain⟨m,e1,e2⟩:=h3.2 l hl
  refine⟨m,e1,fun j hj => ?_⟩
  obtain⟨k',sS,e3⟩:=e2 j hj
  refine⟨k',sS,?_⟩
  rw[k3 j ?_]
  ·exact e3
  ·intro i hi Bu he
   rcases h4 l m hl e1 j hj with rfl | ⟨i',acQ⟩
   ·omega
   ·obtain⟨b,e4,e5⟩:=hR.live acQ
    rw[he,hn i (by omega) Bu] at e4
    cases e4
    exact e5 rfl
 ·rw[k3 j fun i hi Bu=>hj i (by omega) Bu,h8 rfl j (hj k (ai _) hsz)]
 ·simpa using k4
 ·exact k8.2 j (fun i hi Bu=>hj i (by omega) Bu) (Dk.2 j (hj k (ai _) hsz) eG)
theorem SL {k:Nat} (ho:ops[k]? = some o) (hw:dK ops te o=some false) {Q:List TV→List TB→Prop}
  (h:WD P ty aI call yf B ops (k+1) (lF te o.dst K7) tS (fs++[⟨some [],false⟩]) Q):WD P ty aI call yf B ops k te tS fs Q:=by
 intro ι w env S n0 hR hB Zr hn
 have hsz:k<ops.size:=(aG.1 ho).1
 obtain⟨aC,tj,y6,ι'',M5,tA,tB,fts,k1,k2,k3,k4,k5,k6,k7,k8,k9⟩:=h ι w (iM env o.dst aX) S n0 (lP hR HM _) hB Zr (fun j hj yY=>hn j (by omega) yY)
 refine⟨aC,tj,⟨some [],false⟩::y6,ι'',M5,tA,tB,⟨some [],false⟩::fts,?_,⟨⟨id,fun l hl=>⟨[],rfl,fun j hj=>by cases hj⟩⟩,k2⟩,fun j hj => ?_,?_,k5,k6,k7,⟨k8.1,fun j hj eG => ?_⟩,k9⟩
 ·rw[lV ho]
  simp only[qd,gA hR.env hw,aD,if_false,k1]
 ·exact k3 j fun i hi Bu=>hj i (by omega) Bu
 ·simpa using k4
 ·exact k8.2 j (fun i hi Bu=>hj i (by omega) Bu) eG
def N9 (o:Oper):Bool :=
 o.guard.isNone&&match o.op with
 | .alloc _ | .box .. | .store .. | .makeMap .. | .mapUpdate .. => true
 | .call { callee := .builtin .append,.. }=>true
 | _=>false
theorem tT:∀ {l:List Oper} {env:List DV},l.any N9=true→nN P ty aI call yf ops S l env=none
 | [],_,h=>by cases h
 | o::l,env,h=>by
  simp only[List.any_cons,eP] at h
  simp only[nN]
  rcases h with h | h
  ·simp only[N9,aB] at h
   obtain⟨h1,h2⟩:=h
   have hw:bQ ops env o=true:=by
    unfold bQ
    rw[Option.isNone_iff_eq_none.1 h1]
   have hq:cF P ty aI call yf (gX env) o S=none:=by
    split at h2
    ·rename_i ho; simp only[cF,ho]
    ·rename_i ho; simp only[cF,ho]
    ·rename_i ho; simp only[cF,ho]
    ·rename_i ho; simp only[cF,ho]
    ·rename_i ho; simp only[cF,ho]
    ·rename_i ho; simp only[cF,ho]
    ·cases h2
   simp only[hw,if_true,hq]
  ·split
   ·split
    ·exact tT h
    ·rfl
   ·exact tT h
def sV (P:Program) (ops:Array Oper):Bool:=ops.toList.any N9||ops.toList.any (D9 P)
theorem Mm {env:List DV} (h:sV P ops=true):(if ops.toList.any (D9 P) then none else nN P ty aI call yf ops S ops.toList env)=none:=by
 split
 ·rfl
 ·rename_i hp
  unfold sV at h
  rw[Bool.not_eq_true] at hp
  rw[hp,Bool.or_false] at h
  exact tT h
theorem ext_get {S:ak} {n k:Nat} (h:Lv S k):(S++List.replicate n .none)[k]? = S[k]? := by
 obtain⟨b,h1,-⟩:=h
 exact ep (aJ.1 h1).1
theorem Ti (h:b9 ι te tS env S) (n m:Nat):b9 ι te (tS++List.replicate n .none) env (S++List.replicate m .none):=by
 have hl:∀ k k',ι k=some k'→(S++List.replicate m DB.none)[k']? = S[k']? := fun k k' hk=>ext_get (h.live hk)
 have K:kV ι S ι (S++List.replicate m .none) fun _=>False:=fun k k' _ hk=>⟨hk,eW (hl k k' hk)⟩
 have hT:∀ (k:Nat) (b:TB),(tS++List.replicate n TB.none)[k]? = some b→b ≠ .none→tS[k]? = some b:=by
  intro k b hk hb
  rw[pM] at hk
  split at hk
  ·exact hk
  ·rw[nH] at hk
   split at hk
   ·cases hk; exact(hb rfl).elim
   ·cases hk
 refine⟨bO K _ _ h.env,fun k l hk => ?_,fun k e s hk t ht => ?_,fun k k' hk => ?_,h.inj,fun k b hk t ht=>by
  rw[hl k t ht]
  cases b with
  | none=>trivial
  | _=>exact h.mp k _ (hT k _ hk (fun e=>by cases e)) t ht⟩
 ·obtain⟨k',ds,h1,h2,h3⟩:=h.cells k l (hT k _ hk (fun e=>by cases e))
  exact⟨k',ds,h1,by rw[hl k k' h1]; exact h2,bO K _ _ h3⟩
 ·obtain⟨n',h1⟩:=h.own k e s (hT k _ hk (fun e=>by cases e)) t ht
  exact⟨n',by rw[hl k t ht]; exact h1⟩
 ·obtain⟨b,h1,h2⟩:=h.xI k k' hk
  exact⟨b,by rw[ep (aJ.1 h1).1]; exact h1,h2⟩
end Go.Tv
end
