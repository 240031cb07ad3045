import Derived.Test.YtedcgbkilmlbhaaPk02
section
namespace Go.Tv
open Go Go.Di
variable {P:Program} {ty:Tys} {tt:TypeId→Option TT} {ι ι' w:Ids} {S S':Store} {te:List TV} {env:List DV} {tS:List TB} {iso:IsoF} {call:CallF} {yf:YldF} {o:Oper} {nid nT:Nat} {B:List Nat} {r:TR}
theorem one_ok:∀ {l:List TV} {m:List DV},RTl ι S l m→l.all oneT=true→m.all DV.one=true
 | [],m,h,_=>by rw[rtl_nil' h]; rfl
 | a::l,m,h,k=>by
  obtain⟨d,m',rfl,h1,h2⟩:=rtl_cases h
  simp only[List.all_cons,Bool.and_eq_true] at k ⊢
  refine⟨?_,one_ok h2 k.2⟩
  cases a<;>cases d<;>simp only[RT] at h1<;>first | rfl | (cases k.1; done) | (subst h1; exact k.1)
def StepOK (P:Program) (ty:Tys) (iso:IsoF) (call:CallF) (yf:YldF) (B:List Nat) (ι w:Ids) (env:List DV) (S:Store) (o:Oper) (nid:Nat) (r:TR):Prop :=
 ∃ d S' ι' w',stepOp P ty iso call yf (evD env) o S nid=some (d,S')∧RelT ι' r.te r.tS env S'∧RT ι' S' r.v d∧WOK ι' w'∧(∀ j,j≠nid→w' j=w j)∧(∀ j∈footD (evD env) o nid,(∃ k∈r.foot,w' j=some k)∧(j=nid∨∃ i,ι i=some j))∧Fr B ι S ι' S'∧BOK B r.tS∧Nn nid S S'
theorem store_ok (h:RelT ι te tS env S) (hB:BOK B tS) (hw:WOK ι w) {t:TypeId} {a x:Operand} (ho:o.op = .store t a x) (hr:stepT P ty tt te tS o nT=some r):StepOK P ty iso call yf B ι w env S o nid r:=by
 simp only[stepT,ho] at hr
 split at hr
 ·rename_i td id off v h1 h2 h3
  split at hr
  ·rename_i l h4
   split at hr
   ·rename_i hc
    simp only[Bool.and_eq_true,beq_iff_eq] at hc
    obtain⟨⟨c1,c2⟩,c3⟩:=hc
    simp only[Option.map_eq_some_iff] at hr h3
    obtain⟨l',h5,rfl⟩:=hr
    obtain⟨u,h6,h7⟩:=h3
    obtain⟨da,k1,k2⟩:=evT_ok h.env h2
    cases da<;>simp only[RT] at k2
    rename_i id' off'
    obtain⟨k3,rfl⟩:=k2
    obtain⟨d,k4,k5⟩:=evT_ok h.env h6
    have k6:=retype_ok (tt:=tt) (t:=t) k5
    rw[h7] at k6
    have k7:=rt_cells c1 k6
    obtain⟨id'',ds,m1,m2,m3⟩:=h.cells id l h4
    rw[k3] at m1
    cases m1
    obtain⟨ds',m4,m5⟩:=putT_ok m3 k7 h5
    have K:Keeps ι S ι (S.set id' (.cells ds')) fun _=>False:=fun k k' _ hk=>⟨hk,fun e s n hs=>by
     rw[List.getElem?_set]
     split
     ·rename_i e1; subst e1; rw[m2] at hs; cases hs
     ·exact hs⟩
    have hlt:=(List.getElem?_eq_some_iff.1 m2).1
    refine⟨dundef,S.set id' (.cells ds'),ι,w,?_,?_,by simp only[RT],hw,fun _ _=>rfl,?_,fr_set k3,?_,nn_set m2 (fun e=>by cases e)⟩
    ·have e1:d.cells.length=td.size:=by rw[rtl_len k7]; exact c2
     simp only[stepOp,ho,k1,k4,storeD,h1,m2,e1,one_ok k7 c3,decide_true,Bool.and_self,if_true,m4,Option.map_some]
    ·refine⟨rtl_mono K _ _ h.env,fun k l0 hk => ?_,fun k e s hk t0 ht => ?_,fun k k' hk => ?_,h.inj,fun k kt l0 hk t0 ht => ?_⟩
     ·simp only[List.getElem?_set] at hk
      split at hk
      ·rename_i e1
       subst e1
       split at hk
       ·cases hk
        exact⟨id',ds',k3,by rw[List.getElem?_set,if_pos rfl,if_pos hlt],rtl_mono K _ _ m5⟩
       ·cases hk
      ·rename_i e1
       obtain⟨k',ds0,n1,n2,n3⟩:=h.cells k l0 hk
       refine⟨k',ds0,n1,?_,rtl_mono K _ _ n3⟩
       rw[List.getElem?_set,if_neg ?_]
       ·exact n2
       ·rintro rfl; exact e1 (h.inj _ _ _ k3 n1)
     ·simp only[List.getElem?_set] at hk
      split at hk
      ·split at hk<;>cases hk
      ·obtain⟨n,n1⟩:=h.own k e s hk t0 ht
       exact⟨n,(K k t0 (fun e=>e) ht).2 _ _ _ n1⟩
     ·simp only[List.getElem?_set]
      split
      ·rename_i e1
       subst e1
       have:=(List.getElem?_eq_some_iff.1 h4).1
       exact⟨_,if_pos this,fun e=>by cases e⟩
      ·exact h.dom k k' hk
     ·simp only[List.getElem?_set] at hk
      split at hk
      ·split at hk<;>cases hk
      ·rename_i e1
       rw[List.getElem?_set,if_neg]
       ·exact h.mp k kt l0 hk t0 ht
       ·rintro rfl; exact e1 (h.inj _ _ _ k3 ht)
    ·intro j hj
     simp only[footD,ho,k1,List.mem_singleton] at hj
     subst hj
     exact⟨⟨id,by simp,hw _ _ k3⟩,.inr ⟨_,k3⟩⟩
    ·intro k hk
     simp only[List.getElem?_set]
     split
     ·rename_i e1
      subst e1
      exact⟨_,if_pos (List.getElem?_eq_some_iff.1 h4).1⟩
     ·exact hB k hk
   ·cases hr
  ·cases hr
 ·cases hr
theorem rows_cast {k k':TT} (h:k'=k) {m:List k'.den} {rows:List DV} (hr:RowsR (CR k') k'.agg m rows):RowsR (CR k) k.agg (h▸m) rows:=by
 subst h
 exact hr
theorem cast_len {k k':TT} (h:k'=k) (m:List k'.den):(h▸m:List k.den).length=m.length:=by
 subst h
 rfl
theorem isEmpty_len {rows:List DV} (h:rows.isEmpty=true):rows=[]:=List.isEmpty_iff.1 h
theorem append_ok (h:RelT ι te tS env S) (hB:BOK B tS) (hw:WOK ι w) (hT:NewT tS nT) (hn:NewD S nid) {args:Array Operand} {argTypes:Array TypeId} (ho:o.op = .call { callee := .builtin .append,args,argTypes }) (hr:stepT P ty tt te tS o nT=some r) (hc:r.c):StepOK P ty iso call yf B ι w env S o nid r:=by
 simp only[stepT,ho] at hr
 split at hr
 ·rename_i x y t u ha ht
  split at hr
  ·rename_i htu
   subst htu
   split at hr
   ·rename_i e s by_ ag sz z0 k l ap k' m _ h1 h2 h3
    split at hr
    ·rename_i k0 sz' z h4
     split at hr
     ·rename_i hkk
      split at hr
      ·rename_i hcond
       simp only[Bool.and_eq_true,beq_iff_eq,decide_eq_true_eq] at hcond
       obtain⟨⟨c1,c2⟩,c3⟩:=hcond
       simp only[Option.map_eq_some_iff] at h2 h3
       obtain⟨ux,e1,e2⟩:=h2
       obtain⟨uy,e3,e4⟩:=h3
       obtain⟨da,k1,k2⟩:=evT_ok h.env e1
       have k3:=retype_ok (tt:=tt) (t:=t) k2
       rw[e2] at k3
       obtain⟨db,k4,k5⟩:=evT_ok h.env e3
       have k6:=retype_ok (tt:=tt) (t:=t) k5
       rw[e4] at k6
       cases da<;>simp only[RT] at k3
       rename_i rows tok f
       cases db<;>simp only[RT] at k6
       rename_i news tok' f'
       obtain⟨k3,kap⟩:=k3
       obtain⟨k6,-⟩:=k6
       have hla:=rows_len k3
       have hlb:=rows_len k6
       have k6':=rows_cast hkk k6
       have happ:=rows_append k3 k6'
       have hb1:(rows.all fun r=>decide (r.cells.length=s))=true:=List.all_eq_true.2 fun r hr=>decide_eq_true ((rows_cells k3 r hr).trans c3)
       have hb2:(news.all fun r=>decide (r.cells.length=s))=true:=List.all_eq_true.2 fun r hr=>decide_eq_true ((rows_cells k6' r hr).trans c3)
       have hx:(args[0]?).bind (evD env)=some (.sl rows tok f):=by
        have:args[0]? = some x:=by rw[← Array.getElem?_toList,ha]; rfl
        rw[this]; exact k1
       have hfoot:footD (evD env) o nid=match tok with | some t=>[t,nid] | none=>[nid]:=by
        simp only[footD,ho,hx]
        cases tok<;>rfl
       have hbig:l.length+m.length≤1000000000→(decide (0<s)&&decide ((rows.length+news.length)*by_≤maxBytes)&&decide (rows.length+news.length≤140737488355328-4096)&&news.all (fun r=>decide (r.cells.length=s)))=true:=by
        intro hle
        simp only[Bool.and_eq_true,decide_eq_true_eq]
        rw[hla,hlb]
        refine⟨⟨⟨c1,?_⟩,by omega⟩,hb2⟩
        calc (l.length+m.length)*by_≤1000000000*100000:=Nat.mul_le_mul hle c2
         _≤maxBytes:=by decide
       have hz:∀ d S',appendD ty S nid t (.sl rows tok f) (.sl news tok' f')=some (d,S')→stepOp P ty iso call yf (evD env) o S nid=some (d,S'):=by
        intro d S' hd
        simp only[stepOp,ho,ha,ht,if_true,k1,k4,hd]
       split at hr
       ·cases hr
       ·
        split at hr
        rotate_left
        ·cases hr
        rename_i hfresh
        simp only[Option.some.injEq] at hr
        subst hr
        obtain⟨rfl,hfull⟩:=kap
        have hBig:=hbig hc
        by_cases hem:news.isEmpty=true
        ·have hm:m=[]:=List.eq_nil_of_length_eq_zero (by rw[← hlb,isEmpty_len hem]; rfl)
         subst hm
         refine⟨.sl rows none f,S,ι,upd w nid nT,hz _ _ (by simp only[appendD,h1,hem,if_true]),?_,?_,?_,?_,?_,Fr.refl _ _ _,bok_setT hB hT,nn_refl _ _⟩
         ·refine⟨h.env,fun k0 l0 hk => ?_,fun k0 e0 s0 hk t0 ht0 => ?_,fun k0 k1 hk => ?_,h.inj,fun k0 kt l0 hk t0 ht0 => ?_⟩
          ·rw[setT_get hT] at hk
           split at hk
           ·cases hk
           ·exact h.cells _ _ hk
          ·rw[setT_get hT] at hk
           split at hk
           ·rename_i e5; subst e5; rw[h.new hT] at ht0; cases ht0
           ·exact h.own _ _ _ hk _ ht0
          ·rw[setT_get hT]
           split
           ·exact⟨_,rfl,fun e=>by cases e⟩
           ·exact h.dom _ _ hk
          ·rw[setT_get hT] at hk
           split at hk
           ·cases hk
           ·exact h.mp _ _ _ hk _ ht0
         ·simp only[RT]
          have hl0:l=[]:=by
           cases l with
           | nil=>rfl
           | cons a l=>simp[freshB] at hfresh
          refine⟨?_,.inl ⟨rfl,hfull,by rw[hla,hl0]; rfl⟩⟩
          have e7:(hkk▸([]:List k'.den):List k.den)=[]:=List.eq_nil_of_length_eq_zero (by rw[cast_len]; rfl)
          rw[e7,List.append_nil]
          exact k3
         ·intro a b hab
          unfold upd
          rw[if_neg (h.ne_new hn hab)]
          exact hw _ _ hab
         ·intro j hj; unfold upd; rw[if_neg hj]
         ·intro j hj
          rw[hfoot,List.mem_singleton] at hj
          exact⟨⟨nT,by simp,by simp[upd,hj]⟩,.inl hj⟩
        ·have K:=keeps_new h hT hn (.tail e s ((rows.length+news.length)*s))
         refine⟨.sl (rows++news) (some nid) ⟨false,none⟩,setS S nid (.tail e s ((rows.length+news.length)*s)),upd ι nT nid,upd w nid nT,hz _ _ ?_,?_,?_,wok_new h hn hT hw,?_,?_,fr_upd hn (bok_new hB hT),bok_setT hB hT,nn_setS hn⟩
         ·simp only[appendD,h1,hem,Bool.false_eq_true,if_false,h4,hBig,if_true,hfull,hb1,Bool.and_self]
         ·refine⟨rtl_mono K _ _ h.env,fun k0 l0 hk => ?_,fun k0 e0 s0 hk t0 ht0 => ?_,fun k0 k1 hk => ?_,fun i j k1 hi hj => ?_,fun k0 kt l0 hk t0 ht0 => ?_⟩
          ·rw[setT_get hT] at hk
           split at hk
           ·cases hk
           ·rename_i e5
            obtain⟨k',ds',n1,n2,n3⟩:=h.cells _ _ hk
            exact⟨k',ds',by simp only[upd,e5,if_false]; exact n1,by rw[setS_get hn,if_neg (h.ne_new hn n1)]; exact n2,rtl_mono K _ _ n3⟩
          ·rw[setT_get hT] at hk
           split at hk
           ·rename_i e5
            cases hk
            simp only[upd,e5,if_true,Option.some.injEq] at ht0
            subst ht0
            exact⟨_,by rw[setS_get hn,if_pos rfl]⟩
           ·rename_i e5
            simp only[upd,e5,if_false] at ht0
            obtain⟨n,n1⟩:=h.own _ _ _ hk _ ht0
            exact⟨n,by rw[setS_get hn,if_neg (h.ne_new hn ht0)]; exact n1⟩
          ·rw[setT_get hT]
           split
           ·exact⟨_,rfl,fun e=>by cases e⟩
           ·rename_i e5
            simp only[upd,e5,if_false] at hk
            exact h.dom _ _ hk
          ·unfold upd at hi hj
           split at hi<;>split at hj
           ·omega
           ·cases hi; exact(h.ne_new hn hj rfl).elim
           ·cases hj; exact(h.ne_new hn hi rfl).elim
           ·exact h.inj i j k1 hi hj
          ·rw[setT_get hT] at hk
           split at hk
           ·cases hk
           ·rename_i e5
            simp only[upd,e5,if_false] at ht0
            rw[setS_get hn,if_neg (h.ne_new hn ht0)]
            exact h.mp _ _ _ hk _ ht0
         ·simp only[RT]
          refine⟨happ,.inr ⟨nid,e,s,by simp[upd],rfl,?_⟩⟩
          rw[setS_get hn,if_pos rfl,List.length_append]
         ·intro j hj; unfold upd; rw[if_neg hj]
         ·intro j hj
          rw[hfoot,List.mem_singleton] at hj
          exact⟨⟨nT,by simp,by simp[upd,hj]⟩,.inl hj⟩
       ·
        rename_i g
        split at hr
        ·rename_i e' s' hown
         split at hr
         ·rename_i hes
          simp only[Bool.and_eq_true,beq_iff_eq] at hes
          obtain⟨rfl,rfl⟩:=hes
          simp only[Option.some.injEq] at hr
          subst hr
          have hBig:=hbig hc
          have htS:∀ j,(tS.map (clrB g))[j]? = (tS[j]?).map (clrB g):=fun j=>List.getElem?_map ..
          have hgn:g≠nT:=by
           rintro rfl
           rcases hT with hT | hT
           ·rw[hT] at hown; cases hown
           ·have:=(List.getElem?_eq_some_iff.1 hown).1; omega
          have hBm:BOK B (tS.map (clrB g)):=fun k hk=>by
           obtain⟨l0,h0⟩:=hB k hk
           exact⟨_,by rw[htS,h0]; rfl⟩
          have share:∀ (ι':Ids) (S':Store),Keeps ι S ι' S' (fun k=>k=g)→(∀ k k',k≠g→(ι' k=some k'↔ι k=some k'))→(∀ k k' b,k≠g→ι k=some k'→(∀ e s n,b ≠ .tail e s n)→S[k']? = some b→S'[k']? = some b) →
            (∀ t,ι' g=some t→∃ n,S'[t]? = some (.tail e' s' n))→(∀ k k',k≠g→ι k=some k'→ι' g≠some k')→RelT ι' (clrL g te) (tS.map (clrB g)) env S':=by
           intro ι' S' K hιe hcell hg hinj
           refine⟨rtl_clr K _ _ h.env,fun k0 l0 hk => ?_,fun k0 e0 s0 hk t0 ht0 => ?_,fun k0 k1 hk => ?_,fun i j k1 hi hj => ?_,fun k0 kt l0 hk t0 ht0 => ?_⟩
           ·rw[htS] at hk
            simp only[Option.map_eq_some_iff] at hk
            obtain⟨b,hb,hbe⟩:=hk
            have hne:k0≠g:=by rintro rfl; rw[hown] at hb; cases hb; cases hbe
            cases b<;>simp only[clrB] at hbe<;>first | (cases hbe; done) | skip
            rename_i lb
            cases hbe
            obtain⟨k',ds',n1,n2,n3⟩:=h.cells _ _ hb
            exact⟨k',ds',(hιe _ _ hne).2 n1,hcell _ _ _ hne n1 (fun _ _ _ e=>by cases e) n2,rtl_clr K _ _ n3⟩
           ·rw[htS] at hk
            simp only[Option.map_eq_some_iff] at hk
            obtain⟨b,hb,hbe⟩:=hk
            cases b<;>simp only[clrB] at hbe<;>first | (cases hbe; done) | skip
            cases hbe
            by_cases hg0:k0=g
            ·subst hg0
             rw[hown] at hb
             cases hb
             exact hg _ ht0
            ·have ht1:=(hιe _ _ hg0).1 ht0
             obtain⟨n,n1⟩:=h.own _ _ _ hb _ ht1
             exact⟨n,(K k0 t0 hg0 ht1).2 _ _ _ n1⟩
           ·rw[htS]
            by_cases hg0:k0=g
            ·subst hg0
             exact⟨_,by rw[hown]; rfl,fun e=>by cases e⟩
            ·obtain⟨b,n1,n2⟩:=h.dom _ _ ((hιe _ _ hg0).1 hk)
             exact⟨_,by rw[n1]; rfl,fun e=>by cases b<;>first | (exact n2 rfl) | cases e⟩
           ·by_cases hig:i=g<;>by_cases hjg:j=g
            ·rw[hig,hjg]
            ·subst hig; exact(hinj _ _ hjg ((hιe _ _ hjg).1 hj) hi).elim
            ·subst hjg; exact(hinj _ _ hig ((hιe _ _ hig).1 hi) hj).elim
            ·exact h.inj i j k1 ((hιe _ _ hig).1 hi) ((hιe _ _ hjg).1 hj)
           ·rw[htS] at hk
            simp only[Option.map_eq_some_iff] at hk
            obtain⟨b,hb,hbe⟩:=hk
            have hne:k0≠g:=by rintro rfl; rw[hown] at hb; cases hb; cases hbe
            cases b<;>simp only[clrB] at hbe<;>first | (cases hbe; done) | skip
            cases hbe
            have ht1:=(hιe _ _ hne).1 ht0
            exact hcell _ _ _ hne ht1 (fun _ _ _ e=>by cases e) (h.mp _ _ _ hb _ ht1)
          by_cases hem:news.isEmpty=true
          ·have hm:m=[]:=List.eq_nil_of_length_eq_zero (by rw[← hlb,isEmpty_len hem]; rfl)
           subst hm
           have e7:(hkk▸([]:List k'.den):List k.den)=[]:=List.eq_nil_of_length_eq_zero (by rw[cast_len]; rfl)
           refine⟨.sl rows tok f,S,ι,upd w nid nT,hz _ _ (by simp only[appendD,h1,hem,if_true]),share ι S (fun k k' _ hk=>⟨hk,fun _ _ _ h=>h⟩) (fun _ _ _=>Iff.rfl) (fun _ _ _ _ _ _ h=>h) (fun t ht=>h.own g _ _ hown t ht) (fun k k' hk h1 h2=>hk (h.inj _ _ _ h1 h2)),?_,?_,?_,?_,Fr.refl _ _ _,hBm,nn_refl _ _⟩
           ·simp only[RT]
            rw[e7,List.append_nil]
            exact⟨k3,kap⟩
           ·intro a b hab
            unfold upd
            rw[if_neg (h.ne_new hn hab)]
            exact hw _ _ hab
           ·intro j hj; unfold upd; rw[if_neg hj]
           ·intro j hj
            rw[hfoot] at hj
            cases tok with
            | none=>simp only[List.mem_singleton] at hj; exact⟨⟨nT,by simp,by simp[upd,hj]⟩,.inl hj⟩
            | some tk =>
             simp only[List.mem_cons,List.not_mem_nil,or_false] at hj
             rcases hj with rfl | rfl
             ·rcases kap with ⟨h0,-⟩ | ⟨t0,e0,s0,a1,a2,a3⟩
              ·cases h0
              ·cases a2
               exact⟨⟨g,by simp,by simp only[upd,h.ne_new hn a1,if_false]; exact hw _ _ a1⟩,.inr ⟨_,a1⟩⟩
             ·exact⟨⟨nT,by simp,by simp[upd]⟩,.inl rfl⟩
          ·rcases kap with ⟨rfl,hfull,_hz0⟩ | ⟨t0,e0,s0,a1,rfl,a3⟩
           ·have hk2:Keeps ι S (upd ι g nid) (setS S nid (.tail e' s' ((rows.length+news.length)*s'))) (fun k=>k=g):=fun k k' hk h2=>⟨by simp only[upd,hk,if_false]; exact h2,fun e s n hs=>by rw[setS_get hn,if_neg (h.ne_new hn h2)]; exact hs⟩
            refine⟨.sl (rows++news) (some nid) ⟨false,none⟩,setS S nid (.tail e' s' ((rows.length+news.length)*s')),upd ι g nid,fun j=>if j=nid then some g else w j,hz _ _ ?_,share _ _ hk2 (fun k k' hk=>by simp only[upd,hk,if_false]) (fun k k' ds hk h2 _ h3=>by rw[setS_get hn,if_neg (h.ne_new hn h2)]; exact h3) (fun t ht => ?_) (fun k k' hk h2 h3 => ?_),?_,?_,?_,?_,fr_upd hn (bok_own hB hown),hBm,nn_setS hn⟩
            ·simp only[appendD,h1,hem,Bool.false_eq_true,if_false,h4,hBig,if_true,hfull,hb1,Bool.and_self]
            ·simp only[upd,if_true,Option.some.injEq] at ht
             subst ht
             exact⟨_,by rw[setS_get hn,if_pos rfl]⟩
            ·simp only[upd,if_true,Option.some.injEq] at h3
             exact h.ne_new hn h2 h3.symm
            ·simp only[RT]
             refine⟨happ,.inr ⟨nid,e',s',by simp[upd],rfl,?_⟩⟩
             rw[setS_get hn,if_pos rfl,List.length_append]
            ·intro a b hab
             unfold upd at hab
             split at hab
             ·rename_i e9; subst e9; cases hab; simp
             ·show (if b=nid then some g else w b)=some a
              rw[if_neg (h.ne_new hn hab)]; exact hw _ _ hab
            ·intro j hj
             show (if j=nid then some g else w j)=w j
             rw[if_neg hj]
            ·intro j hj
             rw[hfoot,List.mem_singleton] at hj
             exact⟨⟨g,by simp,by simp[hj]⟩,.inl hj⟩
           ·obtain⟨n,a4⟩:=h.own g _ _ hown t0 a1
            rw[a3] at a4
            cases a4
            have hne:t0≠nid:=h.ne_new hn a1
            have hlt:=(List.getElem?_eq_some_iff.1 a3).1
            have hget:∀ j,j≠t0→(S.set t0 (.tail e' s' ((rows.length+news.length)*s')))[j]? = S[j]? := fun j hj=>by rw[List.getElem?_set,if_neg (Ne.symm hj)]
            have hk2:Keeps ι S ι (S.set t0 (.tail e' s' ((rows.length+news.length)*s'))) (fun k=>k=g):=fun k k' hk h2=>⟨h2,fun e s n hs=>by rw[hget k' (fun e9=>hk (h.inj _ _ _ h2 (by rw[e9]; exact a1)))]; exact hs⟩
            refine⟨.sl (rows++news) (some t0) ⟨false,none⟩,S.set t0 (.tail e' s' ((rows.length+news.length)*s')),ι,fun j=>if j=nid then some nT else w j,hz _ _ ?_,share _ _ hk2 (fun _ _ _=>Iff.rfl) (fun k k' ds hk h2 _ h3=>by rw[hget k' (fun e9=>hk (h.inj _ _ _ h2 (by rw[e9]; exact a1)))]; exact h3) (fun t ht => ?_) (fun k k' hk h2 h3=>hk (h.inj _ _ _ h2 h3)),?_,?_,?_,?_,fr_set a1,hBm,nn_set a3 (fun e=>by cases e)⟩
            ·simp only[appendD,h1,hem,Bool.false_eq_true,if_false,h4,hBig,if_true,a3,decide_true,Bool.and_self]
            ·rw[a1] at ht
             cases ht
             exact⟨_,by rw[List.getElem?_set,if_pos rfl,if_pos hlt]⟩
            ·simp only[RT]
             refine⟨happ,.inr ⟨t0,e',s',a1,rfl,?_⟩⟩
             rw[List.getElem?_set,if_pos rfl,if_pos hlt,List.length_append]
            ·intro a b hab
             show (if b=nid then some nT else w b)=some a
             rw[if_neg (h.ne_new hn hab)]; exact hw _ _ hab
            ·intro j hj
             show (if j=nid then some nT else w j)=w j
             rw[if_neg hj]
            ·intro j hj
             rw[hfoot] at hj
             simp only[List.mem_cons,List.not_mem_nil,or_false] at hj
             rcases hj with rfl | rfl
             ·exact⟨⟨g,by simp,by simp only[hne,if_false]; exact hw _ _ a1⟩,.inr ⟨_,a1⟩⟩
             ·exact⟨⟨nT,by simp,by simp⟩,.inl rfl⟩
         ·cases hr
        ·cases hr
      ·cases hr
     ·cases hr
    ·cases hr
   ·cases hr
  ·cases hr
 ·cases hr
theorem stepT_ok (h:RelT ι te tS env S) (hB:BOK B tS) (hw:WOK ι w) (hT:NewT tS nT) (hn:NewD S nid) (hr:stepT P ty tt te tS o nT=some r) (hc:r.c):StepOK P ty iso call yf B ι w env S o nid r:=by
 have pure:(pureT P ty tt te tS o).map (fun r=>(⟨r.1,te,tS,readsT te o,r.2⟩:TR))=some r→(∀ j∈footD (evD env) o nid,(∃ k∈readsT te o,w j=some k)∧(j=nid∨∃ i,ι i=some j))→StepOK P ty iso call yf B ι w env S o nid r:=by
  intro hp hf
  simp only[Option.map_eq_some_iff] at hp
  obtain⟨⟨v,c⟩,h1,rfl⟩:=hp
  obtain⟨d,h2,h3⟩:=pureT_ok (iso:=iso) (call:=call) (yf:=yf) (nid:=nid) h.env h.cells h1 hc
  exact⟨d,S,ι,w,h2,h,h3,hw,fun _ _=>rfl,hf,Fr.refl _ _ _,hB,nn_refl _ _⟩
 have quiet:footD (evD env) o nid=[]→(∀ j∈footD (evD env) o nid,(∃ k∈readsT te o,w j=some k)∧(j=nid∨∃ i,ι i=some j)):=fun e j hj=>by rw[e] at hj; cases hj
 cases ho:o.op with
 | alloc e =>
  simp only[stepT,ho] at hr
  split at hr
  ·rename_i k sz z h1
   cases hr
   refine⟨.ptr nid 0,setS S nid (.cells z),upd ι nT nid,upd w nid nT,by simp only[stepOp,ho,h1],rel_cells_new h hT hn (rtl_of1 z),by simp[RT,upd],wok_new h hn hT hw,fun j hj=>by simp only[upd,hj,if_false],fun j hj => ?_,fr_upd hn (bok_new hB hT),bok_setT hB hT,nn_setS hn⟩
   simp only[footD,ho,List.mem_singleton] at hj
   exact⟨⟨nT,by simp,by simp[upd,hj]⟩,.inl hj⟩
  ·cases hr
 | box t x =>
  simp only[stepT,ho] at hr
  split at hr
  ·rename_i v h1
   split at hr
   ·rename_i hk
    cases hr
    obtain⟨d,k1,k2⟩:=evT_ok h.env h1
    refine⟨.ptr nid 0,setS S nid (.cells d.cells),upd ι nT nid,upd w nid nT,by simp only[stepOp,ho,k1],rel_cells_new h hT hn (rt_cells hk k2),by simp[RT,upd],wok_new h hn hT hw,fun j hj=>by simp only[upd,hj,if_false],fun j hj => ?_,fr_upd hn (bok_new hB hT),bok_setT hB hT,nn_setS hn⟩
    simp only[footD,ho,List.mem_singleton] at hj
    exact⟨⟨nT,by simp,by simp[upd,hj]⟩,.inl hj⟩
   ·cases hr
  ·cases hr
 | store t a x=>exact store_ok h hB hw ho hr
 | load t a =>
  simp only[stepT,ho] at hr
  refine pure hr fun j hj => ?_
  simp only[footD,ho] at hj
  split at hj
  ·rename_i id' off' h1
   simp only[List.mem_singleton] at hj
   subst hj
   simp only[Option.map_eq_some_iff,pureT,ho] at hr
   obtain⟨q,h2,-⟩:=hr
   split at h2
   ·rename_i td id off h3 h4
    obtain⟨d,k1,k2⟩:=evT_ok h.env h4
    rw[h1] at k1
    cases k1
    simp only[RT] at k2
    exact⟨⟨id,by simp[readsT,ho,h4],hw _ _ k2.1⟩,.inr ⟨_,k2.1⟩⟩
   ·rename_i td e l i off h3 h4
    obtain⟨d,k1,k2⟩:=evT_ok h.env h4
    rw[h1] at k1
    cases k1
    simp only[RT] at k2
   ·cases h2
  ·cases hj
 | call cl =>
  obtain⟨callee,args,argTypes⟩:=cl
  cases callee with
  | builtin b =>
   cases b with
   | append=>exact append_ok h hB hw hT hn ho hr hc
   | _=>simp only[stepT,ho] at hr; exact pure hr (quiet (by simp only[footD,ho]))
  | _=>simp only[stepT,ho] at hr; exact pure hr (quiet (by simp only[footD,ho]))
 | _=>simp only[stepT,ho] at hr; exact pure hr (quiet (by simp only[footD,ho]))
end Go.Tv
end
section
namespace Go.Tv
open Go Go.Di
def undT:TV := .val (.tuple #[])
def putTV (te:List TV) (dst:Option Tmp) (v:TV):List TV :=
 match dst with
 | some d=>te.set d v
 | none=>te
def wantedT (ops:Array Oper) (te:List TV) (o:Oper):Option Bool :=
 match o.guard with
 | none=>some true
 | some (j,want)=>match (ops[j]?).bind (·.dst) with
  | some d=>match te[d]? with
   | some (.val (.bool b))=>some (match want with | true=>b | false => !b)
   | some .unk=>none
   | some (.val _)=>some false
   | _=>none
  | none=>some false
def wrOf (o:Oper):Bool :=
 match o.op with
 | .alloc _ | .box .. | .store .. => true
 | .call { callee := .builtin .append,.. }=>true
 | _=>false
def isCall (o:Oper):Bool :=
 match o.op with
 | .call { callee := .value _,.. }=>true
 | _=>false
def newB (tS:List TB) (nT:Nat):Bool :=
 match tS[nT]? with
 | some .none=>true
 | none=>nT==tS.length
 | _=>false
structure RR where
 k:Nat
 te:List TV
 tS:List TB
 fs:List Foot
 c:Prop
section
variable (P:Program) (ty:Tys) (tt:TypeId→Option TT)
def runT (ops:Array Oper) (dn:Option Nat):List Oper→Nat→List TV→List TB→Option RR
 | [],k,te,tS=>some ⟨k,te,tS,[],True⟩
 | o::r,k,te,tS =>
  match wantedT ops te o with
  | some true=>if isCall o then some ⟨k,te,tS,[],True⟩ else match stepT P ty tt te tS o (match dn with | some n=>n+k | none=>tS.length) with
   | some q=>if newB tS (match dn with | some n=>n+k | none=>tS.length) then
     match runT ops dn r (k+1) (putTV q.te o.dst q.v) q.tS with
     | some z=>some ⟨z.k,z.te,z.tS,⟨some q.foot,wrOf o⟩::z.fs,q.c∧z.c⟩
     | none=>none
    else none
   | none=>none
  | some false=>match runT ops dn r (k+1) (putTV te o.dst undT) tS with
   | some z=>some ⟨z.k,z.te,z.tS,⟨some [],false⟩::z.fs,z.c⟩
   | none=>none
  | none=>some ⟨k,te,tS,[],True⟩
def runTQ (ops:Array Oper) (tS:List TB):List Oper→Nat→List TV→Option (Nat×List TV×Prop)
 | [],k,te=>some (k,te,True)
 | o::r,k,te =>
  match wantedT ops te o with
  | some true=>if isCall o then some (k,te,True) else match pureT P ty tt te tS o with
   | some q=>match runTQ ops tS r (k+1) (putTV te o.dst q.1) with
     | some z=>some (z.1,z.2.1,q.2∧z.2.2)
     | none=>none
   | none=>none
  | some false=>runTQ ops tS r (k+1) (putTV te o.dst undT)
  | none=>some (k,te,True)
end
section
variable {P:Program} {ty:Tys} {tt:TypeId→Option TT} {ι ι' w:Ids} {S S':Store} {te:List TV} {env:List DV} {tS:List TB} {iso:IsoF} {call:CallF} {yf:YldF} {o:Oper} {nid nT:Nat} {B:List Nat} {r:TR} {ops:Array Oper}
theorem put_rt {v:TV} {d:DV} (h:RTl ι S te env) (hv:RT ι S v d) (dst:Option Tmp):RTl ι S (putTV te dst v) (putD env dst d):=by
 cases dst with
 | none=>exact h
 | some t=>exact rtl_set t h hv
theorem und_rt:RT ι S undT dundef:=by simp only[undT,dundef,RT]
theorem wantedT_ok (h:RTl ι S te env) {b:Bool} (hw:wantedT ops te o=some b):wantedD ops env o=b:=by
 unfold wantedT at hw
 unfold wantedD
 split at hw
 ·rename_i e; cases hw; rw[e]
 ·rename_i j want e
  rw[e]
  dsimp only
  split at hw
  ·rename_i d e1
   rw[e1]
   dsimp only
   split at hw
   ·rename_i b' e2
    cases hw
    obtain⟨d',k1,k2⟩:=rtl_get h e2
    cases d'<;>simp only[RT] at k2
    subst k2
    rw[k1]
    cases b'<;>cases want<;>rfl
   ·cases hw
   ·rename_i v hv e2
    cases hw
    obtain⟨d',k1,k2⟩:=rtl_get h e2
    cases d'<;>simp only[RT] at k2
    rw[k2] at k1
    rw[k1]
    cases v<;>first | rfl | exact(hv _ rfl).elim
   ·cases hw
  ·rename_i e1
   cases hw
   rw[e1]
theorem newB_ok (h:newB tS nT=true):NewT tS nT:=by
 unfold newB at h
 split at h
 ·rename_i e; exact .inl e
 ·exact .inr (by simpa using h)
 ·cases h
def FeetR (w:Ids) (f ft:Foot):Prop:=(f.wr=true→ft.wr=true)∧∀ l,ft.ids=some l→∃ m,f.ids=some m∧∀ j∈m,∃ k∈l,w j=some k
def Does (P:Program) (ty:Tys) (iso:IsoF) (call:CallF) (yf:YldF) (B:List Nat) (o:Oper) (nT:Nat) (te:List TV) (tS:List TB) (dr:Bool) (Q:TV→List TV→List TB→Foot→Prop):Prop :=
 ∀ ι w env S nid,RelT ι te tS env S→BOK B tS→WOK ι w→NewT tS nT→NewD S nid→(dr=true→S[nid]? = some .none) →
  ∃ d S' ι' w' v te' tS' f ft,(dr=false→stepOp P ty iso call yf (evD env) o S nid=some (d,S'))∧(dr=true→stepDr P ty iso call yf (evD env) o S nid=some (d,S',f))∧FeetR w' f ft∧(∀ l m,ft.ids=some l→f.ids=some m→∀ j∈m,j=nid∨∃ i,ι i=some j) ∧
   RelT ι' te' tS' env S'∧RT ι' S' v d∧WOK ι' w'∧(dr=true→∀ j,j≠nid→w' j=w j)∧Fr B ι S ι' S'∧BOK B tS'∧Nn nid S S'∧Q v te' tS' ft
theorem does_step (h:stepT P ty tt te tS o nT=some r) (hc:r.c) (dr:Bool):Does P ty iso call yf B o nT te tS dr fun v te' tS' ft=>v=r.v∧te'=r.te∧tS'=r.tS∧ft=⟨some r.foot,wrOf o⟩:=by
 intro ι w env S nid hR hB hw hT hn hS
 obtain⟨d,S',ι',w',h1,h2,h3,h4,h5,h6,h7,h8,h9⟩:=stepT_ok (iso:=iso) (call:=call) (yf:=yf) hR hB hw hT hn h hc
 refine⟨d,S',ι',w',r.v,r.te,r.tS,⟨some (footD (evD env) o nid),wrOf o⟩,⟨some r.foot,wrOf o⟩,fun _=>h1,fun hd => ?_,⟨id,fun l hl=>⟨_,rfl,fun j hj=>by cases hl; exact(h6 j hj).1⟩⟩,fun l m hl hm j hj=>by cases hm; exact(h6 j hj).2,h2,h3,h4,fun _=>h5,h7,h8,h9,rfl,rfl,rfl,rfl⟩
 have hnone:=hS hd
 cases ho:o.op with
 | alloc e=>simp only[stepDr,ho,hnone,h1,Option.map_some,footD,wrOf]
 | box t x=>simp only[stepDr,ho,hnone,h1,Option.map_some,footD,wrOf]
 | store t a x =>
  have:∃ id off,evD env a=some (.ptr id off):=by
   simp only[stepOp,ho] at h1
   split at h1
   ·rename_i a' v' e1 e2
    simp only[Option.map_eq_some_iff] at h1
    obtain⟨q,h1,-⟩:=h1
    unfold storeD at h1
    split at h1
    ·exact⟨_,_,e1⟩
    ·cases h1
   ·cases h1
  obtain⟨id,off,e⟩:=this
  simp only[stepDr,ho,e,h1,Option.map_some,footD,wrOf]
 | load t a =>
  cases e:evD env a with
  | none=>simp only[stepOp,ho,e] at h1; cases h1
  | some da=>cases da<;>simp only[stepDr,ho,e,h1,Option.map_some,footD,wrOf]
 | makeMap t x=>simp only[stepT,pureT,ho,Option.map_none] at h; cases h
 | lookup t m k b=>simp only[stepT,pureT,ho,Option.map_none] at h; cases h
 | mapUpdate t m k b=>simp only[stepT,pureT,ho,Option.map_none] at h; cases h
 | call cl =>
  obtain⟨callee,args,argTypes⟩:=cl
  cases callee with
  | builtin b =>
   cases b with
   | append =>
    cases e:(args[0]?).bind (evD env) with
    | none=>simp only[stepDr,ho,hnone,e,h1,Option.map_some,footD,wrOf]
    | some da =>
     cases da with
     | sl rows tok f=>cases tok<;>simp only[stepDr,ho,hnone,e,h1,Option.map_some,footD,wrOf]
     | _=>simp only[stepDr,ho,hnone,e,h1,Option.map_some,footD,wrOf]
   | _=>simp only[stepDr,ho,h1,Option.map_some,footD,wrOf]
  | value f=>simp only[stepT,pureT,ho,Option.map_none] at h; cases h
  | _=>simp only[stepDr,ho,h1,Option.map_some,footD,wrOf]
 | _=>simp only[stepDr,ho,h1,Option.map_some,footD,wrOf]
def WL (P:Program) (ty:Tys) (iso:IsoF) (call:CallF) (yf:YldF) (B:List Nat) (ops:Array Oper) (k:Nat) (te:List TV) (tS:List TB) (Q:List TV→List TB→Prop):Prop :=
 ∀ ι env S,RelT ι te tS env S→BOK B tS→∃ env' S' ι' te' tS',runL P ty iso call yf ops (ops.toList.drop k) env S=some (env',S')∧RelT ι' te' tS' env' S'∧BOK B tS'∧Fr B ι S ι' S'∧Nn S.length S S'∧Q te' tS'
theorem wok_ex (h:RelT ι te tS env S):∃ w,WOK ι w:=by
 refine⟨fun k'=>(Classical.epsilon fun o:Option Nat=>∀ k,ι k=some k'→o=some k),fun k k' hk => ?_⟩
 have:∃ o:Option Nat,∀ j,ι j=some k'→o=some j:=⟨some k,fun j hj=>congrArg some (h.inj _ _ _ hk hj)⟩
 exact Classical.epsilon_spec this k hk
theorem nn_trans {S'':Store} (h:Nn S.length S S') (k:Nn S'.length S' S''):Nn S.length S S'':=by
 refine⟨Nat.le_trans h.1 k.1,fun j hj hn => ?_⟩
 have h1:=h.2 j hj hn
 have:=(List.getElem?_eq_some_iff.1 h1).1
 exact k.2 j (by omega) h1
theorem rel_put (h:RelT ι te tS env S) {v:TV} {d:DV} (hv:RT ι S v d) (dst:Option Tmp):RelT ι (putTV te dst v) tS (putD env dst d) S:=⟨put_rt h.env hv dst,h.cells,h.own,h.dom,h.inj,h.mp⟩
theorem drop_op {k:Nat} (ho:ops[k]? = some o):ops.toList.drop k=o::ops.toList.drop (k+1):=by
 have h:ops.toList[k]? = some o:=by simpa using ho
 obtain⟨hk,rfl⟩:=List.getElem?_eq_some_iff.1 h
 exact List.drop_eq_getElem_cons hk
theorem wl_end {k:Nat} (hk:ops.size≤k) {Q:List TV→List TB→Prop} (h:Q te tS):WL P ty iso call yf B ops k te tS Q:=by
 intro ι env S hR hB
 rw[List.drop_eq_nil_of_le (by simpa using hk)]
 exact⟨env,S,ι,te,tS,rfl,hR,hB,Fr.refl _ _ _,nn_refl _ _,h⟩
theorem wl_op {k:Nat} (ho:ops[k]? = some o) (hw:wantedT ops te o=some true) {Q:List TV→List TB→Prop} {K:TV→List TV→List TB→Foot→Prop} (hd:Does P ty iso call yf B o tS.length te tS false K)
  (h:∀ v te' tS' ft,K v te' tS' ft→WL P ty iso call yf B ops (k+1) (putTV te' o.dst v) tS' Q):WL P ty iso call yf B ops k te tS Q:=by
 intro ι env S hR hB
 obtain⟨w,hwk⟩:=wok_ex hR
 obtain⟨d,S',ι',w',v,te',tS',f,ft,h1,-,-,-,h5,h6,-,-,h9,h10,h11,h12⟩:=hd ι w env S S.length hR hB hwk (.inr rfl) (.inr rfl) (fun e=>by cases e)
 obtain⟨env',S'',ι'',te'',tS'',k1,k2,k3,k4,k5,k6⟩:=h v te' tS' ft h12 ι' (putD env o.dst d) S' (rel_put h5 h6 _) h10
 refine⟨env',S'',ι'',te'',tS'',?_,k2,k3,h9.trans k4,nn_trans h11 k5,k6⟩
 rw[drop_op ho]
 simp only[runL,wantedT_ok hR.env hw,if_true,h1 rfl,k1]
theorem wl_skip {k:Nat} (ho:ops[k]? = some o) (hw:wantedT ops te o=some false) {Q:List TV→List TB→Prop}
  (h:WL P ty iso call yf B ops (k+1) (putTV te o.dst undT) tS Q):WL P ty iso call yf B ops k te tS Q:=by
 intro ι env S hR hB
 obtain⟨env',S'',ι'',te'',tS'',k1,k2,k3,k4,k5,k6⟩:=h ι (putD env o.dst dundef) S (rel_put hR und_rt _) hB
 refine⟨env',S'',ι'',te'',tS'',?_,k2,k3,k4,k5,k6⟩
 rw[drop_op ho]
 simp only[runL,wantedT_ok hR.env hw,Bool.false_eq_true,if_false,k1]
theorem get_of_drop {k:Nat} {r:List Oper} (h:ops.toList.drop k=o::r):ops[k]? = some o∧r=ops.toList.drop (k+1):=by
 have h1:ops.toList[k]? = some o:=by
  have:=congrArg (·[0]?) h
  simpa using this
 refine⟨by simpa using h1,?_⟩
 have:=congrArg List.tail h
 simpa using this.symm
end
end Go.Tv
end
section
namespace Go.Tv
open Go Go.Di
variable {P:Program} {ty:Tys} {tt:TypeId→Option TT} {ι ι' w:Ids} {S S':Store} {te:List TV} {env:List DV} {tS:List TB} {iso:IsoF} {call:CallF} {yf:YldF} {o:Oper} {nid nT:Nat} {B:List Nat} {r:TR} {ops:Array Oper}
def WQ (P:Program) (ty:Tys) (iso:IsoF) (call:CallF) (yf:YldF) (ops:Array Oper) (tS:List TB) (k:Nat) (te:List TV) (Q:List TV→Prop):Prop :=
 ∀ ι env S,RelT ι te tS env S→∃ env' te',runQ P ty iso call yf ops S (ops.toList.drop k) env=some env'∧RelT ι te' tS env' S∧Q te'
theorem wq_end {k:Nat} (hk:ops.size≤k) {Q:List TV→Prop} (h:Q te):WQ P ty iso call yf ops tS k te Q:=by
 intro ι env S hR
 rw[List.drop_eq_nil_of_le (by simpa using hk)]
 exact⟨env,te,rfl,hR,h⟩
theorem wq_skip {k:Nat} (ho:ops[k]? = some o) (hw:wantedT ops te o=some false) {Q:List TV→Prop} (h:WQ P ty iso call yf ops tS (k+1) (putTV te o.dst undT) Q):WQ P ty iso call yf ops tS k te Q:=by
 intro ι env S hR
 obtain⟨env',te',k1,k2,k3⟩:=h ι (putD env o.dst dundef) S (rel_put hR und_rt _)
 refine⟨env',te',?_,k2,k3⟩
 rw[drop_op ho]
 simp only[runQ,wantedT_ok hR.env hw,Bool.false_eq_true,if_false,k1]
theorem quiet_pure {ρ:Operand→Option DV} {d:DV} (hp:∃ q,pureT P ty tt te tS o=some q) (h:stepOp P ty iso call yf ρ o S S.length=some (d,S)):quietOp P ty iso call yf ρ o S=some d:=by
 obtain⟨q,hp⟩:=hp
 cases ho:o.op with
 | alloc e=>simp only[pureT,ho] at hp; cases hp
 | box t x=>simp only[pureT,ho] at hp; cases hp
 | store t a x=>simp only[pureT,ho] at hp; cases hp
 | makeMap t x=>simp only[pureT,ho] at hp; cases hp
 | mapUpdate t m k b=>simp only[pureT,ho] at hp; cases hp
 | call cl =>
  obtain⟨callee,args,argTypes⟩:=cl
  cases callee with
  | builtin b =>
   cases b with
   | append=>simp only[pureT,ho] at hp; cases hp
   | _=>simp only[quietOp,ho,h,Option.map_some]
  | value f=>simp only[pureT,ho] at hp; cases hp
  | _=>simp only[quietOp,ho,h,Option.map_some]
 | _=>simp only[quietOp,ho,h,Option.map_some]
theorem wq_pure {k:Nat} {v:TV} {c:Prop} (ho:ops[k]? = some o) (hw:wantedT ops te o=some true) (hp:pureT P ty tt te tS o=some (v,c)) (hc:c) {Q:List TV→Prop} (h:WQ P ty iso call yf ops tS (k+1) (putTV te o.dst v) Q):WQ P ty iso call yf ops tS k te Q:=by
 intro ι env S hR
 obtain⟨d,h1,h2⟩:=pureT_ok (iso:=iso) (call:=call) (yf:=yf) (nid:=S.length) hR.env hR.cells hp hc
 obtain⟨env',te',k1,k2,k3⟩:=h ι (putD env o.dst d) S (rel_put hR h2 _)
 refine⟨env',te',?_,k2,k3⟩
 rw[drop_op ho]
 simp only[runQ,wantedT_ok hR.env hw,if_true,quiet_pure ⟨_,hp⟩ h1,k1]
def FeetL (w:Ids):List Foot→List Foot→Prop
 | [],[]=>True
 | f::l,g::m=>FeetR w f g∧FeetL w l m
 | _,_=>False
theorem feet_get {w:Ids}:∀ {l m:List Foot} {i:Nat} {f:Foot},FeetL w l m→l[i]? = some f→∃ g,m[i]? = some g∧FeetR w f g
 | [],_,_,_,_,h=>by simp at h
 | _::_,[],_,_,h,_=>h.elim
 | f::l,g::m,0,f',h,hx=>by
  simp only[List.getElem?_cons_zero,Option.some.injEq] at hx
  subst hx
  exact⟨g,rfl,h.1⟩
 | f::l,g::m,i+1,f',h,hx=>by
  obtain⟨g',h1,h2⟩:=feet_get (i:=i) h.2 (by simpa using hx)
  exact⟨g',by simpa using h1,h2⟩
theorem meets_ok {w:Ids} {f g f' g':Foot} (hf:FeetR w f f') (hg:FeetR w g g') (h:f.meets g=true):f'.meets g'=true:=by
 obtain⟨fi,fw⟩:=f
 obtain⟨gi,gw⟩:=g
 obtain⟨fi',fw'⟩:=f'
 obtain⟨gi',gw'⟩:=g'
 obtain⟨hf1,hf2⟩:=hf
 obtain⟨hg1,hg2⟩:=hg
 simp only[Foot.meets,Bool.and_eq_true,Bool.or_eq_true] at h ⊢
 refine⟨h.1.imp hf1 hg1,?_⟩
 have h:=h.2
 have ne:∀ {m l:List Nat},(∀ j∈m,∃ k∈l,w j=some k)→m≠[]→(!l.isEmpty)=true:=by
  intro m l hml hm
  cases m with
  | nil=>exact(hm rfl).elim
  | cons j m =>
   obtain⟨k,hk,-⟩:=hml j (by simp)
   cases l with
   | nil=>cases hk
   | cons _ _=>rfl
 cases fi' with
 | none =>
  cases gi' with
  | none=>rfl
  | some l' =>
   obtain⟨m,e,hm⟩:=hg2 _ rfl
   simp only at e
   subst e
   refine ne hm ?_
   rintro rfl
   cases fi<;>simp at h
 | some l =>
  obtain⟨m,e,hm⟩:=hf2 _ rfl
  simp only at e
  subst e
  cases gi' with
  | none =>
   refine ne hm ?_
   rintro rfl
   cases gi<;>simp at h
  | some l' =>
   obtain⟨m',e,hm'⟩:=hg2 _ rfl
   simp only at e
   subst e
   simp only[List.any_eq_true,List.contains_iff_mem] at h ⊢
   obtain⟨j,hj,hj'⟩:=h
   obtain⟨k,hk,e1⟩:=hm j hj
   obtain⟨k',hk',e2⟩:=hm' j hj'
   rw[e1] at e2
   cases e2
   exact⟨k,hk,hk'⟩
theorem met_ok {w:Ids} {b:Array Nat} {fs ft:List Foot} (hf:FeetL w fs ft) (h:metOk b ft=true):metOk b fs=true:=by
 simp only[metOk,List.all_eq_true,List.mem_iff_getElem?,List.getElem?_zipIdx,Option.map_eq_some_iff,Prod.forall,Prod.mk.injEq] at h ⊢
 rintro f i ⟨i',f0,h1,rfl,rfl⟩ g j ⟨j',g0,h2,rfl,rfl⟩
 obtain⟨f',k1,k2⟩:=feet_get hf h1
 obtain⟨g',k3,k4⟩:=feet_get hf h2
 have:=h f' (0+i') ⟨i',f',k1,rfl,rfl⟩ g' (0+j') ⟨j',g',k3,rfl,rfl⟩
 simp only[Bool.or_eq_true,Bool.not_eq_true'] at this ⊢
 refine this.imp (Or.imp (Or.imp id fun hn => ?_) id) id
 cases hm:f0.meets g0 with
 | false=>rfl
 | true=>rw[meets_ok k2 k4 hm] at hn; cases hn
def WD (P:Program) (ty:Tys) (iso:IsoF) (call:CallF) (yf:YldF) (B:List Nat) (ops:Array Oper) (k:Nat) (te:List TV) (tS:List TB) (fs:List Foot) (Q:List TV→List TB→Prop):Prop :=
 ∀ ι w env S n0,RelT ι te tS env S→BOK B tS→WOK ι w→(∀ j,k≤j→j<ops.size→S[n0+j]? = some .none) →
  ∃ env' S' fs' ι' w' te' tS' ft,runDr P ty iso call yf ops n0 (ops.toList.drop k) k env S=some (env',S',fs')∧FeetL w' fs' ft∧(∀ j,(∀ i,k≤i→i<ops.size→j≠n0+i)→w' j=w j)∧metOk (Region.before ops) (fs++ft)=true ∧
   RelT ι' te' tS' env' S'∧BOK B tS'∧Fr B ι S ι' S'∧(S.length≤S'.length∧∀ j,(∀ i,k≤i→i<ops.size→j≠n0+i)→S[j]? = some .none→S'[j]? = some .none)∧Q te' tS'
variable {n0T:Nat} {fs:List Foot}
theorem wd_end {k:Nat} (hk:ops.size≤k) {Q:List TV→List TB→Prop} (hm:metOk (Region.before ops) fs=true) (h:Q te tS):WD P ty iso call yf B ops k te tS fs Q:=by
 intro ι w env S n0 hR hB hw hn
 rw[List.drop_eq_nil_of_le (by simpa using hk)]
 exact⟨env,S,[],ι,w,te,tS,[],rfl,trivial,fun _ _=>rfl,by simpa using hm,hR,hB,Fr.refl _ _ _,⟨Nat.le_refl _,fun _ _ h=>h⟩,h⟩
theorem wd_op {k:Nat} (ho:ops[k]? = some o) (hw:wantedT ops te o=some true) (hnew:newB tS (n0T+k)=true) {Q:List TV→List TB→Prop} {K:TV→List TV→List TB→Foot→Prop} (hd:Does P ty iso call yf B o (n0T+k) te tS true K)
  (h:∀ v te' tS' ft,K v te' tS' ft→WD P ty iso call yf B ops (k+1) (putTV te' o.dst v) tS' (fs++[ft]) Q):WD P ty iso call yf B ops k te tS fs Q:=by
 intro ι w env S n0 hR hB hwk hn
 have hsz:k<ops.size:=(Array.getElem?_eq_some_iff.1 ho).1
 have hnid:=hn k (Nat.le_refl _) hsz
 obtain⟨d,S',ι',w',v,te',tS',f,ft,h1,h2,h3,h4,h5,h6,h7,h8,h9,h10,h11,h12⟩:=hd ι w env S (n0+k) hR hB hwk (newB_ok hnew) (.inl hnid) (fun _=>hnid)
 obtain⟨env',S'',fs',ι'',w'',te'',tS'',fts,k1,k2,k3,k4,k5,k6,k7,k8,k9⟩:=h v te' tS' ft h12 ι' w' (putD env o.dst d) S' n0 (rel_put h5 h6 _) h10 h7 (fun j hj hj'=>h11.2 _ (by omega) (hn j (by omega) hj'))
 refine⟨env',S'',f::fs',ι'',w'',te'',tS'',ft::fts,?_,⟨⟨h3.1,fun l hl => ?_⟩,k2⟩,fun j hj => ?_,?_,k5,k6,h9.trans k7,⟨Nat.le_trans h11.1 k8.1,fun j hj hnone => ?_⟩,k9⟩
 ·rw[drop_op ho]
  simp only[runDr,wantedT_ok hR.env hw,if_true,h2 rfl,k1]
 ·obtain⟨m,e1,e2⟩:=h3.2 l hl
  refine⟨m,e1,fun j hj => ?_⟩
  obtain⟨k',hk',e3⟩:=e2 j hj
  refine⟨k',hk',?_⟩
  rw[k3 j ?_]
  ·exact e3
  ·intro i hi hi' he
   rcases h4 l m hl e1 j hj with rfl | ⟨i',hi''⟩
   ·omega
   ·obtain⟨b,e4,e5⟩:=hR.live hi''
    rw[he,hn i (by omega) hi'] at e4
    cases e4
    exact e5 rfl
 ·rw[k3 j fun i hi hi'=>hj i (by omega) hi',h8 rfl j (hj k (Nat.le_refl _) hsz)]
 ·simpa using k4
 ·exact k8.2 j (fun i hi hi'=>hj i (by omega) hi') (h11.2 j (hj k (Nat.le_refl _) hsz) hnone)
theorem wd_skip {k:Nat} (ho:ops[k]? = some o) (hw:wantedT ops te o=some false) {Q:List TV→List TB→Prop}
  (h:WD P ty iso call yf B ops (k+1) (putTV te o.dst undT) tS (fs++[⟨some [],false⟩]) Q):WD P ty iso call yf B ops k te tS fs Q:=by
 intro ι w env S n0 hR hB hwk hn
 have hsz:k<ops.size:=(Array.getElem?_eq_some_iff.1 ho).1
 obtain⟨env',S'',fs',ι'',w'',te'',tS'',fts,k1,k2,k3,k4,k5,k6,k7,k8,k9⟩:=h ι w (putD env o.dst dundef) S n0 (rel_put hR und_rt _) hB hwk (fun j hj hj'=>hn j (by omega) hj')
 refine⟨env',S'',⟨some [],false⟩::fs',ι'',w'',te'',tS'',⟨some [],false⟩::fts,?_,⟨⟨id,fun l hl=>⟨[],rfl,fun j hj=>by cases hj⟩⟩,k2⟩,fun j hj => ?_,?_,k5,k6,k7,⟨k8.1,fun j hj hnone => ?_⟩,k9⟩
 ·rw[drop_op ho]
  simp only[runDr,wantedT_ok hR.env hw,Bool.false_eq_true,if_false,k1]
 ·exact k3 j fun i hi hi'=>hj i (by omega) hi'
 ·simpa using k4
 ·exact k8.2 j (fun i hi hi'=>hj i (by omega) hi') hnone
def noisy (o:Oper):Bool :=
 o.guard.isNone&&match o.op with
 | .alloc _ | .box .. | .store .. | .makeMap .. | .mapUpdate .. => true
 | .call { callee := .builtin .append,.. }=>true
 | _=>false
theorem runQ_noisy:∀ {l:List Oper} {env:List DV},l.any noisy=true→runQ P ty iso call yf ops S l env=none
 | [],_,h=>by cases h
 | o::l,env,h=>by
  simp only[List.any_cons,Bool.or_eq_true] at h
  simp only[runQ]
  rcases h with h | h
  ·simp only[noisy,Bool.and_eq_true] at h
   obtain⟨h1,h2⟩:=h
   have hw:wantedD ops env o=true:=by
    unfold wantedD
    rw[Option.isNone_iff_eq_none.1 h1]
   have hq:quietOp P ty iso call yf (evD env) o S=none:=by
    split at h2
    ·rename_i ho; simp only[quietOp,ho]
    ·rename_i ho; simp only[quietOp,ho]
    ·rename_i ho; simp only[quietOp,ho]
    ·rename_i ho; simp only[quietOp,ho]
    ·rename_i ho; simp only[quietOp,ho]
    ·rename_i ho; simp only[quietOp,ho]
    ·cases h2
   simp only[hw,if_true,hq]
  ·split
   ·split
    ·exact runQ_noisy h
    ·rfl
   ·exact runQ_noisy h
def loudR (P:Program) (ops:Array Oper):Bool:=ops.toList.any noisy||ops.toList.any (ptrCall P)
theorem loud_none {env:List DV} (h:loudR P ops=true):(if ops.toList.any (ptrCall P) then none else runQ P ty iso call yf ops S ops.toList env)=none:=by
 split
 ·rfl
 ·rename_i hp
  unfold loudR at h
  rw[Bool.not_eq_true] at hp
  rw[hp,Bool.or_false] at h
  exact runQ_noisy h
theorem ext_get {S:Store} {n k:Nat} (h:Lv S k):(S++List.replicate n .none)[k]? = S[k]? := by
 obtain⟨b,h1,-⟩:=h
 exact List.getElem?_append_left (List.getElem?_eq_some_iff.1 h1).1
theorem rel_ext (h:RelT ι te tS env S) (n m:Nat):RelT ι te (tS++List.replicate n .none) env (S++List.replicate m .none):=by
 have hl:∀ k k',ι k=some k'→(S++List.replicate m DB.none)[k']? = S[k']? := fun k k' hk=>ext_get (h.live hk)
 have K:Keeps ι S ι (S++List.replicate m .none) fun _=>False:=fun k k' _ hk=>⟨hk,fun e s n hs=>by rw[hl k k' hk]; exact hs⟩
 have hT:∀ (k:Nat) (b:TB),(tS++List.replicate n TB.none)[k]? = some b→b ≠ .none→tS[k]? = some b:=by
  intro k b hk hb
  rw[List.getElem?_append] at hk
  split at hk
  ·exact hk
  ·rw[List.getElem?_replicate] at hk
   split at hk
   ·cases hk; exact(hb rfl).elim
   ·cases hk
 refine⟨rtl_mono K _ _ h.env,fun k l hk => ?_,fun k e s hk t ht => ?_,fun k k' hk => ?_,h.inj,fun k kt l hk t ht=>by rw[hl k t ht]; exact h.mp k kt l (hT k _ hk (fun e=>by cases e)) t ht⟩
 ·obtain⟨k',ds,h1,h2,h3⟩:=h.cells k l (hT k _ hk (fun e=>by cases e))
  exact⟨k',ds,h1,by rw[hl k k' h1]; exact h2,rtl_mono K _ _ h3⟩
 ·obtain⟨n',h1⟩:=h.own k e s (hT k _ hk (fun e=>by cases e)) t ht
  exact⟨n',by rw[hl k t ht]; exact h1⟩
 ·obtain⟨b,h1,h2⟩:=h.dom k k' hk
  exact⟨b,by rw[List.getElem?_append_left (List.getElem?_eq_some_iff.1 h1).1]; exact h1,h2⟩
end Go.Tv
end
