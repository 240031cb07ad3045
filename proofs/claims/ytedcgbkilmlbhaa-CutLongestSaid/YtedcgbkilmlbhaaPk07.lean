import Derived.Test.YtedcgbkilmlbhaaPk06
namespace Go.Tv
open Go Go.Di Go.Proofs
variable {P:Program} {ty:fP} {tt:TypeId->Option TT} {ι ι' w:lq} {S S':ai} {te mM:List TV} {env:List DV} {tS iT:List TB} {aI:bS} {call:bt} {yf:ew} {o:Oper} {aD nT:Nat} {B:List Nat} {ops:Array Oper}
theorem pn(h:bT ι te tS env S)(hT:AJ tS nT)(hn:AK S aD){t:TT}{e:Nat}{l:List t.den}{ds:List DV}(h0:0<t.size)(h1:(t.agg||t.size==1)=true)(hf:fH t l ds):bT (upd ι nT aD) te (pK tS nT (.rows t e l false)) env (eW S aD (.op e t.size ds false)):=by
 have K:=wE h hT hn (.op e t.size ds false);refine⟨bu K _ _ h.env,λk l hk=>?_,λk e s hk t ht=>?_,λk k' hk=>?_,λi j k' hi hj=>?_,λk b hk t0 ht=>?_⟩
 .rw[dc hT]at hk;split at hk;.cases hk
  rename_i e;obtain⟨k',iJ,h1,h2,h3⟩:=h.cells k l hk;exact⟨k',iJ,by simp only[upd,e,if_false];exact h1,by rw[bF hn,if_neg (h.eA hn h1)];exact h2,bu K _ _ h3⟩
 .rw[dc hT]at hk;split at hk;.cases hk
  rename_i e';simp only[upd,e',if_false]at ht;obtain⟨n,h1⟩:=h.own k e s hk t ht;exact⟨n,by rw[bF hn,if_neg (h.eA hn ht)];exact h1⟩
 .rw[dc hT];split;.exact⟨_,rfl,λe=>by cases e⟩
  rename_i e;simp only[upd,e,if_false]at hk;exact h.qv k k' hk
 .unfold upd at hi hj;split at hi<;>split at hj;.omega
  .cases hi;exact(h.eA hn hj rfl).elim
  .cases hj;exact(h.eA hn hi rfl).elim
  exact h.inj i j k' hi hj
 rw[dc hT]at hk;split at hk;.rename_i e';cases hk;simp only[upd,e',if_true,aB]at ht;subst ht;rw[bF hn,if_pos rfl];exact⟨h0,h1,ds,rfl,hf⟩
 rename_i e';simp only[upd,e',if_false]at ht;rw[bF hn,if_neg (h.eA hn ht)];exact h.mp k b hk t0 ht
theorem Ad(h:bT ι te tS env S){g id:Nat}{t:TT}{e:Nat}{l l':List t.den}{ds iJ:List DV}{z z':Bool}(hi:ι g=some id)(hg:tS[g]? =some (.rows t e l z))(hS:S[id]? =some (.op e t.size ds z))(hl:iJ.length=ds.length)(h0:0<t.size)(h1:(t.agg||t.size==1)=true)(hf:fH t l' iJ):bT ι te (tS.set g (.rows t e l' z')) env (S.set id (.op e t.size iJ z')):=by
 have hlt:=(az.1 hg).1;have CI:=(az.1 hS).1;have K:jE ι S ι (S.set id (.op e t.size iJ z')) λ_=>False:=λa b _ qC=>⟨qC,by
  rw[aF];split;.rename_i e1;subst e1;rw[hS];exact⟨λ_ _ _ h=>(nomatch h),λe s l z h=>(by cases h;exact⟨iJ,z',rfl,hl⟩),λ_ h=>(nomatch h)⟩
  exact dY rfl⟩
 have S3:∀j,(tS.set g (.rows t e l' z'))[j]? =if j=g then some (.rows t e l' z')else tS[j]? :=λj=>by
  rw[aF];by_cases e:j=g;.subst e;simp[hlt]
  rw[if_neg (Ne.symm e),if_neg e]
 have ou:∀j,j≠id->(S.set id (.op e t.size iJ z'))[j]? =S[j]? :=λj hj=>by rw[aF,if_neg (Ne.symm hj)]
 refine⟨bu K _ _ h.env,λj m hj=>?_,λj e s hj t ht=>?_,λj j' hj=>?_,h.inj,λj b hj t0 ht=>?_⟩
 .rw[S3]at hj;split at hj;.cases hj
  rename_i e;obtain⟨j',MK,h1,h2,h3⟩:=h.cells j m hj;exact⟨j',MK,h1,by rw[ou j' λe1=>e (h.inj _ _ _ (e1▸h1) hi)];exact h2,bu K _ _ h3⟩
 .rw[S3]at hj;split at hj;.cases hj
  obtain⟨n,h1⟩:=h.own j e s hj t ht;exact⟨n,(K j t (λe=>e) ht).2.1 _ _ _ h1⟩
 .rw[S3];split;.exact⟨_,rfl,by simp⟩
  exact h.qv j j' hj
 rw[S3]at hj;split at hj;.rename_i e;subst e;cases hj;rw[hi]at ht;cases ht;rw[aF,if_pos rfl,if_pos CI];exact⟨h0,h1,iJ,rfl,hf⟩
 rename_i e;rw[ou t0 λe1=>e (h.inj _ _ _ (e1▸ht) hi)];exact h.mp j b hj t0 ht
theorem aaX{g:Nat}{b:TB}{x:Option DB}(h:ady b x):ady (qA g b) x:=by cases b<;>exact h
theorem X5{g:Nat}{b:TB}:qA g b=.none->b=.none:=by cases b<;>simp[qA]
theorem FX(h:bT ι te tS env S){g id:Nat}{t:TT}{e:Nat}{l l':List t.den}{ds iJ:List DV}{z:Bool}(hi:ι g=some id)(hg:tS[g]? =some (.rows t e l z))(hS:S[id]? =some (.op e t.size ds z))(h0:0<t.size)(h1:(t.agg||t.size==1)=true)(hf:fH t l' iJ):bT ι (kE g te) ((tS.map (qA g)).set g (.rows t e l' false)) env (S.set id (.op e t.size iJ false)):=by
 have hlt:=(az.1 hg).1;have CI:=(az.1 hS).1;have ou:∀j,j≠id->(S.set id (.op e t.size iJ false))[j]? =S[j]? :=λj hj=>by rw[aF,if_neg (Ne.symm hj)]
 have K:jE ι S ι (S.set id (.op e t.size iJ false)) λk=>k=g:=λa b ha qC=>⟨qC,dY (ou b λe1=>ha (h.inj _ _ _ (e1▸qC) hi))⟩;have S3:∀j b,((tS.map (qA g)).set g (.rows t e l' false))[j]? =some b->(j=g/\b=.rows t e l' false)\/(j≠g/\∃b0,tS[j]? =some b0/\b=qA g b0):=λj b hj=>by
  rw[aF]at hj;split at hj;.rename_i e1;subst e1;rw[if_pos (by simpa using hlt)]at hj;cases hj;exact .inl ⟨rfl,rfl⟩
  rename_i e1;simp only[cR,af]at hj;obtain⟨b0,h2,h3⟩:=hj;exact .inr ⟨λe=>e1 e.symm,b0,h2,h3.symm⟩
 refine⟨nG K _ _ h.env,λj m hj=>?_,λj e s hj t ht=>?_,λj j' hj=>?_,h.inj,λj b hj t0 ht=>?_⟩
 .rcases S3 j _ hj with ⟨-,e1⟩|⟨hne,b0,h2,h3⟩;.cases e1
  cases b0<;>simp only[qA]at h3<;>first|(cases h3;done)|skip
  cases h3;obtain⟨j',MK,k1,k2,k3⟩:=h.cells j _ h2;exact⟨j',MK,k1,by rw[ou j' λe1=>hne (h.inj _ _ _ (e1▸k1) hi)];exact k2,nG K _ _ k3⟩
 .rcases S3 j _ hj with ⟨-,e1⟩|⟨hne,b0,h2,h3⟩;.cases e1
  cases b0<;>simp only[qA]at h3<;>first|(cases h3;done)|skip
  cases h3;obtain⟨n,k1⟩:=h.own j _ _ h2 t ht;exact⟨n,(K j t hne ht).2.1 _ _ _ k1⟩
 .rw[aF];split;.rename_i e1;rw[if_pos (by simpa using hlt)];exact⟨_,rfl,by simp⟩
  obtain⟨b,h2,h3⟩:=h.qv j j' hj;exact⟨qA g b,by rw[cR,h2];rfl,λe1=>h3 (X5 e1)⟩
 rcases S3 j _ hj with ⟨rfl,rfl⟩|⟨hne,b0,h2,rfl⟩;.rw[hi]at ht;cases ht;rw[aF,if_pos rfl,if_pos CI];exact⟨h0,h1,iJ,rfl,hf⟩
 rw[ou t0 λe1=>hne (h.inj _ _ _ (e1▸ht) hi)];exact aaX (h.mp j b0 h2 t0 ht)
theorem LV{g:Nat}{t t':TT}{e e':Nat}{l:List t.den}{l':List t'.den}{z z':Bool}(hB:oK B tS)(hl:tS[g]? =some (.rows t e l z)):oK B (tS.set g (.rows t' e' l' z')):=λk hk=>by
 obtain⟨c,hc⟩:=hB k hk;refine⟨c,?_⟩;rw[aF,if_neg];.exact hc
 rintro rfl;rw[hl]at hc;cases c<;>cases hc
theorem LW{g:Nat}{t t':TT}{e e':Nat}{l:List t.den}{l':List t'.den}{z z':Bool}(hB:oK B tS)(hl:tS[g]? =some (.rows t e l z)):oK B ((tS.map (qA g)).set g (.rows t' e' l' z')):=λk hk=>by
 obtain⟨c,hc⟩:=hB k hk;refine⟨c.map (kE g),?_⟩;rw[aF,if_neg];.rw[cR,hc];cases c<;>rfl
 rintro rfl;rw[hl]at hc;cases c<;>cases hc
theorem GJ:∀{S:ai}{i:Nat}{b:DB},S[i]? =some b->S.set i b=S
 |[],_,_,h=>by simp at h
 |_::_,0,_,h=>by simp only[cg,aB]at h;rw[h];rfl
 |a::l,n+1,b,h=>by rw[List.set_cons_succ,GJ (by simpa using h)]
theorem Fe{g:Nat}{iT:List TB}(h:Uz ty tt te tS o=some (g,iT))(dr:Bool):Does P ty aI call yf B o nT te tS dr λv' bZ bN ft=>v'=.unk/\bZ=te/\bN=iT/\ft=⟨some [g],true⟩:=by
 intro ι w env S aD hR hB hw hT hn hS;unfold Uz at h;split at h
 rotate_left
 .cases h
 rename_i t a x ho;split at h
 rotate_left
 .cases h
 rename_i td g' k i off v h1 h2 h3;split at h
 rotate_left
 .cases h
 rename_i e l h4;split at h
 rotate_left
 .cases h
 rename_i hc;simp only[aA,dU]at hc;obtain⟨c1,c2⟩:=hc;split at h
 rotate_left
 .cases h
 rename_i cs h5;split at h
 rotate_left
 .cases h
 rename_i y h6;cases h;have hg:=lN h4;obtain⟨d,k1,k2⟩:=bD hR.env h2;obtain⟨id,ds,rfl,m1,m2,m3,m4,m5,m6,m7⟩:=abv hR hg k2;simp only[af]at h3;obtain⟨u,h7,h8⟩:=h3;obtain⟨dv,k4,k5⟩:=bD hR.env h7;have k6:=dg (tt:=tt) (t:=t) k5;rw[h8]at k6;have k7:=uX (LD c1) k6;obtain⟨pre,c,post,rfl,q1,q2,q3⟩:=yl m4 m5;obtain⟨c',r1,r2⟩:=I5 (sx (ι:=ι) (S:=S) q2) k7 h5;have hst:=Ju c1 k6;obtain⟨cc,m',e1,e2,e3⟩:=Gl h6 r2;rw[aP e3,cV]at e1;subst e1;have hle:off+dv.cells.length<=c.length:=by
  unfold wP at r1;split at r1;.assumption
  cases r1
 have hc':c'=c.take off++dv.cells++c.drop (off+dv.cells.length):=by unfold wP at r1;rw[if_pos hle]at r1;exact(cB r1).symm
 have hlen:dv.strip.cells.length=dv.cells.length:=by rw[hst];simp
 have pM:wP c off dv.strip.cells=some (c.take off++dv.strip.cells++c.drop (off+dv.cells.length)):=by unfold wP;rw[hlen,if_pos hle]
 have hm:(c.take off++dv.strip.cells++c.drop (off+dv.cells.length)).map DV.aM=c'.map DV.aM:=by rw[hc',hst];simp only[dW,kW];congr 2;exact List.map_congr_left λd _=>FW d
 have hpa:=vS e2;have hps:dv.strip.cells.all DV.bY=true:=by rw[hc',dW,dW,o6,o6,<-hst]at hpa;simp only[aA]at hpa;exact hpa.1.2
 have QU:=vS q2;have hcr:CR k y (c.take off++dv.strip.cells++c.drop (off+dv.cells.length)):=by refine EH (by rw[hm];exact e2) ?_;rw[o6,o6,hps];simp only[s8,aA,aT]at QU⊢;exact⟨λd hd=>QU d (vY hd),λd hd=>QU d (List.mem_of_mem_drop hd)⟩
 have hsz:dv.strip.cells.length=td.size:=by rw[hlen,iq k7];exact c2
 have CH:qc ty S t (.gD id l.length (i*k.size+off)) dv=some (S.set id (.op e k.size (pre++(c.take off++dv.strip.cells++c.drop (off+dv.cells.length))++post) false)):=by simp only[qc,h1,m3,hsz,hps,decide_true,fV,if_true];rw[<-q1,Xd pM];rfl
 have vA:(pre++(c.take off++dv.strip.cells++c.drop (off+dv.cells.length))++post).length=(pre++c++post).length:=by simp only[cD,List.length_take,List.length_drop,hlen];omega
 refine⟨bE,_,ι,w,.unk,te,_,⟨some [id],true⟩,⟨some [g],true⟩,λ_=>?_,λ_=>?_,⟨λe=>e,λl' iU=>?_⟩,λl' m _ hm j hj=>?_,Ad hR m1 hg m2 vA m6 m7 (q3 y _ hcr),by simp only[RT],hw,λ_ _ _=>rfl,AV m1,LV hB hg,AQ m2 (λe=>by cases e),rfl,rfl,rfl,rfl⟩;.simp only[ah,ho,k1,k4,CH,av]
 .simp only[aJ,ho,k1,ah,k4,CH,av]
 .cases iU;exact⟨[id],rfl,λj hj=>⟨g,by simp,by simp only[bC]at hj;rw[hj];exact hw _ _ m1⟩⟩
 cases hm;simp only[bC]at hj;exact .inr ⟨g,hj▸m1⟩
theorem Ot{v:TV}{mM:List TV}{iT:List TB}{c:Prop}(h:Uy ty tt te tS o nT=some (v,mM,iT,c))(hc:c):Does P ty aI call yf B o nT te tS false λv' bZ bN _=>v'=v/\bZ=mM/\bN=iT:=by
 intro ι w env S aD hR hB hw hT hn hS;unfold Uy at h;split at h
 .rename_i t a b ho;split at h
  rotate_left
  .cases h
  rename_i e s lU agg sz z0 n m k h1 h2 h3 h4;split at h
  rotate_left
  .cases h
  rename_i k0 sz' z h5;split at h
  rotate_left
  .cases h
  rename_i x h6;split at h
  rotate_left
  .cases h
  rename_i Tz;cases h;simp only[aA,cC,dU]at Tz;obtain⟨⟨⟨⟨c1,c2⟩,c3⟩,c4⟩,c5⟩:=Tz;obtain⟨rfl,d2,d3⟩:=hc;obtain⟨cc,m',e1,e2,e3⟩:=Gl h6 (vG (ι:=ι) (S:=S) z);rw[aP e3,cV]at e1;subst e1;have hi1:intOf (jy env) a=some m:=qM hR.env h2;have hi2:intOf (jy env) b=some m:=qM hR.env h3;have h0:0<k.size:=by omega
  have h01:(k.agg||k.size==1)=true:=by rw[c3,c2];exact c4
  have hb:m.toNat*lU<=fU:=by
   have:m.toNat<=1000000000:=by omega
   calc m.toNat*lU<=1000000000*100000:=Nat.mul_le_mul this c5
    _<=fU:=by decide
  have mS:=pn hR hT hn h0 h01 (e:=e) (Ez e2 m.toNat);rw[c2]at mS;refine⟨.jx aD m.toNat agg,eW S aD (.op e s (List.replicate m.toNat (z.map DV.aM)).flatten false),upd ι nT aD,upd w aD nT,.so nT k,te,_,⟨none,true⟩,⟨none,true⟩,λ_=>?_,λhd=>(by cases hd),⟨λe=>e,λl hl=>(by cases hl)⟩,λl m hl=>(by cases hl),mS,?_,qG hR hn hT hw,λhd=>(by cases hd),sX hn (nJ hB hT),kS hB hT,oR hn,rfl,rfl,rfl⟩;.have hpz:=vS e2;simp only[ah,ho,h1,hi1,hi2,h5,d2,c1,c4,hb,hpz,decide_true,fV,if_true,show m<=140737488355328-4096 by omega]
  simp only[RT,upd,if_true];refine⟨trivial,c3.symm,e,s,_,false,by rw[bF hn,if_pos rfl],?_⟩;have:=iF (Ez e2 m.toNat);rw[this,List.length_replicate,c2]
 .rename_i t n ps ho;split at h
  rotate_left
  .cases h
  rename_i hh;split at h
  rotate_left
  .cases h
  rename_i e s lU agg sz z0 l k h1 h2 h3;split at h
  rotate_left
  .cases h
  rename_i k0 sz' z h4;split at h
  rotate_left
  .cases h
  rename_i Tz;simp only[aA,dU,gP,cC]at Tz;obtain⟨⟨⟨⟨⟨⟨c1,c2⟩,c3⟩,c4⟩,c5⟩,c6⟩,c7⟩:=Tz;simp only[af,ay]at h;obtain⟨w0,h5,rfl,rfl,rfl,-⟩:=h;obtain⟨ds,k1,k2⟩:=sE hR.env h2;obtain⟨k3,k4⟩:=EE k2 h5;have hlen:ds.length=n:=by rw[Bh k2,c3]
  have ac2:((List.replicate n z).flatten).length=ds.length*s:=by rw[hlen,List.length_flatten,List.map_replicate,c4,List.sum_replicate_nat]
  have hf:=yq (pre:=[]) (post:=(List.replicate n z).flatten) c5 k3 (by simp) ac2;rw[gQ,gQ]at hf;have CA:w0.length=n:=by rw[k4,c3]
  have c7':(agg||s==1)=true:=by simpa using c7
  have uh:=xz k3;have h0:0<k.size:=by omega
  have h01:(k.agg||k.size==1)=true:=by rw[c6,c5];exact c7'
  have mS:=pn hR hT hn h0 h01 (e:=e) uh;rw[c5]at mS;refine⟨.jx aD n agg,eW S aD (.op e s (jJ ds) false),upd ι nT aD,upd w aD nT,.so nT k,te,_,⟨none,true⟩,⟨none,true⟩,λ_=>?_,λhd=>(by cases hd),⟨λe=>e,λl hl=>(by cases hl)⟩,λl m hl=>(by cases hl),mS,?_,qG hR hn hT hw,λhd=>(by cases hd),sX hn (nJ hB hT),kS hB hT,oR hn,rfl,rfl,rfl⟩;.simp only[ah,ho,h1,k1,h4,js c1,js c2,fV,if_true,hf,x8 k3,c7',hh]
  simp only[RT,upd,if_true];refine⟨trivial,c6.symm,e,s,_,false,by rw[bF hn,if_pos rfl],?_⟩;rw[iF uh,CA,c5]
 .rename_i args ats ho;split at h
  rotate_left
  .cases h
  rename_i x y t u ha ht;split at h
  rotate_left
  .cases h
  rename_i QT;subst QT;split at h
  .rename_i g k h2;split at h
   rotate_left
   .cases h
   rename_i e s lU agg sz z0 k' m ap h1 h3;split at h
   rotate_left
   .cases h
   rename_i Gb;subst Gb;split at h
   rotate_left
   .cases h
   rename_i e' l k0 sz' z h4 h5;split at h
   rotate_left
   .cases h
   rename_i Tz;cases h;simp only[aA,dU,cC]at Tz;obtain⟨⟨⟨c1,c2⟩,c3⟩,c4⟩:=Tz;subst c1;have hg:=lN h4;obtain⟨d,k1,k2⟩:=bD hR.env h2;obtain⟨id,ds,rfl,m1,m2,m3,m4,m5,m6⟩:=Gi hR hg k2 rfl;simp only[af]at h3;obtain⟨uy,e1,e2⟩:=h3;obtain⟨db,k4,k5⟩:=bD hR.env e1;have k6:=dg (tt:=tt) (t:=t) k5;rw[e2]at k6;cases db<;>simp only[RT]at k6;rename_i news tok f;obtain⟨k6,-⟩:=k6;have SX:=mI k6;have mX:=jQ k6;have uh:=LJ m4 (tG k6);have mS:=FX hR m1 hg m2 m5 m6 uh;have hb:(l.length+news.length)*lU<=fU:=by
    have:l.length+news.length<=1000000000:=by rw[SX];exact hc
    calc (l.length+news.length)*lU<=1000000000*100000:=Nat.mul_le_mul this c4
     _<=fU:=by decide
   have ov:(agg||s==1)=true:=by rw[<-c3,<-c2];exact m6
   have iU:=iF m4;have TD:oW ty S aD t (.jx id l.length k'.agg) (.sl news tok f)=if news.isEmpty then some (.jx id l.length k'.agg,S)else some (.jx id (l.length+news.length) agg,S.set id (.op e' k'.size (ds++flat news) false)):=by
    simp only[oW,h1,h5];rw[if_pos,m3];.simp only[c2,decide_true,fV,if_true]
    simp only[aA,cC,aT];refine⟨⟨⟨⟨by omega,ov⟩,hb⟩,?_⟩,λr hr=>by rw[mX r hr,c2]⟩;have:l.length+news.length<=1000000000:=by rw[SX];exact hc
    omega
   have hst:∀d S',oW ty S aD t (.jx id l.length k'.agg) (.sl news tok f)=some (d,S')->ah P ty aI call yf (jy env) o S aD=some (d,S'):=λd S' h=>by simp only[ah,ho,ha,ht,if_true,k1,k4,h]
   have kM:∀d S',(d=.jx id (l.length+news.length) agg)->S'=S.set id (.op e' k'.size (ds++flat news) false)->RT ι S' (.so g k') d:=λd S' hd CV=>by subst hd CV;have hlt:=(az.1 m2).1;simp only[RT];refine⟨m1,c3.symm,e',k'.size,_,false,by rw[aF,if_pos rfl,if_pos hlt],?_⟩;rw[iF uh,cD,SX]
   by_cases OM:news.isEmpty=true
   .have MV:news=[]:=by simpa using OM
    subst MV;have hm:m=[]:=fA (by rw[<-SX];rfl);subst hm;have hSS:S.set id (.op e' k'.size (ds++flat []) false)=S:=by rw[show flat []=[]from rfl,cV];exact GJ m2
    rw[hSS]at mS;rw[if_pos OM]at TD;have hrt:=kM (.jx id l.length k'.agg) S (by rw[c3];rfl) hSS.symm;refine⟨_,S,ι,w,.so g k',_,_,⟨none,true⟩,⟨none,true⟩,λ_=>hst _ _ TD,λhd=>(by cases hd),⟨λe=>e,λl hl=>(by cases hl)⟩,λl m hl=>(by cases hl),mS,hrt,hw,λhd=>(by cases hd),Fr.refl _ _ _,?_,gM _ _,rfl,rfl,rfl⟩;exact LW hB hg
   rw[if_neg OM]at TD;refine⟨_,_,ι,w,.so g k',_,_,⟨none,true⟩,⟨none,true⟩,λ_=>hst _ _ TD,λhd=>(by cases hd),⟨λe=>e,λl hl=>(by cases hl)⟩,λl m hl=>(by cases hl),mS,kM _ _ rfl rfl,hw,λhd=>(by cases hd),AV m1,LW hB hg,AQ m2 (λe=>by cases e),rfl,rfl,rfl⟩
  .rename_i v0 hno h2;split at h
   rotate_left
   .cases h
   rename_i hh;split at h
   rotate_left
   .cases h
   rename_i e s lU agg sz z0 k' a m ap h1 h3;split at h
   rotate_left
   .cases h
   rename_i k0 sz' z h5;split at h
   rotate_left
   .cases h
   rename_i Tz;cases h;simp only[aA,dU,cC]at Tz;obtain⟨⟨⟨⟨⟨c0,c1⟩,c2⟩,c3⟩,c4⟩,c5⟩:=Tz;obtain⟨d,k1,k2⟩:=bD hR.env h2;obtain⟨f0,rfl,yO⟩:∃f0,d=.sl [] none f0/\f0.full=true:=by
    cases v0<;>first|(cases c0;done)|skip
    .cases d<;>simp only[RT]at k2;obtain⟨rfl,rfl,rfl⟩:=k2;exact⟨_,rfl,rfl⟩
    rename_i k9 l9 ap9;cases l9 with
    |cons=>simp[UJ]at c0
    |nil=>
     cases ap9<;>first|(simp[UJ]at c0;done)|skip
     cases d<;>simp only[RT]at k2;rename_i rows tok f;obtain⟨q1,rfl,q2⟩:=k2;cases rows with
     |nil=>exact⟨f,rfl,q2⟩
     |cons=>exact q1.elim
   simp only[af]at h3;obtain⟨uy,e1,e2⟩:=h3;obtain⟨db,k4,k5⟩:=bD hR.env e1;have k6:=dg (tt:=tt) (t:=t) k5;rw[e2]at k6;cases db<;>simp only[RT]at k6;rename_i news tok f;obtain⟨k6,-⟩:=k6;have SX:=mI k6;have mX:=jQ k6;have uh:=tG k6;have h0:0<k'.size:=by omega
   have h01:(k'.agg||k'.size==1)=true:=by rw[c3,c2];exact c4
   have mS:=pn hR hT hn h0 h01 (e:=e) uh;rw[c2]at mS;have hle:news.length<=1000000000:=by rw[SX];exact hc
   have hb:news.length*lU<=fU:=by
    calc news.length*lU<=1000000000*100000:=Nat.mul_le_mul hle c5
     _<=fU:=by decide
   have OM:¬(news.isEmpty=true):=by
    intro he;have:news=[]:=by simpa using he
    rw[this]at SX;simp at SX
   have TD:oW ty S aD t (.sl [] none f0) (.sl news tok f)=some (.jx aD news.length agg,eW S aD (.op e s (flat news) false)):=by simp only[oW,h1,h5];rw[if_neg OM,if_pos];simp only[aA,cC,aT];refine⟨⟨⟨⟨⟨yO,c1⟩,c4⟩,hb⟩,by omega⟩,λr hr=>by rw[mX r hr,c2]⟩
   refine⟨.jx aD news.length agg,eW S aD (.op e s (flat news) false),upd ι nT aD,upd w aD nT,.so nT k',te,_,⟨none,true⟩,⟨none,true⟩,λ_=>?_,λhd=>(by cases hd),⟨λe=>e,λl hl=>(by cases hl)⟩,λl m hl=>(by cases hl),mS,?_,qG hR hn hT hw,λhd=>(by cases hd),sX hn (nJ hB hT),kS hB hT,oR hn,rfl,rfl,rfl⟩;.simp only[ah,ho,ha,ht,if_true,k1,k4,hh,TD]
   simp only[RT,upd,if_true];refine⟨trivial,c3.symm,e,s,_,false,by rw[bF hn,if_pos rfl],?_⟩;rw[iF uh,SX,c2]
  cases h
 cases h
end Go.Tv
namespace Go.Tv
open Go Go.Di Go.Proofs
def Gn(tS:List TB):TV->TV
 |.so g t=>match tS[g]? with
  |some (.rows t' _ l z)=>if h:t'=t then(match z with
   |true=>.sl t (h▸l) .no
   |false=>.so g t)else .unk
  |_=>.unk
 |v=>v
def xM(te:List TV)(tS:List TB)(x:Operand):List TB:=
 match fM te x with
 |some (.so g t)=>match kH tS g t with
  |some (e,l,false)=>tS.set g (.rows t e l true)
  |_=>tS
 |_=>tS
def MR(te:List TV)(tS:List TB)(x:Operand):Bool:=
 match fM te x with
 |some .unk|none=>false
 |some (.so g t)=>(kH tS g t).isSome
 |some _=>true
def MP(ty:fP)(te:List TV)(tS:List TB)(o:Oper):Option (List TV×List TB):=
 match ty.h o with
 |2=>if o.op.operands.toList.all (MR te tS)then some (te.map (Gn (o.op.operands.toList.foldl (xM te) tS)),o.op.operands.toList.foldl (xM te) tS)else none
 |_=>some (te,tS)
variable {P:Program} {ty:fP} {tt:TypeId->Option TT} {ι ι' w:lq} {S S':ai} {te mM:List TV} {env:List DV} {tS iT:List TB} {aI:bS} {call:bt} {yf:ew} {o:Oper} {aD nT:Nat} {B:List Nat} {ops:Array Oper}
theorem NX{g g':Nat}{t t':TT}{e e':Nat}{l:List t.den}{l':List t'.den}{z:Bool}(h:kH tS g t=some (e,l,z))(h':kH tS g' t'=some (e',l',false)):(kH (tS.set g' (.rows t' e' l' true)) g t).isSome=true:=by
 have h1:=lN h;have h2:=lN h';by_cases e1:g'=g;.subst e1;rw[h1]at h2;cases h2;unfold kH;rw[aF,if_pos rfl,if_pos (az.1 h1).1];simp
 have:kH (tS.set g' (.rows t' e' l' true)) g t=kH tS g t:=by unfold kH;rw[aF,if_neg e1]
 rw[this,h];rfl
theorem Xq{x y:Operand}(h:MR te tS x=true):MR te (xM te tS y) x=true:=by
 unfold MR at h⊢;split at h;.cases h
 .cases h
 .rename_i g t hx;unfold xM;split
  .split;.rename_i e' l' h2;obtain⟨⟨e,l,z⟩,h1⟩:=wj.1 h;exact NX h1 h2
   exact h
  exact h
 rfl
theorem uc(hR:bT ι te tS env S)(hB:oK B tS){x:Operand}(h:MR te tS x=true):bT ι te (xM te tS x) env (rQ env S x)/\oK B (xM te tS x)/\Fr B ι S ι (rQ env S x)/\∀i,Nn i S (rQ env S x):=by
 have same:xM te tS x=tS->rQ env S x=S->bT ι te (xM te tS x) env (rQ env S x)/\oK B (xM te tS x)/\Fr B ι S ι (rQ env S x)/\∀i,Nn i S (rQ env S x):=λh1 h2=>by rw[h1,h2];exact⟨hR,hB,Fr.refl _ _ _,λi=>gM _ _⟩
 unfold MR at h;split at h;.cases h
 .cases h
 .rename_i g t hx;obtain⟨⟨e,l,z⟩,h1⟩:=wj.1 h;obtain⟨d,k1,k2⟩:=bD hR.env hx;have hg:=lN h1;obtain⟨id,ds,rfl,m1,m2,m3,m4,m5,m6⟩:=Gi hR hg k2 rfl;cases z with
  |true=>exact same (by simp only[xM,hx,h1]) (by simp only[rQ,k1,yH,m3])
  |false=>
   have e1:xM te tS x=tS.set g (.rows t e l true):=by simp only[xM,hx,h1]
   have e2:rQ env S x=S.set id (.op e t.size ds true):=by simp only[rQ,k1,yH,m3]
   rw[e1,e2];exact⟨Ad hR m1 hg m2 rfl m5 m6 m4,LV hB hg,AV m1,λi=>AQ m2 (λe=>by cases e)⟩
 rename_i v h1 h2 hx;obtain⟨d,k1,k2⟩:=bD hR.env hx;refine same ?_ ?_;.unfold xM;rw[hx];cases v<;>first|rfl|exact absurd rfl (h2 _ _)
 simp only[rQ,k1];cases v<;>first|exact absurd rfl (h2 _ _)|exact absurd rfl h1|skip
 all_goals cases d<;>simp only[RT]at k2<;>rfl
theorem afI:∀(l:List Operand){tS:List TB}{S:ai},bT ι te tS env S->oK B tS->l.all (MR te tS)=true->bT ι te (l.foldl (xM te) tS) env (l.foldl (rQ env) S)/\oK B (l.foldl (xM te) tS)/\Fr B ι S ι (l.foldl (rQ env) S)/\∀i,Nn i S (l.foldl (rQ env) S)
 |[],_,S,hR,hB,_=>⟨hR,hB,Fr.refl _ _ _,λi=>gM _ _⟩
 |x::l,tS,S,hR,hB,h=>by simp only[cA,aA]at h;obtain⟨h1,h2,h3,h4⟩:=uc hR hB h.1;obtain⟨k1,k2,k3,k4⟩:=afI l h1 h2 (aT.2 λy hy=>Xq (aT.1 h.2 y hy));refine⟨k1,k2,h3.trans k3,λi=>⟨bp (h4 i).1 (k4 i).1,λj hj hn=>(k4 i).2 j hj ((h4 i).2 j hj hn)⟩⟩
theorem aaE(hR:bT ι mM tS env S){v:TV}{d:DV}(h:RT ι S v d):RT ι S (Gn tS v) (kO S d):=by
 cases v
 case so g t=>
  simp only[Gn];split
  .rename_i t' e l z hg;split
   .rename_i ht;obtain⟨id,ds,rfl,m1,m2,m3,m4,m5,m6⟩:=Gi hR hg h ht;subst ht;cases z with
    |true=>rw[Qe m3 m5 m6];simp only[RT,pQ,and_true];exact ym m6 m4
    |false=>
     have:kO S (.jx id l.length t'.agg)=.jx id l.length t'.agg:=by simp only[kO,m3]
     rw[this];exact h
   simp only[RT]
  simp only[RT]
 case unk=>simp only[Gn,RT]
 all_goals
  cases d<;>simp only[RT]at h;simp only[Gn,kO,RT];exact h
theorem Lu(hR:bT ι mM tS env S):∀{l:List TV}{m:List DV},cQ ι S l m->cQ ι S (l.map (Gn tS)) (m.map (kO S))
 |[],m,h=>by rw[aP h];exact bL
 |a::l,m,h=>by obtain⟨d,m',rfl,h1,h2⟩:=ak h;exact aQ (aaE hR h1) (Lu hR h2)
theorem aep(hR:bT ι te tS env S)(hB:oK B tS)(h:MP ty te tS o=some (mM,iT)):bT ι mM iT (FL ty o env S).1 (FL ty o env S).2/\oK B iT/\Fr B ι S ι (FL ty o env S).2/\Nn S.length S (FL ty o env S).2:=by
 unfold MP at h;unfold FL;split at h
 .rename_i hh;split at h;.rename_i mO;cases h;obtain⟨h1,h2,h3,h4⟩:=afI (env:=env) _ hR hB mO;simp only[hh];exact⟨⟨Lu h1 h1.env,h1.cells,h1.own,h1.qv,h1.inj,h1.mp⟩,h2,h3,h4 _⟩
  cases h
 rename_i hh;cases h;simp only[];exact⟨hR,hB,Fr.refl _ _ _,gM _ _⟩
theorem lz{k:Nat}(ho:ops[k]? =some o)(hw:eD ops te o=some true)(hp:MP ty te tS o=some (mM,iT)){Q:List TV->List TB->Prop}{K:TV->List TV->List TB->dm->Prop}(hd:Does P ty aI call yf B o iT.length mM iT false K)
  (h:∀v bZ bN ft,K v bZ bN ft->WL P ty aI call yf B ops (k+1) (ki bZ o.dst v) bN Q):WL P ty aI call yf B ops k te tS Q:=by
 intro ι env S hR hB;obtain⟨My,Yq,hF1,hN1⟩:=aep (o:=o) hR hB hp;generalize yF:FL ty o env S=pr at My hF1 hN1;obtain⟨qz,S1⟩:=pr;obtain⟨w,hwk⟩:=M7 My;obtain⟨d,S',ι',w',v,bZ,bN,f,ft,h1,-,-,-,h5,h6,-,-,h9,wO,HT,Yr⟩:=hd ι w qz S1 S1.length My Yq hwk (.inr rfl) (.inr rfl) (λe=>by cases e);obtain⟨aK,xE,ι'',ur,uu,k1,k2,k3,k4,k5,k6⟩:=h v bZ bN ft Yr ι' (kC qz o.dst d) S' (oP h5 h6 _) wO;refine⟨aK,xE,ι'',ur,uu,?_,k2,k3,(hF1.trans h9).trans k4,uZ hN1 (uZ HT k5),k6⟩;rw[oV ho];simp only[HX,iP hR.env hw,if_true,yF,h1 rfl,k1]
end Go.Tv
namespace Go.Tv
open Go Go.Di Go.Proofs
variable {P:Program} {ty:fP} {tt:TypeId->Option TT} {ι ι' w:lq} {S S':ai} {te mM:List TV} {env:List DV} {tS iT:List TB} {aI:bS} {call:bt} {yf:ew} {o:Oper} {aD nT:Nat} {B:List Nat} {ops:Array Oper}
def TT.sc:TT->Bool
 |.int _|.bool|.str=>true
 |_=>false
theorem aeh{t:TT}(h:t.sc=true):t.size=1/\t.agg=false:=by cases t<;>first|exact⟨rfl,rfl⟩|cases h
def acv(call:bt)(g:FuncId)(targs:List TV)(f:Nat)(e:TypeId)(Q:TV->Prop):Prop:=
 ∀bR,cQ gd [] targs bR->∃l rows tl t Mu,acK (call g bR []) f=some (l,e,rows)/\cQ gd [] tl l/\eH tl=[]/\tl[f]? =some (.sl t Mu .no)/\t.sc=true/\fH t Mu rows/\Q (.agg tl)
theorem Ou{f:Operand}{args:Array Operand}{argTypes:Array TypeId}{g:FuncId}{fs cs xs targs:List TV}{e:TypeId}{Q:TV->Prop}(hop:o.op=.call {callee:=.value f,args,argTypes})(hh:ty.h o=1)(hf:fM te f=some (.fn g fs cs))(ha:lV te args.toList=some xs)(hp:(fs++xs++cs).all eG=true)
  (hn:bG (gm tt fs argTypes) (fs++xs++cs)=targs) (hs:acv call g targs (ty.TH o) e Q):Does P ty aI call yf B o nT te tS true λv bZ bN ft=>∃tl t Mu,Q (.agg tl)/\tl[ty.TH o]? =some (.sl t Mu .no)/\v=.agg (tl.set (ty.TH o) (.so nT t))/\bZ=te/\bN=pK tS nT (.rows t e Mu false)/\ft=⟨some [nT],true⟩:=by
 intro ι w env S aD hR hB hw hT Fu hS;obtain⟨xD,lG,FA,k1,k2,k3⟩:=iS hR.env hf ha;obtain⟨k4,k5⟩:=jU (ts:=gm tt fs argTypes) (ι':=gd) (S':=[]) hp k3;rw[hn]at k5;obtain⟨l,rows,tl,t,Mu,m1,m2,m3,m4,m5,m6,m7⟩:=hs _ k5;obtain⟨t1,t2⟩:=aeh m5;have hno:=hS rfl;have hlt:=(az.1 hno).1;have Zh:∀b,eW S aD b=S.set aD b:=λb=>by unfold eW;rw[if_pos hlt]
 have hlen:=iF m6;rw[t1,Nat.mul_one]at hlen;have mS:=pn hR hT Fu (by omega) (by simp[t1]) (e:=e) m6;rw[t1,Zh]at mS;have hfr:=sX (b:=.op e 1 rows false) (ι:=ι) Fu (nJ hB hT);have Ts:=oR (b:=.op e 1 rows false) Fu;rw[Zh]at hfr Ts;refine⟨.agg (l.set (ty.TH o) (.jx aD rows.length false)),S.set aD (.op e 1 rows false),upd ι nT aD,upd w aD nT,.agg (tl.set (ty.TH o) (.so nT t)),te,_,⟨some [aD],true⟩,⟨some [nT],true⟩,λhd=>(by cases hd),λ_=>?_,⟨λh=>h,λl hl=>⟨[aD],rfl,λj hj=>⟨nT,by cases hl;simp,?_⟩⟩⟩,λl m _ hm j hj=>.inl ?_,mS,?_,qG hR Fu hT hw,λ_ j hj=>by simp only[upd,hj,if_false],hfr,kS hB hT,Ts,tl,t,Mu,m7,m4,rfl,rfl,rfl,rfl⟩;.simp only[aJ,hop,k1,k2,if_pos hh,yL,hno,UB,k4,if_true,m1,av]
 .simp only[bC]at hj;subst hj;simp only[upd,if_true]
 .cases hm;simpa using hj
 simp only[RT];refine C2 _ (iR _ _ m3 m2) ?_;simp only[RT,upd,if_true];exact⟨trivial,t2.symm,e,1,rows,false,by rw[aF,if_pos rfl,if_pos hlt],by omega⟩
def ahw(tS:List TB)(g:Nat):TV->Bool
 |.val v=>xO (.val v)
 |.au=>true
 |.sl t _ (.kA k)=>t.sc&&k !=g&&(match tS[k]? with
  |some (.own _ _)=>true
  |_=>false)
 |_=>false
def acO(tS:List TB)(g f:Nat):Nat->List TV->Bool
 |_,[]=>true
 |i,v::l=>(i==f||ahw tS g v)&&acO tS g f (i+1) l
def ai3(ty:fP)(rs:List ResultVar)(gW:List (Option TT))(f:Nat)(e:TypeId)(Q:TV->Prop)(ex:DX)(te:List TV)(tS:List TB):Prop:=
 (match ex with|.exit _=>False|_=>True)/\∃l t Mu g,xJ ty te tS rs=some [.agg l]/\l[f]? =some (.sl t Mu (.kA g))/\Mu≠[]/\tS[g]? =some (.own e 1)/\acO tS g f 0 l=true/\eG (.agg l)=true/\
  ∃tl t' ahx,jB (bG gW [.agg l])=.agg tl/\eH tl=[]/\tl[f]? =some (.sl t' ahx .no)/\t'.sc=true/\Q (.agg tl)
end Go.Tv
namespace Go.Tv
open Go Go.Di Go.Proofs
variable {P:Program} {ty:fP} {tt:TypeId->Option TT} {ι ι' w:lq} {S S':ai} {te:List TV} {env:List DV} {tS:List TB} {aI:bS} {call:bt} {yf:ew} {o:Oper} {aD nT:Nat} {B L:List Nat}
def loc:List Nat->Nat->Option Nat
 |[],_=>none
 |a::l,k=>if a=k then some 0 else(loc l k).map (·+1)
theorem XF{a k:Nat}{l:List Nat}:loc (a::l) k=if a=k then some 0 else(loc l k).map (·+1):=rfl
theorem ir:∀{L:List Nat}{k j:Nat},loc L k=some j->L[j]? =some k
 |[],_,_,h=>by cases h
 |a::l,k,j,h=>by
  unfold loc at h;split at h;.rename_i e;cases h;simp[e]
  simp only[af]at h;obtain⟨i,h1,rfl⟩:=h;simpa using ir h1
theorem vN:∀{L:List Nat}{k:Nat},k∈L->∃j,loc L k=some j
 |[],_,h=>by cases h
 |a::l,k,h=>by
  unfold loc;by_cases e:a=k;.exact⟨0,if_pos e⟩
  obtain⟨j,hj⟩:=vN (L:=l) (k:=k) ((bz.1 h).resolve_left λh=>e h.symm);exact⟨j+1,by rw[if_neg e,hj];rfl⟩
theorem zN{L:List Nat}{k:Nat}(h:loc L k=none):k∉L:=λhk=>by obtain⟨j,hj⟩:=vN hk;rw[hj]at h;cases h
def Tk(ρ:Nat->Option Nat):TV->Option TV
 |.ptr k off=>(ρ k).map λj=>.ptr j off
 |v=>if kQ v then some v else none
def Ay(ρ:Nat->Option Nat):List TV->Option (List TV)
 |[]=>some []
 |v::l=>match Tk ρ v,Ay ρ l with
  |some a,some b=>some (a::b)
  |_,_=>none
def agk:TT:=.pair (.int .i64) (.pair (.int .i64) (.pair (.int .i64) .unit))
def OA(ρ:Nat->Option Nat):TV->Option TV
 |.fn g a b=>match Ay ρ a,Ay ρ b with
  |some x,some y=>some (.fn g x y)
  |_,_=>none
 |.au=>some (.sl agk [] .no)
 |v=>Tk ρ v
def Dt(ρ:Nat->Option Nat):List TV->Option (List TV)
 |[]=>some []
 |v::l=>match OA ρ v,Dt ρ l with
  |some a,some b=>some (a::b)
  |_,_=>none
def rE:TV->Bool
 |.sl _ _ (.stop _)=>true
 |_=>false
def CE(ρ:Nat->Option Nat):List TV->Option (List TV)
 |[]=>some []
 |v::l=>match rE v with
  |true=>if kQ v&&l.all kQ then some (v::l)else none
  |false=>match OA ρ v,CE ρ l with
   |some a,some b=>some (a::b)
   |_,_=>none
theorem WS{ρ:Nat->Option Nat}{v:TV}(h:kQ v=true):OA ρ v=some v:=by cases v<;>first|(cases h;done)|(simp only[OA,Tk,h,if_true])
theorem GQ{ρ:Nat->Option Nat}:∀{l:List TV},l.all kQ=true->Dt ρ l=some l
 |[],_=>rfl
 |v::l,h=>by simp only[cA,aA]at h;simp only[Dt,WS h.1,GQ h.2]
theorem Im{ρ:Nat->Option Nat}:∀{l l':List TV},CE ρ l=some l'->Dt ρ l=some l'
 |[],_,h=>h
 |v::l,l',h=>by
  simp only[CE]at h;split at h
  .split at h;.rename_i hp;cases h;exact GQ (by rw[cA];exact hp)
   cases h
  split at h;.rename_i a b e1 e2;cases h;simp only[Dt,e1,Im e2]
  cases h
def rnA(ρ:Nat->Option Nat)(t:Option TT):TV->Option TV
 |.ptr k off=>(ρ k).map λj=>.ptr j off
 |.fn g a b=>OA ρ (.fn g a b)
 |v=>if eG v then some (kz t v)else none
def uv(ρ:Nat->Option Nat):List (Option TT)->List TV->Option (List TV)
 |_,[]=>some []
 |[],v::l=>match rnA ρ none v,uv ρ [] l with
  |some a,some b=>some (a::b)
  |_,_=>none
 |t::ts,v::l=>match rnA ρ t v,uv ρ ts l with
  |some a,some b=>some (a::b)
  |_,_=>none
theorem Hv{v:TV}(h:kQ v=true):refs v=[]:=by
 cases v<;>first|(cases h;done)|skip
 .rfl
 rename_i t l ap;cases ap<;>first|(cases h;done)|rfl
section
variable {ρ:Nat->Option Nat} (hρ:∀k j,ρ k=some j->ι' j=ι k)
include hρ
theorem Vl{v v':TV}{d:DV}(h:Tk ρ v=some v')(hv:RT ι S v d):RT ι' S' v' d:=by
 unfold Tk at h;split at h;.simp only[af]at h;obtain⟨j,h1,rfl⟩:=h;cases d<;>simp only[RT]at hv⊢;exact⟨(hρ _ _ h1).trans hv.1,hv.2⟩
 split at h;.rename_i hp;cases h;exact pF _ _ (Hv hp) hv
 cases h
theorem I1:∀{l l':List TV}{m:List DV},Ay ρ l=some l'->cQ ι S l m->cQ ι' S' l' m
 |[],l',m,h,hv=>by cases h;rw[aP hv];exact bL
 |v::l,l',m,h,hv=>by
  obtain⟨d,m',rfl,h1,h2⟩:=ak hv;simp only[Ay]at h;split at h;.rename_i a b e1 e2;cases h;exact aQ (Vl hρ e1 h1) (I1 e2 h2)
  cases h
theorem Nk{v v':TV}{d:DV}(h:OA ρ v=some v')(hv:RT ι S v d):RT ι' S' v' d:=by
 unfold OA at h;split at h
 .split at h;.rename_i x y e1 e2;cases h;cases d<;>simp only[RT]at hv⊢;exact⟨hv.1,I1 hρ e1 hv.2.1,I1 hρ e2 hv.2.2⟩
  cases h
 .cases h;cases d<;>simp only[RT]at hv⊢;obtain⟨rfl,-,-⟩:=hv;exact⟨trivial,trivial⟩
 exact Vl hρ h hv
theorem PF:∀{l l':List TV}{m:List DV},Dt ρ l=some l'->cQ ι S l m->cQ ι' S' l' m
 |[],l',m,h,hv=>by cases h;rw[aP hv];exact bL
 |v::l,l',m,h,hv=>by
  obtain⟨d,m',rfl,h1,h2⟩:=ak hv;simp only[Dt]at h;split at h;.rename_i a b e1 e2;cases h;exact aQ (Nk hρ e1 h1) (PF e2 h2)
  cases h
theorem PE{l l':List TV}{m:List DV}(h:CE ρ l=some l')(hv:cQ ι S l m):cQ ι' S' l' m:=PF hρ (Im h) hv
theorem Vm{t:Option TT}{v v':TV}{d:DV}(h:rnA ρ t v=some v')(hv:RT ι S v d):RT ι' S' v' d:=by
 unfold rnA at h;split at h;.simp only[af]at h;obtain⟨j,h1,rfl⟩:=h;cases d<;>simp only[RT]at hv⊢;exact⟨(hρ _ _ h1).trans hv.1,hv.2⟩
 .exact Nk hρ h hv
 split at h;.rename_i hp;cases h;exact tn hp hv
 cases h
theorem I2:∀{ts:List (Option TT)}{l l':List TV}{m:List DV},uv ρ ts l=some l'->cQ ι S l m->cQ ι' S' l' m
 |_,[],l',m,h,hv=>by simp only[uv]at h;cases h;rw[aP hv];exact bL
 |[],v::l,l',m,h,hv=>by
  obtain⟨d,m',rfl,h1,h2⟩:=ak hv;simp only[uv]at h;split at h;.rename_i a b e1 e2;cases h;exact aQ (Vm hρ e1 h1) (I2 e2 h2)
  cases h
 |t::ts,v::l,l',m,h,hv=>by
  obtain⟨d,m',rfl,h1,h2⟩:=ak hv;simp only[uv]at h;split at h;.rename_i a b e1 e2;cases h;exact aQ (Vm hρ e1 h1) (I2 e2 h2)
  cases h
end
def J4(ρ:Nat->Option Nat)(tS:List TB):List Nat->Option (List (List TV))
 |[]=>some []
 |k::l=>match tS[k]? with
  |some (.cells c)=>match CE ρ c,J4 ρ tS l with
   |some a,some b=>some (a::b)
   |_,_=>none
  |_=>none
theorem zF{ρ:Nat->Option Nat}:∀{L:List Nat}{tP:List (List TV)},J4 ρ tS L=some tP->tP.length=L.length/\∀(j k:Nat),L[j]? =some k->∃c c',tS[k]? =some (TB.cells c)/\CE ρ c=some c'/\tP[j]? =some c'
 |[],tP,h=>by cases h;exact⟨rfl,by simp⟩
 |a::L,tP,h=>by
  simp only[J4]at h;split at h
  .rename_i c hc;split at h
   .rename_i x y e1 e2;cases h;obtain⟨h1,h2⟩:=zF e2;refine⟨by simp[h1],λj k hj=>?_⟩;cases j with
    |zero=>simp only[cg,aB]at hj;subst hj;exact⟨c,x,hc,e1,rfl⟩
    |succ j=>simpa using h2 j k (by simpa using hj)
   cases h
  cases h
def B1(call:bt)(g:FuncId)(targs:List TV)(tP:List (List TV))(Q:TV->List (List TV)->Prop):Prop:=
 ∀ι bR S,bT ι targs (tP.map .cells) bR S->∃d S' ι' v FB,call g bR S=some (d,S')/\RT ι' S' v d/\BW v=true/\FB.length=tP.length/\IF ι' S' (FB.map .cells)/\Fr (List.range tP.length) ι S ι' S'/\Nn S.length S S'/\Q v FB
theorem B1.mono {g:FuncId}{targs:List TV}{tP:List (List TV)}{Q Q':TV->List (List TV)->Prop}(h:B1 call g targs tP Q)(hq:∀v t,Q v t->Q' v t):B1 call g targs tP Q':=λι bR S hd=>by obtain⟨d,S',ι',v,FB,h1,h2,h3,h4,h5,h6,h7,h8⟩:=h ι bR S hd;exact⟨d,S',ι',v,FB,h1,h2,h3,h4,h5,h6,h7,hq _ _ h8⟩
def wR(L:List Nat)(ι:lq):lq:=λj=>(L[j]?).bind ι
def ng:List Nat->Bool
 |[]=>true
 |a::l=>!l.contains a&&ng l
theorem Ep:∀{L:List Nat}{i j k:Nat},ng L=true->L[i]? =some k->L[j]? =some k->i=j
 |[],_,_,_,_,h,_=>by simp at h
 |a::L,0,0,_,_,_,_=>rfl
 |a::L,0,j+1,k,hn,hi,hj=>by simp only[ng,aA,o7]at hn;simp only[cg,aB]at hi;subst hi;have:=b9 (show L[j]? =some a by simpa using hj);simp[this]at hn
 |a::L,i+1,0,k,hn,hi,hj=>by simp only[ng,aA,o7]at hn;simp only[cg,aB]at hj;subst hj;have:=b9 (show L[i]? =some a by simpa using hi);simp[this]at hn
 |a::L,i+1,j+1,k,hn,hi,hj=>by simp only[ng,aA]at hn;rw[Ep (i:=i) (j:=j) hn.2 (by simpa using hi) (by simpa using hj)]
theorem u7{k j:Nat}(h:loc L k=some j):wR L ι j=ι k:=by simp[wR,ir h]
theorem aag(hR:bT ι te tS env S){tP:List (List TV)}{targs:List TV}{bR:List DV}(hn:ng L=true)(hb:J4 (loc L) tS L=some tP)(ha:cQ (wR L ι) S targs bR):bT (wR L ι) targs (tP.map .cells) bR S:=by
 obtain⟨hl,hg⟩:=zF hb;refine⟨ha,λj l hj=>?_,λj e s hj=>?_,λj k' hj=>?_,λi j k' hi hj=>?_,λj b hj t _=>?_⟩;.simp only[cR,af,TB.cells.injEq]at hj;obtain⟨c',h1,rfl⟩:=hj;have hlt:j<L.length:=hl▸(az.1 h1).1;have Ax:L[j]? =some L[j]:=bQ hlt;obtain⟨c,c2,k1,k2,k3⟩:=hg j _ Ax;rw[h1]at k3;cases k3;obtain⟨k',ds,m1,m2,m3⟩:=hR.cells _ _ k1;exact⟨k',ds,by simp[wR,Ax,m1],m2,PE (λk j h=>u7 h) k2 m3⟩
 .simp at hj
 .unfold wR at hj;cases Ax:L[j]? with
  |none=>rw[Ax]at hj;cases hj
  |some k=>obtain⟨c,c2,k1,k2,k3⟩:=hg j _ Ax;exact⟨.cells c2,by simp[k3],by simp⟩
 .unfold wR at hi hj;cases S8:L[i]? with
  |none=>rw[S8]at hi;cases hi
  |some a=>
   cases Ax:L[j]? with
   |none=>rw[Ax]at hj;cases hj
   |some b=>rw[S8]at hi;rw[Ax]at hj;obtain rfl:=hR.inj a b k' hi hj;exact Ep hn S8 Ax
 simp only[cR,af]at hj;obtain⟨c,-,rfl⟩:=hj;trivial
def HY(L:List Nat):List (List TV)->Option (List (List TV))
 |[]=>some []
 |c::l=>match CE (λj=>L[j]?) c,HY L l with
  |some a,some b=>some (a::b)
  |_,_=>none
theorem Ek:∀{tP tB:List (List TV)},HY L tP=some tB->tB.length=tP.length/\∀(j:Nat) c,tB[j]? =some c->∃c',tP[j]? =some c'/\CE (λj=>L[j]?) c'=some c
 |[],tB,h=>by cases h;exact⟨rfl,by simp⟩
 |a::tP,tB,h=>by
  simp only[HY]at h;split at h
  .rename_i x y e1 e2;cases h;obtain⟨h1,h2⟩:=Ek e2;refine⟨by simp[h1],λj c hj=>?_⟩;cases j with
   |zero=>simp only[cg,aB]at hj;subst hj;exact⟨a,rfl,e1⟩
   |succ j=>simpa using h2 j c (by simpa using hj)
  cases h
def yD:List Nat->List (List TV)->List TB->List TB
 |k::L,c::tB,tS=>yD L tB (tS.set k (.cells c))
 |_,_,tS=>tS
theorem El:∀{L:List Nat}{tB:List (List TV)}{tS:List TB}{k:Nat},ng L=true->tB.length=L.length->(∀k∈L,k<tS.length)->(yD L tB tS)[k]? =match loc L k with|some j=>(tB[j]?).map TB.cells|none=>tS[k]?
 |[],[],tS,k,_,_,_=>rfl
 |[],_::_,_,_,_,h,_=>by simp at h
 |_::_,[],_,_,_,h,_=>by simp at h
 |a::L,c::tB,tS,k,hn,hl,hlt=>by
  simp only[ng,aA,o7]at hn;unfold yD;rw[El hn.2 (by simpa using hl) λk hk=>by simpa using hlt k (nO _ hk)];rw[XF];by_cases e:a=k
  .subst e;have:loc L a=none:=by
    cases h:loc L a with
    |none=>rfl
    |some j=>have:=b9 (ir h);simp[this]at hn
   simp[this,hlt a (gv ..)]
  rw[if_neg e];cases h:loc L k with
  |none=>simp[aF,e]
  |some j=>simp
theorem Ow{f:Operand}{args:Array Operand}{argTypes:Array TypeId}{g:FuncId}{fs cs xs targs:List TV}{tP:List (List TV)}{Q:TV->List (List TV)->Prop}(hop:o.op=.call {callee:=.value f,args,argTypes})(hf:fM te f=some (.fn g fs cs))(ha:lV te args.toList=some xs)
  (Fu:ng L=true) (hn:uv (loc L) (gm tt fs argTypes) (fs++xs++cs)=some targs) (hr:(fs++xs++cs).any isRef=true) (hb:J4 (loc L) tS L=some tP) (hs:B1 call g targs tP Q) (hq:∀v t,Q v t->∃tB,HY L t=some tB):
  Does P ty aI call yf B o nT te tS false λv bZ bN ft=>∃FB tB,Q v FB/\HY L FB=some tB/\bZ=te/\bN=yD L tB tS/\ft=⟨none,true⟩:=by
 intro ι w env S aD hR hB hw hT Ra hS;obtain⟨xD,lG,FA,k1,k2,k3⟩:=iS hR.env hf ha;obtain⟨hl,hg⟩:=zF hb;obtain⟨d,S',ι',v,FB,n1,n2,n3,n4,n5,n6,n7,n8⟩:=hs _ _ S (aag hR Fu hb (I2 (λk j h=>u7 h) hn k3));obtain⟨tB,hbk⟩:=hq _ _ n8;obtain⟨b1,b2⟩:=Ek hbk;have hlt:∀k∈L,k<tS.length:=λk hk=>by obtain⟨j,hj⟩:=vN hk;obtain⟨c,c',h1,-⟩:=hg j k (ir hj);exact(az.1 h1).1
 have bh:∀k,(yD L tB tS)[k]? =match loc L k with|some j=>(tB[j]?).map TB.cells|none=>tS[k]? :=λk=>El Fu (by omega) hlt
 have uD:∀j,j<L.length->ι' j=wR L ι j:=λj hj=>n6.base j (by simp;omega);have lI:∀k k0,k∉L->ι k=some k0->S'[k0]? =S[k0]? :=by
  intro k k0 hk h0;refine n6.rest k0 (hR.live h0) λj hj=>?_;unfold wR at hj;cases Ax:L[j]? with
  |none=>rw[Ax]at hj;cases hj
  |some a=>rw[Ax]at hj;obtain rfl:=hR.inj k a k0 h0 hj;exact hk (b9 Ax)
 have jm:∀k,k∈L->∃c k0 ds,tS[k]? =some (.cells c)/\ι k=some k0/\S[k0]? =some (.cells ds):=λk hk=>by obtain⟨j,hj⟩:=vN hk;obtain⟨c,c',h1,-⟩:=hg j k (ir hj);obtain⟨k0,ds,h2,h3,-⟩:=hR.cells k c h1;exact⟨c,k0,ds,h1,h2,h3⟩
 have K:jE ι S ι S' λ_=>False:=λk k0 _ hk=>⟨hk,by
  by_cases Gb:k∈L;.obtain⟨c,k1,ds,h1,h2,h3⟩:=jm k Gb;rw[h2]at hk;cases hk;exact vO (by rw[h3];simp) (by rw[h3];simp) (by rw[h3];simp)
  exact dY (lI k k0 Gb hk)⟩
 have YQ:=nA hr k3;have uh:refs v=[]:=by
  have:∀{u:TV},DJ u=true->refs u=[]:=λ{u} hu=>by
   cases u<;>first|(cases hu;done)|skip
   .rfl
   .rename_i l;simp only[refs];simp only[DJ]at hu;clear n2 n3 n8;induction l with
    |nil=>rfl
    |cons a l ih=>simp only[cA,aA]at hu;simp only[eH,Hv hu.1,ih hu.2,cV]
   rename_i t l ap;cases ap<;>first|(cases hu;done)|rfl
  clear n2 n8;cases v<;>first|exact this n3|skip
  rename_i l;simp only[refs];simp only[BW]at n3;induction l with
  |nil=>rfl
  |cons a l ih=>simp only[cA,aA]at n3;simp only[eH,this n3.1,ih n3.2,cV]
 refine⟨d,S',ι,w,v,te,yD L tB tS,⟨none,true⟩,⟨none,true⟩,λ_=>?_,λhd=>(by cases hd),⟨λe=>e,λl hl=>(by cases hl)⟩,λl m hl=>(by cases hl),?_,pF _ _ uh n2,hw,λ_ _ _=>rfl,⟨λk0 hl hno=>n6.rest k0 hl λj hj=>?_,λk k0 hk=>.inl ⟨k,hk⟩,λ_ _=>rfl⟩,λk hk=>?_,⟨n7.1,λj hj dA=>?_⟩,FB,tB,n8,hbk,rfl,rfl,rfl⟩;.simp only[ah,hop,k1,k2,xh,YQ,aG,if_false,n1];split<;>rfl
 .refine⟨bu K _ _ hR.env,λk l hk=>?_,λk e s hk t ht=>?_,λk k0 hk=>?_,hR.inj,λk b hk t ht=>?_⟩
  .rw[bh]at hk;split at hk;.rename_i j hj;simp only[af,TB.cells.injEq]at hk;obtain⟨c,hc,rfl⟩:=hk;obtain⟨c',h1,h2⟩:=b2 j c hc;obtain⟨k',iJ,m1,m2,m3⟩:=n5 j c' (by simp[h1]);have Yn:j<L.length:=(az.1 (ir hj)).1;rw[uD j Yn,u7 hj]at m1;refine⟨k',iJ,m1,m2,PE (ι:=ι') (ρ:=λj=>L[j]?) (λa b qC=>?_) h2 m3⟩;have hal:a<L.length:=(az.1 qC).1;rw[uD a hal];simp[wR,qC]
   rename_i hno;obtain⟨k0,MK,q1,q2,q3⟩:=hR.cells k l hk;exact⟨k0,MK,q1,by rw[lI k k0 (zN hno) q1];exact q2,bu K _ _ q3⟩
  .rw[bh]at hk;split at hk;.simp at hk
   obtain⟨n,q1⟩:=hR.own k e s hk t ht;exact⟨n,(K k t (λe=>e) ht).2.1 _ _ _ q1⟩
  .rw[bh];split
   .rename_i j hj;have Yn:j<tB.length:=by have:=(az.1 (ir hj)).1;omega
    exact⟨.cells tB[j],by simp[Yn],by simp⟩
   exact hR.qv k k0 hk
  rw[bh]at hk;split at hk;.simp only[af]at hk;obtain⟨c,-,rfl⟩:=hk;trivial
  rename_i hno;rw[lI k t (zN hno) ht];exact hR.mp k b hk t ht
 .unfold wR at hj;cases Ax:L[j]? with
  |none=>rw[Ax]at hj;cases hj
  |some a=>rw[Ax]at hj;exact hno _ hj
 .rw[bh];split
  .rename_i j hj;have Yn:j<tB.length:=by have:=(az.1 (ir hj)).1;omega
   exact⟨some tB[j],by simp[Yn,lC]⟩
  exact hB k hk
 have:=(az.1 dA).1;exact n7.2 j (by omega) dA
end Go.Tv
