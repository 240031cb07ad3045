import Derived.Test.YtadeehilamokkaaGreatDoorPk06
namespace Go.Tv
open Go Go.Di Go.Proofs
variable {P:Program} {ty:fo} {tt:TypeId->cy} {ι ι' w:kB} {S S':aj} {te lG:cn} {env:cj} {tS gZ:cp} {aD:bR} {call:aY} {yf:di} {o:Oper} {aB nT:Nat} {B:cx} {ops:Array Oper}
theorem sj(h:bL ι te tS env S)(hT:wG tS nT)(hn:xK S aB){t:TT}{e:Nat}{l:List t.den}{ds:cj}(h0:0<t.size)(h1:(t.agg||t.size==1)=true)(hf:fC t l ds):bL (upd ι nT aB) te (nu tS nT (.rows t e l false)) env (eE S aB (.op e t.size ds false)):=by
 have K:=qS h hT hn (.op e t.size ds false);refine⟨bh K _ _ h.env,λk l hk=>?_,λk e s hk t ht=>?_,λk k' hk=>?_,λi j k' hi hj=>?_,λk b hk t0 ht=>?_⟩;rw[cH hT]at hk;split at hk;cases hk;rename_i e;obtain⟨k',hU,h1,h2,h3⟩:=h.cells k l hk;exact⟨k',hU,by simp only[upd,e,if_false];exact h1,by rw[bC hn,if_neg (h.dx hn h1)];exact h2,bh K _ _ h3⟩;rw[cH hT]at hk;split at hk;cases hk;rename_i e';simp only[upd,e',if_false]at ht;obtain⟨n,h1⟩:=h.own k e s hk t ht;exact⟨n,by rw[bC hn,if_neg (h.dx hn ht)];exact h1⟩;rw[cH hT];split
 grind
 rename_i e;simp only[upd,e,if_false]at hk;exact h.qc k k' hk;unfold upd at hi hj;split at hi<;>split at hj;omega;cases hi;exact(h.dx hn hj rfl).elim
 cases hj;exact(h.dx hn hi rfl).elim
 exact h.inj i j k' hi hj;rw[cH hT]at hk;split at hk;rename_i e';cases hk;simp only[upd,e',if_true,aF]at ht;subst ht;rw[bC hn,if_pos rfl];exact⟨h0,h1,ds,rfl,hf⟩;rename_i e';simp only[upd,e',if_false]at ht;rw[bC hn,if_neg (h.dx hn ht)];exact h.mp k b hk t0 ht
theorem y9(h:bL ι te tS env S){g id:Nat}{t:TT}{e:Nat}{l l':List t.den}{ds hU:cj}{z z':Bool}(hi:ι g=some id)(hg:tS[g]? =some (.rows t e l z))(hS:S[id]? =some (.op e t.size ds z))(hl:hU.length=ds.length)(h0:0<t.size)(h1:(t.agg||t.size==1)=true)(hf:fC t l' hU):bL ι te (tS.set g (.rows t e l' z')) env (S.set id (.op e t.size hU z')):=by
 have hlt:=(aI.1 hg).1;have BW:=(aI.1 hS).1;have K:iQ ι S ι (S.set id (.op e t.size hU z')) λ_=>False:=λa b _ o7=>⟨o7,by rw[aM];split;rename_i e1;subst e1;rw[hS];exact⟨λ_ _ _ h=>(nomatch h),λe s l z h=>(by cases h;exact⟨hU,z',rfl,hl⟩),λ_ h=>(nomatch h)⟩;exact dm rfl⟩;have TG:∀j,(tS.set g (.rows t e l' z'))[j]? =if j=g then some (.rows t e l' z')else tS[j]? :=λj=>by
  rw[aM];by_cases e:j=g
  grind
  grind
 have q9:∀j,j≠id->(S.set id (.op e t.size hU z'))[j]? =S[j]? :=λj hj=>by rw[aM,if_neg (Ne.symm hj)]
 refine⟨bh K _ _ h.env,λj m hj=>?_,λj e s hj t ht=>?_,λj j' hj=>?_,h.inj,λj b hj t0 ht=>?_⟩;rw[TG]at hj;split at hj;cases hj;rename_i e;obtain⟨j',Mi,h1,h2,h3⟩:=h.cells j m hj;exact⟨j',Mi,h1,by rw[q9 j' λe1=>e (h.inj _ _ _ (e1▸h1) hi)];exact h2,bh K _ _ h3⟩;rw[TG]at hj;split at hj;cases hj;obtain⟨n,h1⟩:=h.own j e s hj t ht;exact⟨n,(K j t (λe=>e) ht).2.1 _ _ _ h1⟩;rw[TG];split
 grind
 exact h.qc j j' hj;rw[TG]at hj;split at hj;rename_i e;subst e;cases hj;rw[hi]at ht;cases ht;rw[aM,if_pos rfl,if_pos BW];exact⟨h0,h1,hU,rfl,hf⟩;rename_i e;rw[q9 t0 λe1=>e (h.inj _ _ _ (e1▸ht) hi)];exact h.mp j b hj t0 ht
theorem aaE{g:Nat}{b:TB}{x:Option DB}(h:acW b x):acW (pn g b) x:=by cases b<;>exact h
theorem XP{g:Nat}{b:TB}:pn g b=.none->b=.none:=by cases b<;>simp[pn]
theorem Fs(h:bL ι te tS env S){g id:Nat}{t:TT}{e:Nat}{l l':List t.den}{ds hU:cj}{z:Bool}(hi:ι g=some id)(hg:tS[g]? =some (.rows t e l z))(hS:S[id]? =some (.op e t.size ds z))(h0:0<t.size)(h1:(t.agg||t.size==1)=true)(hf:fC t l' hU):bL ι (oB g te) ((tS.map (pn g)).set g (.rows t e l' false)) env (S.set id (.op e t.size hU false)):=by
 have hlt:=(aI.1 hg).1;have BW:=(aI.1 hS).1;have q9:∀j,j≠id->(S.set id (.op e t.size hU false))[j]? =S[j]? :=λj hj=>by rw[aM,if_neg (Ne.symm hj)]
 have K:iQ ι S ι (S.set id (.op e t.size hU false)) λk=>k=g:=λa b ha o7=>⟨o7,dm (q9 b λe1=>ha (h.inj _ _ _ (e1▸o7) hi))⟩;have TG:∀j b,((tS.map (pn g)).set g (.rows t e l' false))[j]? =some b->(j=g/\b=.rows t e l' false)\/(j≠g/\∃b0,tS[j]? =some b0/\b=pn g b0):=λj b hj=>by
  rw[aM]at hj;split at hj
  grind
  grind
 refine⟨mw K _ _ h.env,λj m hj=>?_,λj e s hj t ht=>?_,λj j' hj=>?_,h.inj,λj b hj t0 ht=>?_⟩
 .rcases TG j _ hj with ⟨-,e1⟩|⟨hne,b0,h2,h3⟩;cases e1;cases b0<;>simp only[pn]at h3<;>first|(cases h3;done)|skip
  cases h3;obtain⟨j',Mi,k1,k2,k3⟩:=h.cells j _ h2;exact⟨j',Mi,k1,by rw[q9 j' λe1=>hne (h.inj _ _ _ (e1▸k1) hi)];exact k2,mw K _ _ k3⟩
 .rcases TG j _ hj with ⟨-,e1⟩|⟨hne,b0,h2,h3⟩;cases e1;cases b0<;>simp only[pn]at h3<;>first|(cases h3;done)|skip
  cases h3;obtain⟨n,k1⟩:=h.own j _ _ h2 t ht;exact⟨n,(K j t hne ht).2.1 _ _ _ k1⟩
 rw[aM];split
 grind
 obtain⟨b,h2,h3⟩:=h.qc j j' hj;exact⟨pn g b,by rw[cI,h2];rfl,λe1=>h3 (XP e1)⟩;rcases TG j _ hj with ⟨rfl,rfl⟩|⟨hne,b0,h2,rfl⟩;rw[hi]at ht;cases ht;rw[aM,if_pos rfl,if_pos BW];exact⟨h0,h1,hU,rfl,hf⟩;rw[q9 t0 λe1=>hne (h.inj _ _ _ (e1▸ht) hi)];exact aaE (h.mp j b0 h2 t0 ht)
theorem Lb{g:Nat}{t t':TT}{e e':Nat}{l:List t.den}{l':List t'.den}{z z':Bool}(hB:nM B tS)(hl:tS[g]? =some (.rows t e l z)):nM B (tS.set g (.rows t' e' l' z')):=λk hk=>by obtain⟨c,hc⟩:=hB k hk;refine⟨c,?_⟩;rw[aM,if_neg];exact hc;rintro rfl;rw[hl]at hc;cases c<;>cases hc
theorem Lc{g:Nat}{t t':TT}{e e':Nat}{l:List t.den}{l':List t'.den}{z z':Bool}(hB:nM B tS)(hl:tS[g]? =some (.rows t e l z)):nM B ((tS.map (pn g)).set g (.rows t' e' l' z')):=λk hk=>by
 obtain⟨c,hc⟩:=hB k hk;refine⟨c.map (oB g),?_⟩;rw[aM,if_neg];rw[cI,hc];cases c<;>rfl
 rintro rfl;rw[hl]at hc;cases c<;>cases hc
theorem Ga:∀{S:aj}{i:Nat}{b:DB},S[i]? =some b->S.set i b=S
 |[],_,_,h=>by simp at h
 |_::_,0,_,h=>by simp only[dB,aF]at h;rw[h];rfl
 |a::l,n+1,b,h=>by rw[List.set_cons_succ,Ga (by simpa using h)]
theorem EO{g:Nat}{gZ:cp}(h:Uv ty tt te tS o=some (g,gZ))(dr:Bool):Does P ty aD call yf B o nT te tS dr λv' bO bI ft=>v'=.unk/\bO=te/\bI=gZ/\ft=⟨some [g],true⟩:=by
 intro ι w env S aB hR hB hw hT hn hS;unfold Uv at h;split at h
 rotate_left
 cases h;rename_i t a x ho;split at h
 rotate_left
 cases h;rename_i td g' k i off v h1 h2 h3;split at h
 rotate_left
 cases h;rename_i e l h4;split at h
 rotate_left
 cases h;rename_i hc;simp only[aC,dL]at hc;obtain⟨c1,c2⟩:=hc;split at h
 rotate_left
 cases h;rename_i cs h5;split at h
 rotate_left
 cases h;rename_i y h6;cases h;have hg:=kH h4;obtain⟨d,k1,k2⟩:=bt hR.env h2;obtain⟨id,ds,rfl,m1,m2,m3,m4,m5,m6,m7⟩:=aa7 hR hg k2;simp only[af]at h3;obtain⟨u,h7,h8⟩:=h3;obtain⟨dv,k4,k5⟩:=bt hR.env h7;have k6:=cK (tt:=tt) (t:=t) k5;rw[h8]at k6;have k7:=tQ (KX c1) k6;obtain⟨pre,c,post,rfl,q1,q2,q3⟩:=xk m4 m5;obtain⟨c',r1,r2⟩:=Ip (oT (ι:=ι) (S:=S) q2) k7 h5;have hst:=IJ c1 k6;obtain⟨cc,m',e1,e2,e3⟩:=FP h6 r2;rw[aN e3,iJ]at e1;subst e1;have hle:off+dv.cells.length<=c.length:=by unfold vu at r1;split at r1;assumption;cases r1
 have hc':c'=c.take off++dv.cells++c.drop (off+dv.cells.length):=by unfold vu at r1;rw[if_pos hle]at r1;exact(bM r1).symm
 have hlen:dv.strip.cells.length=dv.cells.length:=by rw[hst];simp
 have oy:vu c off dv.strip.cells=some (c.take off++dv.strip.cells++c.drop (off+dv.cells.length)):=by unfold vu;rw[hlen,if_pos hle]
 have hm:(c.take off++dv.strip.cells++c.drop (off+dv.cells.length)).map DV.aL=c'.map DV.aL:=by rw[hc',hst];simp only[iI,nV];congr 2;exact List.map_congr_left λd _=>Fq d
 have hpa:=rJ e2;have hps:dv.strip.cells.all DV.bS=true:=by grind
 have Qq:=rJ q2;have hcr:CR k y (c.take off++dv.strip.cells++c.drop (off+dv.cells.length)):=by refine Eb (by rw[hm];exact e2) ?_;rw[pV,pV,hps];simp only[rL,aC,aR]at Qq⊢;exact⟨λd hd=>Qq d (yy hd),λd hd=>Qq d (List.mem_of_mem_drop hd)⟩
 have hsz:dv.strip.cells.length=td.size:=by rw[hlen,gR k7];exact c2
 have BV:oL ty S t (.fS id l.length (i*k.size+off)) dv=some (S.set id (.op e k.size (pre++(c.take off++dv.strip.cells++c.drop (off+dv.cells.length))++post) false)):=by simp only[oL,h1,m3,hsz,hps,decide_true,gh,if_true];rw[<-q1,WW oy];rfl
 have uB:(pre++(c.take off++dv.strip.cells++c.drop (off+dv.cells.length))++post).length=(pre++c++post).length:=by grind
 refine⟨bD,_,ι,w,.unk,te,_,⟨some [id],true⟩,⟨some [g],true⟩,λ_=>?_,λ_=>?_,⟨λe=>e,λl' jm=>?_⟩,λl' m _ hm j hj=>?_,y9 hR m1 hg m2 uB m6 m7 (q3 y _ hcr),by simp only[RT],hw,λ_ _ _=>rfl,zY m1,Lb hB hg,zT m2 (λe=>ar),rfl,rfl,rfl,rfl⟩;simp only[ah,ho,k1,k4,BV,az];simp only[aH,ho,k1,ah,k4,BV,az];cases jm;exact⟨[id],rfl,λj hj=>⟨g,ab,by simp only[bQ]at hj;rw[hj];exact hw _ _ m1⟩⟩
 grind
theorem N7{v:TV}{lG:cn}{gZ:cp}{c:Prop}(h:Uu ty tt te tS o nT=some (v,lG,gZ,c))(hc:c):Does P ty aD call yf B o nT te tS false λv' bO bI _=>v'=v/\bO=lG/\bI=gZ:=by
 intro ι w env S aB hR hB hw hT hn hS;unfold Uu at h;split at h
 .rename_i t a b ho;split at h
  rotate_left
  cases h;rename_i e s kN agg sz z0 n m k h1 h2 h3 h4;split at h
  rotate_left
  cases h;rename_i k0 sz' z h5;split at h
  rotate_left
  cases h;rename_i x h6;split at h
  rotate_left
  cases h;rename_i TL;cases h;simp only[aC,bP,dL]at TL;obtain⟨⟨⟨⟨c1,c2⟩,c3⟩,c4⟩,c5⟩:=TL;obtain⟨rfl,d2,d3⟩:=hc;obtain⟨cc,m',e1,e2,e3⟩:=FP h6 (uH (ι:=ι) (S:=S) z);rw[aN e3,iJ]at e1;subst e1;have hi1:intOf (iN env) a=some m:=pP hR.env h2;have hi2:intOf (iN env) b=some m:=pP hR.env h3;have h0:0<k.size:=U
  have h01:(k.agg||k.size==1)=true:=by rw[c3,c2];exact c4
  have hb:m.toNat*kN<=fE:=by
   have:m.toNat<=1000000000:=U
   calc m.toNat*kN<=1000000000*100000:=Nat.mul_le_mul this c5
    _<=fE:=ae
  have jM:=sj hR hT hn h0 h01 (e:=e) (D3 e2 m.toNat);rw[c2]at jM;refine⟨.jl aB m.toNat agg,eE S aB (.op e s (List.replicate m.toNat (z.map DV.aL)).flatten false),upd ι nT aB,upd w aB nT,.so nT k,te,_,⟨none,true⟩,⟨none,true⟩,λ_=>?_,λhd=>bc,⟨λe=>e,λl hl=>aE⟩,λl m hl=>aE,jM,?_,pK hR hn hT hw,λhd=>bc,rC hn (mC hB hT),iZ hB hT,nQ hn,rfl,rfl,rfl⟩;have hpz:=rJ e2;simp only[ah,ho,h1,hi1,hi2,h5,d2,c1,c4,hb,hpz,decide_true,gh,if_true,show m<=140737488355328-4096 by omega];simp only[RT,upd,if_true];refine⟨trivial,c3.symm,e,s,_,false,by rw[bC hn,if_pos rfl],?_⟩;have:=iu (D3 e2 m.toNat);rw[this,List.length_replicate,c2]
 .rename_i t n ps ho;split at h
  rotate_left
  cases h;rename_i hh;split at h
  rotate_left
  cases h;rename_i e s kN agg sz z0 l k h1 h2 h3;split at h
  rotate_left
  cases h;rename_i k0 sz' z h4;split at h
  rotate_left
  cases h;rename_i TL;simp only[aC,dL,jw,bP]at TL;obtain⟨⟨⟨⟨⟨⟨c1,c2⟩,c3⟩,c4⟩,c5⟩,c6⟩,c7⟩:=TL;simp only[af,ay]at h;obtain⟨w0,h5,rfl,rfl,rfl,-⟩:=h;obtain⟨ds,k1,k2⟩:=qQ hR.env h2;obtain⟨k3,k4⟩:=D8 k2 h5;have hlen:ds.length=n:=by rw[Aq k2,c3]
  have acr:((List.replicate n z).flatten).length=ds.length*s:=by rw[hlen,List.length_flatten,List.map_replicate,c4,List.sum_replicate_nat]
  have hf:=xm (pre:=[]) (post:=(List.replicate n z).flatten) c5 k3 ab acr;rw[gm,gm]at hf;have Jc:w0.length=n:=by rw[k4,c3]
  have c7':(agg||s==1)=true:=by simpa using c7
  have xy:=vZ k3;have h0:0<k.size:=U
  have h01:(k.agg||k.size==1)=true:=by rw[c6,c5];exact c7'
  have jM:=sj hR hT hn h0 h01 (e:=e) xy;rw[c5]at jM;refine⟨.jl aB n agg,eE S aB (.op e s (iW ds) false),upd ι nT aB,upd w aB nT,.so nT k,te,_,⟨none,true⟩,⟨none,true⟩,λ_=>?_,λhd=>bc,⟨λe=>e,λl hl=>aE⟩,λl m hl=>aE,jM,?_,pK hR hn hT hw,λhd=>bc,rC hn (mC hB hT),iZ hB hT,nQ hn,rfl,rfl,rfl⟩;simp only[ah,ho,h1,k1,h4,pU c1,pU c2,gh,if_true,hf,wU k3,c7',hh];simp only[RT,upd,if_true];refine⟨trivial,c6.symm,e,s,_,false,by rw[bC hn,if_pos rfl],?_⟩;rw[iu xy,Jc,c5]
 .rename_i args ats ho;split at h
  rotate_left
  cases h;rename_i x y t u ha ht;split at h
  rotate_left
  cases h;rename_i SS;subst SS;split at h
  .rename_i g k h2;split at h
   rotate_left
   cases h;rename_i e s kN agg sz z0 k' m ap h1 h3;split at h
   rotate_left
   cases h;rename_i FG;subst FG;split at h
   rotate_left
   cases h;rename_i e' l k0 sz' z h4 h5;split at h
   rotate_left
   cases h;rename_i TL;cases h;simp only[aC,dL,bP]at TL;obtain⟨⟨⟨c1,c2⟩,c3⟩,c4⟩:=TL;subst c1;have hg:=kH h4;obtain⟨d,k1,k2⟩:=bt hR.env h2;obtain⟨id,ds,rfl,m1,m2,m3,m4,m5,m6⟩:=FO hR hg k2 rfl;simp only[af]at h3;obtain⟨uy,e1,e2⟩:=h3;obtain⟨db,k4,k5⟩:=bt hR.env e1;have k6:=cK (tt:=tt) (t:=t) k5;rw[e2]at k6;cases db<;>simp only[RT]at k6;rename_i news tok f;obtain⟨k6,-⟩:=k6;have Yy:=lz k6;have mV:=je k6;have xy:=K1 m4 (sA k6);have jM:=Fs hR m1 hg m2 m5 m6 xy;have hb:(l.length+news.length)*kN<=fE:=by
    have:l.length+news.length<=1000000000:=by rw[Yy];exact hc
    calc (l.length+news.length)*kN<=1000000000*100000:=Nat.mul_le_mul this c4
     _<=fE:=ae
   have nK:(agg||s==1)=true:=by rw[<-c3,<-c2];exact m6
   have jm:=iu m4;have YJ:nU ty S aB t (.jl id l.length k'.agg) (.sl news tok f)=if news.isEmpty then some (.jl id l.length k'.agg,S)else some (.jl id (l.length+news.length) agg,S.set id (.op e' k'.size (ds++flat news) false)):=by
    simp only[nU,h1,h5];rw[if_pos,m3]
    grind
    grind
   have hst:∀d S',nU ty S aB t (.jl id l.length k'.agg) (.sl news tok f)=some (d,S')->ah P ty aD call yf (iN env) o S aB=some (d,S'):=λd S' h=>by simp only[ah,ho,ha,ht,if_true,k1,k4,h]
   have kR:∀d S',(d=.jl id (l.length+news.length) agg)->S'=S.set id (.op e' k'.size (ds++flat news) false)->RT ι S' (.so g k') d:=λd S' hd Ci=>by subst hd Ci;have hlt:=(aI.1 m2).1;simp only[RT];refine⟨m1,c3.symm,e',k'.size,_,false,by rw[aM,if_pos rfl,if_pos hlt],?_⟩;rw[iu xy,dM,Yy]
   by_cases Om:news.isEmpty=true;have Mu:news=[]:=by simpa using Om
   subst Mu;have hm:m=[]:=eP (by rw[<-Yy];rfl);subst hm;have hSS:S.set id (.op e' k'.size (ds++flat []) false)=S:=by rw[show flat []=[]from rfl,iJ];exact Ga m2
   rw[hSS]at jM;rw[if_pos Om]at YJ;have hrt:=kR (.jl id l.length k'.agg) S (by rw[c3];rfl) hSS.symm;refine⟨_,S,ι,w,.so g k',_,_,⟨none,true⟩,⟨none,true⟩,λ_=>hst _ _ YJ,λhd=>bc,⟨λe=>e,λl hl=>aE⟩,λl m hl=>aE,jM,hrt,hw,λhd=>bc,Fr.refl _ _ _,?_,fM _ _,rfl,rfl,rfl⟩;exact Lc hB hg;rw[if_neg Om]at YJ;refine⟨_,_,ι,w,.so g k',_,_,⟨none,true⟩,⟨none,true⟩,λ_=>hst _ _ YJ,λhd=>bc,⟨λe=>e,λl hl=>aE⟩,λl m hl=>aE,jM,kR _ _ rfl rfl,hw,λhd=>bc,zY m1,Lc hB hg,zT m2 (λe=>ar),rfl,rfl,rfl⟩
  .rename_i v0 hno h2;split at h
   rotate_left
   cases h;rename_i hh;split at h
   rotate_left
   cases h;rename_i e s kN agg sz z0 k' a m ap h1 h3;split at h
   rotate_left
   cases h;rename_i k0 sz' z h5;split at h
   rotate_left
   cases h;rename_i TL;cases h;simp only[aC,dL,bP]at TL;obtain⟨⟨⟨⟨⟨c0,c1⟩,c2⟩,c3⟩,c4⟩,c5⟩:=TL;obtain⟨d,k1,k2⟩:=bt hR.env h2;obtain⟨f0,rfl,xQ⟩:∃f0,d=.sl [] none f0/\f0.full=true:=by
    cases v0<;>first|(cases c0;done)|skip
    cases d<;>simp only[RT]at k2;obtain⟨rfl,rfl,rfl⟩:=k2;exact⟨_,rfl,rfl⟩;rename_i k9 l9 ap9;cases l9 with
    |cons=>simp[UF]at c0
    |nil=>
     cases ap9<;>first|(simp[UF]at c0;done)|skip
     cases d<;>simp only[RT]at k2;rename_i rows tok f;obtain⟨q1,rfl,q2⟩:=k2;cases rows with
     |nil=>exact⟨f,rfl,q2⟩
     |cons=>exact q1.elim
   simp only[af]at h3;obtain⟨uy,e1,e2⟩:=h3;obtain⟨db,k4,k5⟩:=bt hR.env e1;have k6:=cK (tt:=tt) (t:=t) k5;rw[e2]at k6;cases db<;>simp only[RT]at k6;rename_i news tok f;obtain⟨k6,-⟩:=k6;have Yy:=lz k6;have mV:=je k6;have xy:=sA k6;have h0:0<k'.size:=U
   have h01:(k'.agg||k'.size==1)=true:=by rw[c3,c2];exact c4
   have jM:=sj hR hT hn h0 h01 (e:=e) xy;rw[c2]at jM;have hle:news.length<=1000000000:=by rw[Yy];exact hc
   have hb:news.length*kN<=fE:=by
    calc news.length*kN<=1000000000*100000:=Nat.mul_le_mul hle c5
     _<=fE:=ae
   have Om:¬(news.isEmpty=true):=by grind
   have YJ:nU ty S aB t (.sl [] none f0) (.sl news tok f)=some (.jl aB news.length agg,eE S aB (.op e s (flat news) false)):=by simp only[nU,h1,h5];rw[if_neg Om,if_pos];simp only[aC,bP,aR];refine⟨⟨⟨⟨⟨xQ,c1⟩,c4⟩,hb⟩,U⟩,λr hr=>by rw[mV r hr,c2]⟩
   refine⟨.jl aB news.length agg,eE S aB (.op e s (flat news) false),upd ι nT aB,upd w aB nT,.so nT k',te,_,⟨none,true⟩,⟨none,true⟩,λ_=>?_,λhd=>bc,⟨λe=>e,λl hl=>aE⟩,λl m hl=>aE,jM,?_,pK hR hn hT hw,λhd=>bc,rC hn (mC hB hT),iZ hB hT,nQ hn,rfl,rfl,rfl⟩;simp only[ah,ho,ha,ht,if_true,k1,k4,hh,YJ];simp only[RT,upd,if_true];refine⟨trivial,c3.symm,e,s,_,false,by rw[bC hn,if_pos rfl],?_⟩;rw[iu xy,Yy,c2]
  cases h
 cases h
end Go.Tv
namespace Go.Tv
open Go Go.Di Go.Proofs
def FQ(tS:cp):TV->TV
 |.so g t=>match tS[g]? with
  |some (.rows t' _ l z)=>if h:t'=t then(match z with
   |true=>.sl t (h▸l) .no
   |false=>.so g t)else .unk
  |_=>.unk
 |v=>v
def wE(te:cn)(tS:cp)(x:Operand):cp:=
 match fe te x with
 |some (.so g t)=>match jQ tS g t with
  |some (e,l,false)=>tS.set g (.rows t e l true)
  |_=>tS
 |_=>tS
def Mp(te:cn)(tS:cp)(x:Operand):Bool:=
 match fe te x with
 |some .unk|none=>false
 |some (.so g t)=>(jQ tS g t).isSome
 |some _=>true
def Ml(ty:fo)(te:cn)(tS:cp)(o:Oper):Option (cn×cp):=
 match ty.h o with
 |2=>if o.op.operands.toList.all (Mp te tS)then some (te.map (FQ (o.op.operands.toList.foldl (wE te) tS)),o.op.operands.toList.foldl (wE te) tS)else none
 |_=>some (te,tS)
variable {P:Program} {ty:fo} {tt:TypeId->cy} {ι ι' w:kB} {S S':aj} {te lG:cn} {env:cj} {tS gZ:cp} {aD:bR} {call:aY} {yf:di} {o:Oper} {aB nT:Nat} {B:cx} {ops:Array Oper}
theorem Np{g g':Nat}{t t':TT}{e e':Nat}{l:List t.den}{l':List t'.den}{z:Bool}(h:jQ tS g t=some (e,l,z))(h':jQ tS g' t'=some (e',l',false)):(jQ (tS.set g' (.rows t' e' l' true)) g t).isSome=true:=by
 have h1:=kH h;have h2:=kH h';by_cases e1:g'=g;subst e1;rw[h1]at h2;cases h2;unfold jQ;rw[aM,if_pos rfl,if_pos (aI.1 h1).1];simp;have:jQ (tS.set g' (.rows t' e' l' true)) g t=jQ tS g t:=by unfold jQ;rw[aM,if_neg e1]
 rw[this,h];rfl
theorem Xc{x y:Operand}(h:Mp te tS x=true):Mp te (wE te tS y) x=true:=by unfold Mp at h⊢;split at h;cases h;cases h;rename_i g t hx;unfold wE;split;split;rename_i e' l' h2;obtain⟨⟨e,l,z⟩,h1⟩:=yz.1 h;exact Np h1 h2;exact h;exact h;rfl
theorem sS(hR:bL ι te tS env S)(hB:nM B tS){x:Operand}(h:Mp te tS x=true):bL ι te (wE te tS x) env (qz env S x)/\nM B (wE te tS x)/\Fr B ι S ι (qz env S x)/\∀i,Nn i S (qz env S x):=by
 have same:wE te tS x=tS->qz env S x=S->bL ι te (wE te tS x) env (qz env S x)/\nM B (wE te tS x)/\Fr B ι S ι (qz env S x)/\∀i,Nn i S (qz env S x):=λh1 h2=>by rw[h1,h2];exact⟨hR,hB,Fr.refl _ _ _,λi=>fM _ _⟩
 unfold Mp at h;split at h;cases h;cases h;rename_i g t hx;obtain⟨⟨e,l,z⟩,h1⟩:=yz.1 h;obtain⟨d,k1,k2⟩:=bt hR.env hx;have hg:=kH h1;obtain⟨id,ds,rfl,m1,m2,m3,m4,m5,m6⟩:=FO hR hg k2 rfl;cases z with
 |true=>exact same (by simp only[wE,hx,h1]) (by simp only[qz,k1,xG,m3])
 |false=>
  have e1:wE te tS x=tS.set g (.rows t e l true):=by simp only[wE,hx,h1]
  have e2:qz env S x=S.set id (.op e t.size ds true):=by simp only[qz,k1,xG,m3]
  rw[e1,e2];exact⟨y9 hR m1 hg m2 rfl m5 m6 m4,Lb hB hg,zY m1,λi=>zT m2 (λe=>ar)⟩
 rename_i v h1 h2 hx;obtain⟨d,k1,k2⟩:=bt hR.env hx;refine same ?_ ?_;unfold wE;rw[hx];cases v<;>first|rfl|exact absurd rfl (h2 _ _)
 simp only[qz,k1];cases v<;>first|exact absurd rfl (h2 _ _)|exact absurd rfl h1|skip
 all_goals cases d<;>simp only[RT]at k2<;>rfl
theorem aeO:∀(l:List Operand){tS:cp}{S:aj},bL ι te tS env S->nM B tS->l.all (Mp te tS)=true->bL ι te (l.foldl (wE te) tS) env (l.foldl (qz env) S)/\nM B (l.foldl (wE te) tS)/\Fr B ι S ι (l.foldl (qz env) S)/\∀i,Nn i S (l.foldl (qz env) S)
 |[],_,S,hR,hB,_=>⟨hR,hB,Fr.refl _ _ _,λi=>fM _ _⟩
 |x::l,tS,S,hR,hB,h=>by simp only[cA,aC]at h;obtain⟨h1,h2,h3,h4⟩:=sS hR hB h.1;obtain⟨k1,k2,k3,k4⟩:=aeO l h1 h2 (aR.2 λy hy=>Xc (aR.1 h.2 y hy));refine⟨k1,k2,h3.trans k3,λi=>⟨bz (h4 i).1 (k4 i).1,λj hj hn=>(k4 i).2 j hj ((h4 i).2 j hj hn)⟩⟩
theorem aam(hR:bL ι lG tS env S){v:TV}{d:DV}(h:RT ι S v d):RT ι S (FQ tS v) (iD S d):=by
 cases v
 case so g t=>
  simp only[FQ];split;rename_i t' e l z hg;split;rename_i ht;obtain⟨id,ds,rfl,m1,m2,m3,m4,m5,m6⟩:=FO hR hg h ht;subst ht;cases z with
  |true=>rw[PF m3 m5 m6];simp only[RT,pq,and_true];exact xl m6 m4
  |false=>
   have:iD S (.jl id l.length t'.agg)=.jl id l.length t'.agg:=by simp only[iD,m3]
   rw[this];exact h
  simp only[RT];simp only[RT]
 case unk=>simp only[FQ,RT]
 all_goals
  cases d<;>simp only[RT]at h;simp only[FQ,iD,RT];exact h
theorem KP(hR:bL ι lG tS env S):∀{l:cn}{m:cj},cz ι S l m->cz ι S (l.map (FQ tS)) (m.map (iD S))
 |[],m,h=>by rw[aN h];exact bH
 |a::l,m,h=>by obtain⟨d,m',rfl,h1,h2⟩:=ax h;exact aO (aam hR h1) (KP hR h2)
theorem adw(hR:bL ι te tS env S)(hB:nM B tS)(h:Ml ty te tS o=some (lG,gZ)):bL ι lG gZ (Fb ty o env S).1 (Fb ty o env S).2/\nM B gZ/\Fr B ι S ι (Fb ty o env S).2/\Nn S.length S (Fb ty o env S).2:=by unfold Ml at h;unfold Fb;split at h;rename_i hh;split at h;rename_i jU;cases h;obtain⟨h1,h2,h3,h4⟩:=aeO (env:=env) _ hR hB jU;simp only[hh];exact⟨⟨KP h1 h1.env,h1.cells,h1.own,h1.qc,h1.inj,h1.mp⟩,h2,h3,h4 _⟩;cases h;rename_i hh;cases h;simp only[];exact⟨hR,hB,Fr.refl _ _ _,fM _ _⟩
theorem ko{k:Nat}(ho:ops[k]? =some o)(hw:dI ops te o=some true)(hp:Ml ty te tS o=some (lG,gZ)){Q:cn->cp->Prop}{K:TV->cn->cp->cM->Prop}(hd:Does P ty aD call yf B o gZ.length lG gZ false K)
  (h:∀v bO bI ft,K v bO bI ft->WL P ty aD call yf B ops (k+1) (jI bO o.dst v) bI Q):WL P ty aD call yf B ops k te tS Q:=by
 intro ι env S hR hB;obtain⟨L6,Qu,hF1,hN1⟩:=adw (o:=o) hR hB hp;generalize vz:Fb ty o env S=pr at L6 hF1 hN1;obtain⟨nw,S1⟩:=pr;obtain⟨w,hwk⟩:=Mz L6;obtain⟨d,S',ι',w',v,bO,bI,f,ft,h1,-,-,-,h5,h6,-,-,h9,vE,FJ,TQ⟩:=hd ι w nw S1 S1.length L6 Qu hwk (.inr rfl) (.inr rfl) (λe=>ar);obtain⟨aK,wq,ι'',s5,s6,k1,k2,k3,k4,k5,k6⟩:=h v bO bI ft TQ ι' (jN nw o.dst d) S' (nO h5 h6 _) vE;refine⟨aK,wq,ι'',s5,s6,?_,k2,k3,(hF1.trans h9).trans k4,tT hN1 (tT FJ k5),k6⟩;rw[nS ho];simp only[Hr,gW hR.env hw,if_true,vz,h1 rfl,k1]
end Go.Tv
namespace Go.Tv
open Go Go.Di Go.Proofs
variable {P:Program} {ty:fo} {tt:TypeId->cy} {ι ι' w:kB} {S S':aj} {te lG:cn} {env:cj} {tS gZ:cp} {aD:bR} {call:aY} {yf:di} {o:Oper} {aB nT:Nat} {B:cx} {ops:Array Oper}
def abS(call:aY)(g:FuncId)(targs:cn)(e:TypeId)(Q:TV->Prop):Prop:=
 ∀bT,cz gC [] targs bT->∃rows r t Jk,YS (call g bT [])=some (rows,r)/\(r=some (e,t.size)\/r=none/\Jk=[])/\dZ (CR t) t.agg Jk rows/\Q (.sl t Jk .no)
theorem N5{f:Operand}{args:Array Operand}{argTypes:Array TypeId}{g:FuncId}{fs cs xs targs:cn}{e:TypeId}{Q:TV->Prop}(hop:o.op=.call {callee:=.value f,args,argTypes})(hh:ty.h o=1)(hf:fe te f=some (.fn g fs cs))(ha:kP te args.toList=some xs)(hp:(fs++xs++cs).all dY=true)
  (hn:bK (fJ tt fs argTypes) (fs++xs++cs)=targs) (hs:abS call g targs e Q):Does P ty aD call yf B o nT te tS true λv bO bI ft=>∃t Jk,Q (.sl t Jk .no)/\v=.sl t Jk (.o5 nT)/\bO=te/\bI=nu tS nT (.own e t.size)/\ft=⟨some [nT],true⟩:=by
 intro ι w env S aB hR hB hw hT CN hS;obtain⟨wm,iq,FC,k1,k2,k3⟩:=gY hR.env hf ha;obtain⟨k4,k5⟩:=jj (ts:=fJ tt fs argTypes) (ι':=gC) (S':=[]) hp k3;rw[hn]at k5;obtain⟨rows,r,t,Jk,m1,hr,m2,m3⟩:=hs _ k5;have hno:=hS rfl;have hlt:=(aI.1 hno).1;have Y2:∀b,eE S aB b=S.set aB b:=λb=>by unfold eE;rw[if_pos hlt]
 rcases hr with rfl|⟨rfl,rfl⟩
 rotate_left
 have hz:S.set aB .none=S:=U8 hno;refine⟨.sl [] none ⟨true,none⟩,S,ι,upd w aB nT,.sl t [] (.o5 nT),te,_,⟨some [aB],true⟩,⟨some [nT],true⟩,λhd=>bc,λ_=>?_,⟨λh=>h,λl hl=>⟨[aB],rfl,λj hj=>⟨nT,by cases hl;simp,?_⟩⟩⟩,λl m _ hm j hj=>.inl ?_,Ew hR hT,?_,?_,λ_ j hj=>by simp only[upd,hj,if_false],Fr.refl _ _ _,iZ hB hT,fM _ _,t,[],m3,rfl,rfl,rfl,rfl⟩;simp only[aH,hop,k1,k2,if_pos hh,vH,hno,TX,k4,if_true,m1,az,hz];simp only[bQ]at hj;subst hj;simp only[upd,if_true]
 grind
 simp only[RT];exact⟨trivial,.inl ⟨rfl,rfl,rfl⟩⟩;intro a b o7;unfold upd;rw[if_neg (hR.dx CN o7)];exact hw _ _ o7;have jM:=Bu hR hT CN e t.size rows.length;rw[Y2]at jM;have hfr:=rC (b:=.tail e t.size (rows.length*t.size)) (ι:=ι) CN (mC hB hT);have TD:=nQ (b:=.tail e t.size (rows.length*t.size)) CN;rw[Y2]at hfr TD;refine⟨.sl rows (some aB) ⟨false,none⟩,S.set aB (.tail e t.size (rows.length*t.size)),upd ι nT aB,upd w aB nT,.sl t Jk (.o5 nT),te,_,⟨some [aB],true⟩,⟨some [nT],true⟩,λhd=>bc,λ_=>?_,⟨λh=>h,λl hl=>⟨[aB],rfl,λj hj=>⟨nT,by cases hl;simp,?_⟩⟩⟩,λl m _ hm j hj=>.inl ?_,jM,?_,pK hR CN hT hw,λ_ j hj=>by simp only[upd,hj,if_false],hfr,iZ hB hT,TD,t,Jk,m3,rfl,rfl,rfl,rfl⟩;simp only[aH,hop,k1,k2,if_pos hh,vH,hno,TX,k4,if_true,m1,az];simp only[bQ]at hj;subst hj;simp only[upd,if_true]
 grind
 simp only[RT];exact⟨m2,.inr ⟨aB,e,t.size,by simp[upd],rfl,by rw[aM,if_pos rfl,if_pos hlt]⟩⟩
def ai0(ty:fo)(rs:List ResultVar)(e:TypeId)(Q:TV->Prop)(ex:DX)(te:cn)(tS:cp):Prop:=
 (match ex with|.exit _=>False|_=>True)/\∃t Jk g,wB ty te tS rs=some [.sl t Jk (.o5 g)]/\tS[g]? =some (.own e t.size)/\Q (.sl t Jk .no)
end Go.Tv
namespace Go.Tv
open Go Go.Di Go.Proofs
variable {P:Program} {ty:fo} {tt:TypeId->cy} {ι ι' w:kB} {S S':aj} {te:cn} {env:cj} {tS:cp} {aD:bR} {call:aY} {yf:di} {o:Oper} {aB nT:Nat} {B L:cx}
def loc:cx->Nat->Option Nat
 |[],_=>none
 |a::l,k=>if a=k then some 0 else(loc l k).map (·+1)
theorem Xo{a k:Nat}{l:cx}:loc (a::l) k=if a=k then some 0 else(loc l k).map (·+1):=rfl
theorem iH:∀{L:cx}{k j:Nat},loc L k=some j->L[j]? =some k
 |[],_,_,h=>ao
 |a::l,k,j,h=>by
  unfold loc at h;split at h
  grind
  simp only[af]at h;obtain⟨i,h1,rfl⟩:=h;simpa using iH h1
theorem uM:∀{L:cx}{k:Nat},k∈L->∃j,loc L k=some j
 |[],_,h=>ao
 |a::l,k,h=>by unfold loc;by_cases e:a=k;exact⟨0,if_pos e⟩;obtain⟨j,hj⟩:=uM (L:=l) (k:=k) ((aX.1 h).resolve_left λh=>e h.symm);exact⟨j+1,by rw[if_neg e,hj];rfl⟩
theorem yN{L:cx}{k:Nat}(h:loc L k=none):k∉L:=λhk=>by obtain⟨j,hj⟩:=uM hk;rw[hj]at h;cases h
def Tt(ρ:Nat->Option Nat):TV->Option TV
 |.ptr k off=>(ρ k).map λj=>.ptr j off
 |v=>if jZ v then some v else none
def zx(ρ:Nat->Option Nat):cn->Option cn
 |[]=>some []
 |v::l=>match Tt ρ v,zx ρ l with
  |some a,some b=>some (a::b)
  |_,_=>none
def aft:TT:=.pair (.int .i64) (.pair (.int .i64) (.pair (.int .i64) .unit))
def Og(ρ:Nat->Option Nat):TV->Option TV
 |.fn g a b=>match zx ρ a,zx ρ b with
  |some x,some y=>some (.fn g x y)
  |_,_=>none
 |.jo=>some (.sl aft [] .no)
 |v=>Tt ρ v
def CW(ρ:Nat->Option Nat):cn->Option cn
 |[]=>some []
 |v::l=>match Og ρ v,CW ρ l with
  |some a,some b=>some (a::b)
  |_,_=>none
def qn:TV->Bool
 |.sl _ _ (.stop _)=>true
 |_=>false
def BT(ρ:Nat->Option Nat):cn->Option cn
 |[]=>some []
 |v::l=>match qn v with
  |true=>if jZ v&&l.all jZ then some (v::l)else none
  |false=>match Og ρ v,BT ρ l with
   |some a,some b=>some (a::b)
   |_,_=>none
theorem Wx{ρ:Nat->Option Nat}{v:TV}(h:jZ v=true):Og ρ v=some v:=by cases v<;>first|(cases h;done)|(simp only[Og,Tt,h,if_true])
theorem Gh{ρ:Nat->Option Nat}:∀{l:cn},l.all jZ=true->CW ρ l=some l
 |[],_=>rfl
 |v::l,h=>by simp only[cA,aC]at h;simp only[CW,Wx h.1,Gh h.2]
theorem HL{ρ:Nat->Option Nat}:∀{l l':cn},BT ρ l=some l'->CW ρ l=some l'
 |[],_,h=>h
 |v::l,l',h=>by simp only[BT]at h;split at h;split at h;rename_i hp;cases h;exact Gh (by rw[cA];exact hp);cases h;split at h;rename_i a b e1 e2;cases h;simp only[CW,e1,HL e2];cases h
def rnA(ρ:Nat->Option Nat)(t:cy):TV->Option TV
 |.ptr k off=>(ρ k).map λj=>.ptr j off
 |.fn g a b=>Og ρ (.fn g a b)
 |v=>if dY v then some (jX t v)else none
def s7(ρ:Nat->Option Nat):List cy->cn->Option cn
 |_,[]=>some []
 |[],v::l=>match rnA ρ none v,s7 ρ [] l with
  |some a,some b=>some (a::b)
  |_,_=>none
 |t::ts,v::l=>match rnA ρ t v,s7 ρ ts l with
  |some a,some b=>some (a::b)
  |_,_=>none
theorem GK{v:TV}(h:jZ v=true):refs v=[]:=by
 cases v<;>first|(cases h;done)|skip
 rfl;rename_i t l ap;cases ap<;>first|(cases h;done)|rfl
section
variable {ρ:Nat->Option Nat} (hρ:∀k j,ρ k=some j->ι' j=ι k)
include hρ
theorem Vb{v v':TV}{d:DV}(h:Tt ρ v=some v')(hv:RT ι S v d):RT ι' S' v' d:=by unfold Tt at h;split at h;simp only[af]at h;obtain⟨j,h1,rfl⟩:=h;cases d<;>simp only[RT]at hv⊢;exact⟨(hρ _ _ h1).trans hv.1,hv.2⟩;split at h;rename_i hp;cases h;exact oq _ _ (GK hp) hv;cases h
theorem Ik:∀{l l':cn}{m:cj},zx ρ l=some l'->cz ι S l m->cz ι' S' l' m
 |[],l',m,h,hv=>by cases h;rw[aN hv];exact bH
 |v::l,l',m,h,hv=>by obtain⟨d,m',rfl,h1,h2⟩:=ax hv;simp only[zx]at h;split at h;rename_i a b e1 e2;cases h;exact aO (Vb hρ e1 h1) (Ik e2 h2);cases h
theorem Vc{v v':TV}{d:DV}(h:Og ρ v=some v')(hv:RT ι S v d):RT ι' S' v' d:=by unfold Og at h;split at h;split at h;rename_i x y e1 e2;cases h;cases d<;>simp only[RT]at hv⊢;exact⟨hv.1,Ik hρ e1 hv.2.1,Ik hρ e2 hv.2.2⟩;cases h;cases h;cases d<;>simp only[RT]at hv⊢;obtain⟨rfl,-,-⟩:=hv;exact⟨trivial,trivial⟩;exact Vb hρ h hv
theorem Pa:∀{l l':cn}{m:cj},CW ρ l=some l'->cz ι S l m->cz ι' S' l' m
 |[],l',m,h,hv=>by cases h;rw[aN hv];exact bH
 |v::l,l',m,h,hv=>by obtain⟨d,m',rfl,h1,h2⟩:=ax hv;simp only[CW]at h;split at h;rename_i a b e1 e2;cases h;exact aO (Vc hρ e1 h1) (Pa e2 h2);cases h
theorem O9{l l':cn}{m:cj}(h:BT ρ l=some l')(hv:cz ι S l m):cz ι' S' l' m:=Pa hρ (HL h) hv
theorem Vd{t:cy}{v v':TV}{d:DV}(h:rnA ρ t v=some v')(hv:RT ι S v d):RT ι' S' v' d:=by unfold rnA at h;split at h;simp only[af]at h;obtain⟨j,h1,rfl⟩:=h;cases d<;>simp only[RT]at hv⊢;exact⟨(hρ _ _ h1).trans hv.1,hv.2⟩;exact Vc hρ h hv;split at h;rename_i hp;cases h;exact rX hp hv;cases h
theorem Il:∀{ts:List cy}{l l':cn}{m:cj},s7 ρ ts l=some l'->cz ι S l m->cz ι' S' l' m
 |_,[],l',m,h,hv=>by simp only[s7]at h;cases h;rw[aN hv];exact bH
 |[],v::l,l',m,h,hv=>by obtain⟨d,m',rfl,h1,h2⟩:=ax hv;simp only[s7]at h;split at h;rename_i a b e1 e2;cases h;exact aO (Vd hρ e1 h1) (Il e2 h2);cases h
 |t::ts,v::l,l',m,h,hv=>by obtain⟨d,m',rfl,h1,h2⟩:=ax hv;simp only[s7]at h;split at h;rename_i a b e1 e2;cases h;exact aO (Vd hρ e1 h1) (Il e2 h2);cases h
end
def Jq(ρ:Nat->Option Nat)(tS:cp):cx->Option (List cn)
 |[]=>some []
 |k::l=>match tS[k]? with
  |some (.cells c)=>match BT ρ c,Jq ρ tS l with
   |some a,some b=>some (a::b)
   |_,_=>none
  |_=>none
theorem yG{ρ:Nat->Option Nat}:∀{L:cx}{tP:List cn},Jq ρ tS L=some tP->tP.length=L.length/\∀(j k:Nat),L[j]? =some k->∃c c',tS[k]? =some (TB.cells c)/\BT ρ c=some c'/\tP[j]? =some c'
 |[],tP,h=>by cases h;exact⟨rfl,ab⟩
 |a::L,tP,h=>by
  simp only[Jq]at h;split at h;rename_i c hc;split at h;rename_i x y e1 e2;cases h;obtain⟨h1,h2⟩:=yG e2;refine⟨by simp[h1],λj k hj=>?_⟩;cases j with
  |zero=>grind
  |succ j=>simpa using h2 j k (by simpa using hj)
  cases h;cases h
def FZ(call:aY)(g:FuncId)(targs:cn)(tP:List cn)(Q:TV->List cn->Prop):Prop:=
 ∀ι bT S,bL ι targs (tP.map .cells) bT S->∃d S' ι' v G5,call g bT S=some (d,S')/\RT ι' S' v d/\Bf v=true/\G5.length=tP.length/\H7 ι' S' (G5.map .cells)/\Fr (List.range tP.length) ι S ι' S'/\Nn S.length S S'/\Q v G5
theorem FZ.mono {g:FuncId}{targs:cn}{tP:List cn}{Q Q':TV->List cn->Prop}(h:FZ call g targs tP Q)(hq:∀v t,Q v t->Q' v t):FZ call g targs tP Q':=λι bT S hd=>by obtain⟨d,S',ι',v,G5,h1,h2,h3,h4,h5,h6,h7,h8⟩:=h ι bT S hd;exact⟨d,S',ι',v,G5,h1,h2,h3,h4,h5,h6,h7,hq _ _ h8⟩
def vw(L:cx)(ι:kB):kB:=λj=>(L[j]?).bind ι
def nodupB:cx->Bool
 |[]=>true
 |a::l=>!l.contains a&&nodupB l
theorem DO:∀{L:cx}{i j k:Nat},nodupB L=true->L[i]? =some k->L[j]? =some k->i=j
 |[],_,_,_,_,h,_=>by simp at h
 |a::L,0,0,_,_,_,_=>rfl
 |a::L,0,j+1,k,hn,hi,hj=>by simp only[nodupB,aC,nY]at hn;simp only[dB,aF]at hi;subst hi;have:=bV (show L[j]? =some a by simpa using hj);simp[this]at hn
 |a::L,i+1,0,k,hn,hi,hj=>by simp only[nodupB,aC,nY]at hn;simp only[dB,aF]at hj;subst hj;have:=bV (show L[i]? =some a by simpa using hi);simp[this]at hn
 |a::L,i+1,j+1,k,hn,hi,hj=>by simp only[nodupB,aC]at hn;rw[DO (i:=i) (j:=j) hn.2 (by simpa using hi) (by simpa using hj)]
theorem tW{k j:Nat}(h:loc L k=some j):vw L ι j=ι k:=by simp[vw,iH h]
theorem Z0(hR:bL ι te tS env S){tP:List cn}{targs:cn}{bT:cj}(hn:nodupB L=true)(hb:Jq (loc L) tS L=some tP)(ha:cz (vw L ι) S targs bT):bL (vw L ι) targs (tP.map .cells) bT S:=by
 obtain⟨hl,hg⟩:=yG hb;refine⟨ha,λj l hj=>?_,λj e s hj=>?_,λj k' hj=>?_,λi j k' hi hj=>?_,λj b hj t _=>?_⟩;simp only[cI,af,TB.cells.injEq]at hj;obtain⟨c',h1,rfl⟩:=hj;have hlt:j<L.length:=hl▸(aI.1 h1).1;have BP:L[j]? =some L[j]:=bn hlt;obtain⟨c,c2,k1,k2,k3⟩:=hg j _ BP;rw[h1]at k3;cases k3;obtain⟨k',ds,m1,m2,m3⟩:=hR.cells _ _ k1;exact⟨k',ds,by simp[vw,BP,m1],m2,O9 (λk j h=>tW h) k2 m3⟩;simp at hj;unfold vw at hj;cases BP:L[j]? with
 |none=>rw[BP]at hj;cases hj
 |some k=>grind
 unfold vw at hi hj;cases Te:L[i]? with
 |none=>rw[Te]at hi;cases hi
 |some a=>
  cases BP:L[j]? with
  |none=>rw[BP]at hj;cases hj
  |some b=>rw[Te]at hi;rw[BP]at hj;obtain rfl:=hR.inj a b k' hi hj;exact DO hn Te BP
 simp only[cI,af]at hj;obtain⟨c,-,rfl⟩:=hj;trivial
def Hs(L:cx):List cn->Option (List cn)
 |[]=>some []
 |c::l=>match BT (λj=>L[j]?) c,Hs L l with
  |some a,some b=>some (a::b)
  |_,_=>none
theorem DF:∀{tP tB:List cn},Hs L tP=some tB->tB.length=tP.length/\∀(j:Nat) c,tB[j]? =some c->∃c',tP[j]? =some c'/\BT (λj=>L[j]?) c'=some c
 |[],tB,h=>by cases h;exact⟨rfl,ab⟩
 |a::tP,tB,h=>by
  simp only[Hs]at h;split at h;rename_i x y e1 e2;cases h;obtain⟨h1,h2⟩:=DF e2;refine⟨by simp[h1],λj c hj=>?_⟩;cases j with
  |zero=>grind
  |succ j=>simpa using h2 j c (by simpa using hj)
  cases h
def xE:cx->List cn->cp->cp
 |k::L,c::tB,tS=>xE L tB (tS.set k (.cells c))
 |_,_,tS=>tS
theorem DG:∀{L:cx}{tB:List cn}{tS:cp}{k:Nat},nodupB L=true->tB.length=L.length->(∀k∈L,k<tS.length)->(xE L tB tS)[k]? =match loc L k with|some j=>(tB[j]?).map TB.cells|none=>tS[k]?
 |[],[],tS,k,_,_,_=>rfl
 |[],_::_,_,_,_,h,_=>by simp at h
 |_::_,[],_,_,_,h,_=>by simp at h
 |a::L,c::tB,tS,k,hn,hl,hlt=>by
  simp only[nodupB,aC,nY]at hn;unfold xE;rw[DG hn.2 (by simpa using hl) λk hk=>by simpa using hlt k (mH _ hk)];rw[Xo];by_cases e:a=k;subst e;have:loc L a=none:=by
   cases h:loc L a with
   |none=>rfl
   |some j=>have:=bV (iH h);simp[this]at hn
  simp[this,hlt a (gG ..)]
  grind
theorem N9{f:Operand}{args:Array Operand}{argTypes:Array TypeId}{g:FuncId}{fs cs xs targs:cn}{tP:List cn}{Q:TV->List cn->Prop}(hop:o.op=.call {callee:=.value f,args,argTypes})(hf:fe te f=some (.fn g fs cs))(ha:kP te args.toList=some xs)
  (CN:nodupB L=true) (hn:s7 (loc L) (fJ tt fs argTypes) (fs++xs++cs)=some targs) (hr:(fs++xs++cs).any isRef=true) (hb:Jq (loc L) tS L=some tP) (hs:FZ call g targs tP Q) (hq:∀v t,Q v t->∃tB,Hs L t=some tB):
  Does P ty aD call yf B o nT te tS false λv bO bI ft=>∃G5 tB,Q v G5/\Hs L G5=some tB/\bO=te/\bI=xE L tB tS/\ft=⟨none,true⟩:=by
 intro ι w env S aB hR hB hw hT QG hS;obtain⟨wm,iq,FC,k1,k2,k3⟩:=gY hR.env hf ha;obtain⟨hl,hg⟩:=yG hb;obtain⟨d,S',ι',v,G5,n1,n2,n3,n4,n5,n6,n7,n8⟩:=hs _ _ S (Z0 hR CN hb (Il (λk j h=>tW h) hn k3));obtain⟨tB,YI⟩:=hq _ _ n8;obtain⟨b1,b2⟩:=DF YI;have hlt:∀k∈L,k<tS.length:=λk hk=>by obtain⟨j,hj⟩:=uM hk;obtain⟨c,c',h1,-⟩:=hg j k (iH hj);exact(aI.1 h1).1
 have aS:∀k,(xE L tB tS)[k]? =match loc L k with|some j=>(tB[j]?).map TB.cells|none=>tS[k]? :=λk=>DG CN U hlt
 have tn:∀j,j<L.length->ι' j=vw L ι j:=λj hj=>n6.base j (by simp;omega);have kW:∀k k0,k∉L->ι k=some k0->S'[k0]? =S[k0]? :=by
  intro k k0 hk h0;refine n6.rest k0 (hR.live h0) λj hj=>?_;unfold vw at hj;cases BP:L[j]? with
  |none=>rw[BP]at hj;cases hj
  |some a=>rw[BP]at hj;obtain rfl:=hR.inj k a k0 h0 hj;exact hk (bV BP)
 have dw:∀k,k∈L->∃c k0 ds,tS[k]? =some (.cells c)/\ι k=some k0/\S[k0]? =some (.cells ds):=λk hk=>by obtain⟨j,hj⟩:=uM hk;obtain⟨c,c',h1,-⟩:=hg j k (iH hj);obtain⟨k0,ds,h2,h3,-⟩:=hR.cells k c h1;exact⟨c,k0,ds,h1,h2,h3⟩
 have K:iQ ι S ι S' λ_=>False:=λk k0 _ hk=>⟨hk,by by_cases FG:k∈L;obtain⟨c,k1,ds,h1,h2,h3⟩:=dw k FG;rw[h2]at hk;cases hk;exact uN (by rw[h3];simp) (by rw[h3];simp) (by rw[h3];simp);exact dm (kW k k0 FG hk)⟩;have Yx:=mb hr k3;have xy:refs v=[]:=by
  have:∀{u:TV},C7 u=true->refs u=[]:=λ{u} hu=>by
   cases u<;>first|(cases hu;done)|skip
   rfl;rename_i l;simp only[refs];simp only[C7]at hu;clear n2 n3 n8;induction l with
   |nil=>rfl
   |cons a l ih=>simp only[cA,aC]at hu;simp only[eL,GK hu.1,ih hu.2,iJ]
   rename_i t l ap;cases ap<;>first|(cases hu;done)|rfl
  clear n2 n8;cases v<;>first|exact this n3|skip
  rename_i l;simp only[refs];simp only[Bf]at n3;induction l with
  |nil=>rfl
  |cons a l ih=>simp only[cA,aC]at n3;simp only[eL,this n3.1,ih n3.2,iJ]
 refine⟨d,S',ι,w,v,te,xE L tB tS,⟨none,true⟩,⟨none,true⟩,λ_=>?_,λhd=>bc,⟨λe=>e,λl hl=>aE⟩,λl m hl=>aE,?_,oq _ _ xy n2,hw,λ_ _ _=>rfl,⟨λk0 hl hno=>n6.rest k0 hl λj hj=>?_,λk k0 hk=>.inl ⟨k,hk⟩,λ_ _=>rfl⟩,λk hk=>?_,⟨n7.1,λj hj dN=>?_⟩,G5,tB,n8,YI,rfl,rfl,rfl⟩;simp only[ah,hop,k1,k2,vO,Yx,aJ,if_false,n1];split<;>rfl;refine⟨bh K _ _ hR.env,λk l hk=>?_,λk e s hk t ht=>?_,λk k0 hk=>?_,hR.inj,λk b hk t ht=>?_⟩;rw[aS]at hk;split at hk;rename_i j hj;simp only[af,TB.cells.injEq]at hk;obtain⟨c,hc,rfl⟩:=hk;obtain⟨c',h1,h2⟩:=b2 j c hc;obtain⟨k',hU,m1,m2,m3⟩:=n5 j c' (by simp[h1]);have hjl:j<L.length:=(aI.1 (iH hj)).1;rw[tn j hjl,tW hj]at m1;refine⟨k',hU,m1,m2,O9 (ι:=ι') (ρ:=λj=>L[j]?) (λa b o7=>?_) h2 m3⟩;have hal:a<L.length:=(aI.1 o7).1;rw[tn a hal];simp[vw,o7];rename_i hno;obtain⟨k0,Mi,q1,q2,q3⟩:=hR.cells k l hk;exact⟨k0,Mi,q1,by rw[kW k k0 (yN hno) q1];exact q2,bh K _ _ q3⟩;rw[aS]at hk;split at hk;simp at hk;obtain⟨n,q1⟩:=hR.own k e s hk t ht;exact⟨n,(K k t (λe=>e) ht).2.1 _ _ _ q1⟩;rw[aS];split;rename_i j hj;have hjl:j<tB.length:=by have:=(aI.1 (iH hj)).1;omega
 exact⟨.cells tB[j],by simp[hjl],ab⟩;exact hR.qc k k0 hk;rw[aS]at hk;split at hk;simp only[af]at hk;obtain⟨c,-,rfl⟩:=hk;trivial;rename_i hno;rw[kW k t (yN hno) ht];exact hR.mp k b hk t ht;unfold vw at hj;cases BP:L[j]? with
 |none=>rw[BP]at hj;cases hj
 |some a=>rw[BP]at hj;exact hno _ hj
 rw[aS];split;rename_i j hj;have hjl:j<tB.length:=by have:=(aI.1 (iH hj)).1;omega
 exact⟨some tB[j],by simp[hjl,kX]⟩;exact hB k hk;have:=(aI.1 dN).1;exact n7.2 j U dN
end Go.Tv
