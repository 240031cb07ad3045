import Derived.Test.YtedcgbkilmlbhaaPk06
namespace Go.Tv
open Go Go.Di Go.Proofs
variable {P:Program} {ty:fR} {tt:TypeId->Option TT} {ι ι' w:kY} {S S':ai} {te mI:List TV} {env:List DV} {tS iM:List TB} {aK:bR} {call:bt} {yf:ej} {o:Oper} {aF nT:Nat} {B:List Nat} {ops:Array Oper}
theorem tf(h:bT ι te tS env S)(hT:yz tS nT)(hn:yA S aF){t:TT}{e:Nat}{l:List t.den}{ds:List DV}(h0:0<t.size)(h1:(t.agg||t.size==1)=true)(hf:fO t l ds):bT (upd ι nT aF) te (oG tS nT (.rows t e l false)) env (eU S aF (.op e t.size ds false)):=by
 have K:=rZ h hT hn (.op e t.size ds false);refine⟨bu K _ _ h.env,λk l hk=>?_,λk e s hk t ht=>?_,λk k' hk=>?_,λi j k' hi hj=>?_,λk b hk t0 ht=>?_⟩
 .rw[cV hT]at hk;split at hk;.cases hk
  rename_i e;obtain⟨k',iC,h1,h2,h3⟩:=h.cells k l hk;exact⟨k',iC,by simp only[upd,e,if_false];exact h1,by rw[bG hn,if_neg (h.ep hn h1)];exact h2,bu K _ _ h3⟩
 .rw[cV hT]at hk;split at hk;.cases hk
  rename_i e';simp only[upd,e',if_false]at ht;obtain⟨n,h1⟩:=h.own k e s hk t ht;exact⟨n,by rw[bG hn,if_neg (h.ep hn ht)];exact h1⟩
 .rw[cV hT];split;.exact⟨_,rfl,λe=>by cases e⟩
  rename_i e;simp only[upd,e,if_false]at hk;exact h.ql k k' hk
 .unfold upd at hi hj;split at hi<;>split at hj;.omega
  .cases hi;exact(h.ep hn hj rfl).elim
  .cases hj;exact(h.ep hn hi rfl).elim
  exact h.inj i j k' hi hj
 rw[cV hT]at hk;split at hk;.rename_i e';cases hk;simp only[upd,e',if_true,aB]at ht;subst ht;rw[bG hn,if_pos rfl];exact⟨h0,h1,ds,rfl,hf⟩
 rename_i e';simp only[upd,e',if_false]at ht;rw[bG hn,if_neg (h.ep hn ht)];exact h.mp k b hk t0 ht
theorem zW(h:bT ι te tS env S){g id:Nat}{t:TT}{e:Nat}{l l':List t.den}{ds iC:List DV}{z z':Bool}(hi:ι g=some id)(hg:tS[g]? =some (.rows t e l z))(hS:S[id]? =some (.op e t.size ds z))(hl:iC.length=ds.length)(h0:0<t.size)(h1:(t.agg||t.size==1)=true)(hf:fO t l' iC):bT ι te (tS.set g (.rows t e l' z')) env (S.set id (.op e t.size iC z')):=by
 have hlt:=(aA.1 hg).1;have Ct:=(aA.1 hS).1;have K:jy ι S ι (S.set id (.op e t.size iC z')) λ_=>False:=λa b _ qv=>⟨qv,by
  rw[aH];split;.rename_i e1;subst e1;rw[hS];exact⟨λ_ _ _ h=>(nomatch h),λe s l z h=>(by cases h;exact⟨iC,z',rfl,hl⟩),λ_ h=>(nomatch h)⟩
  exact dO rfl⟩
 have SK:∀j,(tS.set g (.rows t e l' z'))[j]? =if j=g then some (.rows t e l' z')else tS[j]? :=λj=>by
  rw[aH];by_cases e:j=g;.subst e;simp[hlt]
  rw[if_neg (Ne.symm e),if_neg e]
 have og:∀j,j≠id->(S.set id (.op e t.size iC z'))[j]? =S[j]? :=λj hj=>by rw[aH,if_neg (Ne.symm hj)]
 refine⟨bu K _ _ h.env,λj m hj=>?_,λj e s hj t ht=>?_,λj j' hj=>?_,h.inj,λj b hj t0 ht=>?_⟩
 .rw[SK]at hj;split at hj;.cases hj
  rename_i e;obtain⟨j',Mw,h1,h2,h3⟩:=h.cells j m hj;exact⟨j',Mw,h1,by rw[og j' λe1=>e (h.inj _ _ _ (e1▸h1) hi)];exact h2,bu K _ _ h3⟩
 .rw[SK]at hj;split at hj;.cases hj
  obtain⟨n,h1⟩:=h.own j e s hj t ht;exact⟨n,(K j t (λe=>e) ht).2.1 _ _ _ h1⟩
 .rw[SK];split;.exact⟨_,rfl,by simp⟩
  exact h.ql j j' hj
 rw[SK]at hj;split at hj;.rename_i e;subst e;cases hj;rw[hi]at ht;cases ht;rw[aH,if_pos rfl,if_pos Ct];exact⟨h0,h1,iC,rfl,hf⟩
 rename_i e;rw[og t0 λe1=>e (h.inj _ _ _ (e1▸ht) hi)];exact h.mp j b hj t0 ht
theorem aaR{g:Nat}{b:TB}{x:Option DB}(h:adv b x):adv (qp g b) x:=by cases b<;>exact h
theorem XS{g:Nat}{b:TB}:qp g b=.none->b=.none:=by cases b<;>simp[qp]
theorem FN(h:bT ι te tS env S){g id:Nat}{t:TT}{e:Nat}{l l':List t.den}{ds iC:List DV}{z:Bool}(hi:ι g=some id)(hg:tS[g]? =some (.rows t e l z))(hS:S[id]? =some (.op e t.size ds z))(h0:0<t.size)(h1:(t.agg||t.size==1)=true)(hf:fO t l' iC):bT ι (kB g te) ((tS.map (qp g)).set g (.rows t e l' false)) env (S.set id (.op e t.size iC false)):=by
 have hlt:=(aA.1 hg).1;have Ct:=(aA.1 hS).1;have og:∀j,j≠id->(S.set id (.op e t.size iC false))[j]? =S[j]? :=λj hj=>by rw[aH,if_neg (Ne.symm hj)]
 have K:jy ι S ι (S.set id (.op e t.size iC false)) λk=>k=g:=λa b ha qv=>⟨qv,dO (og b λe1=>ha (h.inj _ _ _ (e1▸qv) hi))⟩;have SK:∀j b,((tS.map (qp g)).set g (.rows t e l' false))[j]? =some b->(j=g/\b=.rows t e l' false)\/(j≠g/\∃b0,tS[j]? =some b0/\b=qp g b0):=λj b hj=>by
  rw[aH]at hj;split at hj;.rename_i e1;subst e1;rw[if_pos (by simpa using hlt)]at hj;cases hj;exact .inl ⟨rfl,rfl⟩
  rename_i e1;simp only[cM,af]at hj;obtain⟨b0,h2,h3⟩:=hj;exact .inr ⟨λe=>e1 e.symm,b0,h2,h3.symm⟩
 refine⟨nB K _ _ h.env,λj m hj=>?_,λj e s hj t ht=>?_,λj j' hj=>?_,h.inj,λj b hj t0 ht=>?_⟩
 .rcases SK j _ hj with ⟨-,e1⟩|⟨hne,b0,h2,h3⟩;.cases e1
  cases b0<;>simp only[qp]at h3<;>first|(cases h3;done)|skip
  cases h3;obtain⟨j',Mw,k1,k2,k3⟩:=h.cells j _ h2;exact⟨j',Mw,k1,by rw[og j' λe1=>hne (h.inj _ _ _ (e1▸k1) hi)];exact k2,nB K _ _ k3⟩
 .rcases SK j _ hj with ⟨-,e1⟩|⟨hne,b0,h2,h3⟩;.cases e1
  cases b0<;>simp only[qp]at h3<;>first|(cases h3;done)|skip
  cases h3;obtain⟨n,k1⟩:=h.own j _ _ h2 t ht;exact⟨n,(K j t hne ht).2.1 _ _ _ k1⟩
 .rw[aH];split;.rename_i e1;rw[if_pos (by simpa using hlt)];exact⟨_,rfl,by simp⟩
  obtain⟨b,h2,h3⟩:=h.ql j j' hj;exact⟨qp g b,by rw[cM,h2];rfl,λe1=>h3 (XS e1)⟩
 rcases SK j _ hj with ⟨rfl,rfl⟩|⟨hne,b0,h2,rfl⟩;.rw[hi]at ht;cases ht;rw[aH,if_pos rfl,if_pos Ct];exact⟨h0,h1,iC,rfl,hf⟩
 rw[og t0 λe1=>hne (h.inj _ _ _ (e1▸ht) hi)];exact aaR (h.mp j b0 h2 t0 ht)
theorem Lz{g:Nat}{t t':TT}{e e':Nat}{l:List t.den}{l':List t'.den}{z z':Bool}(hB:oE B tS)(hl:tS[g]? =some (.rows t e l z)):oE B (tS.set g (.rows t' e' l' z')):=λk hk=>by
 obtain⟨c,hc⟩:=hB k hk;refine⟨c,?_⟩;rw[aH,if_neg];.exact hc
 rintro rfl;rw[hl]at hc;cases c<;>cases hc
theorem LB{g:Nat}{t t':TT}{e e':Nat}{l:List t.den}{l':List t'.den}{z z':Bool}(hB:oE B tS)(hl:tS[g]? =some (.rows t e l z)):oE B ((tS.map (qp g)).set g (.rows t' e' l' z')):=λk hk=>by
 obtain⟨c,hc⟩:=hB k hk;refine⟨c.map (kB g),?_⟩;rw[aH,if_neg];.rw[cM,hc];cases c<;>rfl
 rintro rfl;rw[hl]at hc;cases c<;>cases hc
theorem Gz:∀{S:ai}{i:Nat}{b:DB},S[i]? =some b->S.set i b=S
 |[],_,_,h=>by simp at h
 |_::_,0,_,h=>by simp only[bY,aB]at h;rw[h];rfl
 |a::l,n+1,b,h=>by rw[List.set_cons_succ,Gz (by simpa using h)]
theorem E1{g:Nat}{iM:List TB}(h:Um ty tt te tS o=some (g,iM))(dr:Bool):Does P ty aK call yf B o nT te tS dr λv' bX bN ft=>v'=.unk/\bX=te/\bN=iM/\ft=⟨some [g],true⟩:=by
 intro ι w env S aF hR hB hw hT hn hS;unfold Um at h;split at h
 rotate_left
 .cases h
 rename_i t a x ho;split at h
 rotate_left
 .cases h
 rename_i td g' k i off v h1 h2 h3;split at h
 rotate_left
 .cases h
 rename_i e l h4;split at h
 rotate_left
 .cases h
 rename_i hc;simp only[aC,dX]at hc;obtain⟨c1,c2⟩:=hc;split at h
 rotate_left
 .cases h
 rename_i cs h5;split at h
 rotate_left
 .cases h
 rename_i y h6;cases h;have hg:=lJ h4;obtain⟨d,k1,k2⟩:=bE hR.env h2;obtain⟨id,ds,rfl,m1,m2,m3,m4,m5,m6,m7⟩:=abt hR hg k2;simp only[af]at h3;obtain⟨u,h7,h8⟩:=h3;obtain⟨dv,k4,k5⟩:=bE hR.env h7;have k6:=cZ (tt:=tt) (t:=t) k5;rw[h8]at k6;have k7:=uQ (Lg c1) k6;obtain⟨pre,c,post,rfl,q1,q2,q3⟩:=xY m4 m5;obtain⟨c',r1,r2⟩:=IU (rT (ι:=ι) (S:=S) q2) k7 h5;have hst:=Ji c1 k6;obtain⟨cc,m',e1,e2,e3⟩:=Ga h6 r2;rw[aR e3,dZ]at e1;subst e1;have hle:off+dv.cells.length<=c.length:=by
  unfold wA at r1;split at r1;.assumption
  cases r1
 have hc':c'=c.take off++dv.cells++c.drop (off+dv.cells.length):=by unfold wA at r1;rw[if_pos hle]at r1;exact(cA r1).symm
 have hlen:dv.strip.cells.length=dv.cells.length:=by rw[hst];simp
 have pH:wA c off dv.strip.cells=some (c.take off++dv.strip.cells++c.drop (off+dv.cells.length)):=by unfold wA;rw[hlen,if_pos hle]
 have hm:(c.take off++dv.strip.cells++c.drop (off+dv.cells.length)).map DV.aO=c'.map DV.aO:=by rw[hc',hst];simp only[dY,qF];congr 2;exact List.map_congr_left λd _=>FM d
 have hpa:=vK e2;have Ta:dv.strip.cells.all DV.ck=true:=by rw[hc',dY,dY,oV,oV,<-hst]at hpa;simp only[aC]at hpa;exact hpa.1.2
 have QB:=vK q2;have hcr:CR k y (c.take off++dv.strip.cells++c.drop (off+dv.cells.length)):=by refine Eu (by rw[hm];exact e2) ?_;rw[oV,oV,Ta];simp only[sS,aC,aX]at QB⊢;exact⟨λd hd=>QB d (zf hd),λd hd=>QB d (List.mem_of_mem_drop hd)⟩
 have hsz:dv.strip.cells.length=td.size:=by rw[hlen,gE k7];exact c2
 have Cr:pX ty S t (.gu id l.length (i*k.size+off)) dv=some (S.set id (.op e k.size (pre++(c.take off++dv.strip.cells++c.drop (off+dv.cells.length))++post) false)):=by simp only[pX,h1,m3,hsz,Ta,decide_true,fT,if_true];rw[<-q1,WS pH];rfl
 have qS:(pre++(c.take off++dv.strip.cells++c.drop (off+dv.cells.length))++post).length=(pre++c++post).length:=by simp only[bU,List.length_take,List.length_drop,hlen];omega
 refine⟨bF,_,ι,w,.unk,te,_,⟨some [id],true⟩,⟨some [g],true⟩,λ_=>?_,λ_=>?_,⟨λe=>e,λl' iN=>?_⟩,λl' m _ hm j hj=>?_,zW hR m1 hg m2 qS m6 m7 (q3 y _ hcr),by simp only[RT],hw,λ_ _ _=>rfl,AD m1,Lz hB hg,Ay m2 (λe=>by cases e),rfl,rfl,rfl,rfl⟩;.simp only[ah,ho,k1,k4,Cr,ay]
 .simp only[aM,ho,k1,ah,k4,Cr,ay]
 .cases iN;exact⟨[id],rfl,λj hj=>⟨g,by simp,by simp only[bI]at hj;rw[hj];exact hw _ _ m1⟩⟩
 cases hm;simp only[bI]at hj;exact .inr ⟨g,hj▸m1⟩
theorem Oc{v:TV}{mI:List TV}{iM:List TB}{c:Prop}(h:Ul ty tt te tS o nT=some (v,mI,iM,c))(hc:c):Does P ty aK call yf B o nT te tS false λv' bX bN _=>v'=v/\bX=mI/\bN=iM:=by
 intro ι w env S aF hR hB hw hT hn hS;unfold Ul at h;split at h
 .rename_i t a b ho;split at h
  rotate_left
  .cases h
  rename_i e s lR agg sz z0 n m k h1 h2 h3 h4;split at h
  rotate_left
  .cases h
  rename_i k0 sz' z h5;split at h
  rotate_left
  .cases h
  rename_i x h6;split at h
  rotate_left
  .cases h
  rename_i Tl;cases h;simp only[aC,cq,dX]at Tl;obtain⟨⟨⟨⟨c1,c2⟩,c3⟩,c4⟩,c5⟩:=Tl;obtain⟨rfl,d2,d3⟩:=hc;obtain⟨cc,m',e1,e2,e3⟩:=Ga h6 (vA (ι:=ι) (S:=S) z);rw[aR e3,dZ]at e1;subst e1;have hi1:intOf (jr env) a=some m:=qE hR.env h2;have hi2:intOf (jr env) b=some m:=qE hR.env h3;have h0:0<k.size:=by omega
  have h01:(k.agg||k.size==1)=true:=by rw[c3,c2];exact c4
  have hb:m.toNat*lR<=fQ:=by
   have:m.toNat<=1000000000:=by omega
   calc m.toNat*lR<=1000000000*100000:=Nat.mul_le_mul this c5
    _<=fQ:=by decide
  have mP:=tf hR hT hn h0 h01 (e:=e) (El e2 m.toNat);rw[c2]at mP;refine⟨.jS aF m.toNat agg,eU S aF (.op e s (List.replicate m.toNat (z.map DV.aO)).flatten false),upd ι nT aF,upd w aF nT,.so nT k,te,_,⟨none,true⟩,⟨none,true⟩,λ_=>?_,λhd=>(by cases hd),⟨λe=>e,λl hl=>(by cases hl)⟩,λl m hl=>(by cases hl),mP,?_,qz hR hn hT hw,λhd=>(by cases hd),sI hn (nE hB hT),kO hB hT,oN hn,rfl,rfl,rfl⟩;.have hpz:=vK e2;simp only[ah,ho,h1,hi1,hi2,h5,d2,c1,c4,hb,hpz,decide_true,fT,if_true,show m<=140737488355328-4096 by omega]
  simp only[RT,upd,if_true];refine⟨trivial,c3.symm,e,s,_,false,by rw[bG hn,if_pos rfl],?_⟩;have:=iV (El e2 m.toNat);rw[this,List.length_replicate,c2]
 .rename_i t n ps ho;split at h
  rotate_left
  .cases h
  rename_i hh;split at h
  rotate_left
  .cases h
  rename_i e s lR agg sz z0 l k h1 h2 h3;split at h
  rotate_left
  .cases h
  rename_i k0 sz' z h4;split at h
  rotate_left
  .cases h
  rename_i Tl;simp only[aC,dX,gY,cq]at Tl;obtain⟨⟨⟨⟨⟨⟨c1,c2⟩,c3⟩,c4⟩,c5⟩,c6⟩,c7⟩:=Tl;simp only[af,az]at h;obtain⟨w0,h5,rfl,rfl,rfl,-⟩:=h;obtain⟨ds,k1,k2⟩:=rX hR.env h2;obtain⟨k3,k4⟩:=Er k2 h5;have hlen:ds.length=n:=by rw[A0 k2,c3]
  have acY:((List.replicate n z).flatten).length=ds.length*s:=by rw[hlen,List.length_flatten,List.map_replicate,c4,List.sum_replicate_nat]
  have hf:=x7 (pre:=[]) (post:=(List.replicate n z).flatten) c5 k3 (by simp) acY;rw[gZ,gZ]at hf;have Ci:w0.length=n:=by rw[k4,c3]
  have c7':(agg||s==1)=true:=by simpa using c7
  have xe:=wY k3;have h0:0<k.size:=by omega
  have h01:(k.agg||k.size==1)=true:=by rw[c6,c5];exact c7'
  have mP:=tf hR hT hn h0 h01 (e:=e) xe;rw[c5]at mP;refine⟨.jS aF n agg,eU S aF (.op e s (jE ds) false),upd ι nT aF,upd w aF nT,.so nT k,te,_,⟨none,true⟩,⟨none,true⟩,λ_=>?_,λhd=>(by cases hd),⟨λe=>e,λl hl=>(by cases hl)⟩,λl m hl=>(by cases hl),mP,?_,qz hR hn hT hw,λhd=>(by cases hd),sI hn (nE hB hT),kO hB hT,oN hn,rfl,rfl,rfl⟩;.simp only[ah,ho,h1,k1,h4,eF c1,eF c2,fT,if_true,hf,xO k3,c7',hh]
  simp only[RT,upd,if_true];refine⟨trivial,c6.symm,e,s,_,false,by rw[bG hn,if_pos rfl],?_⟩;rw[iV xe,Ci,c5]
 .rename_i args ats ho;split at h
  rotate_left
  .cases h
  rename_i x y t u ha ht;split at h
  rotate_left
  .cases h
  rename_i QA;subst QA;split at h
  .rename_i g k h2;split at h
   rotate_left
   .cases h
   rename_i e s lR agg sz z0 k' m ap h1 h3;split at h
   rotate_left
   .cases h
   rename_i FY;subst FY;split at h
   rotate_left
   .cases h
   rename_i e' l k0 sz' z h4 h5;split at h
   rotate_left
   .cases h
   rename_i Tl;cases h;simp only[aC,dX,cq]at Tl;obtain⟨⟨⟨c1,c2⟩,c3⟩,c4⟩:=Tl;subst c1;have hg:=lJ h4;obtain⟨d,k1,k2⟩:=bE hR.env h2;obtain⟨id,ds,rfl,m1,m2,m3,m4,m5,m6⟩:=F8 hR hg k2 rfl;simp only[af]at h3;obtain⟨uy,e1,e2⟩:=h3;obtain⟨db,k4,k5⟩:=bE hR.env e1;have k6:=cZ (tt:=tt) (t:=t) k5;rw[e2]at k6;cases db<;>simp only[RT]at k6;rename_i news tok f;obtain⟨k6,-⟩:=k6;have SH:=kN k6;have mR:=jL k6;have xe:=Lj m4 (tn k6);have mP:=FN hR m1 hg m2 m5 m6 xe;have hb:(l.length+news.length)*lR<=fQ:=by
    have:l.length+news.length<=1000000000:=by rw[SH];exact hc
    calc (l.length+news.length)*lR<=1000000000*100000:=Nat.mul_le_mul this c4
     _<=fQ:=by decide
   have om:(agg||s==1)=true:=by rw[<-c3,<-c2];exact m6
   have iN:=iV m4;have To:oS ty S aF t (.jS id l.length k'.agg) (.sl news tok f)=if news.isEmpty then some (.jS id l.length k'.agg,S)else some (.jS id (l.length+news.length) agg,S.set id (.op e' k'.size (ds++flat news) false)):=by
    simp only[oS,h1,h5];rw[if_pos,m3];.simp only[c2,decide_true,fT,if_true]
    simp only[aC,cq,aX];refine⟨⟨⟨⟨by omega,om⟩,hb⟩,?_⟩,λr hr=>by rw[mR r hr,c2]⟩;have:l.length+news.length<=1000000000:=by rw[SH];exact hc
    omega
   have hst:∀d S',oS ty S aF t (.jS id l.length k'.agg) (.sl news tok f)=some (d,S')->ah P ty aK call yf (jr env) o S aF=some (d,S'):=λd S' h=>by simp only[ah,ho,ha,ht,if_true,k1,k4,h]
   have mO:∀d S',(d=.jS id (l.length+news.length) agg)->S'=S.set id (.op e' k'.size (ds++flat news) false)->RT ι S' (.so g k') d:=λd S' hd CJ=>by subst hd CJ;have hlt:=(aA.1 m2).1;simp only[RT];refine⟨m1,c3.symm,e',k'.size,_,false,by rw[aH,if_pos rfl,if_pos hlt],?_⟩;rw[iV xe,bU,SH]
   by_cases Ov:news.isEmpty=true
   .have MJ:news=[]:=by simpa using Ov
    subst MJ;have hm:m=[]:=eS (by rw[<-SH];rfl);subst hm;have hSS:S.set id (.op e' k'.size (ds++flat []) false)=S:=by rw[show flat []=[]from rfl,dZ];exact Gz m2
    rw[hSS]at mP;rw[if_pos Ov]at To;have hrt:=mO (.jS id l.length k'.agg) S (by rw[c3];rfl) hSS.symm;refine⟨_,S,ι,w,.so g k',_,_,⟨none,true⟩,⟨none,true⟩,λ_=>hst _ _ To,λhd=>(by cases hd),⟨λe=>e,λl hl=>(by cases hl)⟩,λl m hl=>(by cases hl),mP,hrt,hw,λhd=>(by cases hd),Fr.refl _ _ _,?_,gF _ _,rfl,rfl,rfl⟩;exact LB hB hg
   rw[if_neg Ov]at To;refine⟨_,_,ι,w,.so g k',_,_,⟨none,true⟩,⟨none,true⟩,λ_=>hst _ _ To,λhd=>(by cases hd),⟨λe=>e,λl hl=>(by cases hl)⟩,λl m hl=>(by cases hl),mP,mO _ _ rfl rfl,hw,λhd=>(by cases hd),AD m1,LB hB hg,Ay m2 (λe=>by cases e),rfl,rfl,rfl⟩
  .rename_i v0 hno h2;split at h
   rotate_left
   .cases h
   rename_i hh;split at h
   rotate_left
   .cases h
   rename_i e s lR agg sz z0 k' a m ap h1 h3;split at h
   rotate_left
   .cases h
   rename_i k0 sz' z h5;split at h
   rotate_left
   .cases h
   rename_i Tl;cases h;simp only[aC,dX,cq]at Tl;obtain⟨⟨⟨⟨⟨c0,c1⟩,c2⟩,c3⟩,c4⟩,c5⟩:=Tl;obtain⟨d,k1,k2⟩:=bE hR.env h2;obtain⟨f0,rfl,yE⟩:∃f0,d=.sl [] none f0/\f0.full=true:=by
    cases v0<;>first|(cases c0;done)|skip
    .cases d<;>simp only[RT]at k2;obtain⟨rfl,rfl,rfl⟩:=k2;exact⟨_,rfl,rfl⟩
    rename_i k9 l9 ap9;cases l9 with
    |cons=>simp[Uv]at c0
    |nil=>
     cases ap9<;>first|(simp[Uv]at c0;done)|skip
     cases d<;>simp only[RT]at k2;rename_i rows tok f;obtain⟨q1,rfl,q2⟩:=k2;cases rows with
     |nil=>exact⟨f,rfl,q2⟩
     |cons=>exact q1.elim
   simp only[af]at h3;obtain⟨uy,e1,e2⟩:=h3;obtain⟨db,k4,k5⟩:=bE hR.env e1;have k6:=cZ (tt:=tt) (t:=t) k5;rw[e2]at k6;cases db<;>simp only[RT]at k6;rename_i news tok f;obtain⟨k6,-⟩:=k6;have SH:=kN k6;have mR:=jL k6;have xe:=tn k6;have h0:0<k'.size:=by omega
   have h01:(k'.agg||k'.size==1)=true:=by rw[c3,c2];exact c4
   have mP:=tf hR hT hn h0 h01 (e:=e) xe;rw[c2]at mP;have hle:news.length<=1000000000:=by rw[SH];exact hc
   have hb:news.length*lR<=fQ:=by
    calc news.length*lR<=1000000000*100000:=Nat.mul_le_mul hle c5
     _<=fQ:=by decide
   have Ov:¬(news.isEmpty=true):=by
    intro he;have:news=[]:=by simpa using he
    rw[this]at SH;simp at SH
   have To:oS ty S aF t (.sl [] none f0) (.sl news tok f)=some (.jS aF news.length agg,eU S aF (.op e s (flat news) false)):=by simp only[oS,h1,h5];rw[if_neg Ov,if_pos];simp only[aC,cq,aX];refine⟨⟨⟨⟨⟨yE,c1⟩,c4⟩,hb⟩,by omega⟩,λr hr=>by rw[mR r hr,c2]⟩
   refine⟨.jS aF news.length agg,eU S aF (.op e s (flat news) false),upd ι nT aF,upd w aF nT,.so nT k',te,_,⟨none,true⟩,⟨none,true⟩,λ_=>?_,λhd=>(by cases hd),⟨λe=>e,λl hl=>(by cases hl)⟩,λl m hl=>(by cases hl),mP,?_,qz hR hn hT hw,λhd=>(by cases hd),sI hn (nE hB hT),kO hB hT,oN hn,rfl,rfl,rfl⟩;.simp only[ah,ho,ha,ht,if_true,k1,k4,hh,To]
   simp only[RT,upd,if_true];refine⟨trivial,c3.symm,e,s,_,false,by rw[bG hn,if_pos rfl],?_⟩;rw[iV xe,SH,c2]
  cases h
 cases h
end Go.Tv
namespace Go.Tv
open Go Go.Di Go.Proofs
def Gc(tS:List TB):TV->TV
 |.so g t=>match tS[g]? with
  |some (.rows t' _ l z)=>if h:t'=t then(match z with
   |true=>.sl t (h▸l) .no
   |false=>.so g t)else .unk
  |_=>.unk
 |v=>v
def xy(te:List TV)(tS:List TB)(x:Operand):List TB:=
 match fK te x with
 |some (.so g t)=>match kD tS g t with
  |some (e,l,false)=>tS.set g (.rows t e l true)
  |_=>tS
 |_=>tS
def ME(te:List TV)(tS:List TB)(x:Operand):Bool:=
 match fK te x with
 |some .unk|none=>false
 |some (.so g t)=>(kD tS g t).isSome
 |some _=>true
def MC(ty:fR)(te:List TV)(tS:List TB)(o:Oper):Option (List TV×List TB):=
 match ty.h o with
 |2=>if o.op.operands.toList.all (ME te tS)then some (te.map (Gc (o.op.operands.toList.foldl (xy te) tS)),o.op.operands.toList.foldl (xy te) tS)else none
 |_=>some (te,tS)
variable {P:Program} {ty:fR} {tt:TypeId->Option TT} {ι ι' w:kY} {S S':ai} {te mI:List TV} {env:List DV} {tS iM:List TB} {aK:bR} {call:bt} {yf:ej} {o:Oper} {aF nT:Nat} {B:List Nat} {ops:Array Oper}
theorem NH{g g':Nat}{t t':TT}{e e':Nat}{l:List t.den}{l':List t'.den}{z:Bool}(h:kD tS g t=some (e,l,z))(h':kD tS g' t'=some (e',l',false)):(kD (tS.set g' (.rows t' e' l' true)) g t).isSome=true:=by
 have h1:=lJ h;have h2:=lJ h';by_cases e1:g'=g;.subst e1;rw[h1]at h2;cases h2;unfold kD;rw[aH,if_pos rfl,if_pos (aA.1 h1).1];simp
 have:kD (tS.set g' (.rows t' e' l' true)) g t=kD tS g t:=by unfold kD;rw[aH,if_neg e1]
 rw[this,h];rfl
theorem Xa{x y:Operand}(h:ME te tS x=true):ME te (xy te tS y) x=true:=by
 unfold ME at h⊢;split at h;.cases h
 .cases h
 .rename_i g t hx;unfold xy;split
  .split;.rename_i e' l' h2;obtain⟨⟨e,l,z⟩,h1⟩:=sY.1 h;exact NH h1 h2
   exact h
  exact h
 rfl
theorem tV(hR:bT ι te tS env S)(hB:oE B tS){x:Operand}(h:ME te tS x=true):bT ι te (xy te tS x) env (rG env S x)/\oE B (xy te tS x)/\Fr B ι S ι (rG env S x)/\∀i,Nn i S (rG env S x):=by
 have same:xy te tS x=tS->rG env S x=S->bT ι te (xy te tS x) env (rG env S x)/\oE B (xy te tS x)/\Fr B ι S ι (rG env S x)/\∀i,Nn i S (rG env S x):=λh1 h2=>by rw[h1,h2];exact⟨hR,hB,Fr.refl _ _ _,λi=>gF _ _⟩
 unfold ME at h;split at h;.cases h
 .cases h
 .rename_i g t hx;obtain⟨⟨e,l,z⟩,h1⟩:=sY.1 h;obtain⟨d,k1,k2⟩:=bE hR.env hx;have hg:=lJ h1;obtain⟨id,ds,rfl,m1,m2,m3,m4,m5,m6⟩:=F8 hR hg k2 rfl;cases z with
  |true=>exact same (by simp only[xy,hx,h1]) (by simp only[rG,k1,yt,m3])
  |false=>
   have e1:xy te tS x=tS.set g (.rows t e l true):=by simp only[xy,hx,h1]
   have e2:rG env S x=S.set id (.op e t.size ds true):=by simp only[rG,k1,yt,m3]
   rw[e1,e2];exact⟨zW hR m1 hg m2 rfl m5 m6 m4,Lz hB hg,AD m1,λi=>Ay m2 (λe=>by cases e)⟩
 rename_i v h1 h2 hx;obtain⟨d,k1,k2⟩:=bE hR.env hx;refine same ?_ ?_;.unfold xy;rw[hx];cases v<;>first|rfl|exact absurd rfl (h2 _ _)
 simp only[rG,k1];cases v<;>first|exact absurd rfl (h2 _ _)|exact absurd rfl h1|skip
 all_goals cases d<;>simp only[RT]at k2<;>rfl
theorem afG:∀(l:List Operand){tS:List TB}{S:ai},bT ι te tS env S->oE B tS->l.all (ME te tS)=true->bT ι te (l.foldl (xy te) tS) env (l.foldl (rG env) S)/\oE B (l.foldl (xy te) tS)/\Fr B ι S ι (l.foldl (rG env) S)/\∀i,Nn i S (l.foldl (rG env) S)
 |[],_,S,hR,hB,_=>⟨hR,hB,Fr.refl _ _ _,λi=>gF _ _⟩
 |x::l,tS,S,hR,hB,h=>by simp only[cG,aC]at h;obtain⟨h1,h2,h3,h4⟩:=tV hR hB h.1;obtain⟨k1,k2,k3,k4⟩:=afG l h1 h2 (aX.2 λy hy=>Xa (aX.1 h.2 y hy));refine⟨k1,k2,h3.trans k3,λi=>⟨bD (h4 i).1 (k4 i).1,λj hj hn=>(k4 i).2 j hj ((h4 i).2 j hj hn)⟩⟩
theorem aaz(hR:bT ι mI tS env S){v:TV}{d:DV}(h:RT ι S v d):RT ι S (Gc tS v) (kI S d):=by
 cases v
 case so g t=>
  simp only[Gc];split
  .rename_i t' e l z hg;split
   .rename_i ht;obtain⟨id,ds,rfl,m1,m2,m3,m4,m5,m6⟩:=F8 hR hg h ht;subst ht;cases z with
    |true=>rw[PV m3 m5 m6];simp only[RT,pL,and_true];exact xZ m6 m4
    |false=>
     have:kI S (.jS id l.length t'.agg)=.jS id l.length t'.agg:=by simp only[kI,m3]
     rw[this];exact h
   simp only[RT]
  simp only[RT]
 case unk=>simp only[Gc,RT]
 all_goals
  cases d<;>simp only[RT]at h;simp only[Gc,kI,RT];exact h
theorem Lb(hR:bT ι mI tS env S):∀{l:List TV}{m:List DV},cK ι S l m->cK ι S (l.map (Gc tS)) (m.map (kI S))
 |[],m,h=>by rw[aR h];exact bO
 |a::l,m,h=>by obtain⟨d,m',rfl,h1,h2⟩:=aj h;exact aT (aaz hR h1) (Lb hR h2)
theorem aei(hR:bT ι te tS env S)(hB:oE B tS)(h:MC ty te tS o=some (mI,iM)):bT ι mI iM (FB ty o env S).1 (FB ty o env S).2/\oE B iM/\Fr B ι S ι (FB ty o env S).2/\Nn S.length S (FB ty o env S).2:=by
 unfold MC at h;unfold FB;split at h
 .rename_i hh;split at h;.rename_i nY;cases h;obtain⟨h1,h2,h3,h4⟩:=afG (env:=env) _ hR hB nY;simp only[hh];exact⟨⟨Lb h1 h1.env,h1.cells,h1.own,h1.ql,h1.inj,h1.mp⟩,h2,h3,h4 _⟩
  cases h
 rename_i hh;cases h;simp only[];exact⟨hR,hB,Fr.refl _ _ _,gF _ _⟩
theorem lg{k:Nat}(ho:ops[k]? =some o)(hw:ez ops te o=some true)(hp:MC ty te tS o=some (mI,iM)){Q:List TV->List TB->Prop}{K:TV->List TV->List TB->de->Prop}(hd:Does P ty aK call yf B o iM.length mI iM false K)
  (h:∀v bX bN ft,K v bX bN ft->WL P ty aK call yf B ops (k+1) (j8 bX o.dst v) bN Q):WL P ty aK call yf B ops k te tS Q:=by
 intro ι env S hR hB;obtain⟨Mi,Ye,hF1,hN1⟩:=aei (o:=o) hR hB hp;generalize yo:FB ty o env S=pr at Mi hF1 hN1;obtain⟨qo,S1⟩:=pr;obtain⟨w,hwk⟩:=MS Mi;obtain⟨d,S',ι',w',v,bX,bN,f,ft,h1,-,-,-,h5,h6,-,-,h9,ue,HI,Yf⟩:=hd ι w qo S1 S1.length Mi Ye hwk (.inr rfl) (.inr rfl) (λe=>by cases e);obtain⟨aL,xk,ι'',uk,um,k1,k2,k3,k4,k5,k6⟩:=h v bX bN ft Yf ι' (ku qo o.dst d) S' (oL h5 h6 _) ue;refine⟨aL,xk,ι'',uk,um,?_,k2,k3,(hF1.trans h9).trans k4,uS hN1 (uS HI k5),k6⟩;rw[oR ho];simp only[HM,iJ hR.env hw,if_true,yo,h1 rfl,k1]
end Go.Tv
namespace Go.Tv
open Go Go.Di Go.Proofs
variable {P:Program} {ty:fR} {tt:TypeId->Option TT} {ι ι' w:kY} {S S':ai} {te mI:List TV} {env:List DV} {tS iM:List TB} {aK:bR} {call:bt} {yf:ej} {o:Oper} {aF nT:Nat} {B:List Nat} {ops:Array Oper}
def OW(call:bt)(g:FuncId)(targs:List TV)(e:TypeId)(Q:TV->Prop):Prop:=
 ∀bJ,cK fA [] targs bJ->∃rows t CG,YU (call g bJ [])=some (rows,e,t.size)/\fC (CR t) t.agg CG rows/\Q (.sl t CG .no)
theorem Oa{f:Operand}{args:Array Operand}{argTypes:Array TypeId}{g:FuncId}{fs cs xs targs:List TV}{e:TypeId}{Q:TV->Prop}(hop:o.op=.call {callee:=.value f,args,argTypes})(hh:ty.h o=1)(hf:fK te f=some (.fn g fs cs))(ha:lS te args.toList=some xs)(hp:(fs++xs++cs).all eM=true)
  (hn:bL (gf tt fs argTypes) (fs++xs++cs)=targs) (hs:OW call g targs e Q):Does P ty aK call yf B o nT te tS true λv bX bN ft=>∃t CG,Q (.sl t CG .no)/\v=.sl t CG (.je nT)/\bX=te/\bN=oG tS nT (.own e t.size)/\ft=⟨some [nT],true⟩:=by
 intro ι w env S aF hR hB hw hT Fe hS;obtain⟨xh,lC,Fj,k1,k2,k3⟩:=iL hR.env hf ha;obtain⟨k4,k5⟩:=jP (ts:=gf tt fs argTypes) (ι':=fA) (S':=[]) hp k3;rw[hn]at k5;obtain⟨rows,t,CG,m1,m2,m3⟩:=hs _ k5;have hno:=hS rfl;have hlt:=(aA.1 hno).1;have Y5:∀b,eU S aF b=S.set aF b:=λb=>by unfold eU;rw[if_pos hlt]
 have mP:=BU hR hT Fe e t.size rows.length;rw[Y5]at mP;have hfr:=sI (b:=.tail e t.size (rows.length*t.size)) (ι:=ι) Fe (nE hB hT);have Te:=oN (b:=.tail e t.size (rows.length*t.size)) Fe;rw[Y5]at hfr Te;refine⟨.sl rows (some aF) ⟨false,none⟩,S.set aF (.tail e t.size (rows.length*t.size)),upd ι nT aF,upd w aF nT,.sl t CG (.je nT),te,_,⟨some [aF],true⟩,⟨some [nT],true⟩,λhd=>(by cases hd),λ_=>?_,⟨λh=>h,λl hl=>⟨[aF],rfl,λj hj=>⟨nT,by cases hl;simp,?_⟩⟩⟩,λl m _ hm j hj=>.inl ?_,mP,?_,qz hR Fe hT hw,λ_ j hj=>by simp only[upd,hj,if_false],hfr,kO hB hT,Te,t,CG,m3,rfl,rfl,rfl,rfl⟩;.simp only[aM,hop,k1,k2,if_pos hh,yB,hno,acB,k4,if_true,m1,ay]
 .simp only[bI]at hj;subst hj;simp only[upd,if_true]
 .cases hm;simpa using hj
 simp only[RT];exact⟨m2,.inr ⟨aF,e,t.size,by simp[upd],rfl,by rw[aH,if_pos rfl,if_pos hlt]⟩⟩
def adx(ty:fR)(rs:List ResultVar)(e:TypeId)(Q:TV->Prop)(ex:DX)(te:List TV)(tS:List TB):Prop:=
 (match ex with|.exit _=>False|_=>True)/\∃t CG g,xu ty te tS rs=some [.sl t CG (.je g)]/\CG≠[]/\tS[g]? =some (.own e t.size)/\Q (.sl t CG .no)
theorem W0{bH:bR}{L n:Nat}{f:FuncId}{fn:Func}{c:Code}{targs:List TV}{e0:TypeId}{Q:TV->Prop}(hf:P.funcs[f]? =some fn)(hb:fn.body=some c)
  (h:WT P ty (ym P ty bH L n) (pU P ty bH L n) (yfN P ty bH L n) [] L f false c (targs++List.replicate (fn.ntmps-targs.length) .unk) [] (adx ty fn.results.toList e0 Q)):OW (pU P ty bH L (n+1)) f targs e0 Q:=by
 intro bJ hd;have hlen:=gE hd;have hR:bT fA (targs++List.replicate (fn.ntmps-targs.length) .unk) [] (bJ++List.replicate (fn.ntmps-bJ.length) bF) []:=by refine⟨er hd (by rw[hlen];exact sM _ _),λk l hk=>(by simp at hk),λk e s hk=>(by simp at hk),λk k' hk=>(by cases hk),λi j k' hi=>(by cases hi),λk b hk=>(by simp at hk)⟩
 obtain⟨e,aL,S',ι',bX,bN,h1,h2,h3,h4,h5,h6⟩:=h fA _ [] hR (λk hk=>(by cases hk));have hc:∀v,tU ty aL S' fn.results.toList=some [v]->pU P ty bH L (n+1) f bJ []=some (v,S'):=λv k1=>by
  simp only[pU,dx,hf,tN,hb];have HJ:cU P ty (kJ bH (dx P ty bH L n).1) (dx P ty bH L n).1 (dx P ty bH L n).2 L f false c (bJ++List.replicate (fn.ntmps-bJ.length) bF) []=some (e,aL,S'):=h1;rw[HJ];cases e with
  |normal=>simp only[k1,ay,oneOf]
  |ret=>simp only[k1,ay,oneOf]
  |exit id=>exact h6.1.elim
 obtain⟨-,t,CG,g,h7,h8,h9,ue⟩:=h6;obtain⟨ds,k1,k2⟩:=sN h2 h7;obtain⟨d,m',rfl,q1,q2⟩:=aj k2;rw[aR q2]at k1;cases d<;>simp only[RT]at q1;rename_i rows tok ff;obtain⟨q1,q3⟩:=q1;have hrl:=kN q1;rcases q3 with ⟨-,-,h0⟩|⟨tk,e',s',p4,rfl,p5⟩;.exact absurd (eS (by omega)) h8
 obtain⟨n1,p6⟩:=h2.own g e0 _ h9 tk p4;rw[p5]at p6;cases p6;exact⟨rows,t,CG,by rw[hc _ k1];simp only[YU,p5,if_true],q1,ue⟩
end Go.Tv
namespace Go.Tv
open Go Go.Di Go.Proofs
variable {P:Program} {ty:fR} {tt:TypeId->Option TT} {ι ι' w:kY} {S S':ai} {te:List TV} {env:List DV} {tS:List TB} {aK:bR} {call:bt} {yf:ej} {o:Oper} {aF nT:Nat} {B L:List Nat}
def loc:List Nat->Nat->Option Nat
 |[],_=>none
 |a::l,k=>if a=k then some 0 else(loc l k).map (·+1)
theorem Xs{a k:Nat}{l:List Nat}:loc (a::l) k=if a=k then some 0 else(loc l k).map (·+1):=rfl
theorem gX:∀{L:List Nat}{k j:Nat},loc L k=some j->L[j]? =some k
 |[],_,_,h=>by cases h
 |a::l,k,j,h=>by
  unfold loc at h;split at h;.rename_i e;cases h;simp[e]
  simp only[af]at h;obtain⟨i,h1,rfl⟩:=h;simpa using gX h1
theorem vG:∀{L:List Nat}{k:Nat},k∈L->∃j,loc L k=some j
 |[],_,h=>by cases h
 |a::l,k,h=>by
  unfold loc;by_cases e:a=k;.exact⟨0,if_pos e⟩
  obtain⟨j,hj⟩:=vG (L:=l) (k:=k) ((bw.1 h).resolve_left λh=>e h.symm);exact⟨j+1,by rw[if_neg e,hj];rfl⟩
theorem zD{L:List Nat}{k:Nat}(h:loc L k=none):k∉L:=λhk=>by obtain⟨j,hj⟩:=vG hk;rw[hj]at h;cases h
def S4(ρ:Nat->Option Nat):TV->Option TV
 |.ptr k off=>(ρ k).map λj=>.ptr j off
 |v=>if kL v then some v else none
def Aj(ρ:Nat->Option Nat):List TV->Option (List TV)
 |[]=>some []
 |v::l=>match S4 ρ v,Aj ρ l with
  |some a,some b=>some (a::b)
  |_,_=>none
def agm:TT:=.pair (.int .i64) (.pair (.int .i64) (.pair (.int .i64) .unit))
def Oi(ρ:Nat->Option Nat):TV->Option TV
 |.fn g a b=>match Aj ρ a,Aj ρ b with
  |some x,some y=>some (.fn g x y)
  |_,_=>none
 |.ax=>some (.sl agm [] .no)
 |v=>S4 ρ v
def De(ρ:Nat->Option Nat):List TV->Option (List TV)
 |[]=>some []
 |v::l=>match Oi ρ v,De ρ l with
  |some a,some b=>some (a::b)
  |_,_=>none
def qZ:TV->Bool
 |.sl _ _ (.stop _)=>true
 |_=>false
def Cp(ρ:Nat->Option Nat):List TV->Option (List TV)
 |[]=>some []
 |v::l=>match qZ v with
  |true=>if kL v&&l.all kL then some (v::l)else none
  |false=>match Oi ρ v,Cp ρ l with
   |some a,some b=>some (a::b)
   |_,_=>none
theorem Wv{ρ:Nat->Option Nat}{v:TV}(h:kL v=true):Oi ρ v=some v:=by cases v<;>first|(cases h;done)|(simp only[Oi,S4,h,if_true])
theorem GH{ρ:Nat->Option Nat}:∀{l:List TV},l.all kL=true->De ρ l=some l
 |[],_=>rfl
 |v::l,h=>by simp only[cG,aC]at h;simp only[De,Wv h.1,GH h.2]
theorem Ic{ρ:Nat->Option Nat}:∀{l l':List TV},Cp ρ l=some l'->De ρ l=some l'
 |[],_,h=>h
 |v::l,l',h=>by
  simp only[Cp]at h;split at h
  .split at h;.rename_i hp;cases h;exact GH (by rw[cG];exact hp)
   cases h
  split at h;.rename_i a b e1 e2;cases h;simp only[De,e1,Ic e2]
  cases h
def rnA(ρ:Nat->Option Nat)(t:Option TT):TV->Option TV
 |.ptr k off=>(ρ k).map λj=>.ptr j off
 |.fn g a b=>Oi ρ (.fn g a b)
 |v=>if eM v then some (ki t v)else none
def uo(ρ:Nat->Option Nat):List (Option TT)->List TV->Option (List TV)
 |_,[]=>some []
 |[],v::l=>match rnA ρ none v,uo ρ [] l with
  |some a,some b=>some (a::b)
  |_,_=>none
 |t::ts,v::l=>match rnA ρ t v,uo ρ ts l with
  |some a,some b=>some (a::b)
  |_,_=>none
theorem Hf{v:TV}(h:kL v=true):refs v=[]:=by
 cases v<;>first|(cases h;done)|skip
 .rfl
 rename_i t l ap;cases ap<;>first|(cases h;done)|rfl
section
variable {ρ:Nat->Option Nat} (hρ:∀k j,ρ k=some j->ι' j=ι k)
include hρ
theorem U9{v v':TV}{d:DV}(h:S4 ρ v=some v')(hv:RT ι S v d):RT ι' S' v' d:=by
 unfold S4 at h;split at h;.simp only[af]at h;obtain⟨j,h1,rfl⟩:=h;cases d<;>simp only[RT]at hv⊢;exact⟨(hρ _ _ h1).trans hv.1,hv.2⟩
 split at h;.rename_i hp;cases h;exact o9 _ _ (Hf hp) hv
 cases h
theorem IL:∀{l l':List TV}{m:List DV},Aj ρ l=some l'->cK ι S l m->cK ι' S' l' m
 |[],l',m,h,hv=>by cases h;rw[aR hv];exact bO
 |v::l,l',m,h,hv=>by
  obtain⟨d,m',rfl,h1,h2⟩:=aj hv;simp only[Aj]at h;split at h;.rename_i a b e1 e2;cases h;exact aT (U9 hρ e1 h1) (IL e2 h2)
  cases h
theorem M5{v v':TV}{d:DV}(h:Oi ρ v=some v')(hv:RT ι S v d):RT ι' S' v' d:=by
 unfold Oi at h;split at h
 .split at h;.rename_i x y e1 e2;cases h;cases d<;>simp only[RT]at hv⊢;exact⟨hv.1,IL hρ e1 hv.2.1,IL hρ e2 hv.2.2⟩
  cases h
 .cases h;cases d<;>simp only[RT]at hv⊢;obtain⟨rfl,-,-⟩:=hv;exact⟨trivial,trivial⟩
 exact U9 hρ h hv
theorem Pm:∀{l l':List TV}{m:List DV},De ρ l=some l'->cK ι S l m->cK ι' S' l' m
 |[],l',m,h,hv=>by cases h;rw[aR hv];exact bO
 |v::l,l',m,h,hv=>by
  obtain⟨d,m',rfl,h1,h2⟩:=aj hv;simp only[De]at h;split at h;.rename_i a b e1 e2;cases h;exact aT (M5 hρ e1 h1) (Pm e2 h2)
  cases h
theorem Pk{l l':List TV}{m:List DV}(h:Cp ρ l=some l')(hv:cK ι S l m):cK ι' S' l' m:=Pm hρ (Ic h) hv
theorem Va{t:Option TT}{v v':TV}{d:DV}(h:rnA ρ t v=some v')(hv:RT ι S v d):RT ι' S' v' d:=by
 unfold rnA at h;split at h;.simp only[af]at h;obtain⟨j,h1,rfl⟩:=h;cases d<;>simp only[RT]at hv⊢;exact⟨(hρ _ _ h1).trans hv.1,hv.2⟩
 .exact M5 hρ h hv
 split at h;.rename_i hp;cases h;exact s5 hp hv
 cases h
theorem IM:∀{ts:List (Option TT)}{l l':List TV}{m:List DV},uo ρ ts l=some l'->cK ι S l m->cK ι' S' l' m
 |_,[],l',m,h,hv=>by simp only[uo]at h;cases h;rw[aR hv];exact bO
 |[],v::l,l',m,h,hv=>by
  obtain⟨d,m',rfl,h1,h2⟩:=aj hv;simp only[uo]at h;split at h;.rename_i a b e1 e2;cases h;exact aT (Va hρ e1 h1) (IM e2 h2)
  cases h
 |t::ts,v::l,l',m,h,hv=>by
  obtain⟨d,m',rfl,h1,h2⟩:=aj hv;simp only[uo]at h;split at h;.rename_i a b e1 e2;cases h;exact aT (Va hρ e1 h1) (IM e2 h2)
  cases h
end
def JP(ρ:Nat->Option Nat)(tS:List TB):List Nat->Option (List (List TV))
 |[]=>some []
 |k::l=>match tS[k]? with
  |some (.cells c)=>match Cp ρ c,JP ρ tS l with
   |some a,some b=>some (a::b)
   |_,_=>none
  |_=>none
theorem zu{ρ:Nat->Option Nat}:∀{L:List Nat}{tP:List (List TV)},JP ρ tS L=some tP->tP.length=L.length/\∀(j k:Nat),L[j]? =some k->∃c c',tS[k]? =some (TB.cells c)/\Cp ρ c=some c'/\tP[j]? =some c'
 |[],tP,h=>by cases h;exact⟨rfl,by simp⟩
 |a::L,tP,h=>by
  simp only[JP]at h;split at h
  .rename_i c hc;split at h
   .rename_i x y e1 e2;cases h;obtain⟨h1,h2⟩:=zu e2;refine⟨by simp[h1],λj k hj=>?_⟩;cases j with
    |zero=>simp only[bY,aB]at hj;subst hj;exact⟨c,x,hc,e1,rfl⟩
    |succ j=>simpa using h2 j k (by simpa using hj)
   cases h
  cases h
def BI(call:bt)(g:FuncId)(targs:List TV)(tP:List (List TV))(Q:TV->List (List TV)->Prop):Prop:=
 ∀ι bJ S,bT ι targs (tP.map .cells) bJ S->∃d S' ι' v Fo,call g bJ S=some (d,S')/\RT ι' S' v d/\BF v=true/\Fo.length=tP.length/\Ix ι' S' (Fo.map .cells)/\Fr (List.range tP.length) ι S ι' S'/\Nn S.length S S'/\Q v Fo
theorem BI.mono {g:FuncId}{targs:List TV}{tP:List (List TV)}{Q Q':TV->List (List TV)->Prop}(h:BI call g targs tP Q)(hq:∀v t,Q v t->Q' v t):BI call g targs tP Q':=λι bJ S hd=>by obtain⟨d,S',ι',v,Fo,h1,h2,h3,h4,h5,h6,h7,h8⟩:=h ι bJ S hd;exact⟨d,S',ι',v,Fo,h1,h2,h3,h4,h5,h6,h7,hq _ _ h8⟩
def wB(L:List Nat)(ι:kY):kY:=λj=>(L[j]?).bind ι
def mW:List Nat->Bool
 |[]=>true
 |a::l=>!l.contains a&&mW l
theorem Ec:∀{L:List Nat}{i j k:Nat},mW L=true->L[i]? =some k->L[j]? =some k->i=j
 |[],_,_,_,_,h,_=>by simp at h
 |a::L,0,0,_,_,_,_=>rfl
 |a::L,0,j+1,k,hn,hi,hj=>by simp only[mW,aC,nI]at hn;simp only[bY,aB]at hi;subst hi;have:=cr (show L[j]? =some a by simpa using hj);simp[this]at hn
 |a::L,i+1,0,k,hn,hi,hj=>by simp only[mW,aC,nI]at hn;simp only[bY,aB]at hj;subst hj;have:=cr (show L[i]? =some a by simpa using hi);simp[this]at hn
 |a::L,i+1,j+1,k,hn,hi,hj=>by simp only[mW,aC]at hn;rw[Ec (i:=i) (j:=j) hn.2 (by simpa using hi) (by simpa using hj)]
theorem uV{k j:Nat}(h:loc L k=some j):wB L ι j=ι k:=by simp[wB,gX h]
theorem Z6(hR:bT ι te tS env S){tP:List (List TV)}{targs:List TV}{bJ:List DV}(hn:mW L=true)(hb:JP (loc L) tS L=some tP)(ha:cK (wB L ι) S targs bJ):bT (wB L ι) targs (tP.map .cells) bJ S:=by
 obtain⟨hl,hg⟩:=zu hb;refine⟨ha,λj l hj=>?_,λj e s hj=>?_,λj k' hj=>?_,λi j k' hi hj=>?_,λj b hj t _=>?_⟩;.simp only[cM,af,TB.cells.injEq]at hj;obtain⟨c',h1,rfl⟩:=hj;have hlt:j<L.length:=hl▸(aA.1 h1).1;have Ai:L[j]? =some L[j]:=bP hlt;obtain⟨c,c2,k1,k2,k3⟩:=hg j _ Ai;rw[h1]at k3;cases k3;obtain⟨k',ds,m1,m2,m3⟩:=hR.cells _ _ k1;exact⟨k',ds,by simp[wB,Ai,m1],m2,Pk (λk j h=>uV h) k2 m3⟩
 .simp at hj
 .unfold wB at hj;cases Ai:L[j]? with
  |none=>rw[Ai]at hj;cases hj
  |some k=>obtain⟨c,c2,k1,k2,k3⟩:=hg j _ Ai;exact⟨.cells c2,by simp[k3],by simp⟩
 .unfold wB at hi hj;cases SP:L[i]? with
  |none=>rw[SP]at hi;cases hi
  |some a=>
   cases Ai:L[j]? with
   |none=>rw[Ai]at hj;cases hj
   |some b=>rw[SP]at hi;rw[Ai]at hj;obtain rfl:=hR.inj a b k' hi hj;exact Ec hn SP Ai
 simp only[cM,af]at hj;obtain⟨c,-,rfl⟩:=hj;trivial
def HN(L:List Nat):List (List TV)->Option (List (List TV))
 |[]=>some []
 |c::l=>match Cp (λj=>L[j]?) c,HN L l with
  |some a,some b=>some (a::b)
  |_,_=>none
theorem D6:∀{tP tB:List (List TV)},HN L tP=some tB->tB.length=tP.length/\∀(j:Nat) c,tB[j]? =some c->∃c',tP[j]? =some c'/\Cp (λj=>L[j]?) c'=some c
 |[],tB,h=>by cases h;exact⟨rfl,by simp⟩
 |a::tP,tB,h=>by
  simp only[HN]at h;split at h
  .rename_i x y e1 e2;cases h;obtain⟨h1,h2⟩:=D6 e2;refine⟨by simp[h1],λj c hj=>?_⟩;cases j with
   |zero=>simp only[bY,aB]at hj;subst hj;exact⟨a,rfl,e1⟩
   |succ j=>simpa using h2 j c (by simpa using hj)
  cases h
def yl:List Nat->List (List TV)->List TB->List TB
 |k::L,c::tB,tS=>yl L tB (tS.set k (.cells c))
 |_,_,tS=>tS
theorem D7:∀{L:List Nat}{tB:List (List TV)}{tS:List TB}{k:Nat},mW L=true->tB.length=L.length->(∀k∈L,k<tS.length)->(yl L tB tS)[k]? =match loc L k with|some j=>(tB[j]?).map TB.cells|none=>tS[k]?
 |[],[],tS,k,_,_,_=>rfl
 |[],_::_,_,_,_,h,_=>by simp at h
 |_::_,[],_,_,_,h,_=>by simp at h
 |a::L,c::tB,tS,k,hn,hl,hlt=>by
  simp only[mW,aC,nI]at hn;unfold yl;rw[D7 hn.2 (by simpa using hl) λk hk=>by simpa using hlt k (jZ _ hk)];rw[Xs];by_cases e:a=k
  .subst e;have:loc L a=none:=by
    cases h:loc L a with
    |none=>rfl
    |some j=>have:=cr (gX h);simp[this]at hn
   simp[this,hlt a (fH ..)]
  rw[if_neg e];cases h:loc L k with
  |none=>simp[aH,e]
  |some j=>simp
theorem Oe{f:Operand}{args:Array Operand}{argTypes:Array TypeId}{g:FuncId}{fs cs xs targs:List TV}{tP:List (List TV)}{Q:TV->List (List TV)->Prop}(hop:o.op=.call {callee:=.value f,args,argTypes})(hf:fK te f=some (.fn g fs cs))(ha:lS te args.toList=some xs)
  (Fe:mW L=true) (hn:uo (loc L) (gf tt fs argTypes) (fs++xs++cs)=some targs) (hr:(fs++xs++cs).any isRef=true) (hb:JP (loc L) tS L=some tP) (hs:BI call g targs tP Q) (hq:∀v t,Q v t->∃tB,HN L t=some tB):
  Does P ty aK call yf B o nT te tS false λv bX bN ft=>∃Fo tB,Q v Fo/\HN L Fo=some tB/\bX=te/\bN=yl L tB tS/\ft=⟨none,true⟩:=by
 intro ι w env S aF hR hB hw hT QU hS;obtain⟨xh,lC,Fj,k1,k2,k3⟩:=iL hR.env hf ha;obtain⟨hl,hg⟩:=zu hb;obtain⟨d,S',ι',v,Fo,n1,n2,n3,n4,n5,n6,n7,n8⟩:=hs _ _ S (Z6 hR Fe hb (IM (λk j h=>uV h) hn k3));obtain⟨tB,hbk⟩:=hq _ _ n8;obtain⟨b1,b2⟩:=D6 hbk;have hlt:∀k∈L,k<tS.length:=λk hk=>by obtain⟨j,hj⟩:=vG hk;obtain⟨c,c',h1,-⟩:=hg j k (gX hj);exact(aA.1 h1).1
 have bg:∀k,(yl L tB tS)[k]? =match loc L k with|some j=>(tB[j]?).map TB.cells|none=>tS[k]? :=λk=>D7 Fe (by omega) hlt
 have uz:∀j,j<L.length->ι' j=wB L ι j:=λj hj=>n6.base j (by simp;omega);have lF:∀k k0,k∉L->ι k=some k0->S'[k0]? =S[k0]? :=by
  intro k k0 hk h0;refine n6.rest k0 (hR.live h0) λj hj=>?_;unfold wB at hj;cases Ai:L[j]? with
  |none=>rw[Ai]at hj;cases hj
  |some a=>rw[Ai]at hj;obtain rfl:=hR.inj k a k0 h0 hj;exact hk (cr Ai)
 have jh:∀k,k∈L->∃c k0 ds,tS[k]? =some (.cells c)/\ι k=some k0/\S[k0]? =some (.cells ds):=λk hk=>by obtain⟨j,hj⟩:=vG hk;obtain⟨c,c',h1,-⟩:=hg j k (gX hj);obtain⟨k0,ds,h2,h3,-⟩:=hR.cells k c h1;exact⟨c,k0,ds,h1,h2,h3⟩
 have K:jy ι S ι S' λ_=>False:=λk k0 _ hk=>⟨hk,by
  by_cases FY:k∈L;.obtain⟨c,k1,ds,h1,h2,h3⟩:=jh k FY;rw[h2]at hk;cases hk;exact vH (by rw[h3];simp) (by rw[h3];simp) (by rw[h3];simp)
  exact dO (lF k k0 FY hk)⟩
 have YE:=nu hr k3;have xe:refs v=[]:=by
  have:∀{u:TV},Dr u=true->refs u=[]:=λ{u} hu=>by
   cases u<;>first|(cases hu;done)|skip
   .rfl
   .rename_i l;simp only[refs];simp only[Dr]at hu;clear n2 n3 n8;induction l with
    |nil=>rfl
    |cons a l ih=>simp only[cG,aC]at hu;simp only[eW,Hf hu.1,ih hu.2,dZ]
   rename_i t l ap;cases ap<;>first|(cases hu;done)|rfl
  clear n2 n8;cases v<;>first|exact this n3|skip
  rename_i l;simp only[refs];simp only[BF]at n3;induction l with
  |nil=>rfl
  |cons a l ih=>simp only[cG,aC]at n3;simp only[eW,this n3.1,ih n3.2,dZ]
 refine⟨d,S',ι,w,v,te,yl L tB tS,⟨none,true⟩,⟨none,true⟩,λ_=>?_,λhd=>(by cases hd),⟨λe=>e,λl hl=>(by cases hl)⟩,λl m hl=>(by cases hl),?_,o9 _ _ xe n2,hw,λ_ _ _=>rfl,⟨λk0 hl hno=>n6.rest k0 hl λj hj=>?_,λk k0 hk=>.inl ⟨k,hk⟩,λ_ _=>rfl⟩,λk hk=>?_,⟨n7.1,λj hj dm=>?_⟩,Fo,tB,n8,hbk,rfl,rfl,rfl⟩;.simp only[ah,hop,k1,k2,wO,YE,aI,if_false,n1];split<;>rfl
 .refine⟨bu K _ _ hR.env,λk l hk=>?_,λk e s hk t ht=>?_,λk k0 hk=>?_,hR.inj,λk b hk t ht=>?_⟩
  .rw[bg]at hk;split at hk;.rename_i j hj;simp only[af,TB.cells.injEq]at hk;obtain⟨c,hc,rfl⟩:=hk;obtain⟨c',h1,h2⟩:=b2 j c hc;obtain⟨k',iC,m1,m2,m3⟩:=n5 j c' (by simp[h1]);have Ya:j<L.length:=(aA.1 (gX hj)).1;rw[uz j Ya,uV hj]at m1;refine⟨k',iC,m1,m2,Pk (ι:=ι') (ρ:=λj=>L[j]?) (λa b qv=>?_) h2 m3⟩;have hal:a<L.length:=(aA.1 qv).1;rw[uz a hal];simp[wB,qv]
   rename_i hno;obtain⟨k0,Mw,q1,q2,q3⟩:=hR.cells k l hk;exact⟨k0,Mw,q1,by rw[lF k k0 (zD hno) q1];exact q2,bu K _ _ q3⟩
  .rw[bg]at hk;split at hk;.simp at hk
   obtain⟨n,q1⟩:=hR.own k e s hk t ht;exact⟨n,(K k t (λe=>e) ht).2.1 _ _ _ q1⟩
  .rw[bg];split
   .rename_i j hj;have Ya:j<tB.length:=by have:=(aA.1 (gX hj)).1;omega
    exact⟨.cells tB[j],by simp[Ya],by simp⟩
   exact hR.ql k k0 hk
  rw[bg]at hk;split at hk;.simp only[af]at hk;obtain⟨c,-,rfl⟩:=hk;trivial
  rename_i hno;rw[lF k t (zD hno) ht];exact hR.mp k b hk t ht
 .unfold wB at hj;cases Ai:L[j]? with
  |none=>rw[Ai]at hj;cases hj
  |some a=>rw[Ai]at hj;exact hno _ hj
 .rw[bg];split
  .rename_i j hj;have Ya:j<tB.length:=by have:=(aA.1 (gX hj)).1;omega
   exact⟨some tB[j],by simp[Ya,lq]⟩
  exact hB k hk
 have:=(aA.1 dm).1;exact n7.2 j (by omega) dm
end Go.Tv
