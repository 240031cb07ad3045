import Derived.Test.YtadeehilamokkaaGreatDoorPk06
namespace Go.Tv
open Go Go.Di Go.Proofs
variable {P:Program} {ty:fo} {tt:TypeId->cJ} {ι ι' w:kW} {S S':aj} {te mh:cp} {env:cn} {tS iq:cx} {aD:bT} {call:bg} {yf:dx} {o:Oper} {aB nT:Nat} {B:cy} {ops:Array Oper}
theorem sQ(h:bO ι te tS env S)(hT:xx tS nT)(hn:yl S aB){t:TT}{e:Nat}{l:List t.den}{ds:cn}(h0:0<t.size)(h1:(t.agg||t.size==1)=true)(hf:fC t l ds):bO (upd ι nT aB) te (nS tS nT (.rows t e l false)) env (eF S aB (.op e t.size ds false)):=by
 have K:=rK h hT hn (.op e t.size ds false);refine⟨bn K _ _ h.env,λk l hk=>?_,λk e s hk t ht=>?_,λk k' hk=>?_,λi j k' hi hj=>?_,λk b hk t0 ht=>?_⟩;rw[cM hT]at hk;split at hk;cases hk;rename_i e;obtain⟨k',iu,h1,h2,h3⟩:=h.cells k l hk;exact⟨k',iu,by simp only[upd,e,if_false];exact h1,by rw[bC hn,if_neg (h.dD hn h1)];exact h2,bn K _ _ h3⟩;rw[cM hT]at hk;split at hk;cases hk;rename_i e';simp only[upd,e',if_false]at ht;obtain⟨n,h1⟩:=h.own k e s hk t ht;exact⟨n,by rw[bC hn,if_neg (h.dD hn ht)];exact h1⟩;rw[cM hT];split
 grind
 rename_i e;simp only[upd,e,if_false]at hk;exact h.qH k k' hk;unfold upd at hi hj;split at hi<;>split at hj;omega;cases hi;exact(h.dD hn hj rfl).elim
 cases hj;exact(h.dD hn hi rfl).elim
 exact h.inj i j k' hi hj;rw[cM hT]at hk;split at hk;rename_i e';cases hk;simp only[upd,e',if_true,aF]at ht;subst ht;rw[bC hn,if_pos rfl];exact⟨h0,h1,ds,rfl,hf⟩;rename_i e';simp only[upd,e',if_false]at ht;rw[bC hn,if_neg (h.dD hn ht)];exact h.mp k b hk t0 ht
theorem zW(h:bO ι te tS env S){g id:Nat}{t:TT}{e:Nat}{l l':List t.den}{ds iu:cn}{z z':Bool}(hi:ι g=some id)(hg:tS[g]? =some (.rows t e l z))(hS:S[id]? =some (.op e t.size ds z))(hl:iu.length=ds.length)(h0:0<t.size)(h1:(t.agg||t.size==1)=true)(hf:fC t l' iu):bO ι te (tS.set g (.rows t e l' z')) env (S.set id (.op e t.size iu z')):=by
 have hlt:=(aI.1 hg).1;have Cw:=(aI.1 hS).1;have K:iY ι S ι (S.set id (.op e t.size iu z')) λ_=>False:=λa b _ pV=>⟨pV,by rw[aN];split;rename_i e1;subst e1;rw[hS];exact⟨λ_ _ _ h=>(nomatch h),λe s l z h=>(by cases h;exact⟨iu,z',rfl,hl⟩),λ_ h=>(nomatch h)⟩;exact dz rfl⟩;have UR:∀j,(tS.set g (.rows t e l' z'))[j]? =if j=g then some (.rows t e l' z')else tS[j]? :=λj=>by
  rw[aN];by_cases e:j=g
  grind
  grind
 have rT:∀j,j≠id->(S.set id (.op e t.size iu z'))[j]? =S[j]? :=λj hj=>by rw[aN,if_neg (Ne.symm hj)]
 refine⟨bn K _ _ h.env,λj m hj=>?_,λj e s hj t ht=>?_,λj j' hj=>?_,h.inj,λj b hj t0 ht=>?_⟩;rw[UR]at hj;split at hj;cases hj;rename_i e;obtain⟨j',M8,h1,h2,h3⟩:=h.cells j m hj;exact⟨j',M8,h1,by rw[rT j' λe1=>e (h.inj _ _ _ (e1▸h1) hi)];exact h2,bn K _ _ h3⟩;rw[UR]at hj;split at hj;cases hj;obtain⟨n,h1⟩:=h.own j e s hj t ht;exact⟨n,(K j t (λe=>e) ht).2.1 _ _ _ h1⟩;rw[UR];split
 grind
 exact h.qH j j' hj;rw[UR]at hj;split at hj;rename_i e;subst e;cases hj;rw[hi]at ht;cases ht;rw[aN,if_pos rfl,if_pos Cw];exact⟨h0,h1,iu,rfl,hf⟩;rename_i e;rw[rT t0 λe1=>e (h.inj _ _ _ (e1▸ht) hi)];exact h.mp j b hj t0 ht
theorem ab4{g:Nat}{b:TB}{x:Option DB}(h:aeq b x):aeq (pZ g b) x:=by cases b<;>exact h
theorem Za{g:Nat}{b:TB}:pZ g b=.none->b=.none:=by cases b<;>simp[pZ]
theorem FX(h:bO ι te tS env S){g id:Nat}{t:TT}{e:Nat}{l l':List t.den}{ds iu:cn}{z:Bool}(hi:ι g=some id)(hg:tS[g]? =some (.rows t e l z))(hS:S[id]? =some (.op e t.size ds z))(h0:0<t.size)(h1:(t.agg||t.size==1)=true)(hf:fC t l' iu):bO ι (o6 g te) ((tS.map (pZ g)).set g (.rows t e l' false)) env (S.set id (.op e t.size iu false)):=by
 have hlt:=(aI.1 hg).1;have Cw:=(aI.1 hS).1;have rT:∀j,j≠id->(S.set id (.op e t.size iu false))[j]? =S[j]? :=λj hj=>by rw[aN,if_neg (Ne.symm hj)]
 have K:iY ι S ι (S.set id (.op e t.size iu false)) λk=>k=g:=λa b ha pV=>⟨pV,dz (rT b λe1=>ha (h.inj _ _ _ (e1▸pV) hi))⟩;have UR:∀j b,((tS.map (pZ g)).set g (.rows t e l' false))[j]? =some b->(j=g/\b=.rows t e l' false)\/(j≠g/\∃b0,tS[j]? =some b0/\b=pZ g b0):=λj b hj=>by
  rw[aN]at hj;split at hj
  grind
  grind
 refine⟨mX K _ _ h.env,λj m hj=>?_,λj e s hj t ht=>?_,λj j' hj=>?_,h.inj,λj b hj t0 ht=>?_⟩
 .rcases UR j _ hj with ⟨-,e1⟩|⟨hne,b0,h2,h3⟩;cases e1;cases b0<;>simp only[pZ]at h3<;>first|(cases h3;done)|skip
  cases h3;obtain⟨j',M8,k1,k2,k3⟩:=h.cells j _ h2;exact⟨j',M8,k1,by rw[rT j' λe1=>hne (h.inj _ _ _ (e1▸k1) hi)];exact k2,mX K _ _ k3⟩
 .rcases UR j _ hj with ⟨-,e1⟩|⟨hne,b0,h2,h3⟩;cases e1;cases b0<;>simp only[pZ]at h3<;>first|(cases h3;done)|skip
  cases h3;obtain⟨n,k1⟩:=h.own j _ _ h2 t ht;exact⟨n,(K j t hne ht).2.1 _ _ _ k1⟩
 rw[aN];split
 grind
 obtain⟨b,h2,h3⟩:=h.qH j j' hj;exact⟨pZ g b,by rw[cH,h2];rfl,λe1=>h3 (Za e1)⟩;rcases UR j _ hj with ⟨rfl,rfl⟩|⟨hne,b0,h2,rfl⟩;rw[hi]at ht;cases ht;rw[aN,if_pos rfl,if_pos Cw];exact⟨h0,h1,iu,rfl,hf⟩;rw[rT t0 λe1=>hne (h.inj _ _ _ (e1▸ht) hi)];exact ab4 (h.mp j b0 h2 t0 ht)
theorem L0{g:Nat}{t t':TT}{e e':Nat}{l:List t.den}{l':List t'.den}{z z':Bool}(hB:oy B tS)(hl:tS[g]? =some (.rows t e l z)):oy B (tS.set g (.rows t' e' l' z')):=λk hk=>by obtain⟨c,hc⟩:=hB k hk;refine⟨c,?_⟩;rw[aN,if_neg];exact hc;rintro rfl;rw[hl]at hc;cases c<;>cases hc
theorem L4{g:Nat}{t t':TT}{e e':Nat}{l:List t.den}{l':List t'.den}{z z':Bool}(hB:oy B tS)(hl:tS[g]? =some (.rows t e l z)):oy B ((tS.map (pZ g)).set g (.rows t' e' l' z')):=λk hk=>by
 obtain⟨c,hc⟩:=hB k hk;refine⟨c.map (o6 g),?_⟩;rw[aN,if_neg];rw[cH,hc];cases c<;>rfl
 rintro rfl;rw[hl]at hc;cases c<;>cases hc
theorem GJ:∀{S:aj}{i:Nat}{b:DB},S[i]? =some b->S.set i b=S
 |[],_,_,h=>by simp at h
 |_::_,0,_,h=>by simp only[dH,aF]at h;rw[h];rfl
 |a::l,n+1,b,h=>by rw[List.set_cons_succ,GJ (by simpa using h)]
theorem Fh{g:Nat}{iq:cx}(h:VH ty tt te tS o=some (g,iq))(dr:Bool):Does P ty aD call yf B o nT te tS dr λv' bS bK ft=>v'=.unk/\bS=te/\bK=iq/\ft=⟨some [g],true⟩:=by
 intro ι w env S aB hR hB hw hT hn hS;unfold VH at h;split at h
 rotate_left
 cases h;rename_i t a x ho;split at h
 rotate_left
 cases h;rename_i td g' k i off v h1 h2 h3;split at h
 rotate_left
 cases h;rename_i e l h4;split at h
 rotate_left
 cases h;rename_i hc;simp only[aC,dQ]at hc;obtain⟨c1,c2⟩:=hc;split at h
 rotate_left
 cases h;rename_i cs h5;split at h
 rotate_left
 cases h;rename_i y h6;cases h;have hg:=lp h4;obtain⟨d,k1,k2⟩:=bp hR.env h2;obtain⟨id,ds,rfl,m1,m2,m3,m4,m5,m6,m7⟩:=acG hR hg k2;simp only[af]at h3;obtain⟨u,h7,h8⟩:=h3;obtain⟨dv,k4,k5⟩:=bp hR.env h7;have k6:=cN (tt:=tt) (t:=t) k5;rw[h8]at k6;have k7:=uv (LI c1) k6;obtain⟨pre,c,post,rfl,q1,q2,q3⟩:=xW m4 m5;obtain⟨c',r1,r2⟩:=I9 (pO (ι:=ι) (S:=S) q2) k7 h5;have hst:=Jt c1 k6;obtain⟨cc,m',e1,e2,e3⟩:=Gk h6 r2;rw[aO e3,iR]at e1;subst e1;have hle:off+dv.cells.length<=c.length:=by unfold vY at r1;split at r1;assumption;cases r1
 have hc':c'=c.take off++dv.cells++c.drop (off+dv.cells.length):=by unfold vY at r1;rw[if_pos hle]at r1;exact(bG r1).symm
 have hlen:dv.strip.cells.length=dv.cells.length:=by rw[hst];simp
 have oW:vY c off dv.strip.cells=some (c.take off++dv.strip.cells++c.drop (off+dv.cells.length)):=by unfold vY;rw[hlen,if_pos hle]
 have hm:(c.take off++dv.strip.cells++c.drop (off+dv.cells.length)).map DV.aM=c'.map DV.aM:=by rw[hc',hst];simp only[eY,vA];congr 2;exact List.map_congr_left λd _=>FW d
 have hpa:=sB e2;have hps:dv.strip.cells.all DV.bU=true:=by grind
 have Ry:=sB q2;have hcr:CR k y (c.take off++dv.strip.cells++c.drop (off+dv.cells.length)):=by refine EF (by rw[hm];exact e2) ?_;rw[lU,lU,hps];simp only[qx,aC,aU]at Ry⊢;exact⟨λd hd=>Ry d (vC hd),λd hd=>Ry d (List.mem_of_mem_drop hd)⟩
 have hsz:dv.strip.cells.length=td.size:=by rw[hlen,gY k7];exact c2
 have Cv:pG ty S t (.fV id l.length (i*k.size+off)) dv=some (S.set id (.op e k.size (pre++(c.take off++dv.strip.cells++c.drop (off+dv.cells.length))++post) false)):=by simp only[pG,h1,m3,hsz,hps,decide_true,gq,if_true];rw[<-q1,Yi oW];rfl
 have uY:(pre++(c.take off++dv.strip.cells++c.drop (off+dv.cells.length))++post).length=(pre++c++post).length:=by grind
 refine⟨bD,_,ι,w,.unk,te,_,⟨some [id],true⟩,⟨some [g],true⟩,λ_=>?_,λ_=>?_,⟨λe=>e,λl' jZ=>?_⟩,λl' m _ hm j hj=>?_,zW hR m1 hg m2 uY m6 m7 (q3 y _ hcr),by simp only[RT],hw,λ_ _ _=>rfl,AG m1,L0 hB hg,Az m2 (λe=>aE),rfl,rfl,rfl,rfl⟩;simp only[ah,ho,k1,k4,Cv,ay];simp only[aH,ho,k1,ah,k4,Cv,ay];cases jZ;exact⟨[id],rfl,λj hj=>⟨g,ae,by simp only[bX]at hj;rw[hj];exact hw _ _ m1⟩⟩
 grind
theorem O9{v:TV}{mh:cp}{iq:cx}{c:Prop}(h:VG ty tt te tS o nT=some (v,mh,iq,c))(hc:c):Does P ty aD call yf B o nT te tS false λv' bS bK _=>v'=v/\bS=mh/\bK=iq:=by
 intro ι w env S aB hR hB hw hT hn hS;unfold VG at h;split at h
 .rename_i t a b ho;split at h
  rotate_left
  cases h;rename_i e s iU agg sz z0 n m k h1 h2 h3 h4;split at h
  rotate_left
  cases h;rename_i k0 sz' z h5;split at h
  rotate_left
  cases h;rename_i x h6;split at h
  rotate_left
  cases h;rename_i UW;cases h;simp only[aC,bR,dQ]at UW;obtain⟨⟨⟨⟨c1,c2⟩,c3⟩,c4⟩,c5⟩:=UW;obtain⟨rfl,d2,d3⟩:=hc;obtain⟨cc,m',e1,e2,e3⟩:=Gk h6 (vh (ι:=ι) (S:=S) z);rw[aO e3,iR]at e1;subst e1;have hi1:intOf (ir env) a=some m:=qu hR.env h2;have hi2:intOf (ir env) b=some m:=qu hR.env h3;have h0:0<k.size:=ab
  have h01:(k.agg||k.size==1)=true:=by rw[c3,c2];exact c4
  have hb:m.toNat*iU<=fE:=by
   have:m.toNat<=1000000000:=ab
   calc m.toNat*iU<=1000000000*100000:=Nat.mul_le_mul this c5
    _<=fE:=ao
  have j3:=sQ hR hT hn h0 h01 (e:=e) (Ex e2 m.toNat);rw[c2]at j3;refine⟨.jB aB m.toNat agg,eF S aB (.op e s (List.replicate m.toNat (z.map DV.aM)).flatten false),upd ι nT aB,upd w aB nT,.so nT k,te,_,⟨none,true⟩,⟨none,true⟩,λ_=>?_,λhd=>bj,⟨λe=>e,λl hl=>bc⟩,λl m hl=>bc,j3,?_,qm hR hn hT hw,λhd=>bj,sg hn (ng hB hT),jl hB hT,oC hn,rfl,rfl,rfl⟩;have hpz:=sB e2;simp only[ah,ho,h1,hi1,hi2,h5,d2,c1,c4,hb,hpz,decide_true,gq,if_true,show m<=140737488355328-4096 by omega];simp only[RT,upd,if_true];refine⟨trivial,c3.symm,e,s,_,false,by rw[bC hn,if_pos rfl],?_⟩;have:=iD (Ex e2 m.toNat);rw[this,List.length_replicate,c2]
 .rename_i t n ps ho;split at h
  rotate_left
  cases h;rename_i hh;split at h
  rotate_left
  cases h;rename_i e s iU agg sz z0 l k h1 h2 h3;split at h
  rotate_left
  cases h;rename_i k0 sz' z h4;split at h
  rotate_left
  cases h;rename_i UW;simp only[aC,dQ,jK,bR]at UW;obtain⟨⟨⟨⟨⟨⟨c1,c2⟩,c3⟩,c4⟩,c5⟩,c6⟩,c7⟩:=UW;simp only[af,az]at h;obtain⟨w0,h5,rfl,rfl,rfl,-⟩:=h;obtain⟨ds,k1,k2⟩:=rI hR.env h2;obtain⟨k3,k4⟩:=EC k2 h5;have hlen:ds.length=n:=by rw[A6 k2,c3]
  have adW:((List.replicate n z).flatten).length=ds.length*s:=by rw[hlen,List.length_flatten,List.map_replicate,c4,List.sum_replicate_nat]
  have hf:=xY (pre:=[]) (post:=(List.replicate n z).flatten) c5 k3 ae adW;rw[gu,gu]at hf;have JR:w0.length=n:=by rw[k4,c3]
  have c7':(agg||s==1)=true:=by simpa using c7
  have x7:=wY k3;have h0:0<k.size:=ab
  have h01:(k.agg||k.size==1)=true:=by rw[c6,c5];exact c7'
  have j3:=sQ hR hT hn h0 h01 (e:=e) x7;rw[c5]at j3;refine⟨.jB aB n agg,eF S aB (.op e s (jh ds) false),upd ι nT aB,upd w aB nT,.so nT k,te,_,⟨none,true⟩,⟨none,true⟩,λ_=>?_,λhd=>bj,⟨λe=>e,λl hl=>bc⟩,λl m hl=>bc,j3,?_,qm hR hn hT hw,λhd=>bj,sg hn (ng hB hT),jl hB hT,oC hn,rfl,rfl,rfl⟩;simp only[ah,ho,h1,k1,h4,lT c1,lT c2,gq,if_true,hf,xJ k3,c7',hh];simp only[RT,upd,if_true];refine⟨trivial,c6.symm,e,s,_,false,by rw[bC hn,if_pos rfl],?_⟩;rw[iD x7,JR,c5]
 .rename_i args ats ho;split at h
  rotate_left
  cases h;rename_i x y t u ha ht;split at h
  rotate_left
  cases h;rename_i Un;subst Un;split at h
  .rename_i g k h2;split at h
   rotate_left
   cases h;rename_i e s iU agg sz z0 k' m ap h1 h3;split at h
   rotate_left
   cases h;rename_i F9;subst F9;split at h
   rotate_left
   cases h;rename_i e' l k0 sz' z h4 h5;split at h
   rotate_left
   cases h;rename_i UW;cases h;simp only[aC,dQ,bR]at UW;obtain⟨⟨⟨c1,c2⟩,c3⟩,c4⟩:=UW;subst c1;have hg:=lp h4;obtain⟨d,k1,k2⟩:=bp hR.env h2;obtain⟨id,ds,rfl,m1,m2,m3,m4,m5,m6⟩:=Gj hR hg k2 rfl;simp only[af]at h3;obtain⟨uy,e1,e2⟩:=h3;obtain⟨db,k4,k5⟩:=bp hR.env e1;have k6:=cN (tt:=tt) (t:=t) k5;rw[e2]at k6;cases db<;>simp only[RT]at k6;rename_i news tok f;obtain⟨k6,-⟩:=k6;have ZR:=lX k6;have nG:=jr k6;have x7:=LO m4 (sV k6);have j3:=FX hR m1 hg m2 m5 m6 x7;have hb:(l.length+news.length)*iU<=fE:=by
    have:l.length+news.length<=1000000000:=by rw[ZR];exact hc
    calc (l.length+news.length)*iU<=1000000000*100000:=Nat.mul_le_mul this c4
     _<=fE:=ao
   have nR:(agg||s==1)=true:=by rw[<-c3,<-c2];exact m6
   have jZ:=iD m4;have Z2:oF ty S aB t (.jB id l.length k'.agg) (.sl news tok f)=if news.isEmpty then some (.jB id l.length k'.agg,S)else some (.jB id (l.length+news.length) agg,S.set id (.op e' k'.size (ds++flat news) false)):=by
    simp only[oF,h1,h5];rw[if_pos,m3]
    grind
    grind
   have hst:∀d S',oF ty S aB t (.jB id l.length k'.agg) (.sl news tok f)=some (d,S')->ah P ty aD call yf (ir env) o S aB=some (d,S'):=λd S' h=>by simp only[ah,ho,ha,ht,if_true,k1,k4,h]
   have lF:∀d S',(d=.jB id (l.length+news.length) agg)->S'=S.set id (.op e' k'.size (ds++flat news) false)->RT ι S' (.so g k') d:=λd S' hd CO=>by subst hd CO;have hlt:=(aI.1 m2).1;simp only[RT];refine⟨m1,c3.symm,e',k'.size,_,false,by rw[aN,if_pos rfl,if_pos hlt],?_⟩;rw[iD x7,cL,ZR]
   by_cases Pu:news.isEmpty=true;have Nr:news=[]:=by simpa using Pu
   subst Nr;have hm:m=[]:=eE (by rw[<-ZR];rfl);subst hm;have hSS:S.set id (.op e' k'.size (ds++flat []) false)=S:=by rw[show flat []=[]from rfl,iR];exact GJ m2
   rw[hSS]at j3;rw[if_pos Pu]at Z2;have hrt:=lF (.jB id l.length k'.agg) S (by rw[c3];rfl) hSS.symm;refine⟨_,S,ι,w,.so g k',_,_,⟨none,true⟩,⟨none,true⟩,λ_=>hst _ _ Z2,λhd=>bj,⟨λe=>e,λl hl=>bc⟩,λl m hl=>bc,j3,hrt,hw,λhd=>bj,Fr.refl _ _ _,?_,fP _ _,rfl,rfl,rfl⟩;exact L4 hB hg;rw[if_neg Pu]at Z2;refine⟨_,_,ι,w,.so g k',_,_,⟨none,true⟩,⟨none,true⟩,λ_=>hst _ _ Z2,λhd=>bj,⟨λe=>e,λl hl=>bc⟩,λl m hl=>bc,j3,lF _ _ rfl rfl,hw,λhd=>bj,AG m1,L4 hB hg,Az m2 (λe=>aE),rfl,rfl,rfl⟩
  .rename_i v0 hno h2;split at h
   rotate_left
   cases h;rename_i hh;split at h
   rotate_left
   cases h;rename_i e s iU agg sz z0 k' a m ap h1 h3;split at h
   rotate_left
   cases h;rename_i k0 sz' z h5;split at h
   rotate_left
   cases h;rename_i UW;cases h;simp only[aC,dQ,bR]at UW;obtain⟨⟨⟨⟨⟨c0,c1⟩,c2⟩,c3⟩,c4⟩,c5⟩:=UW;obtain⟨d,k1,k2⟩:=bp hR.env h2;obtain⟨f0,rfl,yx⟩:∃f0,d=.sl [] none f0/\f0.full=true:=by
    cases v0<;>first|(cases c0;done)|skip
    cases d<;>simp only[RT]at k2;obtain⟨rfl,rfl,rfl⟩:=k2;exact⟨_,rfl,rfl⟩;rename_i k9 l9 ap9;cases l9 with
    |cons=>simp[VY]at c0
    |nil=>
     cases ap9<;>first|(simp[VY]at c0;done)|skip
     cases d<;>simp only[RT]at k2;rename_i rows tok f;obtain⟨q1,rfl,q2⟩:=k2;cases rows with
     |nil=>exact⟨f,rfl,q2⟩
     |cons=>exact q1.elim
   simp only[af]at h3;obtain⟨uy,e1,e2⟩:=h3;obtain⟨db,k4,k5⟩:=bp hR.env e1;have k6:=cN (tt:=tt) (t:=t) k5;rw[e2]at k6;cases db<;>simp only[RT]at k6;rename_i news tok f;obtain⟨k6,-⟩:=k6;have ZR:=lX k6;have nG:=jr k6;have x7:=sV k6;have h0:0<k'.size:=ab
   have h01:(k'.agg||k'.size==1)=true:=by rw[c3,c2];exact c4
   have j3:=sQ hR hT hn h0 h01 (e:=e) x7;rw[c2]at j3;have hle:news.length<=1000000000:=by rw[ZR];exact hc
   have hb:news.length*iU<=fE:=by
    calc news.length*iU<=1000000000*100000:=Nat.mul_le_mul hle c5
     _<=fE:=ao
   have Pu:¬(news.isEmpty=true):=by grind
   have Z2:oF ty S aB t (.sl [] none f0) (.sl news tok f)=some (.jB aB news.length agg,eF S aB (.op e s (flat news) false)):=by simp only[oF,h1,h5];rw[if_neg Pu,if_pos];simp only[aC,bR,aU];refine⟨⟨⟨⟨⟨yx,c1⟩,c4⟩,hb⟩,ab⟩,λr hr=>by rw[nG r hr,c2]⟩
   refine⟨.jB aB news.length agg,eF S aB (.op e s (flat news) false),upd ι nT aB,upd w aB nT,.so nT k',te,_,⟨none,true⟩,⟨none,true⟩,λ_=>?_,λhd=>bj,⟨λe=>e,λl hl=>bc⟩,λl m hl=>bc,j3,?_,qm hR hn hT hw,λhd=>bj,sg hn (ng hB hT),jl hB hT,oC hn,rfl,rfl,rfl⟩;simp only[ah,ho,ha,ht,if_true,k1,k4,hh,Z2];simp only[RT,upd,if_true];refine⟨trivial,c3.symm,e,s,_,false,by rw[bC hn,if_pos rfl],?_⟩;rw[iD x7,ZR,c2]
  cases h
 cases h
end Go.Tv
namespace Go.Tv
open Go Go.Di Go.Proofs
def Gl(tS:cx):TV->TV
 |.so g t=>match tS[g]? with
  |some (.rows t' _ l z)=>if h:t'=t then(match z with
   |true=>.sl t (h▸l) .no
   |false=>.so g t)else .unk
  |_=>.unk
 |v=>v
def xu(te:cp)(tS:cx)(x:Operand):cx:=
 match eL te x with
 |some (.so g t)=>match ki tS g t with
  |some (e,l,false)=>tS.set g (.rows t e l true)
  |_=>tS
 |_=>tS
def Ni(te:cp)(tS:cx)(x:Operand):Bool:=
 match eL te x with
 |some .unk|none=>false
 |some (.so g t)=>(ki tS g t).isSome
 |some _=>true
def Nd(ty:fo)(te:cp)(tS:cx)(o:Oper):Option (cp×cx):=
 match ty.h o with
 |2=>if o.op.operands.toList.all (Ni te tS)then some (te.map (Gl (o.op.operands.toList.foldl (xu te) tS)),o.op.operands.toList.foldl (xu te) tS)else none
 |_=>some (te,tS)
variable {P:Program} {ty:fo} {tt:TypeId->cJ} {ι ι' w:kW} {S S':aj} {te mh:cp} {env:cn} {tS iq:cx} {aD:bT} {call:bg} {yf:dx} {o:Oper} {aB nT:Nat} {B:cy} {ops:Array Oper}
theorem Oj{g g':Nat}{t t':TT}{e e':Nat}{l:List t.den}{l':List t'.den}{z:Bool}(h:ki tS g t=some (e,l,z))(h':ki tS g' t'=some (e',l',false)):(ki (tS.set g' (.rows t' e' l' true)) g t).isSome=true:=by
 have h1:=lp h;have h2:=lp h';by_cases e1:g'=g;subst e1;rw[h1]at h2;cases h2;unfold ki;rw[aN,if_pos rfl,if_pos (aI.1 h1).1];simp;have:ki (tS.set g' (.rows t' e' l' true)) g t=ki tS g t:=by unfold ki;rw[aN,if_neg e1]
 rw[this,h];rfl
theorem Yw{x y:Operand}(h:Ni te tS x=true):Ni te (xu te tS y) x=true:=by unfold Ni at h⊢;split at h;cases h;cases h;rename_i g t hx;unfold xu;split;split;rename_i e' l' h2;obtain⟨⟨e,l,z⟩,h1⟩:=y9.1 h;exact Oj h1 h2;exact h;exact h;rfl
theorem tA(hR:bO ι te tS env S)(hB:oy B tS){x:Operand}(h:Ni te tS x=true):bO ι te (xu te tS x) env (qX env S x)/\oy B (xu te tS x)/\Fr B ι S ι (qX env S x)/\∀i,Nn i S (qX env S x):=by
 have same:xu te tS x=tS->qX env S x=S->bO ι te (xu te tS x) env (qX env S x)/\oy B (xu te tS x)/\Fr B ι S ι (qX env S x)/\∀i,Nn i S (qX env S x):=λh1 h2=>by rw[h1,h2];exact⟨hR,hB,Fr.refl _ _ _,λi=>fP _ _⟩
 unfold Ni at h;split at h;cases h;cases h;rename_i g t hx;obtain⟨⟨e,l,z⟩,h1⟩:=y9.1 h;obtain⟨d,k1,k2⟩:=bp hR.env hx;have hg:=lp h1;obtain⟨id,ds,rfl,m1,m2,m3,m4,m5,m6⟩:=Gj hR hg k2 rfl;cases z with
 |true=>exact same (by simp only[xu,hx,h1]) (by simp only[qX,k1,yg,m3])
 |false=>
  have e1:xu te tS x=tS.set g (.rows t e l true):=by simp only[xu,hx,h1]
  have e2:qX env S x=S.set id (.op e t.size ds true):=by simp only[qX,k1,yg,m3]
  rw[e1,e2];exact⟨zW hR m1 hg m2 rfl m5 m6 m4,L0 hB hg,AG m1,λi=>Az m2 (λe=>aE)⟩
 rename_i v h1 h2 hx;obtain⟨d,k1,k2⟩:=bp hR.env hx;refine same ?_ ?_;unfold xu;rw[hx];cases v<;>first|rfl|exact absurd rfl (h2 _ _)
 simp only[qX,k1];cases v<;>first|exact absurd rfl (h2 _ _)|exact absurd rfl h1|skip
 all_goals cases d<;>simp only[RT]at k2<;>rfl
theorem agv:∀(l:List Operand){tS:cx}{S:aj},bO ι te tS env S->oy B tS->l.all (Ni te tS)=true->bO ι te (l.foldl (xu te) tS) env (l.foldl (qX env) S)/\oy B (l.foldl (xu te) tS)/\Fr B ι S ι (l.foldl (qX env) S)/\∀i,Nn i S (l.foldl (qX env) S)
 |[],_,S,hR,hB,_=>⟨hR,hB,Fr.refl _ _ _,λi=>fP _ _⟩
 |x::l,tS,S,hR,hB,h=>by simp only[cg,aC]at h;obtain⟨h1,h2,h3,h4⟩:=tA hR hB h.1;obtain⟨k1,k2,k3,k4⟩:=agv l h1 h2 (aU.2 λy hy=>Yw (aU.1 h.2 y hy));refine⟨k1,k2,h3.trans k3,λi=>⟨bt (h4 i).1 (k4 i).1,λj hj hn=>(k4 i).2 j hj ((h4 i).2 j hj hn)⟩⟩
theorem abL(hR:bO ι mh tS env S){v:TV}{d:DV}(h:RT ι S v d):RT ι S (Gl tS v) (iK S d):=by
 cases v
 case so g t=>
  simp only[Gl];split;rename_i t' e l z hg;split;rename_i ht;obtain⟨id,ds,rfl,m1,m2,m3,m4,m5,m6⟩:=Gj hR hg h ht;subst ht;cases z with
  |true=>rw[QN m3 m5 m6];simp only[RT,qb,and_true];exact xX m6 m4
  |false=>
   have:iK S (.jB id l.length t'.agg)=.jB id l.length t'.agg:=by simp only[iK,m3]
   rw[this];exact h
  simp only[RT];simp only[RT]
 case unk=>simp only[Gl,RT]
 all_goals
  cases d<;>simp only[RT]at h;simp only[Gl,iK,RT];exact h
theorem LB(hR:bO ι mh tS env S):∀{l:cp}{m:cn},cq ι S l m->cq ι S (l.map (Gl tS)) (m.map (iK S))
 |[],m,h=>by rw[aO h];exact bJ
 |a::l,m,h=>by obtain⟨d,m',rfl,h1,h2⟩:=ax h;exact aP (abL hR h1) (LB hR h2)
theorem ae4(hR:bO ι te tS env S)(hB:oy B tS)(h:Nd ty te tS o=some (mh,iq)):bO ι mh iq (FL ty o env S).1 (FL ty o env S).2/\oy B iq/\Fr B ι S ι (FL ty o env S).2/\Nn S.length S (FL ty o env S).2:=by unfold Nd at h;unfold FL;split at h;rename_i hh;split at h;rename_i jU;cases h;obtain⟨h1,h2,h3,h4⟩:=agv (env:=env) _ hR hB jU;simp only[hh];exact⟨⟨LB h1 h1.env,h1.cells,h1.own,h1.qH,h1.inj,h1.mp⟩,h2,h3,h4 _⟩;cases h;rename_i hh;cases h;simp only[];exact⟨hR,hB,Fr.refl _ _ _,fP _ _⟩
theorem kR{k:Nat}(ho:ops[k]? =some o)(hw:dN ops te o=some true)(hp:Nd ty te tS o=some (mh,iq)){Q:cp->cx->Prop}{K:TV->cp->cx->cQ->Prop}(hd:Does P ty aD call yf B o iq.length mh iq false K)
  (h:∀v bS bK ft,K v bS bK ft->WL P ty aD call yf B ops (k+1) (jV bS o.dst v) bK Q):WL P ty aD call yf B ops k te tS Q:=by
 intro ι env S hR hB;obtain⟨MS,RF,hF1,hN1⟩:=ae4 (o:=o) hR hB hp;generalize wj:FL ty o env S=pr at MS hF1 hN1;obtain⟨nW,S1⟩:=pr;obtain⟨w,hwk⟩:=Nx MS;obtain⟨d,S',ι',w',v,bS,bK,f,ft,h1,-,-,-,h5,h6,-,-,h9,wz,Ge,U0⟩:=hd ι w nW S1 S1.length MS RF hwk (.inr rfl) (.inr rfl) (λe=>aE);obtain⟨aL,xh,ι'',tK,tL,k1,k2,k3,k4,k5,k6⟩:=h v bS bK ft U0 ι' (j4 nW o.dst d) S' (oA h5 h6 _) wz;refine⟨aL,xh,ι'',tK,tL,?_,k2,k3,(hF1.trans h9).trans k4,uz hN1 (uz Ge k5),k6⟩;rw[oE ho];simp only[Ia,ia hR.env hw,if_true,wj,h1 rfl,k1]
end Go.Tv
namespace Go.Tv
open Go Go.Di Go.Proofs
variable {P:Program} {ty:fo} {tt:TypeId->cJ} {ι ι' w:kW} {S S':aj} {te mh:cp} {env:cn} {tS iq:cx} {aD:bT} {call:bg} {yf:dx} {o:Oper} {aB nT:Nat} {B:cy} {ops:Array Oper}
def ads(call:bg)(g:FuncId)(targs:cp)(e:TypeId)(Q:TV->Prop):Prop:=
 ∀bV,cq gI [] targs bV->∃rows r t J1,aac (call g bV [])=some (rows,r)/\(r=some (e,t.size)\/r=none/\J1=[])/\ei (CR t) t.agg J1 rows/\Q (.sl t J1 .no)
theorem O7{f:Operand}{args:Array Operand}{argTypes:Array TypeId}{g:FuncId}{fs cs xs targs:cp}{e:TypeId}{Q:TV->Prop}(hop:o.op=.call {callee:=.value f,args,argTypes})(hh:ty.h o=1)(hf:eL te f=some (.fn g fs cs))(ha:lD te args.toList=some xs)(hp:(fs++xs++cs).all eu=true)
  (hn:bL (fM tt fs argTypes) (fs++xs++cs)=targs) (hs:ads call g targs e Q):Does P ty aD call yf B o nT te tS true λv bS bK ft=>∃t J1,Q (.sl t J1 .no)/\v=.sl t J1 (.oS nT)/\bS=te/\bK=nS tS nT (.own e t.size)/\ft=⟨some [nT],true⟩:=by
 intro ι w env S aB hR hB hw hT Dh hS;obtain⟨xe,iB,F5,k1,k2,k3⟩:=ig hR.env hf ha;obtain⟨k4,k5⟩:=jy (ts:=fM tt fs argTypes) (ι':=gI) (S':=[]) hp k3;rw[hn]at k5;obtain⟨rows,r,t,J1,m1,hr,m2,m3⟩:=hs _ k5;have hno:=hS rfl;have hlt:=(aI.1 hno).1;have aam:∀b,eF S aB b=S.set aB b:=λb=>by unfold eF;rw[if_pos hlt]
 rcases hr with rfl|⟨rfl,rfl⟩
 rotate_left
 have hz:S.set aB .none=S:=Wu hno;refine⟨.sl [] none ⟨true,none⟩,S,ι,upd w aB nT,.sl t [] (.oS nT),te,_,⟨some [aB],true⟩,⟨some [nT],true⟩,λhd=>bj,λ_=>?_,⟨λh=>h,λl hl=>⟨[aB],rfl,λj hj=>⟨nT,by cases hl;simp,?_⟩⟩⟩,λl m _ hm j hj=>.inl ?_,EY hR hT,?_,?_,λ_ j hj=>by simp only[upd,hj,if_false],Fr.refl _ _ _,jl hB hT,fP _ _,t,[],m3,rfl,rfl,rfl,rfl⟩;simp only[aH,hop,k1,k2,if_pos hh,wE,hno,Vb,k4,if_true,m1,ay,hz];simp only[bX]at hj;subst hj;simp only[upd,if_true]
 grind
 simp only[RT];exact⟨trivial,.inl ⟨rfl,rfl,rfl⟩⟩;intro a b pV;unfold upd;rw[if_neg (hR.dD Dh pV)];exact hw _ _ pV;have j3:=BW hR hT Dh e t.size rows.length;rw[aam]at j3;have hfr:=sg (b:=.tail e t.size (rows.length*t.size)) (ι:=ι) Dh (ng hB hT);have UN:=oC (b:=.tail e t.size (rows.length*t.size)) Dh;rw[aam]at hfr UN;refine⟨.sl rows (some aB) ⟨false,none⟩,S.set aB (.tail e t.size (rows.length*t.size)),upd ι nT aB,upd w aB nT,.sl t J1 (.oS nT),te,_,⟨some [aB],true⟩,⟨some [nT],true⟩,λhd=>bj,λ_=>?_,⟨λh=>h,λl hl=>⟨[aB],rfl,λj hj=>⟨nT,by cases hl;simp,?_⟩⟩⟩,λl m _ hm j hj=>.inl ?_,j3,?_,qm hR Dh hT hw,λ_ j hj=>by simp only[upd,hj,if_false],hfr,jl hB hT,UN,t,J1,m3,rfl,rfl,rfl,rfl⟩;simp only[aH,hop,k1,k2,if_pos hh,wE,hno,Vb,k4,if_true,m1,ay];simp only[bX]at hj;subst hj;simp only[upd,if_true]
 grind
 simp only[RT];exact⟨m2,.inr ⟨aB,e,t.size,by simp[upd],rfl,by rw[aN,if_pos rfl,if_pos hlt]⟩⟩
def akJ(ty:fo)(rs:List ResultVar)(e:TypeId)(Q:TV->Prop)(ex:DX)(te:cp)(tS:cx):Prop:=
 (match ex with|.exit _=>False|_=>True)/\∃t J1 g,xo ty te tS rs=some [.sl t J1 (.oS g)]/\tS[g]? =some (.own e t.size)/\Q (.sl t J1 .no)
end Go.Tv
namespace Go.Tv
open Go Go.Di Go.Proofs
variable {P:Program} {ty:fo} {tt:TypeId->cJ} {ι ι' w:kW} {S S':aj} {te:cp} {env:cn} {tS:cx} {aD:bT} {call:bg} {yf:dx} {o:Oper} {aB nT:Nat} {B L:cy}
def loc:cy->Nat->Option Nat
 |[],_=>none
 |a::l,k=>if a=k then some 0 else(loc l k).map (·+1)
theorem YJ{a k:Nat}{l:cy}:loc (a::l) k=if a=k then some 0 else(loc l k).map (·+1):=rfl
theorem iO:∀{L:cy}{k j:Nat},loc L k=some j->L[j]? =some k
 |[],_,_,h=>ar
 |a::l,k,j,h=>by
  unfold loc at h;split at h
  grind
  simp only[af]at h;obtain⟨i,h1,rfl⟩:=h;simpa using iO h1
theorem vr:∀{L:cy}{k:Nat},k∈L->∃j,loc L k=some j
 |[],_,h=>ar
 |a::l,k,h=>by unfold loc;by_cases e:a=k;exact⟨0,if_pos e⟩;obtain⟨j,hj⟩:=vr (L:=l) (k:=k) ((aV.1 h).resolve_left λh=>e h.symm);exact⟨j+1,by rw[if_neg e,hj];rfl⟩
theorem zy{L:cy}{k:Nat}(h:loc L k=none):k∉L:=λhk=>by obtain⟨j,hj⟩:=vr hk;rw[hj]at h;cases h
def UI(ρ:Nat->Option Nat):TV->Option TV
 |.ptr k off=>(ρ k).map λj=>.ptr j off
 |v=>if kG v then some v else none
def Aj(ρ:Nat->Option Nat):cp->Option cp
 |[]=>some []
 |v::l=>match UI ρ v,Aj ρ l with
  |some a,some b=>some (a::b)
  |_,_=>none
def ahc:TT:=.pair (.int .i64) (.pair (.int .i64) (.pair (.int .i64) .unit))
def Pk(ρ:Nat->Option Nat):TV->Option TV
 |.fn g a b=>match Aj ρ a,Aj ρ b with
  |some x,some y=>some (.fn g x y)
  |_,_=>none
 |.jD=>some (.sl ahc [] .no)
 |v=>UI ρ v
def Dq(ρ:Nat->Option Nat):cp->Option cp
 |[]=>some []
 |v::l=>match Pk ρ v,Dq ρ l with
  |some a,some b=>some (a::b)
  |_,_=>none
def qO:TV->Bool
 |.sl _ _ (.stop _)=>true
 |_=>false
def Ct(ρ:Nat->Option Nat):cp->Option cp
 |[]=>some []
 |v::l=>match qO v with
  |true=>if kG v&&l.all kG then some (v::l)else none
  |false=>match Pk ρ v,Ct ρ l with
   |some a,some b=>some (a::b)
   |_,_=>none
theorem XZ{ρ:Nat->Option Nat}{v:TV}(h:kG v=true):Pk ρ v=some v:=by cases v<;>first|(cases h;done)|(simp only[Pk,UI,h,if_true])
theorem GP{ρ:Nat->Option Nat}:∀{l:cp},l.all kG=true->Dq ρ l=some l
 |[],_=>rfl
 |v::l,h=>by simp only[cg,aC]at h;simp only[Dq,XZ h.1,GP h.2]
theorem Iu{ρ:Nat->Option Nat}:∀{l l':cp},Ct ρ l=some l'->Dq ρ l=some l'
 |[],_,h=>h
 |v::l,l',h=>by simp only[Ct]at h;split at h;split at h;rename_i hp;cases h;exact GP (by rw[cg];exact hp);cases h;split at h;rename_i a b e1 e2;cases h;simp only[Dq,e1,Iu e2];cases h
def rnA(ρ:Nat->Option Nat)(t:cJ):TV->Option TV
 |.ptr k off=>(ρ k).map λj=>.ptr j off
 |.fn g a b=>Pk ρ (.fn g a b)
 |v=>if eu v then some (kE t v)else none
def tM(ρ:Nat->Option Nat):List cJ->cp->Option cp
 |_,[]=>some []
 |[],v::l=>match rnA ρ none v,tM ρ [] l with
  |some a,some b=>some (a::b)
  |_,_=>none
 |t::ts,v::l=>match rnA ρ t v,tM ρ ts l with
  |some a,some b=>some (a::b)
  |_,_=>none
theorem Hv{v:TV}(h:kG v=true):refs v=[]:=by
 cases v<;>first|(cases h;done)|skip
 rfl;rename_i t l ap;cases ap<;>first|(cases h;done)|rfl
section
variable {ρ:Nat->Option Nat} (hρ:∀k j,ρ k=some j->ι' j=ι k)
include hρ
theorem Wx{v v':TV}{d:DV}(h:UI ρ v=some v')(hv:RT ι S v d):RT ι' S' v' d:=by unfold UI at h;split at h;simp only[af]at h;obtain⟨j,h1,rfl⟩:=h;cases d<;>simp only[RT]at hv⊢;exact⟨(hρ _ _ h1).trans hv.1,hv.2⟩;split at h;rename_i hp;cases h;exact oN _ _ (Hv hp) hv;cases h
theorem I5:∀{l l':cp}{m:cn},Aj ρ l=some l'->cq ι S l m->cq ι' S' l' m
 |[],l',m,h,hv=>by cases h;rw[aO hv];exact bJ
 |v::l,l',m,h,hv=>by obtain⟨d,m',rfl,h1,h2⟩:=ax hv;simp only[Aj]at h;split at h;rename_i a b e1 e2;cases h;exact aP (Wx hρ e1 h1) (I5 e2 h2);cases h
theorem Wy{v v':TV}{d:DV}(h:Pk ρ v=some v')(hv:RT ι S v d):RT ι' S' v' d:=by unfold Pk at h;split at h;split at h;rename_i x y e1 e2;cases h;cases d<;>simp only[RT]at hv⊢;exact⟨hv.1,I5 hρ e1 hv.2.1,I5 hρ e2 hv.2.2⟩;cases h;cases h;cases d<;>simp only[RT]at hv⊢;obtain⟨rfl,-,-⟩:=hv;exact⟨trivial,trivial⟩;exact Wx hρ h hv
theorem Qo:∀{l l':cp}{m:cn},Dq ρ l=some l'->cq ι S l m->cq ι' S' l' m
 |[],l',m,h,hv=>by cases h;rw[aO hv];exact bJ
 |v::l,l',m,h,hv=>by obtain⟨d,m',rfl,h1,h2⟩:=ax hv;simp only[Dq]at h;split at h;rename_i a b e1 e2;cases h;exact aP (Wy hρ e1 h1) (Qo e2 h2);cases h
theorem Qn{l l':cp}{m:cn}(h:Ct ρ l=some l')(hv:cq ι S l m):cq ι' S' l' m:=Qo hρ (Iu h) hv
theorem Wz{t:cJ}{v v':TV}{d:DV}(h:rnA ρ t v=some v')(hv:RT ι S v d):RT ι' S' v' d:=by unfold rnA at h;split at h;simp only[af]at h;obtain⟨j,h1,rfl⟩:=h;cases d<;>simp only[RT]at hv⊢;exact⟨(hρ _ _ h1).trans hv.1,hv.2⟩;exact Wy hρ h hv;split at h;rename_i hp;cases h;exact sL hp hv;cases h
theorem I6:∀{ts:List cJ}{l l':cp}{m:cn},tM ρ ts l=some l'->cq ι S l m->cq ι' S' l' m
 |_,[],l',m,h,hv=>by simp only[tM]at h;cases h;rw[aO hv];exact bJ
 |[],v::l,l',m,h,hv=>by obtain⟨d,m',rfl,h1,h2⟩:=ax hv;simp only[tM]at h;split at h;rename_i a b e1 e2;cases h;exact aP (Wz hρ e1 h1) (I6 e2 h2);cases h
 |t::ts,v::l,l',m,h,hv=>by obtain⟨d,m',rfl,h1,h2⟩:=ax hv;simp only[tM]at h;split at h;rename_i a b e1 e2;cases h;exact aP (Wz hρ e1 h1) (I6 e2 h2);cases h
end
def J7(ρ:Nat->Option Nat)(tS:cx):cy->Option (List cp)
 |[]=>some []
 |k::l=>match tS[k]? with
  |some (.cells c)=>match Ct ρ c,J7 ρ tS l with
   |some a,some b=>some (a::b)
   |_,_=>none
  |_=>none
theorem zi{ρ:Nat->Option Nat}:∀{L:cy}{tP:List cp},J7 ρ tS L=some tP->tP.length=L.length/\∀(j k:Nat),L[j]? =some k->∃c c',tS[k]? =some (TB.cells c)/\Ct ρ c=some c'/\tP[j]? =some c'
 |[],tP,h=>by cases h;exact⟨rfl,ae⟩
 |a::L,tP,h=>by
  simp only[J7]at h;split at h;rename_i c hc;split at h;rename_i x y e1 e2;cases h;obtain⟨h1,h2⟩:=zi e2;refine⟨by simp[h1],λj k hj=>?_⟩;cases j with
  |zero=>grind
  |succ j=>simpa using h2 j k (by simpa using hj)
  cases h;cases h
def Gx(call:bg)(g:FuncId)(targs:cp)(tP:List cp)(Q:TV->List cp->Prop):Prop:=
 ∀ι bV S,bO ι targs (tP.map .cells) bV S->∃d S' ι' v HR,call g bV S=some (d,S')/\RT ι' S' v d/\BH v=true/\HR.length=tP.length/\IM ι' S' (HR.map .cells)/\Fr (List.range tP.length) ι S ι' S'/\Nn S.length S S'/\Q v HR
theorem Gx.mono {g:FuncId}{targs:cp}{tP:List cp}{Q Q':TV->List cp->Prop}(h:Gx call g targs tP Q)(hq:∀v t,Q v t->Q' v t):Gx call g targs tP Q':=λι bV S hd=>by obtain⟨d,S',ι',v,HR,h1,h2,h3,h4,h5,h6,h7,h8⟩:=h ι bV S hd;exact⟨d,S',ι',v,HR,h1,h2,h3,h4,h5,h6,h7,hq _ _ h8⟩
def wh(L:cy)(ι:kW):kW:=λj=>(L[j]?).bind ι
def nodupB:cy->Bool
 |[]=>true
 |a::l=>!l.contains a&&nodupB l
theorem Eo:∀{L:cy}{i j k:Nat},nodupB L=true->L[i]? =some k->L[j]? =some k->i=j
 |[],_,_,_,_,h,_=>by simp at h
 |a::L,0,0,_,_,_,_=>rfl
 |a::L,0,j+1,k,hn,hi,hj=>by simp only[nodupB,aC,oH]at hn;simp only[dH,aF]at hi;subst hi;have:=bY (show L[j]? =some a by simpa using hj);simp[this]at hn
 |a::L,i+1,0,k,hn,hi,hj=>by simp only[nodupB,aC,oH]at hn;simp only[dH,aF]at hj;subst hj;have:=bY (show L[i]? =some a by simpa using hi);simp[this]at hn
 |a::L,i+1,j+1,k,hn,hi,hj=>by simp only[nodupB,aC]at hn;rw[Eo (i:=i) (j:=j) hn.2 (by simpa using hi) (by simpa using hj)]
theorem uD{k j:Nat}(h:loc L k=some j):wh L ι j=ι k:=by simp[wh,iO h]
theorem abn(hR:bO ι te tS env S){tP:List cp}{targs:cp}{bV:cn}(hn:nodupB L=true)(hb:J7 (loc L) tS L=some tP)(ha:cq (wh L ι) S targs bV):bO (wh L ι) targs (tP.map .cells) bV S:=by
 obtain⟨hl,hg⟩:=zi hb;refine⟨ha,λj l hj=>?_,λj e s hj=>?_,λj k' hj=>?_,λi j k' hi hj=>?_,λj b hj t _=>?_⟩;simp only[cH,af,TB.cells.injEq]at hj;obtain⟨c',h1,rfl⟩:=hj;have hlt:j<L.length:=hl▸(aI.1 h1).1;have Cn:L[j]? =some L[j]:=aT hlt;obtain⟨c,c2,k1,k2,k3⟩:=hg j _ Cn;rw[h1]at k3;cases k3;obtain⟨k',ds,m1,m2,m3⟩:=hR.cells _ _ k1;exact⟨k',ds,by simp[wh,Cn,m1],m2,Qn (λk j h=>uD h) k2 m3⟩;simp at hj;unfold wh at hj;cases Cn:L[j]? with
 |none=>rw[Cn]at hj;cases hj
 |some k=>grind
 unfold wh at hi hj;cases Uy:L[i]? with
 |none=>rw[Uy]at hi;cases hi
 |some a=>
  cases Cn:L[j]? with
  |none=>rw[Cn]at hj;cases hj
  |some b=>rw[Uy]at hi;rw[Cn]at hj;obtain rfl:=hR.inj a b k' hi hj;exact Eo hn Uy Cn
 simp only[cH,af]at hj;obtain⟨c,-,rfl⟩:=hj;trivial
def Ib(L:cy):List cp->Option (List cp)
 |[]=>some []
 |c::l=>match Ct (λj=>L[j]?) c,Ib L l with
  |some a,some b=>some (a::b)
  |_,_=>none
theorem Ef:∀{tP tB:List cp},Ib L tP=some tB->tB.length=tP.length/\∀(j:Nat) c,tB[j]? =some c->∃c',tP[j]? =some c'/\Ct (λj=>L[j]?) c'=some c
 |[],tB,h=>by cases h;exact⟨rfl,ae⟩
 |a::tP,tB,h=>by
  simp only[Ib]at h;split at h;rename_i x y e1 e2;cases h;obtain⟨h1,h2⟩:=Ef e2;refine⟨by simp[h1],λj c hj=>?_⟩;cases j with
  |zero=>grind
  |succ j=>simpa using h2 j c (by simpa using hj)
  cases h
def yc:cy->List cp->cx->cx
 |k::L,c::tB,tS=>yc L tB (tS.set k (.cells c))
 |_,_,tS=>tS
theorem Eg:∀{L:cy}{tB:List cp}{tS:cx}{k:Nat},nodupB L=true->tB.length=L.length->(∀k∈L,k<tS.length)->(yc L tB tS)[k]? =match loc L k with|some j=>(tB[j]?).map TB.cells|none=>tS[k]?
 |[],[],tS,k,_,_,_=>rfl
 |[],_::_,_,_,_,h,_=>by simp at h
 |_::_,[],_,_,_,h,_=>by simp at h
 |a::L,c::tB,tS,k,hn,hl,hlt=>by
  simp only[nodupB,aC,oH]at hn;unfold yc;rw[Eg hn.2 (by simpa using hl) λk hk=>by simpa using hlt k (nt _ hk)];rw[YJ];by_cases e:a=k;subst e;have:loc L a=none:=by
   cases h:loc L a with
   |none=>rfl
   |some j=>have:=bY (iO h);simp[this]at hn
  simp[this,hlt a (gO ..)]
  grind
theorem Pb{f:Operand}{args:Array Operand}{argTypes:Array TypeId}{g:FuncId}{fs cs xs targs:cp}{tP:List cp}{Q:TV->List cp->Prop}(hop:o.op=.call {callee:=.value f,args,argTypes})(hf:eL te f=some (.fn g fs cs))(ha:lD te args.toList=some xs)
  (Dh:nodupB L=true) (hn:tM (loc L) (fM tt fs argTypes) (fs++xs++cs)=some targs) (hr:(fs++xs++cs).any isRef=true) (hb:J7 (loc L) tS L=some tP) (hs:Gx call g targs tP Q) (hq:∀v t,Q v t->∃tB,Ib L t=some tB):
  Does P ty aD call yf B o nT te tS false λv bS bK ft=>∃HR tB,Q v HR/\Ib L HR=some tB/\bS=te/\bK=yc L tB tS/\ft=⟨none,true⟩:=by
 intro ι w env S aB hR hB hw hT RR hS;obtain⟨xe,iB,F5,k1,k2,k3⟩:=ig hR.env hf ha;obtain⟨hl,hg⟩:=zi hb;obtain⟨d,S',ι',v,HR,n1,n2,n3,n4,n5,n6,n7,n8⟩:=hs _ _ S (abn hR Dh hb (I6 (λk j h=>uD h) hn k3));obtain⟨tB,Z1⟩:=hq _ _ n8;obtain⟨b1,b2⟩:=Ef Z1;have hlt:∀k∈L,k<tS.length:=λk hk=>by obtain⟨j,hj⟩:=vr hk;obtain⟨c,c',h1,-⟩:=hg j k (iO hj);exact(aI.1 h1).1
 have aR:∀k,(yc L tB tS)[k]? =match loc L k with|some j=>(tB[j]?).map TB.cells|none=>tS[k]? :=λk=>Eg Dh ab hlt
 have tY:∀j,j<L.length->ι' j=wh L ι j:=λj hj=>n6.base j (by simp;omega);have lM:∀k k0,k∉L->ι k=some k0->S'[k0]? =S[k0]? :=by
  intro k k0 hk h0;refine n6.rest k0 (hR.live h0) λj hj=>?_;unfold wh at hj;cases Cn:L[j]? with
  |none=>rw[Cn]at hj;cases hj
  |some a=>rw[Cn]at hj;obtain rfl:=hR.inj k a k0 h0 hj;exact hk (bY Cn)
 have dB:∀k,k∈L->∃c k0 ds,tS[k]? =some (.cells c)/\ι k=some k0/\S[k0]? =some (.cells ds):=λk hk=>by obtain⟨j,hj⟩:=vr hk;obtain⟨c,c',h1,-⟩:=hg j k (iO hj);obtain⟨k0,ds,h2,h3,-⟩:=hR.cells k c h1;exact⟨c,k0,ds,h1,h2,h3⟩
 have K:iY ι S ι S' λ_=>False:=λk k0 _ hk=>⟨hk,by by_cases F9:k∈L;obtain⟨c,k1,ds,h1,h2,h3⟩:=dB k F9;rw[h2]at hk;cases hk;exact vt (by rw[h3];simp) (by rw[h3];simp) (by rw[h3];simp);exact dz (lM k k0 F9 hk)⟩;have ZQ:=mO hr k3;have x7:refs v=[]:=by
  have:∀{u:TV},DF u=true->refs u=[]:=λ{u} hu=>by
   cases u<;>first|(cases hu;done)|skip
   rfl;rename_i l;simp only[refs];simp only[DF]at hu;clear n2 n3 n8;induction l with
   |nil=>rfl
   |cons a l ih=>simp only[cg,aC]at hu;simp only[eM,Hv hu.1,ih hu.2,iR]
   rename_i t l ap;cases ap<;>first|(cases hu;done)|rfl
  clear n2 n8;cases v<;>first|exact this n3|skip
  rename_i l;simp only[refs];simp only[BH]at n3;induction l with
  |nil=>rfl
  |cons a l ih=>simp only[cg,aC]at n3;simp only[eM,this n3.1,ih n3.2,iR]
 refine⟨d,S',ι,w,v,te,yc L tB tS,⟨none,true⟩,⟨none,true⟩,λ_=>?_,λhd=>bj,⟨λe=>e,λl hl=>bc⟩,λl m hl=>bc,?_,oN _ _ x7 n2,hw,λ_ _ _=>rfl,⟨λk0 hl hno=>n6.rest k0 hl λj hj=>?_,λk k0 hk=>.inl ⟨k,hk⟩,λ_ _=>rfl⟩,λk hk=>?_,⟨n7.1,λj hj dU=>?_⟩,HR,tB,n8,Z1,rfl,rfl,rfl⟩;simp only[ah,hop,k1,k2,wN,ZQ,aJ,if_false,n1];split<;>rfl;refine⟨bn K _ _ hR.env,λk l hk=>?_,λk e s hk t ht=>?_,λk k0 hk=>?_,hR.inj,λk b hk t ht=>?_⟩;rw[aR]at hk;split at hk;rename_i j hj;simp only[af,TB.cells.injEq]at hk;obtain⟨c,hc,rfl⟩:=hk;obtain⟨c',h1,h2⟩:=b2 j c hc;obtain⟨k',iu,m1,m2,m3⟩:=n5 j c' (by simp[h1]);have hjl:j<L.length:=(aI.1 (iO hj)).1;rw[tY j hjl,uD hj]at m1;refine⟨k',iu,m1,m2,Qn (ι:=ι') (ρ:=λj=>L[j]?) (λa b pV=>?_) h2 m3⟩;have hal:a<L.length:=(aI.1 pV).1;rw[tY a hal];simp[wh,pV];rename_i hno;obtain⟨k0,M8,q1,q2,q3⟩:=hR.cells k l hk;exact⟨k0,M8,q1,by rw[lM k k0 (zy hno) q1];exact q2,bn K _ _ q3⟩;rw[aR]at hk;split at hk;simp at hk;obtain⟨n,q1⟩:=hR.own k e s hk t ht;exact⟨n,(K k t (λe=>e) ht).2.1 _ _ _ q1⟩;rw[aR];split;rename_i j hj;have hjl:j<tB.length:=by have:=(aI.1 (iO hj)).1;omega
 exact⟨.cells tB[j],by simp[hjl],ae⟩;exact hR.qH k k0 hk;rw[aR]at hk;split at hk;simp only[af]at hk;obtain⟨c,-,rfl⟩:=hk;trivial;rename_i hno;rw[lM k t (zy hno) ht];exact hR.mp k b hk t ht;unfold wh at hj;cases Cn:L[j]? with
 |none=>rw[Cn]at hj;cases hj
 |some a=>rw[Cn]at hj;exact hno _ hj
 rw[aR];split;rename_i j hj;have hjl:j<tB.length:=by have:=(aI.1 (iO hj)).1;omega
 exact⟨some tB[j],by simp[hjl,lQ]⟩;exact hB k hk;have:=(aI.1 dU).1;exact n7.2 j ab dU
end Go.Tv
