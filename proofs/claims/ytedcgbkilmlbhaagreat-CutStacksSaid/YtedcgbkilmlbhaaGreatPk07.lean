import Derived.Test.YtedcgbkilmlbhaaGreatPk06
namespace Go.Tv
open Go Go.Di Go.Proofs
variable {P:Program} {ty:gb} {tt:TypeId->cJ} {ι ι' w:lp} {S S':ai} {te mV:cp} {env:cj} {tS iS:cx} {aI:b9} {call:bG} {yf:ez} {o:Oper} {aC nT:Nat} {B:cy} {ops:Array Oper}
theorem tZ(h:bZ ι te tS env S)(hT:xV tS nT)(hn:yU S aC){t:TT}{e:Nat}{l:List t.den}{ds:cj}(h0:0<t.size)(h1:(t.agg||t.size==1)=true)(hf:fW t l ds):bZ (upd ι nT aC) te (oC tS nT (.rows t e l false)) env (fu S aC (.op e t.size ds false)):=by
 have K:=sM h hT hn (.op e t.size ds false);refine⟨bH K _ _ h.env,λk l hk=>?_,λk e s hk t ht=>?_,λk k' hk=>?_,λi j k' hi hj=>?_,λk b hk t0 ht=>?_⟩;rw[dh hT]at hk;split at hk;cases hk;rename_i e;obtain⟨k',iL,h1,h2,h3⟩:=h.cells k l hk;exact⟨k',iL,by simp only[upd,e,if_false];exact h1,by rw[bN hn,if_neg (h.en hn h1)];exact h2,bH K _ _ h3⟩;rw[dh hT]at hk;split at hk;cases hk;rename_i e';simp only[upd,e',if_false]at ht;obtain⟨n,h1⟩:=h.own k e s hk t ht;exact⟨n,by rw[bN hn,if_neg (h.en hn ht)];exact h1⟩;rw[dh hT];split
 grind
 rename_i e;simp only[upd,e,if_false]at hk;exact h.qB k k' hk;unfold upd at hi hj;split at hi<;>split at hj;omega;cases hi;exact(h.en hn hj rfl).elim
 cases hj;exact(h.en hn hi rfl).elim
 exact h.inj i j k' hi hj;rw[dh hT]at hk;split at hk;rename_i e';cases hk;simp only[upd,e',if_true,aG]at ht;subst ht;rw[bN hn,if_pos rfl];exact⟨h0,h1,ds,rfl,hf⟩;rename_i e';simp only[upd,e',if_false]at ht;rw[bN hn,if_neg (h.en hn ht)];exact h.mp k b hk t0 ht
theorem Ar(h:bZ ι te tS env S){g id:Nat}{t:TT}{e:Nat}{l l':List t.den}{ds iL:cj}{z z':Bool}(hi:ι g=some id)(hg:tS[g]? =some (.rows t e l z))(hS:S[id]? =some (.op e t.size ds z))(hl:iL.length=ds.length)(h0:0<t.size)(h1:(t.agg||t.size==1)=true)(hf:fW t l' iL):bZ ι te (tS.set g (.rows t e l' z')) env (S.set id (.op e t.size iL z')):=by
 have hlt:=(aM.1 hg).1;have CQ:=(aM.1 hS).1;have K:jE ι S ι (S.set id (.op e t.size iL z')) λ_=>False:=λa b _ qA=>⟨qA,by rw[aS];split;rename_i e1;subst e1;rw[hS];exact⟨λ_ _ _ h=>(nomatch h),λe s l z h=>(by cases h;exact⟨iL,z',rfl,hl⟩),λ_ h=>(nomatch h)⟩;exact ei rfl⟩;have UT:∀j,(tS.set g (.rows t e l' z'))[j]? =if j=g then some (.rows t e l' z')else tS[j]? :=λj=>by
  rw[aS];by_cases e:j=g
  grind
  grind
 have s4:∀j,j≠id->(S.set id (.op e t.size iL z'))[j]? =S[j]? :=λj hj=>by rw[aS,if_neg (Ne.symm hj)]
 refine⟨bH K _ _ h.env,λj m hj=>?_,λj e s hj t ht=>?_,λj j' hj=>?_,h.inj,λj b hj t0 ht=>?_⟩;rw[UT]at hj;split at hj;cases hj;rename_i e;obtain⟨j',Nv,h1,h2,h3⟩:=h.cells j m hj;exact⟨j',Nv,h1,by rw[s4 j' λe1=>e (h.inj _ _ _ (e1▸h1) hi)];exact h2,bH K _ _ h3⟩;rw[UT]at hj;split at hj;cases hj;obtain⟨n,h1⟩:=h.own j e s hj t ht;exact⟨n,(K j t (λe=>e) ht).2.1 _ _ _ h1⟩;rw[UT];split
 grind
 exact h.qB j j' hj;rw[UT]at hj;split at hj;rename_i e;subst e;cases hj;rw[hi]at ht;cases ht;rw[aS,if_pos rfl,if_pos CQ];exact⟨h0,h1,iL,rfl,hf⟩;rename_i e;rw[s4 t0 λe1=>e (h.inj _ _ _ (e1▸ht) hi)];exact h.mp j b hj t0 ht
theorem acf{g:Nat}{b:TB}{x:Option DB}(h:aeK b x):aeK (qH g b) x:=by cases b<;>exact h
theorem Zc{g:Nat}{b:TB}:qH g b=.none->b=.none:=by cases b<;>simp[qH]
theorem F5(h:bZ ι te tS env S){g id:Nat}{t:TT}{e:Nat}{l l':List t.den}{ds iL:cj}{z:Bool}(hi:ι g=some id)(hg:tS[g]? =some (.rows t e l z))(hS:S[id]? =some (.op e t.size ds z))(h0:0<t.size)(h1:(t.agg||t.size==1)=true)(hf:fW t l' iL):bZ ι (kL g te) ((tS.map (qH g)).set g (.rows t e l' false)) env (S.set id (.op e t.size iL false)):=by
 have hlt:=(aM.1 hg).1;have CQ:=(aM.1 hS).1;have s4:∀j,j≠id->(S.set id (.op e t.size iL false))[j]? =S[j]? :=λj hj=>by rw[aS,if_neg (Ne.symm hj)]
 have K:jE ι S ι (S.set id (.op e t.size iL false)) λk=>k=g:=λa b ha qA=>⟨qA,ei (s4 b λe1=>ha (h.inj _ _ _ (e1▸qA) hi))⟩;have UT:∀j b,((tS.map (qH g)).set g (.rows t e l' false))[j]? =some b->(j=g/\b=.rows t e l' false)\/(j≠g/\∃b0,tS[j]? =some b0/\b=qH g b0):=λj b hj=>by
  rw[aS]at hj;split at hj
  grind
  grind
 refine⟨nI K _ _ h.env,λj m hj=>?_,λj e s hj t ht=>?_,λj j' hj=>?_,h.inj,λj b hj t0 ht=>?_⟩
 .rcases UT j _ hj with ⟨-,e1⟩|⟨hne,b0,h2,h3⟩;cases e1;cases b0<;>simp only[qH]at h3<;>first|(cases h3;done)|skip
  cases h3;obtain⟨j',Nv,k1,k2,k3⟩:=h.cells j _ h2;exact⟨j',Nv,k1,by rw[s4 j' λe1=>hne (h.inj _ _ _ (e1▸k1) hi)];exact k2,nI K _ _ k3⟩
 .rcases UT j _ hj with ⟨-,e1⟩|⟨hne,b0,h2,h3⟩;cases e1;cases b0<;>simp only[qH]at h3<;>first|(cases h3;done)|skip
  cases h3;obtain⟨n,k1⟩:=h.own j _ _ h2 t ht;exact⟨n,(K j t hne ht).2.1 _ _ _ k1⟩
 rw[aS];split
 grind
 obtain⟨b,h2,h3⟩:=h.qB j j' hj;exact⟨qH g b,by rw[dG,h2];rfl,λe1=>h3 (Zc e1)⟩;rcases UT j _ hj with ⟨rfl,rfl⟩|⟨hne,b0,h2,rfl⟩;rw[hi]at ht;cases ht;rw[aS,if_pos rfl,if_pos CQ];exact⟨h0,h1,iL,rfl,hf⟩;rw[s4 t0 λe1=>hne (h.inj _ _ _ (e1▸ht) hi)];exact acf (h.mp j b0 h2 t0 ht)
theorem Mz{g:Nat}{t t':TT}{e e':Nat}{l:List t.den}{l':List t'.den}{z z':Bool}(hB:oT B tS)(hl:tS[g]? =some (.rows t e l z)):oT B (tS.set g (.rows t' e' l' z')):=λk hk=>by obtain⟨c,hc⟩:=hB k hk;refine⟨c,?_⟩;rw[aS,if_neg];exact hc;rintro rfl;rw[hl]at hc;cases c<;>cases hc
theorem MA{g:Nat}{t t':TT}{e e':Nat}{l:List t.den}{l':List t'.den}{z z':Bool}(hB:oT B tS)(hl:tS[g]? =some (.rows t e l z)):oT B ((tS.map (qH g)).set g (.rows t' e' l' z')):=λk hk=>by
 obtain⟨c,hc⟩:=hB k hk;refine⟨c.map (kL g),?_⟩;rw[aS,if_neg];rw[dG,hc];cases c<;>rfl
 rintro rfl;rw[hl]at hc;cases c<;>cases hc
theorem GW:∀{S:ai}{i:Nat}{b:DB},S[i]? =some b->S.set i b=S
 |[],_,_,h=>by simp at h
 |_::_,0,_,h=>by simp only[eu,aG]at h;rw[h];rfl
 |a::l,n+1,b,h=>by rw[List.set_cons_succ,GW (by simpa using h)]
theorem Fq{g:Nat}{iS:cx}(h:VH ty tt te tS o=some (g,iS))(dr:Bool):Does P ty aI call yf B o nT te tS dr λv' cr bU ft=>v'=.unk/\cr=te/\bU=iS/\ft=⟨some [g],true⟩:=by
 intro ι w env S aC hR hB hw hT hn hS;unfold VH at h;split at h
 rotate_left
 cases h;rename_i t a x ho;split at h
 rotate_left
 cases h;rename_i td g' k i off v h1 h2 h3;split at h
 rotate_left
 cases h;rename_i e l h4;split at h
 rotate_left
 cases h;rename_i hc;simp only[aD,ee]at hc;obtain⟨c1,c2⟩:=hc;split at h
 rotate_left
 cases h;rename_i cs h5;split at h
 rotate_left
 cases h;rename_i y h6;cases h;have hg:=lV h4;obtain⟨d,k1,k2⟩:=bL hR.env h2;obtain⟨id,ds,rfl,m1,m2,m3,m4,m5,m6,m7⟩:=acO hR hg k2;simp only[ah]at h3;obtain⟨u,h7,h8⟩:=h3;obtain⟨dv,k4,k5⟩:=bL hR.env h7;have k6:=dn (tt:=tt) (t:=t) k5;rw[h8]at k6;have k7:=vt (Mf c1) k6;obtain⟨pre,c,post,rfl,q1,q2,q3⟩:=yB m4 m5;obtain⟨c',r1,r2⟩:=Jr (qu (ι:=ι) (S:=S) q2) k7 h5;have hst:=JU c1 k6;obtain⟨cc,m',e1,e2,e3⟩:=Gw h6 r2;rw[aQ e3,dW]at e1;subst e1;have hle:off+dv.cells.length<=c.length:=by unfold wV at r1;split at r1;assumption;cases r1
 have hc':c'=c.take off++dv.cells++c.drop (off+dv.cells.length):=by unfold wV at r1;rw[if_pos hle]at r1;exact(cT r1).symm
 have hlen:dv.strip.cells.length=dv.cells.length:=by rw[hst];simp
 have pP:wV c off dv.strip.cells=some (c.take off++dv.strip.cells++c.drop (off+dv.cells.length)):=by unfold wV;rw[hlen,if_pos hle]
 have hm:(c.take off++dv.strip.cells++c.drop (off+dv.cells.length)).map DV.aO=c'.map DV.aO:=by rw[hc',hst];simp only[fG,jm];congr 2;exact List.map_congr_left λd _=>F4 d
 have hpa:=tE e2;have hps:dv.strip.cells.all DV.ct=true:=by grind
 have RX:=tE q2;have hcr:CR k y (c.take off++dv.strip.cells++c.drop (off+dv.cells.length)):=by refine EO (by rw[hm];exact e2) ?_;rw[qZ,qZ,hps];simp only[qW,aD,aX]at RX⊢;exact⟨λd hd=>RX d (zL hd),λd hd=>RX d (List.mem_of_mem_drop hd)⟩
 have hsz:dv.strip.cells.length=td.size:=by rw[hlen,gN k7];exact c2
 have CP:qi ty S t (.gF id l.length (i*k.size+off)) dv=some (S.set id (.op e k.size (pre++(c.take off++dv.strip.cells++c.drop (off+dv.cells.length))++post) false)):=by simp only[qi,h1,m3,hsz,hps,decide_true,jo,if_true];rw[<-q1,Yg pP];rfl
 have uM:(pre++(c.take off++dv.strip.cells++c.drop (off+dv.cells.length))++post).length=(pre++c++post).length:=by grind
 refine⟨bK,_,ι,w,.unk,te,_,⟨some [id],true⟩,⟨some [g],true⟩,λ_=>?_,λ_=>?_,⟨λe=>e,λl' kP=>?_⟩,λl' m _ hm j hj=>?_,Ar hR m1 hg m2 uM m6 m7 (q3 y _ hcr),by simp only[RT],hw,λ_ _ _=>rfl,Ba m1,Mz hB hg,A5 m2 (λe=>ar),rfl,rfl,rfl,rfl⟩;simp only[af,ho,k1,k4,CP,az];simp only[aJ,ho,k1,af,k4,CP,az];cases kP;exact⟨[id],rfl,λj hj=>⟨g,ae,by simp only[bV]at hj;rw[hj];exact hw _ _ m1⟩⟩
 grind
theorem Pa{v:TV}{mV:cp}{iS:cx}{c:Prop}(h:VG ty tt te tS o nT=some (v,mV,iS,c))(hc:c):Does P ty aI call yf B o nT te tS false λv' cr bU _=>v'=v/\cr=mV/\bU=iS:=by
 intro ι w env S aC hR hB hw hT hn hS;unfold VG at h;split at h
 .rename_i t a b ho;split at h
  rotate_left
  cases h;rename_i e s mh agg sz z0 n m k h1 h2 h3 h4;split at h
  rotate_left
  cases h;rename_i k0 sz' z h5;split at h
  rotate_left
  cases h;rename_i x h6;split at h
  rotate_left
  cases h;rename_i UX;cases h;simp only[aD,cA,ee]at UX;obtain⟨⟨⟨⟨c1,c2⟩,c3⟩,c4⟩,c5⟩:=UX;obtain⟨rfl,d2,d3⟩:=hc;obtain⟨cc,m',e1,e2,e3⟩:=Gw h6 (we (ι:=ι) (S:=S) z);rw[aQ e3,dW]at e1;subst e1;have hi1:intOf (jA env) a=some m:=qV hR.env h2;have hi2:intOf (jA env) b=some m:=qV hR.env h3;have h0:0<k.size:=ab
  have h01:(k.agg||k.size==1)=true:=by rw[c3,c2];exact c4
  have hb:m.toNat*mh<=ga:=by
   have:m.toNat<=1000000000:=ab
   calc m.toNat*mh<=1000000000*100000:=Nat.mul_le_mul this c5
    _<=ga:=an
  have mY:=tZ hR hT hn h0 h01 (e:=e) (EH e2 m.toNat);rw[c2]at mY;refine⟨.jX aC m.toNat agg,fu S aC (.op e s (List.replicate m.toNat (z.map DV.aO)).flatten false),upd ι nT aC,upd w aC nT,.so nT k,te,_,⟨none,true⟩,⟨none,true⟩,λ_=>?_,λhd=>bc,⟨λe=>e,λl hl=>aE⟩,λl m hl=>aE,mY,?_,qQ hR hn hT hw,λhd=>bc,tc hn (nM hB hT),jM hB hT,o6 hn,rfl,rfl,rfl⟩;have hpz:=tE e2;simp only[af,ho,h1,hi1,hi2,h5,d2,c1,c4,hb,hpz,decide_true,jo,if_true,show m<=140737488355328-4096 by omega];simp only[RT,upd,if_true];refine⟨trivial,c3.symm,e,s,_,false,by rw[bN hn,if_pos rfl],?_⟩;have:=jb (EH e2 m.toNat);rw[this,List.length_replicate,c2]
 .rename_i t n ps ho;split at h
  rotate_left
  cases h;rename_i hh;split at h
  rotate_left
  cases h;rename_i e s mh agg sz z0 l k h1 h2 h3;split at h
  rotate_left
  cases h;rename_i k0 sz' z h4;split at h
  rotate_left
  cases h;rename_i UX;simp only[aD,ee,j9,cA]at UX;obtain⟨⟨⟨⟨⟨⟨c1,c2⟩,c3⟩,c4⟩,c5⟩,c6⟩,c7⟩:=UX;simp only[ah,aA]at h;obtain⟨w0,h5,rfl,rfl,rfl,-⟩:=h;obtain⟨ds,k1,k2⟩:=sJ hR.env h2;obtain⟨k3,k4⟩:=EL k2 h5;have hlen:ds.length=n:=by rw[Bt k2,c3]
  have aef:((List.replicate n z).flatten).length=ds.length*s:=by rw[hlen,List.length_flatten,List.map_replicate,c4,List.sum_replicate_nat]
  have hf:=yD (pre:=[]) (post:=(List.replicate n z).flatten) c5 k3 ae aef;rw[jq,jq]at hf;have AK:w0.length=n:=by rw[k4,c3]
  have c7':(agg||s==1)=true:=by simpa using c7
  have AM:=xI k3;have h0:0<k.size:=ab
  have h01:(k.agg||k.size==1)=true:=by rw[c6,c5];exact c7'
  have mY:=tZ hR hT hn h0 h01 (e:=e) AM;rw[c5]at mY;refine⟨.jX aC n agg,fu S aC (.op e s (jJ ds) false),upd ι nT aC,upd w aC nT,.so nT k,te,_,⟨none,true⟩,⟨none,true⟩,λ_=>?_,λhd=>bc,⟨λe=>e,λl hl=>aE⟩,λl m hl=>aE,mY,?_,qQ hR hn hT hw,λhd=>bc,tc hn (nM hB hT),jM hB hT,o6 hn,rfl,rfl,rfl⟩;simp only[af,ho,h1,k1,h4,iN c1,iN c2,jo,if_true,hf,ym k3,c7',hh];simp only[RT,upd,if_true];refine⟨trivial,c6.symm,e,s,_,false,by rw[bN hn,if_pos rfl],?_⟩;rw[jb AM,AK,c5]
 .rename_i args ats ho;split at h
  rotate_left
  cases h;rename_i x y t u ha ht;split at h
  rotate_left
  cases h;rename_i Ut;subst Ut;split at h
  .rename_i g k h2;split at h
   rotate_left
   cases h;rename_i e s mh agg sz z0 k' m ap h1 h3;split at h
   rotate_left
   cases h;rename_i Gj;subst Gj;split at h
   rotate_left
   cases h;rename_i e' l k0 sz' z h4 h5;split at h
   rotate_left
   cases h;rename_i UX;cases h;simp only[aD,ee,cA]at UX;obtain⟨⟨⟨c1,c2⟩,c3⟩,c4⟩:=UX;subst c1;have hg:=lV h4;obtain⟨d,k1,k2⟩:=bL hR.env h2;obtain⟨id,ds,rfl,m1,m2,m3,m4,m5,m6⟩:=Gs hR hg k2 rfl;simp only[ah]at h3;obtain⟨uy,e1,e2⟩:=h3;obtain⟨db,k4,k5⟩:=bL hR.env e1;have k6:=dn (tt:=tt) (t:=t) k5;rw[e2]at k6;cases db<;>simp only[RT]at k6;rename_i news tok f;obtain⟨k6,-⟩:=k6;have ZW:=kZ k6;have om:=jQ k6;have AM:=Mo m4 (uf k6);have mY:=F5 hR m1 hg m2 m5 m6 AM;have hb:(l.length+news.length)*mh<=ga:=by
    have:l.length+news.length<=1000000000:=by rw[ZW];exact hc
    calc (l.length+news.length)*mh<=1000000000*100000:=Nat.mul_le_mul this c4
     _<=ga:=an
   have rS:(agg||s==1)=true:=by rw[<-c3,<-c2];exact m6
   have kP:=jb m4;have Z2:pg ty S aC t (.jX id l.length k'.agg) (.sl news tok f)=if news.isEmpty then some (.jX id l.length k'.agg,S)else some (.jX id (l.length+news.length) agg,S.set id (.op e' k'.size (ds++flat news) false)):=by
    simp only[pg,h1,h5];rw[if_pos,m3]
    grind
    grind
   have hst:∀d S',pg ty S aC t (.jX id l.length k'.agg) (.sl news tok f)=some (d,S')->af P ty aI call yf (jA env) o S aC=some (d,S'):=λd S' h=>by simp only[af,ho,ha,ht,if_true,k1,k4,h]
   have oF:∀d S',(d=.jX id (l.length+news.length) agg)->S'=S.set id (.op e' k'.size (ds++flat news) false)->RT ι S' (.so g k') d:=λd S' hd C6=>by subst hd C6;have hlt:=(aM.1 m2).1;simp only[RT];refine⟨m1,c3.symm,e',k'.size,_,false,by rw[aS,if_pos rfl,if_pos hlt],?_⟩;rw[jb AM,cn,ZW]
   by_cases Pt:news.isEmpty=true;have NJ:news=[]:=by simpa using Pt
   subst NJ;have hm:m=[]:=eR (by rw[<-ZW];rfl);subst hm;have hSS:S.set id (.op e' k'.size (ds++flat []) false)=S:=by rw[show flat []=[]from rfl,dW];exact GW m2
   rw[hSS]at mY;rw[if_pos Pt]at Z2;have hrt:=oF (.jX id l.length k'.agg) S (by rw[c3];rfl) hSS.symm;refine⟨_,S,ι,w,.so g k',_,_,⟨none,true⟩,⟨none,true⟩,λ_=>hst _ _ Z2,λhd=>bc,⟨λe=>e,λl hl=>aE⟩,λl m hl=>aE,mY,hrt,hw,λhd=>bc,Fr.refl _ _ _,?_,gA _ _,rfl,rfl,rfl⟩;exact MA hB hg;rw[if_neg Pt]at Z2;refine⟨_,_,ι,w,.so g k',_,_,⟨none,true⟩,⟨none,true⟩,λ_=>hst _ _ Z2,λhd=>bc,⟨λe=>e,λl hl=>aE⟩,λl m hl=>aE,mY,oF _ _ rfl rfl,hw,λhd=>bc,Ba m1,MA hB hg,A5 m2 (λe=>ar),rfl,rfl,rfl⟩
  .rename_i v0 hno h2;split at h
   rotate_left
   cases h;rename_i hh;split at h
   rotate_left
   cases h;rename_i e s mh agg sz z0 k' a m ap h1 h3;split at h
   rotate_left
   cases h;rename_i k0 sz' z h5;split at h
   rotate_left
   cases h;rename_i UX;cases h;simp only[aD,ee,cA]at UX;obtain⟨⟨⟨⟨⟨c0,c1⟩,c2⟩,c3⟩,c4⟩,c5⟩:=UX;obtain⟨d,k1,k2⟩:=bL hR.env h2;obtain⟨f0,rfl,yX⟩:∃f0,d=.sl [] none f0/\f0.full=true:=by
    cases v0<;>first|(cases c0;done)|skip
    cases d<;>simp only[RT]at k2;obtain⟨rfl,rfl,rfl⟩:=k2;exact⟨_,rfl,rfl⟩;rename_i k9 l9 ap9;cases l9 with
    |cons=>simp[VV]at c0
    |nil=>
     cases ap9<;>first|(simp[VV]at c0;done)|skip
     cases d<;>simp only[RT]at k2;rename_i rows tok f;obtain⟨q1,rfl,q2⟩:=k2;cases rows with
     |nil=>exact⟨f,rfl,q2⟩
     |cons=>exact q1.elim
   simp only[ah]at h3;obtain⟨uy,e1,e2⟩:=h3;obtain⟨db,k4,k5⟩:=bL hR.env e1;have k6:=dn (tt:=tt) (t:=t) k5;rw[e2]at k6;cases db<;>simp only[RT]at k6;rename_i news tok f;obtain⟨k6,-⟩:=k6;have ZW:=kZ k6;have om:=jQ k6;have AM:=uf k6;have h0:0<k'.size:=ab
   have h01:(k'.agg||k'.size==1)=true:=by rw[c3,c2];exact c4
   have mY:=tZ hR hT hn h0 h01 (e:=e) AM;rw[c2]at mY;have hle:news.length<=1000000000:=by rw[ZW];exact hc
   have hb:news.length*mh<=ga:=by
    calc news.length*mh<=1000000000*100000:=Nat.mul_le_mul hle c5
     _<=ga:=an
   have Pt:¬(news.isEmpty=true):=by grind
   have Z2:pg ty S aC t (.sl [] none f0) (.sl news tok f)=some (.jX aC news.length agg,fu S aC (.op e s (flat news) false)):=by simp only[pg,h1,h5];rw[if_neg Pt,if_pos];simp only[aD,cA,aX];refine⟨⟨⟨⟨⟨yX,c1⟩,c4⟩,hb⟩,ab⟩,λr hr=>by rw[om r hr,c2]⟩
   refine⟨.jX aC news.length agg,fu S aC (.op e s (flat news) false),upd ι nT aC,upd w aC nT,.so nT k',te,_,⟨none,true⟩,⟨none,true⟩,λ_=>?_,λhd=>bc,⟨λe=>e,λl hl=>aE⟩,λl m hl=>aE,mY,?_,qQ hR hn hT hw,λhd=>bc,tc hn (nM hB hT),jM hB hT,o6 hn,rfl,rfl,rfl⟩;simp only[af,ho,ha,ht,if_true,k1,k4,hh,Z2];simp only[RT,upd,if_true];refine⟨trivial,c3.symm,e,s,_,false,by rw[bN hn,if_pos rfl],?_⟩;rw[jb AM,ZW,c2]
  cases h
 cases h
end Go.Tv
namespace Go.Tv
open Go Go.Di Go.Proofs
def Gy(tS:cx):TV->TV
 |.so g t=>match tS[g]? with
  |some (.rows t' _ l z)=>if h:t'=t then(match z with
   |true=>.sl t (h▸l) .no
   |false=>.so g t)else .unk
  |_=>.unk
 |v=>v
def xU(te:cp)(tS:cx)(x:Operand):cx:=
 match fT te x with
 |some (.so g t)=>match kN tS g t with
  |some (e,l,false)=>tS.set g (.rows t e l true)
  |_=>tS
 |_=>tS
def NB(te:cp)(tS:cx)(x:Operand):Bool:=
 match fT te x with
 |some .unk|none=>false
 |some (.so g t)=>(kN tS g t).isSome
 |some _=>true
def Nz(ty:gb)(te:cp)(tS:cx)(o:Oper):Option (cp×cx):=
 match ty.h o with
 |2=>if o.op.operands.toList.all (NB te tS)then some (te.map (Gy (o.op.operands.toList.foldl (xU te) tS)),o.op.operands.toList.foldl (xU te) tS)else none
 |_=>some (te,tS)
variable {P:Program} {ty:gb} {tt:TypeId->cJ} {ι ι' w:lp} {S S':ai} {te mV:cp} {env:cj} {tS iS:cx} {aI:b9} {call:bG} {yf:ez} {o:Oper} {aC nT:Nat} {B:cy} {ops:Array Oper}
theorem OG{g g':Nat}{t t':TT}{e e':Nat}{l:List t.den}{l':List t'.den}{z:Bool}(h:kN tS g t=some (e,l,z))(h':kN tS g' t'=some (e',l',false)):(kN (tS.set g' (.rows t' e' l' true)) g t).isSome=true:=by
 have h1:=lV h;have h2:=lV h';by_cases e1:g'=g;subst e1;rw[h1]at h2;cases h2;unfold kN;rw[aS,if_pos rfl,if_pos (aM.1 h1).1];simp;have:kN (tS.set g' (.rows t' e' l' true)) g t=kN tS g t:=by unfold kN;rw[aS,if_neg e1]
 rw[this,h];rfl
theorem Yy{x y:Operand}(h:NB te tS x=true):NB te (xU te tS y) x=true:=by unfold NB at h⊢;split at h;cases h;cases h;rename_i g t hx;unfold xU;split;split;rename_i e' l' h2;obtain⟨⟨e,l,z⟩,h1⟩:=tN.1 h;exact OG h1 h2;exact h;exact h;rfl
theorem uJ(hR:bZ ι te tS env S)(hB:oT B tS){x:Operand}(h:NB te tS x=true):bZ ι te (xU te tS x) env (rW env S x)/\oT B (xU te tS x)/\Fr B ι S ι (rW env S x)/\∀i,Nn i S (rW env S x):=by
 have same:xU te tS x=tS->rW env S x=S->bZ ι te (xU te tS x) env (rW env S x)/\oT B (xU te tS x)/\Fr B ι S ι (rW env S x)/\∀i,Nn i S (rW env S x):=λh1 h2=>by rw[h1,h2];exact⟨hR,hB,Fr.refl _ _ _,λi=>gA _ _⟩
 unfold NB at h;split at h;cases h;cases h;rename_i g t hx;obtain⟨⟨e,l,z⟩,h1⟩:=tN.1 h;obtain⟨d,k1,k2⟩:=bL hR.env hx;have hg:=lV h1;obtain⟨id,ds,rfl,m1,m2,m3,m4,m5,m6⟩:=Gs hR hg k2 rfl;cases z with
 |true=>exact same (by simp only[xU,hx,h1]) (by simp only[rW,k1,yQ,m3])
 |false=>
  have e1:xU te tS x=tS.set g (.rows t e l true):=by simp only[xU,hx,h1]
  have e2:rW env S x=S.set id (.op e t.size ds true):=by simp only[rW,k1,yQ,m3]
  rw[e1,e2];exact⟨Ar hR m1 hg m2 rfl m5 m6 m4,Mz hB hg,Ba m1,λi=>A5 m2 (λe=>ar)⟩
 rename_i v h1 h2 hx;obtain⟨d,k1,k2⟩:=bL hR.env hx;refine same ?_ ?_;unfold xU;rw[hx];cases v<;>first|rfl|exact absurd rfl (h2 _ _)
 simp only[rW,k1];cases v<;>first|exact absurd rfl (h2 _ _)|exact absurd rfl h1|skip
 all_goals cases d<;>simp only[RT]at k2<;>rfl
theorem ag6:∀(l:List Operand){tS:cx}{S:ai},bZ ι te tS env S->oT B tS->l.all (NB te tS)=true->bZ ι te (l.foldl (xU te) tS) env (l.foldl (rW env) S)/\oT B (l.foldl (xU te) tS)/\Fr B ι S ι (l.foldl (rW env) S)/\∀i,Nn i S (l.foldl (rW env) S)
 |[],_,S,hR,hB,_=>⟨hR,hB,Fr.refl _ _ _,λi=>gA _ _⟩
 |x::l,tS,S,hR,hB,h=>by simp only[cC,aD]at h;obtain⟨h1,h2,h3,h4⟩:=uJ hR hB h.1;obtain⟨k1,k2,k3,k4⟩:=ag6 l h1 h2 (aX.2 λy hy=>Yy (aX.1 h.2 y hy));refine⟨k1,k2,h3.trans k3,λi=>⟨bt (h4 i).1 (k4 i).1,λj hj hn=>(k4 i).2 j hj ((h4 i).2 j hj hn)⟩⟩
theorem abW(hR:bZ ι mV tS env S){v:TV}{d:DV}(h:RT ι S v d):RT ι S (Gy tS v) (kT S d):=by
 cases v
 case so g t=>
  simp only[Gy];split;rename_i t' e l z hg;split;rename_i ht;obtain⟨id,ds,rfl,m1,m2,m3,m4,m5,m6⟩:=Gs hR hg h ht;subst ht;cases z with
  |true=>rw[Q2 m3 m5 m6];simp only[RT,pU,and_true];exact yC m6 m4
  |false=>
   have:kT S (.jX id l.length t'.agg)=.jX id l.length t'.agg:=by simp only[kT,m3]
   rw[this];exact h
  simp only[RT];simp only[RT]
 case unk=>simp only[Gy,RT]
 all_goals
  cases d<;>simp only[RT]at h;simp only[Gy,kT,RT];exact h
theorem L9(hR:bZ ι mV tS env S):∀{l:cp}{m:cj},cO ι S l m->cO ι S (l.map (Gy tS)) (m.map (kT S))
 |[],m,h=>by rw[aQ h];exact bS
 |a::l,m,h=>by obtain⟨d,m',rfl,h1,h2⟩:=aj h;exact aR (abW hR h1) (L9 hR h2)
theorem afK(hR:bZ ι te tS env S)(hB:oT B tS)(h:Nz ty te tS o=some (mV,iS)):bZ ι mV iS (FT ty o env S).1 (FT ty o env S).2/\oT B iS/\Fr B ι S ι (FT ty o env S).2/\Nn S.length S (FT ty o env S).2:=by unfold Nz at h;unfold FT;split at h;rename_i hh;split at h;rename_i kB;cases h;obtain⟨h1,h2,h3,h4⟩:=ag6 (env:=env) _ hR hB kB;simp only[hh];exact⟨⟨L9 h1 h1.env,h1.cells,h1.own,h1.qB,h1.inj,h1.mp⟩,h2,h3,h4 _⟩;cases h;rename_i hh;cases h;simp only[];exact⟨hR,hB,Fr.refl _ _ _,gA _ _⟩
theorem lG{k:Nat}(ho:ops[k]? =some o)(hw:eE ops te o=some true)(hp:Nz ty te tS o=some (mV,iS)){Q:cp->cx->Prop}{K:TV->cp->cx->dz->Prop}(hd:Does P ty aI call yf B o iS.length mV iS false K)
  (h:∀v cr bU ft,K v cr bU ft->WL P ty aI call yf B ops (k+1) (kC cr o.dst v) bU Q):WL P ty aI call yf B ops k te tS Q:=by
 intro ι env S hR hB;obtain⟨Nf,Zw,hF1,hN1⟩:=afK (o:=o) hR hB hp;generalize yO:FT ty o env S=pr at Nf hF1 hN1;obtain⟨qF,S1⟩:=pr;obtain⟨w,hwk⟩:=NT Nf;obtain⟨d,S',ι',w',v,cr,bU,f,ft,h1,-,-,-,h5,h6,-,-,h9,uG,Ig,Zx⟩:=hd ι w qF S1 S1.length Nf Zw hwk (.inr rfl) (.inr rfl) (λe=>ar);obtain⟨aL,xM,ι'',uP,uQ,k1,k2,k3,k4,k5,k6⟩:=h v cr bU ft Zx ι' (kH qF o.dst d) S' (oZ h5 h6 _) uG;refine⟨aL,xM,ι'',uP,uQ,?_,k2,k3,(hF1.trans h9).trans k4,vz hN1 (vz Ig k5),k6⟩;rw[o9 ho];simp only[Il,iP hR.env hw,if_true,yO,h1 rfl,k1]
end Go.Tv
namespace Go.Tv
open Go Go.Di Go.Proofs
variable {P:Program} {ty:gb} {tt:TypeId->cJ} {ι ι' w:lp} {S S':ai} {te mV:cp} {env:cj} {tS iS:cx} {aI:b9} {call:bG} {yf:ez} {o:Oper} {aC nT:Nat} {B:cy} {ops:Array Oper}
def P0(call:bG)(g:FuncId)(targs:cp)(e:TypeId)(Q:TV->Prop):Prop:=
 ∀bO,cO fF [] targs bO->∃rows r t C3,R6 (call g bO [])=some (rows,r)/\(r=some (e,t.size)\/r=none/\C3=[])/\eX (CR t) t.agg C3 rows/\Q (.sl t C3 .no)
theorem O8{f:Operand}{args:Array Operand}{argTypes:Array TypeId}{g:FuncId}{fs cs xs targs:cp}{e:TypeId}{Q:TV->Prop}(hop:o.op=.call {callee:=.value f,args,argTypes})(hh:ty.h o=1)(hf:fT te f=some (.fn g fs cs))(ha:mj te args.toList=some xs)(hp:(fs++xs++cs).all eV=true)
  (hn:bR (gu tt fs argTypes) (fs++xs++cs)=targs) (hs:P0 call g targs e Q):Does P ty aI call yf B o nT te tS true λv cr bU ft=>∃t C3,Q (.sl t C3 .no)/\v=.sl t C3 (.iT nT)/\cr=te/\bU=oC tS nT (.own e t.size)/\ft=⟨some [nT],true⟩:=by
 intro ι w env S aC hR hB hw hT Dw hS;obtain⟨xL,iZ,Gb,k1,k2,k3⟩:=iR hR.env hf ha;obtain⟨k4,k5⟩:=jV (ts:=gu tt fs argTypes) (ι':=fF) (S':=[]) hp k3;rw[hn]at k5;obtain⟨rows,r,t,C3,m1,hr,m2,m3⟩:=hs _ k5;have hno:=hS rfl;have hlt:=(aM.1 hno).1;have aap:∀b,fu S aC b=S.set aC b:=λb=>by unfold fu;rw[if_pos hlt]
 rcases hr with rfl|⟨rfl,rfl⟩
 rotate_left
 have hz:S.set aC .none=S:=Wv hno;refine⟨.sl [] none ⟨true,none⟩,S,ι,upd w aC nT,.sl t [] (.iT nT),te,_,⟨some [aC],true⟩,⟨some [nT],true⟩,λhd=>bc,λ_=>?_,⟨λh=>h,λl hl=>⟨[aC],rfl,λj hj=>⟨nT,by cases hl;simp,?_⟩⟩⟩,λl m _ hm j hj=>.inl ?_,E7 hR hT,?_,?_,λ_ j hj=>by simp only[upd,hj,if_false],Fr.refl _ _ _,jM hB hT,gA _ _,t,[],m3,rfl,rfl,rfl,rfl⟩;simp only[aJ,hop,k1,k2,if_pos hh,xo,hno,Vd,k4,if_true,m1,az,hz];simp only[bV]at hj;subst hj;simp only[upd,if_true]
 grind
 simp only[RT];exact⟨trivial,.inl ⟨rfl,rfl,rfl⟩⟩;intro a b qA;unfold upd;rw[if_neg (hR.en Dw qA)];exact hw _ _ qA;have mY:=Cp hR hT Dw e t.size rows.length;rw[aap]at mY;have hfr:=tc (b:=.tail e t.size (rows.length*t.size)) (ι:=ι) Dw (nM hB hT);have UQ:=o6 (b:=.tail e t.size (rows.length*t.size)) Dw;rw[aap]at hfr UQ;refine⟨.sl rows (some aC) ⟨false,none⟩,S.set aC (.tail e t.size (rows.length*t.size)),upd ι nT aC,upd w aC nT,.sl t C3 (.iT nT),te,_,⟨some [aC],true⟩,⟨some [nT],true⟩,λhd=>bc,λ_=>?_,⟨λh=>h,λl hl=>⟨[aC],rfl,λj hj=>⟨nT,by cases hl;simp,?_⟩⟩⟩,λl m _ hm j hj=>.inl ?_,mY,?_,qQ hR Dw hT hw,λ_ j hj=>by simp only[upd,hj,if_false],hfr,jM hB hT,UQ,t,C3,m3,rfl,rfl,rfl,rfl⟩;simp only[aJ,hop,k1,k2,if_pos hh,xo,hno,Vd,k4,if_true,m1,az];simp only[bV]at hj;subst hj;simp only[upd,if_true]
 grind
 simp only[RT];exact⟨m2,.inr ⟨aC,e,t.size,by simp[upd],rfl,by rw[aS,if_pos rfl,if_pos hlt]⟩⟩
def aeM(ty:gb)(rs:List ResultVar)(e:TypeId)(Q:TV->Prop)(ex:DX)(te:cp)(tS:cx):Prop:=
 (match ex with|.exit _=>False|_=>True)/\∃t C3 g,xR ty te tS rs=some [.sl t C3 (.iT g)]/\tS[g]? =some (.own e t.size)/\Q (.sl t C3 .no)
theorem Yo{bI:b9}{L n:Nat}{f:FuncId}{fn:Func}{c:Code}{targs:cp}{e0:TypeId}{Q:TV->Prop}(hf:P.funcs[f]? =some fn)(hb:fn.body=some c)
  (h:WT P ty (yN P ty bI L n) (qf P ty bI L n) (yfN P ty bI L n) [] L f false c (targs++List.replicate (fn.ntmps-targs.length) .unk) [] (aeM ty fn.results.toList e0 Q)):P0 (qf P ty bI L (n+1)) f targs e0 Q:=by
 intro bO hd;have hlen:=gN hd;have hR:bZ fF (targs++List.replicate (fn.ntmps-targs.length) .unk) [] (bO++List.replicate (fn.ntmps-bO.length) bK) []:=by refine⟨eB hd (by rw[hlen];exact tj _ _),λk l hk=>(by simp at hk),λk e s hk=>(by simp at hk),λk k' hk=>(by cases hk),λi j k' hi=>(by cases hi),λk b hk=>(by simp at hk)⟩
 obtain⟨e,aL,S',ι',cr,bU,h1,h2,h3,h4,h5,h6⟩:=h fF _ [] hR (λk hk=>(by cases hk));have hc:∀v,uI ty aL S' fn.results.toList=some [v]->qf P ty bI L (n+1) f bO []=some (v,S'):=λv k1=>by
  simp only[qf,dI,hf,uA,hb];have AP:de P ty (kV bI (dI P ty bI L n).1) (dI P ty bI L n).1 (dI P ty bI L n).2 L f false c (bO++List.replicate (fn.ntmps-bO.length) bK) []=some (e,aL,S'):=h1;rw[AP];cases e with
  |normal=>simp only[k1,az,oneOf]
  |ret=>simp only[k1,az,oneOf]
  |exit id=>exact h6.1.elim
 obtain⟨-,t,C3,g,h7,h9,uG⟩:=h6;obtain⟨ds,k1,k2⟩:=tn h2 h7;obtain⟨d,m',rfl,q1,q2⟩:=aj k2;rw[aQ q2]at k1;cases d<;>simp only[RT]at q1;rename_i rows tok ff;obtain⟨q1,q3⟩:=q1;have Zq:=kZ q1;rcases q3 with ⟨rfl,hf,h0⟩|⟨tk,e',s',p4,rfl,p5⟩;have h1:rows=[]:=eR h0;subst h1;exact⟨[],none,t,C3,by rw[hc _ k1];simp only[R6,hf,if_true],.inr ⟨rfl,eR ab⟩,q1,uG⟩;obtain⟨n1,p6⟩:=h2.own g e0 _ h9 tk p4;rw[p5]at p6;cases p6;exact⟨rows,_,t,C3,by rw[hc _ k1];simp only[R6,p5,if_true],.inl rfl,q1,uG⟩
end Go.Tv
namespace Go.Tv
open Go Go.Di Go.Proofs
variable {P:Program} {ty:gb} {tt:TypeId->cJ} {ι ι' w:lp} {S S':ai} {te:cp} {env:cj} {tS:cx} {aI:b9} {call:bG} {yf:ez} {o:Oper} {aC nT:Nat} {B L:cy}
def loc:cy->Nat->Option Nat
 |[],_=>none
 |a::l,k=>if a=k then some 0 else(loc l k).map (·+1)
theorem YN{a k:Nat}{l:cy}:loc (a::l) k=if a=k then some 0 else(loc l k).map (·+1):=rfl
theorem jl:∀{L:cy}{k j:Nat},loc L k=some j->L[j]? =some k
 |[],_,_,h=>ao
 |a::l,k,j,h=>by
  unfold loc at h;split at h
  grind
  simp only[ah]at h;obtain⟨i,h1,rfl⟩:=h;simpa using jl h1
theorem wq:∀{L:cy}{k:Nat},k∈L->∃j,loc L k=some j
 |[],_,h=>ao
 |a::l,k,h=>by unfold loc;by_cases e:a=k;exact⟨0,if_pos e⟩;obtain⟨j,hj⟩:=wq (L:=l) (k:=k) ((bE.1 h).resolve_left λh=>e h.symm);exact⟨j+1,by rw[if_neg e,hj];rfl⟩
theorem Aa{L:cy}{k:Nat}(h:loc L k=none):k∉L:=λhk=>by obtain⟨j,hj⟩:=wq hk;rw[hj]at h;cases h
def UL(ρ:Nat->Option Nat):TV->Option TV
 |.ptr k off=>(ρ k).map λj=>.ptr j off
 |v=>if kX v then some v else none
def AQ(ρ:Nat->Option Nat):cp->Option cp
 |[]=>some []
 |v::l=>match UL ρ v,AQ ρ l with
  |some a,some b=>some (a::b)
  |_,_=>none
def ahO:TT:=.pair (.int .i64) (.pair (.int .i64) (.pair (.int .i64) .unit))
def Pj(ρ:Nat->Option Nat):TV->Option TV
 |.fn g a b=>match AQ ρ a,AQ ρ b with
  |some x,some y=>some (.fn g x y)
  |_,_=>none
 |.ax=>some (.sl ahO [] .no)
 |v=>UL ρ v
def DG(ρ:Nat->Option Nat):cp->Option cp
 |[]=>some []
 |v::l=>match Pj ρ v,DG ρ l with
  |some a,some b=>some (a::b)
  |_,_=>none
def rL:TV->Bool
 |.sl _ _ (.stop _)=>true
 |_=>false
def CN(ρ:Nat->Option Nat):cp->Option cp
 |[]=>some []
 |v::l=>match rL v with
  |true=>if kX v&&l.all kX then some (v::l)else none
  |false=>match Pj ρ v,CN ρ l with
   |some a,some b=>some (a::b)
   |_,_=>none
theorem X0{ρ:Nat->Option Nat}{v:TV}(h:kX v=true):Pj ρ v=some v:=by cases v<;>first|(cases h;done)|(simp only[Pj,UL,h,if_true])
theorem Hf{ρ:Nat->Option Nat}:∀{l:cp},l.all kX=true->DG ρ l=some l
 |[],_=>rfl
 |v::l,h=>by simp only[cC,aD]at h;simp only[DG,X0 h.1,Hf h.2]
theorem IJ{ρ:Nat->Option Nat}:∀{l l':cp},CN ρ l=some l'->DG ρ l=some l'
 |[],_,h=>h
 |v::l,l',h=>by simp only[CN]at h;split at h;split at h;rename_i hp;cases h;exact Hf (by rw[cC];exact hp);cases h;split at h;rename_i a b e1 e2;cases h;simp only[DG,e1,IJ e2];cases h
def rnA(ρ:Nat->Option Nat)(t:cJ):TV->Option TV
 |.ptr k off=>(ρ k).map λj=>.ptr j off
 |.fn g a b=>Pj ρ (.fn g a b)
 |v=>if eV v then some (kF t v)else none
def uR(ρ:Nat->Option Nat):List cJ->cp->Option cp
 |_,[]=>some []
 |[],v::l=>match rnA ρ none v,uR ρ [] l with
  |some a,some b=>some (a::b)
  |_,_=>none
 |t::ts,v::l=>match rnA ρ t v,uR ρ ts l with
  |some a,some b=>some (a::b)
  |_,_=>none
theorem HM{v:TV}(h:kX v=true):refs v=[]:=by
 cases v<;>first|(cases h;done)|skip
 rfl;rename_i t l ap;cases ap<;>first|(cases h;done)|rfl
section
variable {ρ:Nat->Option Nat} (hρ:∀k j,ρ k=some j->ι' j=ι k)
include hρ
theorem Wy{v v':TV}{d:DV}(h:UL ρ v=some v')(hv:RT ι S v d):RT ι' S' v' d:=by unfold UL at h;split at h;simp only[ah]at h;obtain⟨j,h1,rfl⟩:=h;cases d<;>simp only[RT]at hv⊢;exact⟨(hρ _ _ h1).trans hv.1,hv.2⟩;split at h;rename_i hp;cases h;exact pK _ _ (HM hp) hv;cases h
theorem Jn:∀{l l':cp}{m:cj},AQ ρ l=some l'->cO ι S l m->cO ι' S' l' m
 |[],l',m,h,hv=>by cases h;rw[aQ hv];exact bS
 |v::l,l',m,h,hv=>by obtain⟨d,m',rfl,h1,h2⟩:=aj hv;simp only[AQ]at h;split at h;rename_i a b e1 e2;cases h;exact aR (Wy hρ e1 h1) (Jn e2 h2);cases h
theorem N5{v v':TV}{d:DV}(h:Pj ρ v=some v')(hv:RT ι S v d):RT ι' S' v' d:=by unfold Pj at h;split at h;split at h;rename_i x y e1 e2;cases h;cases d<;>simp only[RT]at hv⊢;exact⟨hv.1,Jn hρ e1 hv.2.1,Jn hρ e2 hv.2.2⟩;cases h;cases h;cases d<;>simp only[RT]at hv⊢;obtain⟨rfl,-,-⟩:=hv;exact⟨trivial,trivial⟩;exact Wy hρ h hv
theorem Qq:∀{l l':cp}{m:cj},DG ρ l=some l'->cO ι S l m->cO ι' S' l' m
 |[],l',m,h,hv=>by cases h;rw[aQ hv];exact bS
 |v::l,l',m,h,hv=>by obtain⟨d,m',rfl,h1,h2⟩:=aj hv;simp only[DG]at h;split at h;rename_i a b e1 e2;cases h;exact aR (N5 hρ e1 h1) (Qq e2 h2);cases h
theorem Qp{l l':cp}{m:cj}(h:CN ρ l=some l')(hv:cO ι S l m):cO ι' S' l' m:=Qq hρ (IJ h) hv
theorem Wz{t:cJ}{v v':TV}{d:DV}(h:rnA ρ t v=some v')(hv:RT ι S v d):RT ι' S' v' d:=by unfold rnA at h;split at h;simp only[ah]at h;obtain⟨j,h1,rfl⟩:=h;cases d<;>simp only[RT]at hv⊢;exact⟨(hρ _ _ h1).trans hv.1,hv.2⟩;exact N5 hρ h hv;split at h;rename_i hp;cases h;exact tT hp hv;cases h
theorem Jo:∀{ts:List cJ}{l l':cp}{m:cj},uR ρ ts l=some l'->cO ι S l m->cO ι' S' l' m
 |_,[],l',m,h,hv=>by simp only[uR]at h;cases h;rw[aQ hv];exact bS
 |[],v::l,l',m,h,hv=>by obtain⟨d,m',rfl,h1,h2⟩:=aj hv;simp only[uR]at h;split at h;rename_i a b e1 e2;cases h;exact aR (Wz hρ e1 h1) (Jo e2 h2);cases h
 |t::ts,v::l,l',m,h,hv=>by obtain⟨d,m',rfl,h1,h2⟩:=aj hv;simp only[uR]at h;split at h;rename_i a b e1 e2;cases h;exact aR (Wz hρ e1 h1) (Jo e2 h2);cases h
end
def Ky(ρ:Nat->Option Nat)(tS:cx):cy->Option (List cp)
 |[]=>some []
 |k::l=>match tS[k]? with
  |some (.cells c)=>match CN ρ c,Ky ρ tS l with
   |some a,some b=>some (a::b)
   |_,_=>none
  |_=>none
theorem zU{ρ:Nat->Option Nat}:∀{L:cy}{tP:List cp},Ky ρ tS L=some tP->tP.length=L.length/\∀(j k:Nat),L[j]? =some k->∃c c',tS[k]? =some (TB.cells c)/\CN ρ c=some c'/\tP[j]? =some c'
 |[],tP,h=>by cases h;exact⟨rfl,ae⟩
 |a::L,tP,h=>by
  simp only[Ky]at h;split at h;rename_i c hc;split at h;rename_i x y e1 e2;cases h;obtain⟨h1,h2⟩:=zU e2;refine⟨by simp[h1],λj k hj=>?_⟩;cases j with
  |zero=>grind
  |succ j=>simpa using h2 j k (by simpa using hj)
  cases h;cases h
def Ca(call:bG)(g:FuncId)(targs:cp)(tP:List cp)(Q:TV->List cp->Prop):Prop:=
 ∀ι bO S,bZ ι targs (tP.map .cells) bO S->∃d S' ι' v FJ,call g bO S=some (d,S')/\RT ι' S' v d/\B8 v=true/\FJ.length=tP.length/\I9 ι' S' (FJ.map .cells)/\Fr (List.range tP.length) ι S ι' S'/\Nn S.length S S'/\Q v FJ
theorem Ca.mono {g:FuncId}{targs:cp}{tP:List cp}{Q Q':TV->List cp->Prop}(h:Ca call g targs tP Q)(hq:∀v t,Q v t->Q' v t):Ca call g targs tP Q':=λι bO S hd=>by obtain⟨d,S',ι',v,FJ,h1,h2,h3,h4,h5,h6,h7,h8⟩:=h ι bO S hd;exact⟨d,S',ι',v,FJ,h1,h2,h3,h4,h5,h6,h7,hq _ _ h8⟩
def wW(L:cy)(ι:lp):lp:=λj=>(L[j]?).bind ι
def nj:cy->Bool
 |[]=>true
 |a::l=>!l.contains a&&nj l
theorem Ey:∀{L:cy}{i j k:Nat},nj L=true->L[i]? =some k->L[j]? =some k->i=j
 |[],_,_,_,_,h,_=>by simp at h
 |a::L,0,0,_,_,_,_=>rfl
 |a::L,0,j+1,k,hn,hi,hj=>by simp only[nj,aD,pz]at hn;simp only[eu,aG]at hi;subst hi;have:=cB (show L[j]? =some a by simpa using hj);simp[this]at hn
 |a::L,i+1,0,k,hn,hi,hj=>by simp only[nj,aD,pz]at hn;simp only[eu,aG]at hj;subst hj;have:=cB (show L[i]? =some a by simpa using hi);simp[this]at hn
 |a::L,i+1,j+1,k,hn,hi,hj=>by simp only[nj,aD]at hn;rw[Ey (i:=i) (j:=j) hn.2 (by simpa using hi) (by simpa using hj)]
theorem vC{k j:Nat}(h:loc L k=some j):wW L ι j=ι k:=by simp[wW,jl h]
theorem abu(hR:bZ ι te tS env S){tP:List cp}{targs:cp}{bO:cj}(hn:nj L=true)(hb:Ky (loc L) tS L=some tP)(ha:cO (wW L ι) S targs bO):bZ (wW L ι) targs (tP.map .cells) bO S:=by
 obtain⟨hl,hg⟩:=zU hb;refine⟨ha,λj l hj=>?_,λj e s hj=>?_,λj k' hj=>?_,λi j k' hi hj=>?_,λj b hj t _=>?_⟩;simp only[dG,ah,TB.cells.injEq]at hj;obtain⟨c',h1,rfl⟩:=hj;have hlt:j<L.length:=hl▸(aM.1 h1).1;have CJ:L[j]? =some L[j]:=cq hlt;obtain⟨c,c2,k1,k2,k3⟩:=hg j _ CJ;rw[h1]at k3;cases k3;obtain⟨k',ds,m1,m2,m3⟩:=hR.cells _ _ k1;exact⟨k',ds,by simp[wW,CJ,m1],m2,Qp (λk j h=>vC h) k2 m3⟩;simp at hj;unfold wW at hj;cases CJ:L[j]? with
 |none=>rw[CJ]at hj;cases hj
 |some k=>grind
 unfold wW at hi hj;cases UC:L[i]? with
 |none=>rw[UC]at hi;cases hi
 |some a=>
  cases CJ:L[j]? with
  |none=>rw[CJ]at hj;cases hj
  |some b=>rw[UC]at hi;rw[CJ]at hj;obtain rfl:=hR.inj a b k' hi hj;exact Ey hn UC CJ
 simp only[dG,ah]at hj;obtain⟨c,-,rfl⟩:=hj;trivial
def Im(L:cy):List cp->Option (List cp)
 |[]=>some []
 |c::l=>match CN (λj=>L[j]?) c,Im L l with
  |some a,some b=>some (a::b)
  |_,_=>none
theorem Er:∀{tP tB:List cp},Im L tP=some tB->tB.length=tP.length/\∀(j:Nat) c,tB[j]? =some c->∃c',tP[j]? =some c'/\CN (λj=>L[j]?) c'=some c
 |[],tB,h=>by cases h;exact⟨rfl,ae⟩
 |a::tP,tB,h=>by
  simp only[Im]at h;split at h;rename_i x y e1 e2;cases h;obtain⟨h1,h2⟩:=Er e2;refine⟨by simp[h1],λj c hj=>?_⟩;cases j with
  |zero=>grind
  |succ j=>simpa using h2 j c (by simpa using hj)
  cases h
def yM:cy->List cp->cx->cx
 |k::L,c::tB,tS=>yM L tB (tS.set k (.cells c))
 |_,_,tS=>tS
theorem Es:∀{L:cy}{tB:List cp}{tS:cx}{k:Nat},nj L=true->tB.length=L.length->(∀k∈L,k<tS.length)->(yM L tB tS)[k]? =match loc L k with|some j=>(tB[j]?).map TB.cells|none=>tS[k]?
 |[],[],tS,k,_,_,_=>rfl
 |[],_::_,_,_,_,h,_=>by simp at h
 |_::_,[],_,_,_,h,_=>by simp at h
 |a::L,c::tB,tS,k,hn,hl,hlt=>by
  simp only[nj,aD,pz]at hn;unfold yM;rw[Es hn.2 (by simpa using hl) λk hk=>by simpa using hlt k (pF _ hk)];rw[YN];by_cases e:a=k;subst e;have:loc L a=none:=by
   cases h:loc L a with
   |none=>rfl
   |some j=>have:=cB (jl h);simp[this]at hn
  simp[this,hlt a (iz ..)]
  grind
theorem Pd{f:Operand}{args:Array Operand}{argTypes:Array TypeId}{g:FuncId}{fs cs xs targs:cp}{tP:List cp}{Q:TV->List cp->Prop}(hop:o.op=.call {callee:=.value f,args,argTypes})(hf:fT te f=some (.fn g fs cs))(ha:mj te args.toList=some xs)
  (Dw:nj L=true) (hn:uR (loc L) (gu tt fs argTypes) (fs++xs++cs)=some targs) (hr:(fs++xs++cs).any isRef=true) (hb:Ky (loc L) tS L=some tP) (hs:Ca call g targs tP Q) (hq:∀v t,Q v t->∃tB,Im L t=some tB):
  Does P ty aI call yf B o nT te tS false λv cr bU ft=>∃FJ tB,Q v FJ/\Im L FJ=some tB/\cr=te/\bU=yM L tB tS/\ft=⟨none,true⟩:=by
 intro ι w env S aC hR hB hw hT Se hS;obtain⟨xL,iZ,Gb,k1,k2,k3⟩:=iR hR.env hf ha;obtain⟨hl,hg⟩:=zU hb;obtain⟨d,S',ι',v,FJ,n1,n2,n3,n4,n5,n6,n7,n8⟩:=hs _ _ S (abu hR Dw hb (Jo (λk j h=>vC h) hn k3));obtain⟨tB,hbk⟩:=hq _ _ n8;obtain⟨b1,b2⟩:=Er hbk;have hlt:∀k∈L,k<tS.length:=λk hk=>by obtain⟨j,hj⟩:=wq hk;obtain⟨c,c',h1,-⟩:=hg j k (jl hj);exact(aM.1 h1).1
 have bz:∀k,(yM L tB tS)[k]? =match loc L k with|some j=>(tB[j]?).map TB.cells|none=>tS[k]? :=λk=>Es Dw ab hlt
 have uX:∀j,j<L.length->ι' j=wW L ι j:=λj hj=>n6.base j (by simp;omega);have mG:∀k k0,k∉L->ι k=some k0->S'[k0]? =S[k0]? :=by
  intro k k0 hk h0;refine n6.rest k0 (hR.live h0) λj hj=>?_;unfold wW at hj;cases CJ:L[j]? with
  |none=>rw[CJ]at hj;cases hj
  |some a=>rw[CJ]at hj;obtain rfl:=hR.inj k a k0 h0 hj;exact hk (cB CJ)
 have kW:∀k,k∈L->∃c k0 ds,tS[k]? =some (.cells c)/\ι k=some k0/\S[k0]? =some (.cells ds):=λk hk=>by obtain⟨j,hj⟩:=wq hk;obtain⟨c,c',h1,-⟩:=hg j k (jl hj);obtain⟨k0,ds,h2,h3,-⟩:=hR.cells k c h1;exact⟨c,k0,ds,h1,h2,h3⟩
 have K:jE ι S ι S' λ_=>False:=λk k0 _ hk=>⟨hk,by by_cases Gj:k∈L;obtain⟨c,k1,ds,h1,h2,h3⟩:=kW k Gj;rw[h2]at hk;cases hk;exact wu (by rw[h3];simp) (by rw[h3];simp) (by rw[h3];simp);exact ei (mG k k0 Gj hk)⟩;have ZV:=nC hr k3;have AM:refs v=[]:=by
  have:∀{u:TV},DY u=true->refs u=[]:=λ{u} hu=>by
   cases u<;>first|(cases hu;done)|skip
   rfl;rename_i l;simp only[refs];simp only[DY]at hu;clear n2 n3 n8;induction l with
   |nil=>rfl
   |cons a l ih=>simp only[cC,aD]at hu;simp only[fE,HM hu.1,ih hu.2,dW]
   rename_i t l ap;cases ap<;>first|(cases hu;done)|rfl
  clear n2 n8;cases v<;>first|exact this n3|skip
  rename_i l;simp only[refs];simp only[B8]at n3;induction l with
  |nil=>rfl
  |cons a l ih=>simp only[cC,aD]at n3;simp only[fE,this n3.1,ih n3.2,dW]
 refine⟨d,S',ι,w,v,te,yM L tB tS,⟨none,true⟩,⟨none,true⟩,λ_=>?_,λhd=>bc,⟨λe=>e,λl hl=>aE⟩,λl m hl=>aE,?_,pK _ _ AM n2,hw,λ_ _ _=>rfl,⟨λk0 hl hno=>n6.rest k0 hl λj hj=>?_,λk k0 hk=>.inl ⟨k,hk⟩,λ_ _=>rfl⟩,λk hk=>?_,⟨n7.1,λj hj eL=>?_⟩,FJ,tB,n8,hbk,rfl,rfl,rfl⟩;simp only[af,hop,k1,k2,xz,ZV,aK,if_false,n1];split<;>rfl;refine⟨bH K _ _ hR.env,λk l hk=>?_,λk e s hk t ht=>?_,λk k0 hk=>?_,hR.inj,λk b hk t ht=>?_⟩;rw[bz]at hk;split at hk;rename_i j hj;simp only[ah,TB.cells.injEq]at hk;obtain⟨c,hc,rfl⟩:=hk;obtain⟨c',h1,h2⟩:=b2 j c hc;obtain⟨k',iL,m1,m2,m3⟩:=n5 j c' (by simp[h1]);have hjl:j<L.length:=(aM.1 (jl hj)).1;rw[uX j hjl,vC hj]at m1;refine⟨k',iL,m1,m2,Qp (ι:=ι') (ρ:=λj=>L[j]?) (λa b qA=>?_) h2 m3⟩;have hal:a<L.length:=(aM.1 qA).1;rw[uX a hal];simp[wW,qA];rename_i hno;obtain⟨k0,Nv,q1,q2,q3⟩:=hR.cells k l hk;exact⟨k0,Nv,q1,by rw[mG k k0 (Aa hno) q1];exact q2,bH K _ _ q3⟩;rw[bz]at hk;split at hk;simp at hk;obtain⟨n,q1⟩:=hR.own k e s hk t ht;exact⟨n,(K k t (λe=>e) ht).2.1 _ _ _ q1⟩;rw[bz];split;rename_i j hj;have hjl:j<tB.length:=by have:=(aM.1 (jl hj)).1;omega
 exact⟨.cells tB[j],by simp[hjl],ae⟩;exact hR.qB k k0 hk;rw[bz]at hk;split at hk;simp only[ah]at hk;obtain⟨c,-,rfl⟩:=hk;trivial;rename_i hno;rw[mG k t (Aa hno) ht];exact hR.mp k b hk t ht;unfold wW at hj;cases CJ:L[j]? with
 |none=>rw[CJ]at hj;cases hj
 |some a=>rw[CJ]at hj;exact hno _ hj
 rw[bz];split;rename_i j hj;have hjl:j<tB.length:=by have:=(aM.1 (jl hj)).1;omega
 exact⟨some tB[j],by simp[hjl,lI]⟩;exact hB k hk;have:=(aM.1 eL).1;exact n7.2 j ab eL
end Go.Tv
