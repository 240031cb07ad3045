import Derived.Test.YtedcgbkilmlbhaaPk17
set_option maxRecDepth 100000
namespace Go.Tv
open Go Go.Di Go.Proofs
section
variable {l:List PD} {F:Nat->List Int} {st yA b:List ax} {i k n r:Nat}
structure Qs (l:List PD) (st:List ax):Prop where
 nd:(st.map (·.1)).Nodup
 ix:∀x∈st,0<=x.1/\x.1<(l.length:Int)
 yw:∀x∈st,x.2.1∈(l.getD x.1.toNat dP).2.2.2.1
 z:(st.getD 0 gB).2.2.1=0
 j:∀j,j+1<st.length->YL l (kJ st j) (kJ st (j+1))
theorem Qs.nil:Qs l []:=⟨List.nodup_nil,by simp,by simp,rfl,by simp⟩
theorem Qs.ok (hl:∀p∈l,gX p)(h:Qs l st):nD l st:=λx hx=>by have h1:=h.ix x hx;exact⟨h1,(bX (P:=gX) (d:=dP) (by omega:x.1.toNat<l.length) hl).yw _ (h.yw x hx)⟩
theorem NH{x:ax}{j:Nat}(h:j<st.length):kJ (st++[x]) j=kJ st j:=by unfold kJ;rw[aR,er h,<-aR]
theorem abk{x:ax}:kJ (st++[x]) st.length=x:=by unfold kJ;rw[aR,iu (aj _)];simp
theorem Qs.add (hl:∀p∈l,gX p)(h4:l.length<=4)(h:Qs l st){a:Nat}(ha:a<=l.length){p:ax×List Int}(hp:p∈kL l (oM l) st a):Qs l (st++[p.1]):=by
 have mN:=hp;obtain⟨k,hk,hh,n,hn,OH⟩:=yZ hp;have hne:p.2.length≠0:=by
  intro h0;unfold kL qu J5 at mN;rw[nN]at mN;obtain⟨a,-,ha⟩:=mN;split at ha;.cases ha
  rw[zu]at ha;obtain⟨m,-,hm⟩:=ha;split at hm;.cases hm
  rename_i hz;cases hm;exact hz h0
 have ok:gX (l.getD k dP):=bX (by omega) hl;have h1:p.1.1=(k:Int):=by rw[OH]
 have h2:p.1.2.1=n:=by rw[OH]
 have h3:p.1.2.2.1=(lqp (oM l) st k n).getD 0 0:=by rw[OH]
 have h5:(lqp (oM l) st k n).length≠0:=by rw[OH]at hne;exact hne
 have kM:p.1.2.2.1∈lqp (oM l) st k n:=by rw[h3];exact bX (P:=λx=>x∈lqp (oM l) st k n) (by omega) λ_ h=>h
 refine⟨wD h.nd (by rw[h1];exact hh),λx hx=>?_,λx hx=>?_,?_,λj hj=>?_⟩
 .rcases dX.1 hx with hx|hx;.exact h.ix x hx
  rw[bC]at hx;subst hx;omega
 .rcases dX.1 hx with hx|hx;.exact h.yw x hx
  rw[bC]at hx;subst hx;rw[h2,h1];exact hn
 .cases hst:st with
  |nil=>rw[hst]at h3;show p.1.2.2.1=0;rw[h3];rfl
  |cons y ys=>have:=h.z;rw[hst]at this;exact this
 rw[cD,qV]at hj;by_cases e:j+1<st.length;.rw[NH (by omega),NH e];exact h.j j e
 have e1:j+1=st.length:=by omega
 rw[NH (by omega),e1,abk];have BG:j=st.length-1:=by omega
 subst BG;have hm:dh st∈st:=bX (P:=λx=>x∈st) (by omega) λ_ h=>h;have hx:=h.ok hl _ hm;have ol:gX (l.getD (dh st).1.toNat dP):=bX (by omega) hl;have ahN:(dh st).1≠(k:Int):=λe=>zQ hh (e▸List.mem_map_of_mem hm);unfold lqp at kM;rw[if_neg (by omega),VQ hl h4 hx (by omega) ahN (ok.yw n hn),PN ol ok,if_pos ⟨h.yw _ hm,hn⟩]at kM;have hf:=of_decide_eq_true (aaA kM).1;unfold YL yx wQ;rw[h1,h2];exact hf
theorem acm(hl:∀p∈l,gX p)(h4:l.length<=4):∀(r:Nat){st b:List ax},Qs l st->Qs l b->Qs l (nX l (oM l) r st b)
 |0,st,b,h,hb=>by
  show Qs l (kF st b);unfold kF;split
  .exact h
  exact hb
 |r+1,st,b,h,hb=>by
  rw[nX];have key:∀(ns:List (ax×List Int))(c:List ax),(∀p∈ns,p∈kL l (oM l) st l.length)->Qs l c->Qs l (ns.foldl (λb p=>nX l (oM l) r (st++[p.1]) b) c):=by
   intro ns;induction ns with
   |nil=>exactλ_ _ h=>h
   |cons p ns ih=>intro c hm hc;exact ih _ (λq hq=>hm q (by simp[hq])) (acm hl h4 r (h.add hl h4 (aj _) (hm p (by simp))) hc)
  refine key _ _ (λ_ h=>h) ?_;unfold kF;split
  .exact h
  exact hb
theorem Ge.le {m:Nat}:∀{r:Nat}{st:List ax},Ge l F m r st->st.length<=m
 |0,_,h=>h
 |_+1,_,h=>h.1
theorem abh(hl:∀p∈l,gX p)(h0:l.length≠0):1<=(nX l F l.length [] []).length:=by
 obtain⟨r,hr⟩:∃r,l.length=r+1:=⟨l.length-1,by omega⟩;have h:=(Dd (l:=l) (F:=F) l.length (st:=[]) (b:=[])).2.1;rw[hr]at h⊢;have o0:gX (l.getD 0 dP):=bX (by omega) hl;obtain⟨n,hn⟩:∃n,n∈qL l 0:=List.exists_mem_of_ne_nil _ o0.ne;have hp:(((0:Int),n,0,()),[0])∈kL l F [] l.length:=by unfold kL;rw[nN];refine⟨0,by rw[o5];omega,?_⟩;show _∈qu l F [] 0 (qL l 0).length;unfold qu;rw[fW,zu];exact⟨n,hn,rfl⟩
 have:=(h.2 _ hp).le;simpa using this
theorem Qs.stk (h:Qs l st):Stk l (st.map (·.1)) st:=⟨h.nd,λx hx=>List.mem_map_of_mem hx,h.ix,h.yw,h.z⟩
theorem aha{k:Int}(h:Qs l st)(hb:Brk l st k):k=-1:=by
 rcases hb with ⟨e,-⟩|⟨m,-,h0,-,h2⟩;.exact e
 exact(h2 (h.j m h0)).elim
end
end Go.Tv
namespace Go.Tv
open Go Go.Di Go.Proofs
theorem PS{l:List aW.den}{u lo q:List Int}{w:Int}(h:∀p∈l,gX p)(ho:Ok u lo w q):∀p∈l++[(u,lo,w,q,())],gX p:=λp hp=>by
 rcases dX.1 hp with hp|hp;.exact h p hp
 rw[bC.1 hp];exact ho
def J14:List (Nat×LA):=[(4,.dep λte tS=>abq te 6 λk=>match te.getD 0 .unk with
 |.ptr p _=>.ex Nat λm=>.ex (List aW.den) λl=>.ex (List Int) λr=>.ex Int λz=>.st {sl:=[(5,.sl aW l (.kA tS.length)),(6,bI m)],pl:=[(p,FR r z)],own:=[(26,4)],en:=[(l.length+m:Int)<=k\/(l.length+m:Int)=0,∀p∈l,gX p],m:=m}
 |_=>.un 0)]
noncomputable def H5:fQ:=(((((((T6.oz 41 λa c=>dS (D27 a c)).Dz 14 Try.f14 J14).eV 20 λa=>dS (adL a)).eV 16 λa=>dS (adM a)).DC 21 λa t=>dS (Um 4 a t)).eV 22 λa=>dS (adK a)).eV 23 λa=>dS (adJ a))
def D5l:List TV->Dn
 |[.sl (.int .i64) _ .no]=>some ([],.res (nW true) [] [],[(1,.ex (List PD) λps=>.st {sl:=[(3,.sl aW ps .no)],en:=[ps.length<=3,∀p∈ps,gX p]})])
 |_=>none
def v5l.q1 (p0:List aW.den)(p1:Nat)(p2:Int)(p3:List Int)(p4:Int)(p5 p6:List Int)(p7:Int)(p8 p9:List Int)(p10:Int):Prop:=p0.length+1<=1000000000/\dQ ((↑p1:Int)-1)/\∃(a:Nat),∃(x:List aW.den),∃(y:List Int),∃(z:Int),yE aW.den/\p0++[(p5,p6,p7,p8,())]=x/\(↑p1:Int)-1=(↑a:Int)/\p9=y/\p10=z/\((↑x.length:Int)+(↑a:Int)<=p2\/(↑x.length:Int)+(↑a:Int)=0)/\(∀(p:aW.den),p∈x->gX p)/\(a)<(p1)
theorem v5l:VI H5 Try.f5 [some .bool] D5l 1:=by
 refine gz λa=>?_;unfold D5l;split
 rotate_left
 .trivial
 rename_i ji;intro hp;refine nS (A:=((3:Int)<=1000/\(-10000:Int)<=3/\∀(a:Int)(y:List Int)(m:Int),0<=a->a<=3\/a=0->(∃(u:Nat),∃(z:List aW.den),∃(w:List Int),∃(r:Int),[]=z/\a=(↑u:Int)/\y=w/\m=r/\((↑z.length:Int)+(↑u:Int)<=a\/(↑z.length:Int)+(↑u:Int)=0)/\(∀(p:aW.den),p∈z->gX p)/\(u)<1000000)/\∀(u:Nat)(z:List aW.den)(w:List Int)(r:Int),(↑z.length:Int)+(↑u:Int)<=a\/(↑z.length:Int)+(↑u:Int)=0->(∀(p:aW.den),p∈z->gX p)->aO (decide ((↑u:Int)>0)) (aO (decide ((↑z.length:Int)>0)) ((2:Int)<=1000/\(0:Int)<=2/\∀(n:Bool)(g:Int)(f:List Int)(i:Int),aO n (dQ ((↑z.length:Int)-1)/\(↑z.length:Int)-1<=1000/\(-10000:Int)<=(↑z.length:Int)-1/\∀(v:Int)(t:List Int)(h:Int),0<=v->v<=(↑z.length:Int)-1\/v=0->(0<=v/\v<(↑z.length:Int))/\Ok (z.getD v.toNat ([],[],0,[],())).1 (z.getD v.toNat ([],[],0,[],())).2.1 (z.getD v.toNat ([],[],0,[],())).2.2.1 (z.getD v.toNat ([],[],0,[],())).2.2.2.1/\∀(s k:List Int)(j:Int)(e d:List Int)(c:Int),Ok s k j e->s=List.map (λ(x:cn.den)=>(9:cn.den)-x) (z.getD v.toNat ([],[],0,[],())).2.1->v5l.q1 z u a w r s k j e d c) ((3:Int)<=5/\(5:Int)<=8/\∀(v t:List Int)(h:Int)(s k:List Int)(j:Int),Ok v t h s->(↑v.length:Int)<=5->v5l.q1 z u a w r v t h s k j)) ((3:Int)<=5/\(5:Int)<=8/\∀(n g:List Int)(f:Int)(i v:List Int)(t:Int),Ok n g f i->(↑n.length:Int)<=5->v5l.q1 z u a w r n g f i v t)) (∃(a:List PD),false=false/\z=a/\a.length<=3/\(∀(p:PD),p∈a->gX p)/\True))/\∀(a:List PD),a.length<=3->(∀(p:PD),p∈a->gX p)->a.length<=1000/\(∀(p:(aW).den),p∈a->iA p)/\(sS a=0->a.length<=3)/\∀(y m:Int),y=rB a->m=sS a->a.length<=1000/\(∀(p:(aW).den),p∈a->iA p)/\∀(u:List ax)(z:Int),u=rT a->z=xb a->aO ((↑a.length:Int)==0) (aO (m==0) (aO (y==0) (aO (z==7) (aO ((↑u.length:Int)==0) (true=true/\True) (false=true/\True)) (false=true/\True)) (false=true/\True)) (false=true/\True)) (a.length<=3/\(∀(p:(aW).den),p∈a->gX p)/\nD a []/\(List.map (λ(x:(bV).den)=>x.1) []).Nodup/\a.length<4/\0<=1000/\aO (m !=0) (false=true/\True) (aO (z !=0) (false=true/\True) (aO (y !=oN a (a.length-0) []) (false=true/\True) (u.length<=1000/\(rN a (a.length-0) [] []).length<=1000/\∀(w:Bool),(w=true↔u=rN a (a.length-0) [] [])->aO (!w) (false=true/\True) (a.length<=4/\1<=u.length/\u.length<=4/\(∀(p:(aW).den),p∈a->gX p)/\Stk a (List.map (λ(x:(bV).den)=>x.1) u) u/\∀(r:Int),Brk a u r->aO (r==(-1:Int)) (true=true/\True) (false=true/\True))))))) (by kernel_rfl) ?_;unfold v5l.q1;simp only[dz,ek,fC,gF,eq_self,true_and,and_true,dQ,iX,aG,kX];refine⟨⟨by omega,by omega,λm0 r0 z0 g0 g1=>⟨⟨m0.toNat,[],r0,z0,rfl,by omega,rfl,rfl,by simp only[kX];omega,by simp,by omega⟩,λm L r z hc hL=>⟨λhm=>⟨λhLn=>?_,λhLn=>?_⟩,λhm=>⟨_,rfl,by omega,hL⟩⟩⟩⟩,λps hps hl=>?_⟩
 .have fin:∀(u lo q:List Int)(w:Int)(r1:List Int)(z1:Int),Ok u lo w q->L.length+1<=1000000000/\(-9223372036854775808<=(m:Int)-1/\(m:Int)-1<=9223372036854775807)/\∃(a:Nat)(a_1:List aW.den)(a_2:List Int)(a_3:Int),L++[(u,lo,w,q,())]=a_1/\(m:Int)-1=(a:Int)/\r1=a_2/\z1=a_3/\((a_1.length:Int)+(a:Int)<=m0\/(a_1.length:Int)+(a:Int)=0)/\(∀(p:aW.den),p∈a_1->gX p)/\a<m:=λu lo q w r1 z1 ho=>
   ⟨by omega,⟨by omega,by omega⟩,m-1,_,_,_,rfl,by omega,rfl,rfl,.inl (by rw[cD,qV];omega),PS hL ho,by omega⟩
  refine⟨by omega,by omega,λb x2 x3 x4=>lB.2 ⟨λ_=>⟨⟨by omega,by omega⟩,by omega,by omega,λk x5 x6 k0 k1=>⟨⟨k0,by omega⟩,(bX (P:=gX) (by omega) hL:gX (L.getD k.toNat dP)),λu lo w q r1 z1 ho hu=>fin u lo q w r1 z1 ho⟩⟩,λ_=>⟨by omega,by omega,λu lo w q r1 z1 ho hu=>fin u lo q w r1 z1 ho⟩⟩⟩
 .refine⟨by omega,by omega,λu lo w q r1 z1 ho hu=>⟨by omega,⟨by omega,by omega⟩,m-1,_,_,_,rfl,by omega,rfl,rfl,.inl (by rw[cD,qV];omega),PS hL ho,by omega⟩⟩
 have sh:∀p∈ps,iA p:=λp hp=>DT (hl p hp);have hc:sS ps=0:=by unfold sS;rw[if_neg (by omega)];exact Dc hl
 refine⟨by omega,sh,λ_=>hps,λn e hn he=>⟨by omega,sh,λb f hb hf=>⟨λh0=>⟨λ_=>⟨λ_=>⟨λ_=>⟨λ_=>trivial,λh=>h ?_⟩,λh=>h ?_⟩,λh=>h ?_⟩,λh=>h (by rw[he,hc])⟩,λh0=>?_⟩⟩⟩;.rw[hb,rT,if_neg λh=>h.2 (by omega)];rfl
 .rw[hf,xb,if_pos hc,if_pos (by omega)]
 .rw[hn,rB,if_neg λh=>h.2 (by omega)]
 have hne:ps.length≠0:=by omega
 have el:rN ps (ps.length-0) [] []=b:=by rw[hb,rT,if_pos ⟨hc,hne⟩,Nat.sub_zero];exact Nu hl (by omega) ps.length (st:=[]) (b:=[]) λx hx=>(nomatch hx)
 have q:Qs ps b:=by rw[hb,rT,if_pos ⟨hc,hne⟩];exact acm hl (by omega) _ Qs.nil Qs.nil
 have b1:1<=b.length:=by rw[hb,rT,if_pos ⟨hc,hne⟩];exact abh hl hne
 have b4:b.length<=4:=by rw[hb,rT,if_pos ⟨hc,hne⟩];exact EJ _ (by simp) (by simp;omega)
 refine⟨hps,hl,λx hx=>(nomatch hx),List.nodup_nil,by omega,by omega,λ_=>⟨λ_=>⟨λ_=>⟨by omega,by show(rN ps (ps.length-0) [] []).length<=1000;rw[el];omega,λeqb hq=>lB.2 ⟨λ_=>⟨by omega,b1,b4,hl,q.stk,λk hk=>⟨λ_=>trivial,λh=>h (aha q hk)⟩⟩,λh=>?_⟩⟩,λh=>h ?_⟩,λh=>h ?_⟩,λh=>h (by rw[he,hc])⟩;.have:eqb=true:=hq.2 el.symm;rw[this]at h;cases h
 .rw[hn,rB,if_pos ⟨hc,hne⟩,Nat.sub_zero];exact(VX hl (by omega) ps.length (st:=[]) λx hx=>(nomatch hx)).symm
 rw[hf,xb,if_pos hc,if_neg hne]
end Go.Tv
namespace Go.Tv
open Go Go.Di Go.Proofs
def tR:Code->Nat
 |.seq a b|.cond _ a b=>tR a+tR b
 |.block _ c|.loop c|.scope c=>tR c
 |.rangeFunc _ _ _ _=>1
 |_=>0
theorem mo:∀{c:Code},tR c=0->gN c=none/\∀y,xk y c
 |.seq a b,h=>by simp only[tR]at h;obtain⟨h1,h2⟩:=mo (c:=a) (by omega);obtain⟨h3,h4⟩:=mo (c:=b) (by omega);exact⟨by simp only[gN,h1,h3],λy=>⟨h2 y,h4 y⟩⟩
 |.cond _ a b,h=>by simp only[tR]at h;obtain⟨h1,h2⟩:=mo (c:=a) (by omega);obtain⟨h3,h4⟩:=mo (c:=b) (by omega);exact⟨by simp only[gN,h1,h3],λy=>⟨h2 y,h4 y⟩⟩
 |.block _ c,h=>mo (c:=c) h
 |.loop c,h=>mo (c:=c) h
 |.scope c,h=>mo (c:=c) h
 |.rangeFunc _ _ _ _,h=>by cases h
 |.skip,_=>⟨rfl,λ_=>trivial⟩
 |.label _,_=>⟨rfl,λ_=>trivial⟩
 |.exit _,_=>⟨rfl,λ_=>trivial⟩
 |.ret,_=>⟨rfl,λ_=>trivial⟩
 |.region _ _ _,_=>⟨rfl,λ_=>trivial⟩
 |.goto _,_=>⟨rfl,λ_=>trivial⟩
 |.refuse _,_=>⟨rfl,λ_=>trivial⟩
theorem uR:∀{c:Code},tR c=1->∃y,gN c=some y/\xk y c
 |.seq a b,h=>by
  simp only[tR]at h;by_cases h0:tR a=0;.obtain⟨h1,h2⟩:=mo h0;obtain⟨y,h3,h4⟩:=uR (c:=b) (by omega);exact⟨y,by simp only[gN,h1,h3],h2 y,h4⟩
  obtain⟨y,h3,h4⟩:=uR (c:=a) (by omega);exact⟨y,by simp only[gN,h3],h4,(mo (c:=b) (by omega)).2 y⟩
 |.cond _ a b,h=>by
  simp only[tR]at h;by_cases h0:tR a=0;.obtain⟨h1,h2⟩:=mo h0;obtain⟨y,h3,h4⟩:=uR (c:=b) (by omega);exact⟨y,by simp only[gN,h1,h3],h2 y,h4⟩
  obtain⟨y,h3,h4⟩:=uR (c:=a) (by omega);exact⟨y,by simp only[gN,h3],h4,(mo (c:=b) (by omega)).2 y⟩
 |.block _ c,h=>uR (c:=c) h
 |.loop c,h=>uR (c:=c) h
 |.scope c,h=>uR (c:=c) h
 |.rangeFunc _ ps a b,_=>⟨_,rfl,rfl⟩
 |.skip,h=>by cases h
 |.label _,h=>by cases h
 |.exit _,h=>by cases h
 |.ret,h=>by cases h
 |.region _ _ _,h=>by cases h
 |.goto _,h=>by cases h
 |.refuse _,h=>by cases h
theorem Iq{T:fQ}{f:FuncId}{fn:Func}{Y:List (Nat×LA)}(h:tR (mj fn)=1):(T.own f fn Y).HZ f fn:=by obtain⟨y,h1,h2⟩:=uR h;show f=f/\gN (mj fn)=some ((gN (mj fn)).getD ([],.skip,.skip))/\xk ((gN (mj fn)).getD ([],.skip,.skip)) (mj fn);rw[h1];exact⟨rfl,rfl,h2⟩
section
variable {bM:bS} (tk:AH bM)
noncomputable abbrev B49:fQ:=(((K3.oz 69 λa c=>dS (D69 a c)).Dz 47 Try.f47 []).Dz 68 Try.f68 J68)
noncomputable abbrev B45:fQ:=((((K3.oz 69 λa c=>dS (D69 a c)).eV 46 λa=>dS (Zx a)).Dz 47 Try.f47 []).Dz 68 Try.f68 afQ)
include tk
theorem afi:kK bM 1 K2:=FC (gA tk) Try.func70 rfl v70 (iz (gA tk))
theorem Ze:kK bM 2 K3:=FC (afi tk) Try.func81 rfl ahj (iz (afi tk))
theorem acn:kK bM 3 B49:=Ke (Ke (FC (Ze tk) Try.func69 rfl v69 (iz (Ze tk))) Try.func47 rfl) Try.func68 rfl
theorem aco:kK bM 3 B45:=Ke (Ke (ug tk (fD (gA tk) 2) (by decide) Try.func46 rfl ahl (FC (Ze tk) Try.func69 rfl v69 (iz (Ze tk)))) Try.func47 rfl) Try.func68 rfl
theorem ab8:∀n,kK bM (3+3*n) (B49.DC 49 λa t=>dS (D49 n a t))
 |0=>OV (acn tk) λn a t p s hs hp=>by
  exfalso;unfold D49 at hs;split at hs;.cases hs;obtain⟨-,-,-,-,-,-,h1,h2,-⟩:=hp;omega
  cases hs
 |n+1=>mkM (T:=G49 n) (CZ (ab8 n)) Try.func49 rfl (v49 n) (T':=B49) (fD (acn tk) (3+3*n)) (Iq (by kernel_rfl))
theorem ab9:∀n,kK bM (3+3*n) (B45.DC 45 λa t=>dS (Rh n a t))
 |0=>OV (aco tk) λn a t p s hs hp=>by
  exfalso;unfold Rh at hs;split at hs;.cases hs;obtain⟨-,-,-,-,h1,h2,h3,-⟩:=hp;have:=OW h1 h2;unfold lW at this;rw[List.length_map]at this;omega
  cases hs
 |n+1=>mkM (T:=G45 n) (CZ (ab9 n)) Try.func45 rfl (jw n) (T':=B45) (fD (aco tk) (3+3*n)) (Iq (by kernel_rfl))
variable (tr:Uj bM) (ts:Zw bM)
include tr
theorem aht:kK bM 3 Q9:=ug tk (Y1 tk tr) (by decide) Try.func32 rfl v50 (iz (Y1 tk tr))
theorem agq:kK bM 3 K4s:=ug tk (fD (Y2 tk tr) 1) (by decide) Try.func72 rfl v80 (FC (FC (FC (gA tk) Try.func71 rfl afd (iz (gA tk))) Try.func81 rfl ahi (iz (FC (gA tk) Try.func71 rfl afd (iz (gA tk))))) Try.func69 rfl ahk (fD (gA tk) 3))
theorem agp:kK bM 7 K5s:=ug tk (fD (gA tk) 6) (by decide) Try.func51 rfl v60 (ug tk (fD (Y1 tk tr) 4) (by decide) Try.func32 rfl v50 (ug tk (fD (agq tk tr) 3) (by decide) Try.func50 rfl TM (ug tk (TU tk) (by decide) Try.func43 rfl v42 (fD (gA tk) 7))))
include ts
theorem ahu:kK bM 4 P1:=U6 ts (ug tk (aht tk tr) (by decide) Try.func48 rfl TP (fD (gA tk) 4))
theorem VZ:kK bM 7 ((T0.eV 43 λa=>dS (D42 a)).M5 44 λa=>dS (Ul a)):=mkN tk (fD (ahu tk tr ts) 2) (by decide) Try.func44 rfl dR (ug tk (TU tk) (by decide) Try.func43 rfl v42 (fD (gA tk) 7))
theorem agH:kK bM 18 G16:=mkM (T:=G45 4) (CZ (ab9 tk 4)) Try.func45 rfl (jw 4) (fD (VZ tk tr ts) 11) (Iq (by kernel_rfl))
theorem agG:kK bM 15 G20:=mkM (T:=G49 3) (CZ (ab8 tk 3)) Try.func49 rfl (v49 3) (fD (VZ tk tr ts) 8) (Iq (by kernel_rfl))
theorem acp:kK bM 9 (T0.eV 11 λa=>dS (Zy a)):=ug tk (aij tk tr ts) (by decide) Try.func11 rfl ow (fD (gA tk) 9)
theorem acd:∀n,kK bM (9+n) (G21 n)
 |0=>OV (acp tk tr ts) λn a t p s hs hp=>by
  exfalso;unfold Um at hs;split at hs;.cases hs;obtain⟨-,-,h1,h2,h3,-⟩:=hp;have:=OW h1 h2;omega
  cases hs
 |n+1=>mkM (acd n) Try.func21 rfl (fB n) (by have:=fD (acp tk tr ts) (n+1);rwa [mz]at this)
theorem aif:kK bM 19 H5:=ug tk (fD (agp tk tr) 11) (by decide) Try.func23 rfl kB (ug tk (fD (gA tk) 18) (by decide) Try.func22 rfl TQ (mkM (fD (acd tk tr ts 3) 6) Try.func21 rfl (fB 3) (ug tk (agH tk tr ts) (by decide) Try.func16 rfl ahn (ug tk (fD (agG tk tr ts) 3) (by decide) Try.func20 rfl ahm (Ke (FC (fD (FI tk) 16) Try.func41 rfl v27 (fD (TU tk) 13)) Try.func14 rfl)))))
end
end Go.Tv
