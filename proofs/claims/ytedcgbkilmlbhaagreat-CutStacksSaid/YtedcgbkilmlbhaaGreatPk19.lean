import Derived.Test.YtedcgbkilmlbhaaGreatPk18
set_option maxRecDepth 100000
namespace Go.Tv
open Go Go.Di Go.Proofs
def NV(te:cp)(i:Nat)(k:Nat->LA):LA:=
 match te.getD i .unk with
 |.ptr p _=>k p
 |_=>.un 0
def aff(te:cp)(i:Nat)(k:Nat->LA):LA:=
 match te.getD i .unk with
 |.so g _=>k g
 |_=>.un 0
def J26:List (Nat×LA):=[(4,.dep λte tS=>Gn te 6 λk=>NV te 0 λp=>.ex Nat λm=>.ex (List aF.den) λl=>.ex br λr=>.ex Int λz=>.st {sl:=[(5,.sl aF l (.iT tS.length)),(6,aV m)],pl:=[(p,xd r z)],own:=[(25,4)],cQ:=[(l.length+m:Int)<=k\/(l.length+m:Int)=0,∀p∈l,iA p],m:=m})]
noncomputable def H4a:eM:=(((((((T6.mB 67 λa c=>dS (D27 a c)).DN 26 Tryz.f26 J26).cG 11 λa=>dS (D18 a)).cG 16 λa=>dS (Sl a)).aaI 16 25 λa=>dS (Sl a)).mB 27 λa c=>dS (aeY a c)).cG 28 λa=>dS (ae1 a)).cG 29 λa=>dS (D29 a)
noncomputable def H4:eM:=(((((H4a.cG 30 λa=>dS (ae2 a)).cG 31 λa=>dS (aeX a)).cG 32 λa=>dS (ae0 a)).cG 33 λa=>dS (aeW a)).cG 34 λa=>dS (aeV a)).cG 25 λa=>dS (aeZ a)
def ID(x:cP):Prop:=x.length<=1000/\(∀p∈x,cV p)/\(fC x=0->x.length<=3)
def D4:cp->Dn
 |[.sl (.pair (.sl (.int .i64)) (.pair (.sl (.int .i64)) (.pair (.int .i64) (.pair (.sl (.int .i64)) .unit)))) _ .no,.agg [.sl (.int .i64) _ .no,.sl (.int .i64) _ .no,.val (.int .i64 _),.sl (.int .i64) _ .no],.sl (.pair (.int .i64) (.pair (.int .i64) (.pair (.int .i64) .unit))) _ .no,.sl (.int .i64) _ .no]=>some ([],.res (kR true) [] [],
  [(5,.dep λte _=>NV te 9 λp=>.ex cP λps=>.ex br λr=>.ex Int λz=>.st {sl:=[(10,.sl aF ps .no)],pl:=[(p,xd r z)],cQ:=[ps.length<=3,∀p∈ps,iA p]}),
   (7,.ex cP λos=>.st {sl:=[(11,.sl aF os .no)],cQ:=[ID os]}),
   (10,.dep λte _=>NV te 9 λp=>aff te 12 λg=>.ex (List dp) λB=>.ex br λr=>.ex Int λz=>.st {sl:=[],pl:=[(p,xd r z)],mp:=[(g,⟨.sl bn,B⟩)],cQ:=[B.length=3,∀s∈B,s.length<=1000]}),
   (12,.ex (List cP) λA=>.st {sl:=[(13,.sl (.sl aF) A .no)],cQ:=[A.length=3,∀x∈A,ID x]}),
   (15,.ex Nat λi=>.st {sl:=[(14,aV i)],cQ:=[i<=3],m:=3-i})])
 |_=>none
theorem afk{p q:Prop}[Decidable p][Decidable q]{A B:Prop}(hA:A)(hB:(p->¬q)->B):aB (decide p) (aB (decide q) A B) B:=
 bP.2 ⟨λh=>bP.2 ⟨λ_=>hA,λh'=>hB λ_=>h'⟩,λh=>hB λh'=>absurd h' h⟩
theorem ac2{l:cP}(h:(decide (l.length<=20)&&l.all Nj)=true):l.length<=20/\∀p∈l,cV p:=by simp only[aD,cA,aX]at h;exact⟨h.1,λp hp=>afC (h.2 p hp)⟩
theorem Qz{l:List aF.den}{u lo q:br}{w:Int}(h:∀p∈l,iA p)(ho:Ok u lo w q):∀p∈l++[(u,lo,w,q,())],iA p:=λp hp=>by rcases eG.1 hp with hp|hp;exact h p hp;rw[bV.1 hp];exact ho
def sW.q1 (p0:List aF.den)(p1:Nat)(p2 p3:List bY.den)(p4:Int)(p5:List bY.den)(p6:Int)(p7 p8:br)(p9:Int)(p10 p11:br)(p12:Int):Prop:=p0.length+1<=1000000000/\cR ((↑p1:Int)-1)/\∃(a:Nat),∃(x:List aF.den),∃(y:br),∃(z:Int),ng aF.den/\p0++[(p7,p8,p9,p10,())]=x/\(↑p1:Int)-1=(↑a:Int)/\p2=p2/\p3=p3/\p4=p4/\p5=p5/\p11=y/\p12=z/\((↑x.length:Int)+(↑a:Int)<=p6\/(↑x.length:Int)+(↑a:Int)=0)/\(∀(p:aF.den),p∈x->iA p)/\a<p1
def sW.q2 (p0:List cP)(p1 p2:Nat)(p3:Prop):Prop:=p2<=1000/\(∀(p:(aF).den),p∈p0.getD p1 []->cV p)/\p3
def sW.q3 (p0 p1:List bY.den)(p2:Int)(p3:List bY.den)(p4 p5:br)(p6 p7:Int)(p8:Prop):Prop:=p0=p0/\p1=p1/\p2=p2/\p3=p3/\p4=p5/\p6=p7/\p8
def sW.q4 (p0 p1:Nat)(p2:Prop):Prop:=(0<=(↑p0:Int)/\(↑p0:Int)<(↑p1:Int))/\p2
def sW.q5 (p0 p1:List bY.den)(p2:Int)(p3:List bY.den)(p4:List (aF).den)(p5:List (bn).den):Prop:=((3:Int)<=1000/\(-10000:Int)<=3/\∀(a:Int)(y:br)(w:Int),0<=a->a<=3\/a=0->(∃(v:Nat),∃(u:List aF.den),∃(t:br),∃(m:Int),[]=u/\a=(↑v:Int)/\y=t/\w=m/\((↑u.length:Int)+(↑v:Int)<=a\/(↑u.length:Int)+(↑v:Int)=0)/\(∀(p:aF.den),p∈u->iA p)/\v<1000000)/\∀(v:Nat)(u:List aF.den)(t:br)(m:Int),(↑u.length:Int)+(↑v:Int)<=a\/(↑u.length:Int)+(↑v:Int)=0->(∀(p:aF.den),p∈u->iA p)->aB (decide ((↑v:Int)>0)) (aB (decide ((↑u.length:Int)>0)) ((2:Int)<=1000/\(0:Int)<=2/\∀(z:Bool)(k:Int)(i:br)(f:Int),aB z (cR ((↑u.length:Int)-1)/\(↑u.length:Int)-1<=1000/\(-10000:Int)<=(↑u.length:Int)-1/\∀(r:Int)(j:br)(e:Int),0<=r->r<=(↑u.length:Int)-1\/r=0->(0<=r/\r<(↑u.length:Int))/\Ok (u.getD r.toNat bm).1 (u.getD r.toNat bm).2.1 (u.getD r.toNat bm).2.2.1 (u.getD r.toNat bm).2.2.2.1/\∀(n h:br)(g:Int)(d c:br)(b:Int),Ok n h g d->n=List.map (λ(x:bY.den)=>(9:bY.den)-x) (u.getD r.toNat bm).2.1->sW.q1 u v p0 p1 p2 p3 a n h g d c b) ((3:Int)<=5/\(5:Int)<=8/\∀(r j:br)(e:Int)(n h:br)(g:Int),Ok r j e n->(↑r.length:Int)<=5->sW.q1 u v p0 p1 p2 p3 a r j e n h g)) ((3:Int)<=5/\(5:Int)<=8/\∀(z k:br)(i:Int)(f r:br)(j:Int),Ok z k i f->(↑z.length:Int)<=5->sW.q1 u v p0 p1 p2 p3 a z k i f r j)) (∃(a:cP),∃(z:br),∃(k:Int),p4=p4/\p5=p5/\false=false/\u=a/\sW.q3 p0 p1 p2 p3 t z m k (a.length<=3/\(∀(p:PD),p∈a->iA p)/\True)))/\∀(a:cP)(y:br)(w:Int),a.length<=3->(∀(p:PD),p∈a->iA p)->a.length<=1000/\(∀(p:(aF).den),p∈a->cV p)/\a.length+1<=1000000000/\aB ((↑a.length:Int)==3) (((0:Int)<=1/\1<=(↑(a++[(p0,p1,p2,p3,())]).length:Int))/\∃(v:cP),p4=p4/\p5=p5/\false=false/\a=a/\List.drop 1 (a++[(p0,p1,p2,p3,())])=v/\sW.q3 p0 p1 p2 p3 y y w w (ID v/\True)) (∃(v:cP),p4=p4/\p5=p5/\false=false/\a=a/\a++[(p0,p1,p2,p3,())]=v/\sW.q3 p0 p1 p2 p3 y y w w (ID v/\True))/\∀(v:cP),ID v->True/\aB (decide ((↑a.length:Int)>0)) (1<=a.length/\a.length<=4/\(∀(p:(aF).den),p∈a->iA p)/\∀(u:List bn.den)(t:br)(m:Int),1<=u.length->u.length<=a.length->((0:Int)<=1/\1<(↑(3:Nat):Int))/\True/\∃(z:List dp),∃(k:br),∃(i:Int),p4=p4/\false=false/\a=a/\v=v/\sW.q3 p0 p1 p2 p3 t k m i ([p5,u,p5]=z/\z.length=3/\(∀(s:dp),s∈z->s.length<=1000)/\True)) (∃(u:List dp),∃(t:br),∃(m:Int),p4=p4/\false=false/\a=a/\v=v/\sW.q3 p0 p1 p2 p3 y t w m ([p5,[],p5]=u/\u.length=3/\(∀(s:dp),s∈u->s.length<=1000)/\True))/\∀(u:List dp)(t:br)(m:Int),u.length=3->(∀(s:dp),s∈u->s.length<=1000)->(∃(z:List cP),false=false/\[p4,a,v]=z/\sW.q3 p0 p1 p2 p3 t t m m (u=u/\z.length=3/\(∀(x:cP),x∈z->ID x)/\True))/\∀(a:List cP),a.length=3->(∀(x:cP),x∈a->ID x)->(∃(a:Nat),0=(↑a:Int)/\a<=3/\3-a<1000000)/\∀(z:Nat),z<=3->aB (decide ((↑z:Int)<(↑a.length:Int))) (sW.q4 z a.length (sW.q2 a z (List.length (a.getD z [])) (sW.q4 z u.length (True/\0+List.length (u.getD z [])<=1000000000/\sW.q2 a z (List.length (a.getD z [])) ((fC (a.getD z [])=0->List.length (a.getD z [])<=3)/\∀(k i:Int),k=lH (a.getD z [])->i=fC (a.getD z [])->sW.q4 z a.length (sW.q2 a z (List.length (a.getD z [])) ((fC (a.getD z [])=0->List.length (a.getD z [])<=3)/\∀(f r:Int),f=lH (a.getD z [])->r=fC (a.getD z [])->sW.q2 a z (List.length (a.getD z [])) (∀(j:dp)(e:Int),j=mZ (a.getD z [])->e=oN (a.getD z [])->sW.q4 z a.length (sW.q2 a z (List.length (a.getD z [])) ((fC (a.getD z [])=0->List.length (a.getD z [])<=3)/\∀(n:dp)(h:Int),n=mZ (a.getD z [])->h=oN (a.getD z [])->aB (k !=f) (false=true/\True) (aB (i !=r) (false=true/\True) (aB (e !=h) (false=true/\True) (j.length<=1000/\n.length<=1000/\∀(g:Bool),(g=true↔j=n)->aB (!g) (false=true/\True) (List.length (a.getD z [])<=1000/\sW.q2 a z (List.length (u.getD z [])) (∀(d c:Int),Nh (a.getD z []) (u.getD z []) d c->sW.q4 z a.length (sW.q4 z u.length (True/\List.length (a.getD z [])<=1000/\sW.q2 a z (List.length (u.getD z [])) (∀(b Y:Int),Nh (a.getD z []) (u.getD z []) b Y->aB (d !=b) (false=true/\True) (aB (c !=Y) (false=true/\True) (sW.q4 z a.length (List.length (a.getD z [])<=1000/\sW.q2 a z (List.length (a.getD z [])) ((∀(p:(aF).den),p∈a.getD z []->cV p)/\∀(Z:Bool),(Z=true↔a.getD z []=a.getD z [])->aB (!Z) (false=true/\True) (sW.q4 z u.length (True/\List.length (u.getD z [])<=1000/\List.length (u.getD z [])<=1000/\∀(U:Bool),(U=true↔u.getD z []=u.getD z [])->aB (!U) (false=true/\True) (cR ((↑z:Int)+1)/\∃(X:Nat),a=a/\(↑z:Int)+1=(↑X:Int)/\sW.q3 p0 p1 p2 p3 t t m m (u=u/\X<=3/\3-X<3-z)))))))))))))))))))))))))) (true=true/\True)
theorem sW:VI H4 Tryz.f4 [some .bool] D4 1:=by
 refine dH λa=>?_;unfold D4;split
 rotate_left
 trivial;rename_i l u lo w q stack NC;intro hp;refine jx (A:=∀(a:Bool),a=(decide (l.length<=20)&&l.all Nj)->aB (!a) (true=true/\True) (∀(a:Bool),a=(decide (1<=20)&&[(u,lo,w,q,())].all Nj)->aB (!a) (true=true/\True) (aB (decide ((↑stack.length:Int)>20)) (true=true/\True) (aB (decide ((↑l.length:Int)>3)) (aB (decide ((↑l.length:Int)<=4)) (true=true/\True) (sW.q5 u lo w q l stack)) (sW.q5 u lo w q l stack))))) (by kernel_rfl) ?_;unfold sW.q5 sW.q4 sW.q3 sW.q2 sW.q1;intro b hb;refine ek.2 (gZ.2 ⟨λe=>?_,λ_=>⟨rfl,trivial⟩⟩);intro b2 Ku;refine ek.2 (gZ.2 ⟨λe2=>?_,λ_=>⟨rfl,trivial⟩⟩);rw[e]at hb;rw[e2]at Ku;clear e e2;obtain⟨FF,uM⟩:=ac2 hb.symm;have hsp:cV (u,lo,w,q,()):=(ac2 (l:=[(u,lo,w,q,())]) Ku.symm).2 _ (bV.2 rfl);refine bP.2 ⟨λ_=>⟨rfl,trivial⟩,λhst=>afk ⟨rfl,trivial⟩ λh34=>?_⟩;have hl3:ID l:=⟨ab,uM,λh=>by have:=(nL h).1;omega⟩;clear hb Ku h34;simp only[bP,cH,dg,ek,eq_self,true_and,and_true,cR,eW];refine⟨⟨ab,ab,λm0 r0 z0 g0 g1=>⟨⟨m0.toNat,[],r0,z0,rfl,ab,rfl,rfl,by simp only[lB];omega,ae,ab⟩,λm L r z hc hL=>⟨λhm=>⟨λhLn=>?_,λhLn=>?_⟩,λhm=>⟨_,_,_,rfl,rfl,rfl,ab,hL⟩⟩⟩⟩,λps r z hps kB=>?_⟩;have fin:∀(u lo q:br)(w:Int)(r1:br)(z1:Int),Ok u lo w q->L.length+1<=1000000000/\(-9223372036854775808<=(m:Int)-1/\(m:Int)-1<=9223372036854775807)/\∃(a:Nat)(a_1:List aF.den)(a_2:br)(a_3:Int),L++[(u,lo,w,q,())]=a_1/\(m:Int)-1=(a:Int)/\r1=a_2/\z1=a_3/\((a_1.length:Int)+(a:Int)<=m0\/(a_1.length:Int)+(a:Int)=0)/\(∀(p:aF.den),p∈a_1->iA p)/\a<m:=λu lo q w r1 z1 ho=>
  ⟨ab,⟨ab,ab⟩,m-1,_,_,_,rfl,ab,rfl,rfl,.inl (by rw[cn,pG];omega),Qz hL ho,ab⟩
 refine⟨ab,ab,λb x2 x3 x4=>gZ.2 ⟨λ_=>⟨⟨ab,ab⟩,ab,ab,λk x5 x6 k0 k1=>⟨⟨k0,ab⟩,(dB (P:=iA) ab hL:iA (L.getD k.toNat dP)),λu lo w q r1 z1 ho hu=>fin u lo q w r1 z1 ho⟩⟩,λ_=>⟨ab,ab,λu lo w q r1 z1 ho hu=>fin u lo q w r1 z1 ho⟩⟩⟩;refine⟨ab,ab,λu lo w q r1 z1 ho hu=>⟨ab,⟨ab,ab⟩,m-1,_,_,_,rfl,ab,rfl,rfl,.inl (by rw[cn,pG];omega),Qz hL ho,ab⟩⟩;have sh:∀p∈ps,cV p:=λp hp=>WJ (kB p hp);have shq:∀p∈ps++[(u,lo,w,q,())],cV p:=λp hp=>by rcases eG.1 hp with hp|hp;exact sh p hp;rw[bV.1 hp];exact hsp
 have hlen:(ps++[(u,lo,w,q,())]).length=ps.length+1:=ae
 refine⟨ab,sh,ab,⟨λh=>⟨⟨ab,ab⟩,_,rfl,by rw[List.length_drop];omega,λp hp=>shq p (List.mem_of_mem_drop hp),λ_=>by rw[List.length_drop];omega⟩,λh=>⟨_,rfl,ab,shq,λ_=>ab⟩⟩,λos hos=>⟨⟨λh=>⟨ab,ab,kB,λs r1 z1 s1 s2=>⟨⟨ab,an⟩,_,_,_,rfl,rfl,rfl,rfl,?_⟩⟩,λh=>⟨_,_,_,rfl,rfl,rfl,rfl,?_⟩⟩,λB r1 z1 b1 b2=>⟨⟨_,rfl,rfl,?_⟩,λA a1 a2=>⟨⟨0,rfl,ab,ab⟩,λi hi=>⟨λhlt=>?_,λ_=>trivial⟩⟩⟩⟩⟩;intro x hx;simp only[bE,eP,or_false]at hx;rcases hx with rfl|rfl|rfl<;>omega;intro x hx;simp only[bE,eP,or_false]at hx;rcases hx with rfl|rfl|rfl;omega;exact j7 _;omega;intro x hx;simp only[bE,eP,or_false]at hx;rcases hx with rfl|rfl|rfl;exact hl3;exact⟨ab,sh,λ_=>hps⟩;exact hos;have hx:ID (A.getD i []):=dB ab a2;have hs:(B.getD i []).length<=1000:=dB (P:=λs:dp=>s.length<=1000) ab b2;have e2:(0:Int)<=(i:Int)/\(i:Int)<(A.length:Int):=⟨ab,ab⟩;have e4:(0:Int)<=(i:Int)/\(i:Int)<(B.length:Int):=⟨ab,ab⟩;obtain⟨x1,x2,x3⟩:=hx;generalize A.getD i []=X at x1 x2 x3⊢;generalize B.getD i []=Y at hs⊢;refine⟨e2,x1,x2,e4,ab,x1,x2,x3,λn e hn he=>⟨e2,x1,x2,x3,λn' e' AK he'=>⟨x1,x2,λs f FK hf=>⟨e2,x1,x2,x3,λs' f' aji Zu=>?_⟩⟩⟩⟩;obtain rfl:n=n':=hn.trans AK.symm;obtain rfl:e=e':=he.trans he'.symm;obtain rfl:s=s':=FK.trans aji.symm;obtain rfl:f=f':=hf.trans Zu.symm;have ls:s.length<=1000:=by rw[FK,mZ];split;rename_i hc;have h4:=(nL hc.1).1;have:=ER (l:=X) (F:=uT X) X.length (m:=4) (st:=[]) (b:=[]) ae (by simp;omega);omega;exact j7 _
 refine⟨λ_=>⟨λ_=>⟨λ_=>⟨ls,ls,λc hc=>?_⟩,λh=>(h rfl).elim⟩,λh=>(h rfl).elim⟩,λh=>(h rfl).elim⟩;have hc:c=true:=hc.2 rfl;subst hc;refine⟨x1,hs,x2,λk e hk=>⟨e2,e4,x1,hs,x2,λk' e' rC=>?_⟩⟩;obtain⟨rfl,rfl⟩:=acC hk rC;refine⟨λ_=>⟨λ_=>⟨e2,x1,x1,x2,x2,λc hc=>?_⟩,λh=>(h rfl).elim⟩,λh=>(h rfl).elim⟩;have hc:c=true:=hc.2 trivial;subst hc;refine⟨e4,hs,hs,λc hc=>?_⟩;have hc:c=true:=hc.2 trivial;subst hc;exact⟨⟨ab,ab⟩,i+1,ab,ab,ab⟩
end Go.Tv
namespace Go.Tv
open Go Go.Di Go.Proofs
def uz:Code->Nat
 |.seq a b|.cond _ a b=>uz a+uz b
 |.block _ c|.loop c|.scope c=>uz c
 |.rangeFunc _ _ _ _=>1
 |_=>0
theorem mK:∀{c:Code},uz c=0->gO c=none/\∀y,xA y c
 |.seq a b,h=>by simp only[uz]at h;obtain⟨h1,h2⟩:=mK (c:=a) ab;obtain⟨h3,h4⟩:=mK (c:=b) ab;exact⟨by simp only[gO,h1,h3],λy=>⟨h2 y,h4 y⟩⟩
 |.cond _ a b,h=>by simp only[uz]at h;obtain⟨h1,h2⟩:=mK (c:=a) ab;obtain⟨h3,h4⟩:=mK (c:=b) ab;exact⟨by simp only[gO,h1,h3],λy=>⟨h2 y,h4 y⟩⟩
 |.block _ c,h=>mK (c:=c) h
 |.loop c,h=>mK (c:=c) h
 |.scope c,h=>mK (c:=c) h
 |.rangeFunc _ _ _ _,h=>ao
 |.skip,_=>⟨rfl,λ_=>trivial⟩
 |.label _,_=>⟨rfl,λ_=>trivial⟩
 |.exit _,_=>⟨rfl,λ_=>trivial⟩
 |.ret,_=>⟨rfl,λ_=>trivial⟩
 |.region _ _ _,_=>⟨rfl,λ_=>trivial⟩
 |.goto _,_=>⟨rfl,λ_=>trivial⟩
 |.refuse _,_=>⟨rfl,λ_=>trivial⟩
theorem vn:∀{c:Code},uz c=1->∃y,gO c=some y/\xA y c
 |.seq a b,h=>by simp only[uz]at h;by_cases h0:uz a=0;obtain⟨h1,h2⟩:=mK h0;obtain⟨y,h3,h4⟩:=vn (c:=b) ab;exact⟨y,by simp only[gO,h1,h3],h2 y,h4⟩;obtain⟨y,h3,h4⟩:=vn (c:=a) ab;exact⟨y,by simp only[gO,h3],h4,(mK (c:=b) ab).2 y⟩
 |.cond _ a b,h=>by simp only[uz]at h;by_cases h0:uz a=0;obtain⟨h1,h2⟩:=mK h0;obtain⟨y,h3,h4⟩:=vn (c:=b) ab;exact⟨y,by simp only[gO,h1,h3],h2 y,h4⟩;obtain⟨y,h3,h4⟩:=vn (c:=a) ab;exact⟨y,by simp only[gO,h3],h4,(mK (c:=b) ab).2 y⟩
 |.block _ c,h=>vn (c:=c) h
 |.loop c,h=>vn (c:=c) h
 |.scope c,h=>vn (c:=c) h
 |.rangeFunc _ ps a b,_=>⟨_,rfl,rfl⟩
 |.skip,h=>ao
 |.label _,h=>ao
 |.exit _,h=>ao
 |.ret,h=>ao
 |.region _ _ _,h=>ao
 |.goto _,h=>ao
 |.refuse _,h=>ao
theorem IM{T:eM}{f:FuncId}{fn:Func}{Y:List (Nat×LA)}(h:uz (mI fn)=1):(T.own f fn Y).Io f fn:=by obtain⟨y,h1,h2⟩:=vn h;show f=f/\gO (mI fn)=some ((gO (mI fn)).getD ([],.skip,.skip))/\xA ((gO (mI fn)).getD ([],.skip,.skip)) (mI fn);rw[h1];exact⟨rfl,rfl,h2⟩
section
variable {bI:b9} (tk:CX bI)
noncomputable abbrev B49:eM:=(((K3.mB 113 λa c=>dS (D69 a c)).DN 73 Tryz.f73 []).DN 112 Tryz.f112 J68)
noncomputable abbrev B45:eM:=((((K3.mB 113 λa c=>dS (D69 a c)).cG 76 λa=>dS (aaL a)).DN 73 Tryz.f73 []).DN 112 Tryz.f112 ahd)
def B74:eM:=((T0.cG 115 λa=>dS (Vv a)).cG 81 λa=>dS (D16 a)).cG 109 λa=>dS (D66 a)
include tk
theorem agF:ic bI 1 K2:=FD (dN tk) Tryz.func114 rfl v70 (fU (dN tk))
theorem aan:ic bI 2 K3:=FD (agF tk) Tryz.func131 rfl aiO (fU (agF tk))
theorem adE:ic bI 3 B49:=KL (KL (FD (aan tk) Tryz.func113 rfl v69 (fU (aan tk))) Tryz.func73 rfl) Tryz.func112 rfl
theorem adF:ic bI 3 B45:=KL (KL (mg tk (cU (dN tk) 2) an Tryz.func76 rfl aiQ (FD (aan tk) Tryz.func113 rfl v69 (fU (aan tk)))) Tryz.func73 rfl) Tryz.func112 rfl
theorem ads:∀n,ic bI (3+3*n) (B49.IC 72 λa t=>dS (D49 n a t))
 |0=>Vy (adE tk) λn a t p s hs hp=>by exfalso;unfold D49 at hs;split at hs;cases hs;obtain⟨-,-,-,-,-,-,h1,h2,-⟩:=hp;omega;cases hs
 |n+1=>mkM (T:=G49 n) (C9 (ads n)) Tryz.func72 rfl (v49 n) (T':=B49) (cU (adE tk) (3+3*n)) (IM (by kernel_rfl))
theorem adt:∀n,ic bI (3+3*n) (B45.IC 75 λa t=>dS (Sk n a t))
 |0=>Vy (adF tk) λn a t p s hs hp=>by exfalso;unfold Sk at hs;split at hs;cases hs;obtain⟨-,-,-,-,h1,h2,h3,-⟩:=hp;have:=KP h1 h2;unfold lW at this;rw[List.length_map]at this;omega;cases hs
 |n+1=>mkM (T:=G45 n) (C9 (adt n)) Tryz.func75 rfl (jw n) (T':=B45) (cU (adF tk) (3+3*n)) (IM (by kernel_rfl))
theorem k2g:ic bI 1 K2s:=FD (dN tk) Tryz.func116 rfl aiP (fU (dN tk))
theorem k3g:ic bI 2 K3g:=FD (k2g tk) Tryz.func131 rfl ahn (fU (k2g tk))
theorem k4r:ic bI 1 K4r:=mg tk (dN tk) an Tryz.func97 rfl v53 (mg tk (dN tk) an Tryz.func115 rfl agB (mg tk (dN tk) an Tryz.func100 rfl v107 (fU (dN tk))))
theorem k6g:ic bI 4 K6g:=mg tk (cU (ag3 tk) 2) an Tryz.func80 rfl v63 (mg tk (cU (Vc tk) 2) an Tryz.func81 rfl v16 (mg tk (cU (k4r tk) 2) an Tryz.func79 rfl U6 (mg tk (aaB tk) an Tryz.func51 rfl v51 (cU (dN tk) 4))))
theorem adD:ic bI 5 B74:=mg tk (ajX tk) an Tryz.func109 rfl v66 (mg tk (cU (Vc tk) 3) an Tryz.func81 rfl v16 (mg tk (cU (dN tk) 4) an Tryz.func115 rfl agB (cU (dN tk) 5)))
theorem adH:∀n,ic bI (5+n) (A74 n)
 |0=>KN (T:=B74) (adD tk) λn a p s hs hp=>by exfalso;unfold D74 at hs;split at hs;cases hs;obtain⟨-,h2,h3,h4,h5,-⟩:=hp;have:=KP (Gv h2 h3) h4;omega;cases hs
 |n+1=>mg tk (adH n) an Tryz.func74 rfl (v74 n) (T':=B74) (by have:=cU (adD tk) (n+1);rwa [nO]at this)
theorem adI:ic bI 9 A29:=mg tk (adH tk 3) an Tryz.func74 rfl (v74 3) (mg tk (cU (aaB tk) 5) an Tryz.func51 rfl v51 (cU (dN tk) 9))
theorem ajp:ic bI 2 H1:=mg tk (ajW tk) an Tryz.func48 rfl v26 (cU (dN tk) 2)
theorem agP(tu:Vs bI):ic bI 1 H2:=mg tk (adG tu (dN tk)) an Tryz.func42 rfl v20 (fU (adG tu (dN tk)))
theorem ai9:ic bI 6 K1:=FD (cU (Vb tk) 2) Tryz.func68 rfl v68 (aac tk)
variable (tr:aaJ bI) (ts:aeG bI)
include tr
theorem ai4:ic bI 3 Q9:=mg tk (adQ tk tr) an Tryz.func61 rfl v50 (fU (adQ tk tr))
theorem k4g:ic bI 3 K4g:=mg tk (cU (aaa tk tr) 1) an Tryz.func95 rfl v80 (FD (k3g tk) Tryz.func113 rfl aho (cU (dN tk) 3))
theorem k5g:ic bI 7 K5g:=mg tk (cU (dN tk) 6) an Tryz.func78 rfl v60 (mg tk (cU (adQ tk tr) 4) an Tryz.func61 rfl v50 (mg tk (cU (k4g tk tr) 3) an Tryz.func77 rfl U7 (mg tk (aac tk) an Tryz.func50 rfl v42 (cU (dN tk) 7))))
include ts
theorem ai5:ic bI 4 P1:=aiE ts (mg tk (ai4 tk tr) an Tryz.func66 rfl U8 (cU (dN tk) 4))
theorem Xi:ic bI 7 ((T0.cG 50 λa=>dS (D42 a)).NQ 71 λa=>dS (Vu a)):=mkN tk (cU (ai5 tk tr ts) 2) an Tryz.func71 rfl dZ (mg tk (aac tk) an Tryz.func50 rfl v42 (cU (dN tk) 7))
theorem aia:ic bI 18 G16:=mkM (T:=G45 4) (C9 (adt tk 4)) Tryz.func75 rfl (jw 4) (cU (Xi tk tr ts) 11) (IM (by kernel_rfl))
theorem ah9:ic bI 15 G20:=mkM (T:=G49 3) (C9 (ads tk 3)) Tryz.func72 rfl (v49 3) (cU (Xi tk tr ts) 8) (IM (by kernel_rfl))
variable (tu:Vs bI)
include tu
theorem ah8:ic bI 19 H4a:=mg tk (cU (adI tk) 9) an Tryz.func29 rfl v29 (mg tk (cU (ah9 tk tr ts) 3) an Tryz.func28 rfl aiT (FD (cU (ai9 tk) 12) Tryz.func27 rfl Ik (mkO (cU (agP tk tu) 17) Tryz.func16 rfl aiU (mg tk (cU (agP tk tu) 17) an Tryz.func16 rfl aiW (mg tk (cU (dN tk) 18) an Tryz.func11 rfl v18 (KL (FD (cU (FP tk) 16) Tryz.func67 rfl v27 (cU (aac tk) 13)) Tryz.func26 rfl))))))
theorem ajT:ic bI 19 H4:=mg tk (cU (ajp tk) 16) an Tryz.func25 rfl aiS (mg tk (cU (k6g tk) 14) an Tryz.func34 rfl Ij (mg tk (cU (k5g tk tr) 11) an Tryz.func33 rfl mz (mg tk (cU (dN tk) 18) an Tryz.func32 rfl U9 (mg tk (cU (adI tk) 9) an Tryz.func31 rfl aiR (mg tk (aia tk tr ts) an Tryz.func30 rfl aiV (ah8 tk tr ts tu))))))
end
end Go.Tv
