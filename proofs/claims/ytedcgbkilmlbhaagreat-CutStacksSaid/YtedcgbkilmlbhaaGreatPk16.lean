import Derived.Test.YtedcgbkilmlbhaaGreatPk15
set_option maxRecDepth 100000
namespace Go.Tv
open Go Go.Di Go.Proofs
section
variable {l:cP} {F:Nat->br} {st AD b:dp} {i k n r:Nat}
theorem Ad{α β:Type}[DecidableEq α]{g:α->List β}{o:α}:∀{q:List α},q.Nodup->(q.flatMap λx=>if x=o then g x else[])=if o∈q then g o else[]
 |[],_=>ae
 |a::q,h=>by
  rw[List.nodup_cons]at h;rw[cz,Ad h.2];by_cases e:a=o
  grind
  grind
theorem BN{q:br}(h:q.Pairwise (·<·)):q.Nodup:=h.imp λh=>ab
abbrev shA(p q:PD)(x y:Int):br:=yG (fL x p.1 p.2.1) (fK y q.1 q.2.1) (p.2.2.1+q.2.2.1) (q.1.length+p.1.length+1)
theorem abE{p q:PD}(hp:iA p)(hq:iA q){o u:Int}:pick (fB p q) o u=if o∈p.2.2.2.1/\u∈q.2.2.2.1 then shA p q o u else[]:=by
 have e:pick (fB p q) o u=p.2.2.2.1.flatMap λx=>if x=o then(q.2.2.2.1.flatMap λy=>if y=u then shA p q x y else[])else[]:=by unfold pick fB bM;rw[List.filter_flatMap,wA];congr 1;funext x;rw[List.filter_flatMap,wA];by_cases h:x=o;rw[if_pos h];congr 1;funext y;rw[List.filter_map,jm];by_cases h2:y=u;rw[if_pos h2,List.filter_eq_self.2 (by simp[h,h2])];exact List.map_id _;rw[if_neg h2,List.filter_eq_nil_iff.2 (by simp[h2])];rfl;rw[if_neg h,List.flatMap_eq_nil_iff];intro y _;rw[List.filter_map,List.filter_eq_nil_iff.2 (by simp[h])];rfl
 rw[e,Ad (BN hp.U4),Ad (BN hq.U4)];by_cases h1:o∈p.2.2.2.1<;>by_cases h2:u∈q.2.2.2.1<;>simp[h1,h2]
theorem Rp{p q:PD}(hp:iA p){o:Int}:((fB p q).filter λs=>s.1==o)=if o∈p.2.2.2.1 then(q.2.2.2.1.flatMap λy=>(shA p q o y).map λs=>(o,y,s,()))else[]:=by
 have e:((fB p q).filter λs=>s.1==o)=p.2.2.2.1.flatMap λx=>if x=o then(q.2.2.2.1.flatMap λy=>(shA p q x y).map λs=>(x,y,s,()))else[]:=by unfold fB bM;rw[List.filter_flatMap];congr 1;funext x;rw[List.filter_flatMap];by_cases h:x=o;rw[if_pos h];congr 1;funext y;exact List.filter_eq_self.2 (by simp[h]);rw[if_neg h,List.flatMap_eq_nil_iff];intro y _;exact List.filter_eq_nil_iff.2 (by simp[h])
 rw[e,Ad (BN hp.U4)]
def sg(ns:List (ay×br)):dp:=ns.flatMap λp=>p.2.map λs=>(p.1.1,p.1.2.1,s,())
theorem qx{α β:Type}{f g:α->List β}:∀{q:List α},(∀x∈q,f x=g x)->q.flatMap f=q.flatMap g
 |[],_=>rfl
 |a::q,h=>by rw[cz,cz,h a ae,qx λx hx=>h x (by simp[hx])]
theorem abP(hl:∀p∈l,iA p)(h4:l.length<=4)(hS:rD l st)(hi:i<l.length)(hh:fA st (i:Int)=false):Gx l st i=(qL l i).flatMap λn=>(gE (uT l) st i n).map λs=>((i:Int),n,s,()):=by
 have oi:iA (l.getD i dP):=dB hi hl;unfold Gx gE;by_cases h0:st.length=0;simp only[if_pos h0];rw[List.flatMap_def];simp[jm,List.flatten];induction qL l i with
 |nil=>rfl
 |cons a q ih=>simp[ih]
 simp only[if_neg h0];have hm:lR st∈st:=dB (P:=λx=>x∈st) ab λ_ h=>h;have hx:=hS _ hm;have ol:iA (l.getD (lR st).1.toNat dP):=dB ab hl;have hne:(lR st).1≠(i:Int):=λe=>Mi hh (e▸List.mem_map_of_mem hm);rw[Rp ol];have ef:∀n∈qL l i,(uT l (uE (lR st).1.toNat (lR st).2.1.toNat i n.toNat))=if(lR st).2.1∈(l.getD (lR st).1.toNat dP).2.2.2.1 then shA (l.getD (lR st).1.toNat dP) (l.getD i dP) (lR st).2.1 n else[]:=λn hn=>by
  rw[agb hl h4 hx hi hne (oi.CH n hn),abE ol oi];by_cases h1:(lR st).2.1∈(l.getD (lR st).1.toNat dP).2.2.2.1
  grind
  grind
 by_cases h1:(lR st).2.1∈(l.getD (lR st).1.toNat dP).2.2.2.1;rw[if_pos h1,wA];refine qx λn hn=>?_;rw[ef n hn,if_pos h1,jm];rfl;rw[if_neg h1,eO];refine(List.flatMap_eq_nil_iff.2 λn hn=>?_).symm;rw[ef n hn,if_neg h1];rfl
theorem Y2{a c:List (ay×br)}:sg (a++c)=sg a++sg c:=by unfold sg;rw[List.flatMap_append]
theorem agc:sg (((qL l i)).filterMap (NF F st i))=(qL l i).flatMap λn=>(gE F st i n).map λs=>((i:Int),n,s,()):=by
 induction qL l i with
 |nil=>rfl
 |cons a q ih=>
  rw[List.filterMap_cons,cz];unfold NF at ih⊢;by_cases e:(gE F st i a).length=0
  grind
  rw[if_neg e];show(gE F st i a).map _++sg _=_;rw[ih]
theorem all_eq(hl:∀p∈l,iA p)(h4:l.length<=4)(hS:rD l st):∀i,i<=l.length->allI l st i=sg (mo l (uT l) st i)
 |0,_=>rfl
 |i+1,hi=>by rw[Ul,qn,Y2,all_eq hl h4 hS i ab];congr 1;split;rfl;rename_i hh;rw[abP hl h4 hS ab (by simpa using hh)];unfold rQ;rw[fR,agc]
def Key(st AD:dp):Prop:=st.map (λx=>(x.1,x.2.1))=AD.map λx=>(x.1,x.2.1)
theorem Key.len (h:Key st AD):st.length=AD.length:=by simpa using congrArg List.length h
theorem Key.at (h:Key st AD)(j:Nat):((st.getD j kU).1,(st.getD j kU).2.1)=((AD.getD j kU).1,(AD.getD j kU).2.1):=by
 have h1:(st.map (λx=>(x.1,x.2.1)))[j]? =(AD.map λx=>(x.1,x.2.1))[j]? :=by rw[h]
 rw[dG,dG]at h1;rw[aU,aU]
 revert h1
 cases st[j]?<;>cases AD[j]?<;>simp
theorem Key.has (h:Key st AD)(x:Int):fA st x=fA AD x:=by
 have e:∀s:dp,fA s x=(s.map λx=>(x.1,x.2.1)).any λe=>e.1==x:=λs=>by unfold fA;rw[List.any_map];rfl
 rw[e,e,h]
theorem Key.sh (h:Key st AD)(i:Nat)(n:Int):gE F st i n=gE F AD i n:=by unfold gE;rw[h.len];have h1:=h.at (AD.length-1);rw[aA]at h1;rw[h1.1,h1.2]
theorem Key.nx (h:Key st AD)(a:Nat):mo l F st a=mo l F AD a:=by unfold mo rQ NF;refine qx λi _=>?_;rw[h.has];congr 1;congr 1;funext n;rw[h.sh]
theorem Key.add (h:Key st AD){x y:ay}(h1:x.1=y.1)(h2:x.2.1=y.2.1):Key (st++[x]) (AD++[y]):=by unfold Key at h⊢;rw[fG,fG,h];simp[h1,h2]
theorem Mk:∀(r:Nat){st AD:dp},Key st AD->dw l F r st=dw l F r AD
 |0,_,_,_=>rfl
 |r+1,st,AD,h=>by rw[dw,dw,h.nx];unfold jB;congr 1;refine List.map_congr_left λp _=>?_;rw[Mk r (h.add rfl rfl)]
def Ge(l:cP)(F:Nat->br)(m:Nat):Nat->dp->Prop
 |0,st=>st.length<=m
 |r+1,st=>st.length<=m/\∀p∈mo l F st l.length,Ge l F m r (st++[p.1])
theorem Ge.key {m:Nat}:∀{r:Nat}{st AD:dp},Key st AD->Ge l F m r st->Ge l F m r AD
 |0,st,AD,k,h=>by unfold Ge at h⊢;rw[<-k.len];exact h
 |r+1,st,AD,k,h=>by unfold Ge at h⊢;rw[<-k.len,<-k.nx];exact⟨h.1,λp hp=>Ge.key (k.add rfl rfl) (h.2 p hp)⟩
theorem Ge.up {m m':Nat}(hm:m<=m'):∀{r:Nat}{st:dp},Ge l F m r st->Ge l F m' r st
 |0,st,h=>by unfold Ge at h⊢;omega
 |r+1,st,h=>by unfold Ge at h⊢;exact⟨ab,λp hp=>(h.2 p hp).up hm⟩
theorem JM:b.length<=(mX st b).length/\st.length<=(mX st b).length:=by unfold mX;split<;>omega
theorem JL:∀(r:Nat){st b:dp},b.length<=(qI l F r st b).length/\Ge l F (qI l F r st b).length r st/\(Ge l F b.length r st->qI l F r st b=b)
 |0,st,b=>by refine⟨JM.1,JM.2,λh=>?_⟩;unfold Ge at h;show mX st b=b;unfold mX;rw[if_neg ab]
 |r+1,st,b=>by
  have key:∀(ns:List (ay×br))(c:dp),c.length<=(ns.foldl (λb p=>qI l F r (st++[p.1]) b) c).length/\(∀p∈ns,Ge l F (ns.foldl (λb p=>qI l F r (st++[p.1]) b) c).length r (st++[p.1]))/\((∀p∈ns,Ge l F c.length r (st++[p.1]))->ns.foldl (λb p=>qI l F r (st++[p.1]) b) c=c):=by
   intro ns;induction ns with
   |nil=>exactλc=>⟨ak _,ae,λ_=>rfl⟩
   |cons p ns ih=>
    intro c;obtain⟨h1,h2,h3⟩:=JL r (st:=st++[p.1]) (b:=c);obtain⟨i1,i2,i3⟩:=ih (qI l F r (st++[p.1]) c);rw[gh];refine⟨bt h1 i1,λq hq=>?_,λh=>?_⟩;rcases bE.1 hq with rfl|hq;exact h2.up i1
    grind
    grind
  obtain⟨k1,k2,k3⟩:=key (mo l F st l.length) (mX st b);rw[qI];have h0:=JM (st:=st) (b:=b);refine⟨ab,?_,λh=>?_⟩;unfold Ge;exact⟨ab,k2⟩;unfold Ge at h;have e:mX st b=b:=by unfold mX;rw[if_neg ab]
  rw[e]at k3⊢;exact k3 h.2
theorem WH(hl:∀p∈l,iA p)(hS:rD l st){a:Nat}(ha:a<=l.length){p:ay×br}(hp:p∈mo l F st a){s:Int}:rD l (st++[(p.1.1,p.1.2.1,s,())]):=λz hz=>by rcases eG.1 hz with hz|hz;exact hS z hz;rw[bV]at hz;subst hz;obtain⟨k,hk,-,n,hn,rfl⟩:=Df hp;have ok:iA (l.getD k dP):=dB ab hl;exact⟨⟨by dsimp only;omega,by dsimp only;omega⟩,ok.CH n hn⟩
theorem GR{α:Type}{g:α->Int}{v:Int}:∀{q:List α},(∀x∈q,g x=v)->(q.map g).sum=(q.length:Int)*v
 |[],_=>ae
 |a::q,h=>by
  rw[aY,List.sum_cons,h a ae,GR λx hx=>h x (by simp[hx]),di]
  push_cast
  rw[Int.add_mul];omega
theorem Xh(hl:∀p∈l,iA p)(h4:l.length<=4):∀(r:Nat){st:dp},rD l st->FZ l r st=dw l (uT l) r st
 |0,_,_=>rfl
 |r+1,st,hS=>by
  rw[FZ,dw,all_eq hl h4 hS l.length (ak _)];unfold jB;have key:∀ns:List (ay×br),(∀p∈ns,p∈mo l (uT l) st l.length)->((sg ns).map λx=>FZ l r (st++[x])).sum=(ns.map λp=>(p.2.length:Int)*dw l (uT l) r (st++[p.1])).sum:=by
   intro ns;induction ns with
   |nil=>exactλ_=>rfl
   |cons p ns ih=>intro h;have e:sg (p::ns)=(p.2.map λs=>(p.1.1,p.1.2.1,s,()))++sg ns:=rfl;rw[e,fG,List.sum_append,ih λq hq=>h q (by simp[hq]),aY,List.sum_cons];congr 1;rw[jm,GR λs _=>?_];show FZ l r (st++[(p.1.1,p.1.2.1,s,())])=_;rw[Xh hl h4 r (WH hl hS (ak _) (h p ae))];exact Mk r (Key.add rfl rfl rfl)
  exact key _ λ_ h=>h
theorem Oc(hl:∀p∈l,iA p)(h4:l.length<=4):∀(r:Nat){st b:dp},rD l st->FU l r st b=qI l (uT l) r st b
 |0,_,_,_=>rfl
 |r+1,st,b,hS=>by
  rw[FU,qI,all_eq hl h4 hS l.length (ak _)];have key:∀(ns:List (ay×br))(c:dp),(∀p∈ns,p∈mo l (uT l) st l.length)->(sg ns).foldl (λb x=>FU l r (st++[x]) b) c=ns.foldl (λb p=>qI l (uT l) r (st++[p.1]) b) c:=by
   intro ns;induction ns with
   |nil=>exactλ_ _=>rfl
   |cons p ns ih=>
    intro c h;have e:sg (p::ns)=(p.2.map λs=>(p.1.1,p.1.2.1,s,()))++sg ns:=rfl;rw[e,nS,gh,ih _ λq hq=>h q (by simp[hq])];congr 1;have hp:=h p ae;obtain⟨k,hk,-,n,hn,hpe⟩:=Df hp;have hne:p.2.length≠0:=by
     intro h0;unfold mo rQ NF at hp;rw[rm]at hp;obtain⟨a,-,ha⟩:=hp;split at ha;cases ha
     grind
    have h1:p.1=((k:Int),n,p.2.getD 0 0,()):=by rw[hpe]
    obtain⟨s,ss,hs⟩:∃s ss,p.2=s::ss:=by
     cases hp2:p.2 with
     |nil=>rw[hp2]at hne;exact(hne rfl).elim
     |cons s ss=>exact⟨s,ss,rfl⟩
    have AP:p.1=((k:Int),n,s,()):=by rw[h1,hs];rfl
    rw[hs,aY,gh];have kB:∀t:Int,rD l (st++[(p.1.1,p.1.2.1,t,())]):=λt=>WH hl hS (ak _) hp;have e1:((p.1.1,p.1.2.1,s,()):ay)=p.1:=by rw[AP]
    rw[e1,Oc hl h4 r (by have:=kB s;rwa [e1]at this)];have rest:∀(ss:br)(c:dp),Ge l (uT l) c.length r (st++[p.1])->(ss.map λt=>((p.1.1,p.1.2.1,t,()):ay)).foldl (λb x=>FU l r (st++[x]) b) c=c:=by
     intro ss;induction ss with
     |nil=>exactλ_ _=>rfl
     |cons t ss ih=>
      intro c hc;rw[aY,gh];have:FU l r (st++[(p.1.1,p.1.2.1,t,())]) c=c:=by rw[Oc hl h4 r (kB t)];have kk:Key (st++[p.1]) (st++[(p.1.1,p.1.2.1,t,())]):=Key.add (show Key st st from rfl) rfl rfl;exact(JL r).2.2 (hc.key kk)
      rw[this];exact ih c hc
    exact rest ss _ (JL r).2.1
  exact key _ _ λ_ h=>h
end
end Go.Tv
namespace Go.Tv
open Go Go.Di Go.Proofs
theorem Qb:∀(l:br)(st:Int×Int×Int),(l.foldl RQ st).2.2=st.2.2+l.length
 |[],st=>ae
 |x::l,st=>by rw[gh,Qb l];simp only[RQ,di];omega
theorem abg(l:br):(qz l).2.2=l.length:=by rw[qz,Qb];simp
theorem JH(la ub:br)(s:Int):∀i,(gm la ub s i).length<=i
 |0=>ak 0
 |i+1=>by
  have:=JH la ub s i;rw[gm];split
  rw[cn,pG];omega
  omega
def aaM:cp->Dn
 |[.val (.int .i64 x),.val (.int .i64 lo),.val (.int .i64 hi)]=>some ([],.res (kR (decide (lo<=x/\x<=hi))) [] [],[])
 |_=>none
theorem v107:VI T0 Tryz.f100 [some .bool] aaM:=by
 refine dH λa=>?_;unfold aaM;split
 rotate_left
 trivial;rename_i x lo hi;intro hp;refine jx (A:=aB (decide (lo<=x)) (decide (x<=hi)=decide (lo<=x/\x<=hi)/\True) (false=decide (lo<=x/\x<=hi)/\True)) (by kernel_rfl) ?_;rw[gZ];refine⟨λh=>⟨?_,trivial⟩,λh=>⟨?_,trivial⟩⟩;simp only[cA]at h;rw[decide_eq_decide];omega
 simp only[decide_eq_false_iff_not]at h;symm;rw[decide_eq_false_iff_not];omega
def G1:eM:=T0.cG 100 λa=>dS (aaM a)
def ae4:cp->Dn
 |[.sl (.int .i64) l .no]=>some ([l.length<=1000],.ex Int λe=>.res (aV e) [] [e=if l.all (pJ 9)=true then 0 else 1],[(3,.ex Nat λi=>.st {sl:=[(3,aV i)],cQ:=[i<=l.length,(l.take i).all (pJ 9)=true],m:=l.length-i})])
 |_=>none
theorem aiX:VI G1 Tryz.f93 [some bY] ae4:=by
 refine dH λa=>?_;unfold ae4;split
 rotate_left
 trivial;rename_i l;intro hp;refine jx (A:=(∃(a:Nat),0=(↑a:Int)/\a<=l.length/\(List.take a l).all (pJ (9:Int))=true/\l.length-a<1000000)/\∀(a:Nat),a<=l.length->(List.take a l).all (pJ (9:Int))=true->aB (decide ((↑a:Int)<(↑l.length:Int))) ((0<=(↑a:Int)/\(↑a:Int)<(↑l.length:Int))/\aB (!decide (0<=l.getD a 0/\l.getD a 0<=9)) (∃(a:Int),1=a/\(a=if l.all (pJ (9:Int))=true then(0:Int)else(1:Int))/\True) (cR ((↑a:Int)+1)/\∃(x:Nat),l=l/\(↑a:Int)+1=(↑x:Int)/\x<=l.length/\(List.take x l).all (pJ (9:Int))=true/\l.length-x<l.length-a)) (∃(a:Int),0=a/\(a=if l.all (pJ (9:Int))=true then(0:Int)else(1:Int))/\True)) (by kernel_rfl) ?_;have h1:=hp.1;simp only[bP,ek,eW,cR,and_true,true_and,eq_self];refine⟨⟨0,rfl,ab,rfl,ab⟩,λi h2 h3=>⟨λh4=>⟨ab,λh5=>⟨ab,i+1,ab,ab,RI ab h3 (iN h5),ab⟩,λh5=>⟨1,rfl,?_⟩⟩,λh4=>⟨0,rfl,?_⟩⟩⟩;rw[QO (i:=i) ab (gR h5)];rfl
 rw[show i=l.length by omega,fR]at h3;rw[if_pos h3]
def G2:eM:=G1.cG 93 λa=>dS (ae4 a)
def D91:cp->Dn
 |[.agg [.sl (.int .i64) au .no,.sl (.int .i64) al .no,.val (.int .i64 aw),.sl (.int .i64) aq .no]]=>some ([Sh au al aq],.res (aV (mq au al aw aq)) [] [],[(29,.ex Nat λi=>.st {sl:=[(5,aV i)],cQ:=[i<=aq.length,kK aq 0=kK aq i],m:=aq.length-i})])
 |_=>none
def v91.q1 (p0:Nat)(p1 p2:br)(p3:Int)(p4:br):Prop:=cR ((↑p0:Int)+1)/\∃(a:Nat),(↑p0:Int)+1=(↑a:Int)/\p1=p1/\p2=p2/\p3=p3/\p4=p4/\a<=p4.length/\kK p4 0=kK p4 a/\p4.length-a<p4.length-p0
theorem v91:VI G2 Tryz.f92 [some bY] D91:=by
 refine dH λa=>?_;unfold D91;split
 rotate_left
 trivial;rename_i u l w ls;intro hp;change br at u l ls;refine jx (A:=aB (decide ((↑u.length:Int)<3)) (7=mq u l w ls/\True) (aB (decide ((↑u.length:Int)>8)) (6=mq u l w ls/\True) (aB (decide ((↑l.length:Int)<(↑u.length:Int))) (7=mq u l w ls/\True) (aB (decide ((↑l.length:Int)>(↑u.length:Int))) (6=mq u l w ls/\True) (u.length<=1000/\∀(a:Int),(a=if u.all (pJ (9:Int))=true then(0:Int)else(1:Int))->aB (a !=0) (a=mq u l w ls/\True) (l.length<=1000/\∀(a:Int),(a=if l.all (pJ (9:Int))=true then(0:Int)else(1:Int))->aB (a !=0) (a=mq u l w ls/\True) (aB (!decide (0<=w/\w<=2)) (1=mq u l w ls/\True) (aB ((↑ls.length:Int)==0) (7=mq u l w ls/\True) ((∃(a:Nat),0=(↑a:Int)/\a<=ls.length/\kK ls 0=kK ls a/\ls.length-a<1000000)/\∀(a:Nat),a<=ls.length->kK ls 0=kK ls a->aB (decide ((↑a:Int)<(↑ls.length:Int))) ((0<=(↑a:Int)/\(↑a:Int)<(↑ls.length:Int))/\aB (!decide (0<=ls.getD a 0/\ls.getD a 0<=3)) (8=mq u l w ls/\True) (aB (decide ((↑a:Int)>0)) ((0<=(↑a:Int)/\(↑a:Int)<(↑ls.length:Int))/\cR ((↑a:Int)-1)/\(0<=(↑a:Int)-1/\(↑a:Int)-1<(↑ls.length:Int))/\aB (decide (ls.getD a 0<=ls.getD ((↑a:Int)-1).toNat (0:Int))) (5=mq u l w ls/\True) (v91.q1 a u l w ls)) (v91.q1 a u l w ls))) (0=mq u l w ls/\True)))))))))) (by kernel_rfl) ?_;unfold v91.q1;obtain⟨h1,h2,h3⟩:=hp.1;simp only[bP,cH,dg,ek,eW,cR,and_true,true_and,eq_self];refine⟨λa1=>?_,λa1=>⟨λa2=>?_,λa2=>⟨λa3=>?_,λa3=>⟨λa4=>?_,λa4=>⟨ab,λe he=>?_⟩⟩⟩⟩⟩;rw[mq,if_pos ab];rw[mq,if_neg ab,if_pos ab];rw[mq,if_neg ab,if_neg ab,if_pos ab];rw[mq,if_neg ab,if_neg ab,if_neg ab,if_pos ab];have e1:∀(_:u.all (pJ 9)=false\/l.all (pJ 9)=false\/w<0\/2<w),mq u l w ls=1:=λh=>by rw[mq,if_neg ab,if_neg ab,if_neg ab,if_neg ab,if_pos h]
 cases b1:u.all (pJ 9)with
 |false=>rw[b1]at he;subst he;exact⟨λh=>absurd h an,λ_=>(e1 (.inl b1)).symm⟩
 |true=>
 rw[b1]at he;subst he
 refine⟨λ_=>⟨ab,λe he=>?_⟩,λh=>absurd rfl h⟩;cases b2:l.all (pJ 9)with
 |false=>rw[b2]at he;subst he;exact⟨λh=>absurd h an,λ_=>(e1 (.inr (.inl b2))).symm⟩
 |true=>
 rw[b2]at he;subst he
 refine⟨λ_=>⟨λb5=>⟨λb6=>?_,λb6=>?_⟩,λb5=>(e1 ab).symm⟩,λh=>absurd rfl h⟩;rw[mq,if_neg ab,if_neg ab,if_neg ab,if_neg ab,if_neg (by rw[b1,b2];simp;omega),if_pos ab];have e:mq u l w ls=kK ls 0:=Rx ab ab ab ab (by rw[b1];rfl) (by rw[b2];rfl) ab ab ab;rw[e];refine⟨⟨0,rfl,ab,rfl,ab⟩,λi k1 k2=>⟨λk3=>⟨ab,λk4=>⟨λk5=>⟨ab,ab,ab,λk6=>?_,λk6=>⟨ab,i+1,ab,ab,k2.trans (vE ab ab ?_),ab⟩⟩,λk5=>⟨ab,i+1,ab,ab,k2.trans (vE ab ab ab),ab⟩⟩,λk4=>?_⟩,λk3=>?_⟩⟩;rw[k2,VS ab ab ⟨ab,by rw[show i-1=((i:Int)-1).toNat by omega];exact k6⟩];rw[show i-1=((i:Int)-1).toNat by omega];exactλh=>k6 h.2
 rw[k2,PF ab ab];rw[k2,VT ab]
def G3:eM:=G2.cG 92 λa=>dS (D91 a)
theorem Ui(p q:PD):gG [p,q]=if DM p≠0 then DM p else DM q:=by simp only[gG];split;rfl;split;rfl;rename_i h;exact(Decidable.not_not.1 h).symm
def D61:cp->Dn
 |[.agg [.sl (.int .i64) au .no,.sl (.int .i64) al .no,.val (.int .i64 aw),.sl (.int .i64) aq .no],.agg [.sl (.int .i64) bu .no,.sl (.int .i64) bl .no,.val (.int .i64 bw),.sl (.int .i64) bq .no]]=>some ([Sh au al aq,Sh bu bl bq],.ex Int λe=>.res (aV e) [] [e=gG [pd au al aw aq,pd bu bl bw bq]],[])
 |_=>none
theorem v61:VI G3 Tryz.f96 [some bY] D61:=by
 refine dH λa=>?_;unfold D61;split
 rotate_left
 trivial;rename_i u l w ls u2 l2 w2 FE;intro hp;refine jx (A:=Sh u l ls/\aB (mq u l w ls !=0) (∃(a:Int),mq u l w ls=a/\a=gG [pd u l w ls,pd u2 l2 w2 FE]/\True) (Sh u2 l2 FE/\∃(a:Int),mq u2 l2 w2 FE=a/\a=gG [pd u l w ls,pd u2 l2 w2 FE]/\True)) (by kernel_rfl) ?_;obtain⟨h1,h2,-⟩:=hp;rw[Ui];simp only[dg];refine⟨h1,λe=>⟨h2,_,rfl,(if_neg (λh=>h e)).symm,trivial⟩,λe=>⟨_,rfl,(if_pos e).symm,trivial⟩⟩
def xe(la ub:br)(s:Int)(i k:Nat):br:=if 0<=(i:Int)+s/\(i:Int)+s<k then gm la ub s i++[ub.getD i 0+la.getD ((i:Int)+s).toNat 0]else gm la ub s i
def D62:cp->Dn
 |[.agg [.sl (.int .i64) au .no,.sl (.int .i64) al .no,.val (.int .i64 aw),.sl (.int .i64) aq .no],.agg [.sl (.int .i64) bu .no,.sl (.int .i64) bl .no,.val (.int .i64 bw),.sl (.int .i64) bq .no],.val (.int .i64 s)]=>some ([al.length<=1000,bu.length<=1000,lg al,lg bu],.res (.sl bY (gm al bu s bu.length) .no) [] [],
  [(4,.ex Nat λi=>.st {sl:=[(7,.sl bY (gm al bu s i) (.iT 2)),(8,aV i)],own:=[(3,1)],cQ:=[i<=bu.length],m:=bu.length-i}),
   (9,.dep λte _=>od te 8 λi=>.ex Nat λk=>.st {sl:=[(7,.sl bY (xe al bu s i k) (.iT 2)),(9,aV k)],cQ:=[k<=al.length],m:=al.length-k})])
 |_=>none
def v62.q1 (p0 p1:Nat)(p2 p3 p4:List bY.den)(p5:Int)(p6 p7:List bY.den)(p8:Int)(p9:List bY.den)(p10:Nat):Prop:=(↑p0:Int)=(↑p0:Int)/\(↑p1:Int)+1=(↑p10:Int)/\(↑p0:Int)=(↑p0:Int)/\p2=p2/\(↑p2.length:Int)=(↑p2.length:Int)/\true=true/\p3=p3/\p4=p4/\p5=p5/\p6=p6/\p2=p2/\p7=p7/\p8=p8/\p9=p9/\p10<=p4.length/\p4.length-p10<p4.length-p1
theorem v62:VI T0 Tryz.f117 [some bC] D62:=by
 refine dH λa=>?_;unfold D62;split
 rotate_left
 trivial;rename_i u l w ls u2 l2 w2 FE s;intro hp;refine jx (A:=(∃(a:Nat),[]=gm l u2 s a/\0=(↑a:Int)/\a<=u2.length/\u2.length-a<1000000)/\∀(a:Nat),a<=u2.length->aB (decide ((↑a:Int)<(↑u2.length:Int))) ((∃(x:Nat),gm l u2 s a=xe l u2 s a x/\0=(↑x:Int)/\x<=l.length/\l.length-x<1000000)/\∀(x:Nat),x<=l.length->aB (decide ((↑x:Int)<(↑l.length:Int))) (cR ((↑x:Int)-(↑a:Int))/\aB ((↑x:Int)-(↑a:Int)==s) ((0<=(↑x:Int)/\(↑x:Int)<(↑l.length:Int))/\(0<=(↑a:Int)/\(↑a:Int)<(↑u2.length:Int))/\cR (l.getD x 0+u2.getD a 0)/\(xe l u2 s a x).length+1<=1000000000/\cR ((↑x:Int)+1)/\∃(y:Nat),s=s/\ng bY.den/\xe l u2 s a x++[l.getD x 0+u2.getD a 0]=xe l u2 s a y/\v62.q1 a x u2 u l w ls l2 w2 FE y) (cR ((↑x:Int)+1)/\∃(y:Nat),s=s/\ng bY.den/\xe l u2 s a x=xe l u2 s a y/\v62.q1 a x u2 u l w ls l2 w2 FE y)) (cR ((↑a:Int)+1)/\∃(y:Nat),s=s/\ng bY.den/\xe l u2 s a x=gm l u2 s y/\(↑a:Int)+1=(↑y:Int)/\u=u/\l=l/\w=w/\ls=ls/\u2=u2/\l2=l2/\w2=w2/\FE=FE/\y<=u2.length/\u2.length-y<u2.length-a)) (gm l u2 s a=gm l u2 s u2.length/\True)) (by kernel_rfl) ?_;unfold v62.q1;obtain⟨h1,h2,h3,h4,-⟩:=hp;change br at l u2;simp only[bP,cH,dg,ek,eW,cR,and_true,true_and,eq_self];refine⟨⟨0,rfl,ab,ab,ab⟩,λi k1=>⟨λk2=>⟨⟨0,by rw[xe,if_neg ab],ab,ab,ab⟩,λk k3=>⟨λk4=>⟨ab,λk5=>⟨ab,ab,?_,?_,ab,k+1,?_,ab,ab,ab⟩,λk5=>⟨ab,k+1,?_,ab,ab,ab⟩⟩,λk4=>⟨ab,i+1,?_,ab,ab,ab⟩⟩⟩,λk2=>?_⟩⟩;have:=A6 h3 (i:=k) ab;have:=A6 h4 (i:=i) ab;omega;have:=JH l u2 s i;rw[xe,if_neg ab];omega
 rw[xe,if_neg ab,xe,if_pos ab,show((i:Int)+s).toNat=k by omega,Int.add_comm];by_cases h:0<=(i:Int)+s/\(i:Int)+s<k;rw[xe,if_pos h,xe,if_pos ab];rw[xe,if_neg h,xe,if_neg ab];rw[show k=l.length by omega];rfl
 rw[show i=u2.length by omega]
def D64:cp->Dn
 |[.sl (.int .i64) l .no]=>some ([0<l.length,l.length<=1000],.res (.tup [aV (qz l).1,aV (qz l).2.1]) [] [],
  [(4,.ex Nat λi=>.ex Int λlo=>.ex Int λhi=>.st {sl:=[(4,aV lo),(5,aV hi),(6,aV i)],cQ:=[i<=l.length,0<i,qz (l.take i)=(lo,hi,(i:Int))],m:=l.length-i})])
 |_=>none
theorem v64:VI T0 Tryz.f118 [some bY,some bY] D64:=by
 refine dH λa=>?_;unfold D64;split
 rotate_left
 trivial;rename_i l;intro hp;refine jx (A:=((0:Int)<=0/\0<(↑l.length:Int))/\((0:Int)<=0/\0<(↑l.length:Int))/\(∃(a:Nat),∃(x:Int),∃(y:Int),l.getD 0 0=x/\l.getD 0 0=y/\1=(↑a:Int)/\a<=l.length/\0<a/\qz (List.take a l)=(x,y,(↑a:Int))/\l.length-a<1000000)/\∀(a:Nat)(x y:Int),a<=l.length->0<a->qz (List.take a l)=(x,y,(↑a:Int))->aB (decide ((↑a:Int)<(↑l.length:Int))) ((0<=(↑a:Int)/\(↑a:Int)<(↑l.length:Int))/\(0<=(↑a:Int)/\(↑a:Int)<(↑l.length:Int))/\cR ((↑a:Int)+1)/\∃(z:Nat),∃(u:Int),∃(v:Int),l=l/\(0:Int)=0/\(0:Int)=0/\(if l.getD a 0<x then l.getD a 0 else x)=u/\(if l.getD a 0>y then l.getD a 0 else y)=v/\(↑a:Int)+1=(↑z:Int)/\z<=l.length/\0<z/\qz (List.take z l)=(u,v,(↑z:Int))/\l.length-z<l.length-a) (x=(qz l).1/\y=(qz l).2.1/\True)) (by kernel_rfl) ?_;obtain⟨h1,h2,-⟩:=hp;change br at l;simp only[bP,cH,dg,ek,eW,cR,and_true,true_and,eq_self];refine⟨ab,ab,⟨1,_,_,rfl,rfl,rfl,ab,ab,?_,ab⟩,λi lo hi k1 k2 k3=>⟨λk4=>⟨ab,ab,ab,i+1,_,_,rfl,rfl,ab,ab,ab,?_,ab⟩,λk4=>?_⟩⟩;obtain⟨x,m,rfl⟩:∃x m,l=x::m:=by cases l with
  |nil=>exact absurd h1 an
  |cons x m=>exact⟨x,m,rfl⟩
 rw[List.take_one];simp[qz,RQ]
 rw[take_one ab,GU k3 ab];simp
 rw[show i=l.length by omega,fR]at k3;rw[k3];exact⟨rfl,rfl⟩
def G4:eM:=(T0.cG 117 λa=>dS (D62 a)).cG 118 λa=>dS (D64 a)
def D63:cp->Dn
 |[.agg [.sl (.int .i64) au .no,.sl (.int .i64) al .no,.val (.int .i64 aw),.sl (.int .i64) aq .no],.agg [.sl (.int .i64) bu .no,.sl (.int .i64) bl .no,.val (.int .i64 bw),.sl (.int .i64) bq .no],.val (.int .i64 s)]=>some ([al.length<=1000,bu.length<=1000,lg al,lg bu,0<=aw,aw<=2,0<=bw,bw<=2],.res (kR (gr al bu (aw+bw) s)) [] [],[])
 |_=>none
theorem v63:VI G4 Tryz.f80 [some .bool] D63:=by
 refine dH λa=>?_;unfold D63;split
 rotate_left
 trivial;rename_i u l w ls u2 l2 w2 FE s;intro hp;refine jx (A:=l.length<=1000/\u2.length<=1000/\lg l/\lg u2/\aB (decide ((↑(gm l u2 s u2.length).length:Int)<3)) (false=gr l u2 (w+w2) s/\True) (0<(gm l u2 s u2.length).length/\(gm l u2 s u2.length).length<=1000/\cR ((qz (gm l u2 s u2.length)).2.1-(qz (gm l u2 s u2.length)).1)/\cR (w+w2)/\decide ((qz (gm l u2 s u2.length)).2.1-(qz (gm l u2 s u2.length)).1<=w+w2)=gr l u2 (w+w2) s/\True)) (by kernel_rfl) ?_;obtain⟨h1,h2,h3,h4,w1,w2',w3,w4,-⟩:=hp;have e:=abg (gm l u2 s u2.length);have b:=NY s h3 h4;unfold stA at b;have:=JH l u2 s u2.length;simp only[bP,cH,dg,ek,eW,cR,and_true,true_and,eq_self];refine⟨ab,ab,h3,h4,λk=>?_,λk=>⟨ab,ab,ab,ab,?_⟩⟩;rw[gr,eq_comm,decide_eq_false_iff_not];omega
 rw[gr,decide_eq_decide];omega
def G5:eM:=(((G3.cG 96 λa=>dS (D61 a)).cG 117 λa=>dS (D62 a)).cG 80 λa=>dS (D63 a)).cG 118 λa=>dS (D64 a)
def Km(la ub:br)(w:Int)(k:Nat):br:=((List.range k).map λ(j:Nat)=>(j:Int)-8).filter (gr la ub w)
theorem abk{la ub:br}{w:Int}{k:Nat}(h:gr la ub w ((k:Int)-8)=true):Km la ub w k++[(k:Int)-8]=Km la ub w (k+1):=by simp[Km,iy,h]
theorem afA{la ub:br}{w:Int}{k:Nat}(h:gr la ub w ((k:Int)-8)=false):Km la ub w k=Km la ub w (k+1):=by simp[Km,iy,h]
theorem afB(la ub:br)(w:Int)(k:Nat):(Km la ub w k).length<=k:=by refine bt (tK _ _) ?_;simp
theorem Mq{la ub:br}{w s:Int}(h:s<=-(ub.length:Int)\/(la.length:Int)<=s):gr la ub w s=false:=by rw[gr,BI h,decide_eq_false_iff_not];exactλh=>absurd h.1 an
theorem afz{la ub:br}{w:Int}(h1:la.length<=8)(h2:ub.length<=8):Km la ub w 17=yG la ub w (ub.length+la.length+1):=by
 have e:(17:Nat)=(8-ub.length)+((ub.length+la.length+1)+(8-la.length)):=ab
 have e0:∀(l:br),(∀s∈l,gr la ub w s=false)->l.filter (gr la ub w)=[]:=λl h=>List.filter_eq_nil_iff.2 λs hs=>by rw[h s hs];decide
 have f1:((List.range (8-ub.length)).map λ(j:Nat)=>(j:Int)-8).filter (gr la ub w)=[]:=e0 _ λs hs=>by simp only[er,qY]at hs;obtain⟨j,hj,rfl⟩:=hs;exact Mq (.inl ab)
 have f2:((List.range (8-la.length)).map λ(j:Nat)=>(((8-ub.length)+((ub.length+la.length+1)+j):Nat):Int)-8).filter (gr la ub w)=[]:=e0 _ λs hs=>by simp only[er,qY]at hs;obtain⟨j,hj,rfl⟩:=hs;exact Mq (.inr ab)
 rw[Km,e,List.range_add,List.range_add];simp only[fG,wC,jm,Function.comp_def];rw[f1,f2,jq,dW,yG];congr 1;refine List.map_congr_left λj _=>?_;omega
def D66:cp->Dn
 |[.agg [.sl (.int .i64) au .no,.sl (.int .i64) al .no,.val (.int .i64 aw),.sl (.int .i64) aq .no],.agg [.sl (.int .i64) bu .no,.sl (.int .i64) bl .no,.val (.int .i64 bw),.sl (.int .i64) bq .no]]=>some ([Ok au al aw aq,Ok bu bl bw bq],.res (.sl bY (yG al bu (aw+bw) (bu.length+al.length+1)) .no) [] [],
  [(4,.ex Nat λk=>.st {sl:=[(5,.sl bY (Km al bu (aw+bw) k) (.iT 2)),(6,aV ((k:Int)-8))],own:=[(3,1)],cQ:=[k<=17],m:=17-k})])
 |_=>none
theorem v66:VI G5 Tryz.f109 [some bC] D66:=by
 refine dH λa=>?_;unfold D66;split
 rotate_left
 trivial;rename_i u l w ls u2 l2 w2 FE;intro hp;refine jx (A:=(∃(a:Nat),[]=Km l u2 (w+w2) a/\(-8:Int)=(↑a:Int)-8/\a<=17/\17-a<1000000)/\∀(a:Nat),a<=17->aB (decide ((↑a:Int)-8<=8)) (l.length<=1000/\u2.length<=1000/\lg l/\lg u2/\0<=w/\w<=2/\0<=w2/\w2<=2/\aB (gr l u2 (w+w2) ((↑a:Int)-8)) ((Km l u2 (w+w2) a).length+1<=1000000000/\cR ((↑a:Int)-8+1)/\∃(x:Nat),ng bY.den/\Km l u2 (w+w2) a++[(↑a:Int)-8]=Km l u2 (w+w2) x/\(↑a:Int)-8+1=(↑x:Int)-8/\u=u/\l=l/\w=w/\ls=ls/\u2=u2/\l2=l2/\w2=w2/\FE=FE/\x<=17/\17-x<17-a) (cR ((↑a:Int)-8+1)/\∃(x:Nat),ng bY.den/\Km l u2 (w+w2) a=Km l u2 (w+w2) x/\(↑a:Int)-8+1=(↑x:Int)-8/\u=u/\l=l/\w=w/\ls=ls/\u2=u2/\l2=l2/\w2=w2/\FE=FE/\x<=17/\17-x<17-a)) (Km l u2 (w+w2) a=yG l u2 (w+w2) (u2.length+l.length+1)/\True)) (by kernel_rfl) ?_;obtain⟨h1,h2,-⟩:=hp;have n1:=h1.num;have n2:=h2.num;simp only[bP,cH,dg,ek,eW,cR,and_true,true_and,eq_self];refine⟨⟨0,rfl,ab,ab,ab⟩,λk k1=>⟨λk2=>⟨ab,ab,h1.hl,h2.hu,ab,ab,ab,ab,?_⟩,λk2=>?_⟩⟩;have:=afB l u2 (w+w2) k;rw[gZ];refine⟨λf=>⟨ab,ab,k+1,abk f,ab,ab,ab⟩,λf=>⟨ab,k+1,afA f,ab,ab,ab⟩⟩;rw[show k=17 by omega,afz ab ab]
def G6:eM:=G5.cG 109 λa=>dS (D66 a)
def Nj(p:PD):Bool:=decide (p.1.length<=20/\p.2.1.length<=20/\p.2.2.2.1.length<=20)
theorem abm{l:cP}{i:Nat}{d:PD}(h:i<l.length)(h1:(l.take i).all Nj=true)(h2:Nj (l.getD i d)=true):(l.take (i+1)).all Nj=true:=by
 have e:l.getD i d=l[i]:=by simp[aU,h]
 rw[e]at h2;rw[<-List.take_append_getElem h,qZ,h1,cC,h2];rfl
theorem N1{l:cP}{i:Nat}{d:PD}(h:i<l.length)(h2:Nj (l.getD i d)=false):l.all Nj=false:=by
 have e:l.getD i d=l[i]:=by simp[aU,h]
 rw[e]at h2;refine Bool.eq_false_iff.2 λh1=>?_;rw[aX.1 h1 _ (nQ h)]at h2;cases h2
def D18:cp->Dn
 |[.sl (.pair (.sl (.int .i64)) (.pair (.sl (.int .i64)) (.pair (.int .i64) (.pair (.sl (.int .i64)) .unit)))) l .no]=>some ([],.ex Bool λb=>.res (kR b) [] [b=(decide (l.length<=20)&&l.all Nj)],[(3,.ex Nat λi=>.st {sl:=[(3,aV i)],cQ:=[i<=l.length,i<=20,(l.take i).all Nj=true],m:=20-i})])
 |_=>none
def v18.q1 (p0:List (aF).den)(p1:Bool):Prop:=∃(a:Bool),p1=a/\a=(decide (p0.length<=20)&&p0.all Nj)/\True
theorem v18:VI T0 Tryz.f11 [some .bool] D18:=by
 refine dH λa=>?_;unfold D18;split
 rotate_left
 trivial;rename_i l;intro hp;refine jx (A:=(∃(a:Nat),0=(↑a:Int)/\a<=l.length/\a<=20/\(List.take a l).all Nj=true/\20-a<1000000)/\∀(a:Nat),a<=l.length->a<=20->(List.take a l).all Nj=true->aB (decide ((↑a:Int)<(↑l.length:Int))) (aB (decide ((↑a:Int)<20)) ((0<=(↑a:Int)/\(↑a:Int)<(↑l.length:Int))/\aB (decide ((↑(List.length (l.getD a bm).1):Int)>20)) (v18.q1 l false) ((0<=(↑a:Int)/\(↑a:Int)<(↑l.length:Int))/\aB (decide ((↑(List.length (l.getD a bm).2.1):Int)>20)) (v18.q1 l false) ((0<=(↑a:Int)/\(↑a:Int)<(↑l.length:Int))/\aB (decide ((↑(List.length (l.getD a bm).2.2.2.1):Int)>20)) (v18.q1 l false) (cR ((↑a:Int)+1)/\∃(x:Nat),l=l/\(↑a:Int)+1=(↑x:Int)/\x<=l.length/\x<=20/\(List.take x l).all Nj=true/\20-x<20-a)))) (v18.q1 l (decide ((↑l.length:Int)<=20)))) (v18.q1 l (decide ((↑l.length:Int)<=20)))) (by kernel_rfl) ?_;unfold v18.q1;change cP at l;simp only[bP,cH,dg,ek,eW,cR,and_true,true_and,eq_self];refine⟨⟨0,rfl,ab,ab,rfl,ab⟩,λi k1 k2 k3=>⟨λk4=>⟨λk5=>⟨ab,λk6=>⟨_,rfl,?_⟩,λk6=>⟨ab,λk7=>⟨_,rfl,?_⟩,λk7=>⟨ab,λk8=>⟨_,rfl,?_⟩,λk8=>⟨ab,i+1,ab,ab,ab,abm (d:=bm) ab k3 (iN ⟨ab,ab,ab⟩),ab⟩⟩⟩⟩,λk5=>⟨_,rfl,?_⟩⟩,λk4=>⟨_,rfl,?_⟩⟩⟩;rw[N1 (i:=i) (d:=bm) ab (gR λh=>ab),qX];rw[N1 (i:=i) (d:=bm) ab (gR λh=>ab),qX];rw[N1 (i:=i) (d:=bm) ab (gR λh=>ab),qX];rw[gR ab,gR ab];rfl
 rw[show i=l.length by omega,fR]at k3;rw[k3,qW,decide_eq_decide];omega
def S58:cp->Sp
 |[.sl (.int .i64) l .no]=>some ([l.length<=1000],.res (.sl bY l .no) [] [])
 |_=>none
def T0d:eM:=T0.cG 43 S58
def D20:cp->Dn
 |[.agg [.sl (.int .i64) au .no,.sl (.int .i64) al .no,.val (.int .i64 aw),.sl (.int .i64) aq .no]]=>some ([Sh au al aq],.res (pcV au al aw aq) [] [],[])
 |_=>none
theorem v20:VI T0d Tryz.f42 [some aF] D20:=by
 refine dH λa=>?_;unfold D20;split
 rotate_left
 trivial;rename_i u l w ls;intro hp;refine jx (A:=u.length<=1000/\l.length<=1000/\ls.length<=1000/\u=u/\l=l/\w=w/\ls=ls/\True) (by kernel_rfl) ?_;obtain⟨h1,h2,h3⟩:=hp.1;exact⟨h1,h2,h3,rfl,rfl,rfl,rfl,trivial⟩
def D25:cp->Dn
 |[.sl (.int .i64) l .no,.sl (.int .i64) m .no]=>some ([l.length<=1000,m.length<=1000],.res (kR (decide (l=m))) [] [],[(4,.ex Nat λi=>.ex Bool λb=>.st {sl:=[(5,kR b),(6,aV i)],cQ:=[i<=l.length,b=decide (l.length=m.length/\l.take i=m.take i)],m:=l.length-i})])
 |_=>none
theorem v25:VI T0 Tryz.f49 [some .bool] D25:=by
 refine dH λa=>?_;unfold D25;split
 rotate_left
 trivial;rename_i l m;intro hp;refine jx (A:=(∃(a:Nat),∃(x:Bool),((↑l.length:Int)==(↑m.length:Int))=x/\0=(↑a:Int)/\a<=l.length/\x=decide (l.length=m.length/\List.take a l=List.take a m)/\l.length-a<1000000)/\∀(a:Nat)(x:Bool),a<=l.length->x=decide (l.length=m.length/\List.take a l=List.take a m)->aB x (aB (decide ((↑a:Int)<(↑l.length:Int))) ((0<=(↑a:Int)/\(↑a:Int)<(↑l.length:Int))/\(0<=(↑a:Int)/\(↑a:Int)<(↑m.length:Int))/\cR ((↑a:Int)+1)/\∃(y:Nat),∃(z:Bool),l=l/\m=m/\false=false/\(l.getD a 0==m.getD a 0)=z/\(↑a:Int)+1=(↑y:Int)/\y<=l.length/\z=decide (l.length=m.length/\List.take y l=List.take y m)/\l.length-y<l.length-a) (x=decide (l=m)/\True)) (x=decide (l=m)/\True)) (by kernel_rfl) ?_;obtain⟨h1,h2,-⟩:=hp;simp only[bP,cH,cR,and_true,true_and,eq_self];refine⟨⟨0,_,rfl,rfl,ab,?_,ab⟩,λi b h3 h4=>?_⟩;rw[Bool.eq_iff_iff];simp;omega
 rw[gZ];subst h4;simp only[cA,decide_eq_false_iff_not];refine⟨λh5=>⟨λh6=>⟨ab,ab,ab,i+1,_,rfl,ab,ab,?_,ab⟩,λh6=>?_⟩,λh5=>?_⟩;rw[Bool.eq_iff_iff,cA,take_one ab,take_one ab,ee];refine⟨λh=>⟨h5.1,by rw[h5.2,h]⟩,λh=>?_⟩;have:=List.append_inj_right' h.2 rfl;simpa using this;rw[decide_eq_decide];have e1:=h5.2;rw[List.take_of_length_le ab,List.take_of_length_le ab]at e1;exact⟨λ_=>e1,λh=>h5⟩;rw[decide_eq_decide];exact⟨λh=>absurd h h5,λh=>by subst h;exact absurd ⟨rfl,rfl⟩ h5⟩
def G7:eM:=T0.cG 49 λa=>dS (D25 a)
def D26:cp->Dn
 |[.agg [.sl (.int .i64) au .no,.sl (.int .i64) al .no,.val (.int .i64 aw),.sl (.int .i64) aq .no],.agg [.sl (.int .i64) bu .no,.sl (.int .i64) bl .no,.val (.int .i64 bw),.sl (.int .i64) bq .no]]=>some ([Sh au al aq,Sh bu bl bq],.res (kR (decide (au=bu/\al=bl/\aw=bw/\aq=bq))) [] [],[])
 |_=>none
theorem v26:VI G7 Tryz.f48 [some .bool] D26:=by
 refine dH λa=>?_;unfold D26;split
 rotate_left
 trivial;rename_i u l w ls u2 l2 w2 FE;intro hp;refine jx (A:=u.length<=1000/\u2.length<=1000/\aB (decide (u=u2)) (l.length<=1000/\l2.length<=1000/\aB (decide (l=l2)) (aB (w==w2) (ls.length<=1000/\FE.length<=1000/\decide (ls=FE)=decide (u=u2/\l=l2/\w=w2/\ls=FE)/\True) (false=decide (u=u2/\l=l2/\w=w2/\ls=FE)/\True)) (false=decide (u=u2/\l=l2/\w=w2/\ls=FE)/\True)) (false=decide (u=u2/\l=l2/\w=w2/\ls=FE)/\True)) (by kernel_rfl) ?_;obtain⟨⟨a1,a2,a3⟩,⟨b1,b2,b3⟩,-⟩:=hp;simp only[bP,cH,and_true];refine⟨a1,b1,λh1=>⟨a2,b2,λh2=>⟨λh3=>⟨a3,b3,?_⟩,λh3=>?_⟩,λh2=>?_⟩,λh1=>?_⟩;rw[decide_eq_decide];exact⟨λh=>⟨h1,h2,h3,h⟩,λh=>h.2.2.2⟩
 rw[gR λh=>h3 h.2.2.1];rw[gR λh=>h2 h.2.1];rw[gR λh=>h1 h.1]
theorem afC{p:PD}(h:Nj p=true):cV p:=by have:=of_decide_eq_true h;exact⟨ab,ab,ab⟩
structure Vs (bI:b9):Prop where
 dup:∀(l:br) d,l.length<=1000->RT fF [] (.sl bY l .no) d->∃r,bI 43 [d]=some r/\r.pure=true/\RT fF [] (.sl bY l .no) r
section
variable {bI:b9} (tk:CX bI) (tu:Vs bI)
theorem IF{k:Nat}{T:eM}(h:ic bI k T):∀m,ic bI (m+k) T
 |0=>by rwa [iw]
 |m+1=>by have:=fU (IF h m);rwa [Nat.add_right_comm]at this
theorem adG{T:eM}{k:Nat}(tu:Vs bI)(hT:ic bI k T):ic bI k (T.cG 43 S58):=KN hT λn a p s hs hp=>by unfold S58 at hs;split at hs;rename_i l;cases hs;intro bO hd;obtain⟨d,_,rfl,h1,h2⟩:=aj hd;rw[aQ h2];obtain⟨r,k1,k2,k3⟩:=tu.dup l d hp.1 h1;exact⟨r,_,by simp only[yN,kV,k1,k2,if_true],k2,k3,rfl,rfl,trivial⟩;cases hs
include tk
theorem ag5:ic bI 1 G1:=mg tk (dN tk) an Tryz.func100 rfl v107 (fU (dN tk))
theorem ag4:ic bI 2 G2:=mg tk (ag5 tk) an Tryz.func93 rfl aiX (fU (ag5 tk))
theorem aaB:ic bI 3 G3:=mg tk (ag4 tk) an Tryz.func92 rfl v91 (fU (ag4 tk))
theorem ag3:ic bI 1 G4:=mg tk (dN tk) an Tryz.func118 rfl v64 (mg tk (dN tk) an Tryz.func117 rfl v62 (fU (dN tk)))
theorem ajX:ic bI 4 G5:=mg tk (IF (dN tk) 3) an Tryz.func118 rfl v64 (mg tk (IF (ag3 tk) 2) an Tryz.func80 rfl v63 (mg tk (IF (dN tk) 3) an Tryz.func117 rfl v62 (mg tk (aaB tk) an Tryz.func96 rfl v61 (fU (aaB tk)))))
theorem ajW:ic bI 1 G7:=mg tk (dN tk) an Tryz.func49 rfl v25 (fU (dN tk))
end
end Go.Tv
namespace Go.Tv
open Go Go.Di Go.Proofs
theorem HV{l:cP}{i:Nat}{d:PD}(h:i<l.length)(h1:gG (l.take i)=0):(DM (l.getD i d)=0->gG (l.take (i+1))=0)/\(DM (l.getD i d)≠0->gG l=DM (l.getD i d)):=by
 have e:l.getD i d=l[i]:=by simp[aU,h]
 rw[e];constructor;intro k;rw[<-List.take_append_getElem h,rB h1,gG,if_neg (λh=>h k)];rfl;intro k
 conv=>lhs;rw[<-List.take_append_drop i l]
 rw[rB h1,nU h,gG,if_pos k]
def D51:cp->Dn
 |[.sl (.pair (.sl (.int .i64)) (.pair (.sl (.int .i64)) (.pair (.int .i64) (.pair (.sl (.int .i64)) .unit)))) l .no]=>some ([l.length<=1000,∀p∈l,cV p],.res (aV (fC l)) [] [],
  [(6,.ex Nat λi=>.st {sl:=[(3,aV i)],cQ:=[i<=l.length,gG (l.take i)=0],m:=l.length-i})])
 |_=>none
theorem v51:VI G3 Tryz.f51 [some bY] D51:=by
 refine dH λa=>?_;unfold D51;split
 rotate_left
 trivial;rename_i l;intro hp;refine jx (A:=aB (decide ((↑l.length:Int)>4)) (6=fC l/\True) ((∃(a:Nat),0=(↑a:Int)/\a<=l.length/\gG (List.take a l)=0/\l.length-a<1000000)/\∀(a:Nat),a<=l.length->gG (List.take a l)=0->aB (decide ((↑a:Int)<(↑l.length:Int))) ((0<=(↑a:Int)/\(↑a:Int)<(↑l.length:Int))/\Sh (l.getD a bm).1 (l.getD a bm).2.1 (l.getD a bm).2.2.2.1/\aB (mq (l.getD a bm).1 (l.getD a bm).2.1 (l.getD a bm).2.2.1 (l.getD a bm).2.2.2.1 !=0) (mq (l.getD a bm).1 (l.getD a bm).2.1 (l.getD a bm).2.2.1 (l.getD a bm).2.2.2.1=fC l/\True) (cR ((↑a:Int)+1)/\∃(x:Nat),l=l/\(↑a:Int)+1=(↑x:Int)/\x<=l.length/\gG (List.take x l)=0/\l.length-x<l.length-a)) (0=fC l/\True))) (by kernel_rfl) ?_;obtain⟨h1,h2,-⟩:=hp;change cP at l;simp only[bP,dg,cR,eW,and_true,true_and,eq_self];refine⟨λh=>by rw[fC,if_pos ab],λh=>⟨⟨0,rfl,ab,rfl,ab⟩,λi k1 k2=>⟨λk3=>⟨ab,qq ab h2,λk4=>⟨ab,i+1,ab,ab,(HV ab k2).1 k4,ab⟩,λk4=>?_⟩,λk3=>?_⟩⟩⟩;rw[fC,if_neg ab];exact((HV ab k2).2 k4).symm
 rw[show i=l.length by omega,fR]at k2;rw[fC,if_neg ab,k2]
theorem ahM{p q:PD}:(p.1=q.1/\p.2.1=q.2.1/\p.2.2.1=q.2.2.1/\p.2.2.2.1=q.2.2.2.1)↔p=q:=by grind
def aeZ:cp->Dn
 |[.sl (.pair (.sl (.int .i64)) (.pair (.sl (.int .i64)) (.pair (.int .i64) (.pair (.sl (.int .i64)) .unit)))) l .no,.sl (.pair (.sl (.int .i64)) (.pair (.sl (.int .i64)) (.pair (.int .i64) (.pair (.sl (.int .i64)) .unit)))) m .no]=>some ([l.length<=1000,m.length<=1000,∀p∈l,cV p,∀p∈m,cV p],.ex Bool λb=>.res (kR b) [] [b=true↔l=m],
  [(4,.ex Nat λi=>.ex Bool λb=>.st {sl:=[(5,kR b),(6,aV i)],cQ:=[i<=l.length,b=true↔(l.length=m.length/\l.take i=m.take i)],m:=l.length-i})])
 |_=>none
def H1:eM:=T0.cG 48 λa=>dS (D26 a)
theorem aiS:VI H1 Tryz.f25 [some .bool] aeZ:=by
 refine dH λa=>?_;unfold aeZ;split
 rotate_left
 trivial;rename_i l m;intro hp;refine jx (A:=(∃(a:Nat),∃(x:Bool),((↑l.length:Int)==(↑m.length:Int))=x/\0=(↑a:Int)/\a<=l.length/\(x=true↔l.length=m.length/\List.take a l=List.take a m)/\l.length-a<1000000)/\∀(a:Nat)(x:Bool),a<=l.length->(x=true↔l.length=m.length/\List.take a l=List.take a m)->aB x (aB (decide ((↑a:Int)<(↑l.length:Int))) ((0<=(↑a:Int)/\(↑a:Int)<(↑l.length:Int))/\(0<=(↑a:Int)/\(↑a:Int)<(↑m.length:Int))/\Sh (l.getD a bm).1 (l.getD a bm).2.1 (l.getD a bm).2.2.2.1/\Sh (m.getD a bm).1 (m.getD a bm).2.1 (m.getD a bm).2.2.2.1/\cR ((↑a:Int)+1)/\∃(y:Nat),∃(z:Bool),l=l/\m=m/\false=false/\decide ((l.getD a bm).1=(m.getD a bm).1/\(l.getD a bm).2.1=(m.getD a bm).2.1/\(l.getD a bm).2.2.1=(m.getD a bm).2.2.1/\(l.getD a bm).2.2.2.1=(m.getD a bm).2.2.2.1)=z/\(↑a:Int)+1=(↑y:Int)/\y<=l.length/\(z=true↔l.length=m.length/\List.take y l=List.take y m)/\l.length-y<l.length-a) (∃(a:Bool),x=a/\(a=true↔l=m)/\True)) (∃(a:Bool),x=a/\(a=true↔l=m)/\True)) (by kernel_rfl) ?_;obtain⟨h1,h2,s1,s2,-⟩:=hp;change cP at l m;refine⟨⟨0,_,rfl,rfl,ab,by simp;omega,ab⟩,λi b h3 h4=>gZ.2 ⟨λh5=>bP.2 ⟨λh6=>?_,λh6=>⟨_,rfl,?_,trivial⟩⟩,λh5=>⟨_,rfl,?_,trivial⟩⟩⟩;have h5:=h4.1 h5;refine⟨⟨ab,ab⟩,⟨ab,ab⟩,qq ab s1,qq ab s2,⟨ab,ab⟩,i+1,_,rfl,rfl,rfl,rfl,ab,ab,?_,ab⟩;rw[decide_eq_true_iff,ahM,jZ dP ab,jZ dP ab];refine⟨λh=>⟨h5.1,by rw[h5.2,h]⟩,λh=>?_⟩;have:=List.append_inj_right' h.2 rfl;simpa using this
 grind
 grind
def J16(ps:cP):List (Nat×LA):=[(4,.dep λ_ tS=>.ex Nat λi=>.st {sl:=[(3,.sl aF (ps.take i) (.iT tS.length)),(4,aV i)],own:=[(25,4)],cQ:=[i<=ps.length],m:=ps.length-i})]
def Sl:cp->Dn
 |[.sl (.pair (.sl (.int .i64)) (.pair (.sl (.int .i64)) (.pair (.int .i64) (.pair (.sl (.int .i64)) .unit)))) ps .no]=>some ([ps.length<=1000,∀p∈ps,cV p],.res (.sl aF ps .no) [] [],J16 ps)
 |_=>none
def H2:eM:=T0d.cG 42 λa=>dS (D20 a)
theorem abH{l:cP}{i:Nat}(h:i<l.length):l.take i++[((l.getD i dP).1,(l.getD i dP).2.1,(l.getD i dP).2.2.1,(l.getD i dP).2.2.2.1,())]=l.take (i+1):=(jZ dP h).symm
def aaK(ps:cP):Prop:=(∃(a:Nat),[]=List.take a ps/\(0:Int)=(↑a:Int)/\a<=ps.length/\ps.length-a<(1000000:Nat))/\∀(a:Nat),a<=ps.length->aB (decide ((↑a:Int)<(↑ps.length:Int))) (((0:Int)<=(↑a:Int)/\(↑a:Int)<(↑ps.length:Int))/\Sh (ps.getD a ([],[],(0:Int),[],())).fst (ps.getD a ([],[],(0:Int),[],())).snd.fst (ps.getD a ([],[],(0:Int),[],())).snd.snd.snd.fst/\(List.take a ps).length+(1:Nat)<=(1000000000:Nat)/\cR ((↑a:Int)+(1:Int))/\∃(a_1:Nat),ps=ps/\ng aF.den/\List.take a ps++[((ps.getD a ([],[],(0:Int),[],())).fst,(ps.getD a ([],[],(0:Int),[],())).snd.fst,(ps.getD a ([],[],(0:Int),[],())).snd.snd.fst,(ps.getD a ([],[],(0:Int),[],())).snd.snd.snd.fst,())]=List.take a_1 ps/\(↑a:Int)+(1:Int)=(↑a_1:Int)/\a_1<=ps.length/\ps.length-a_1<ps.length-a) (List.take a ps=ps/\True)
theorem adB{ps:cP}(h1:ps.length<=1000)(h2:∀p∈ps,cV p):aaK ps:=by unfold aaK;simp only[bP,cR,eW,true_and,and_true,eq_self];refine⟨⟨0,rfl,rfl,ab,ab⟩,λa ha=>⟨λh=>⟨⟨ab,ab⟩,qq ab h2,by rw[List.length_take];omega,⟨ab,ab⟩,a+1,abH ab,ab,ab,ab⟩,λh=>List.take_of_length_le ab⟩⟩
theorem aiW:VI H2 Tryz.f16 [some (.sl aF)] Sl:=by
 refine dH λa=>?_;unfold Sl;split
 rotate_left
 trivial;rename_i ps;intro hp;exact jx (A:=aaK ps) (by kernel_rfl) (adB hp.1 hp.2.1)
theorem aiU:VO H2 Tryz.f16 25 Sl:=by
 refine ahm λa=>?_;unfold Sl;split
 rotate_left
 trivial;rename_i ps;intro hp;exact jx (A:=aaK ps) (by kernel_rfl) (adB hp.1 hp.2.1)
end Go.Tv
