import Derived.Test.YtedcgbkilmlbhaaGreatPk11
set_option maxHeartbeats 1000000
set_option maxRecDepth 100000
namespace Go.Tv
open Go Go.Di Go.Proofs
theorem o8{l:br}{i:Nat}(h:i<l.length):l.getD i 0=l[i]:=by simp[aU,h]
theorem take_one{l:br}{i:Nat}(h:i<l.length):l.take (i+1)=l.take i++[l.getD i 0]:=by rw[o8 h,List.take_append_getElem]
theorem drop_one{l:br}{i:Nat}(h:i<l.length):(l.drop (i+1)).reverse++[l.getD i 0]=(l.drop i).reverse:=by rw[o8 h,nU h,List.reverse_cons]
theorem ot{l:br}{i:Nat}(h:i<l.length):l.getD i 0∈l:=by rw[o8 h];exact nQ _
def vo(l:br)(x:Int):Int:=if x∈l then(l.idxOf x:Int)else-1
theorem TZ{l:br}{x:Int}{i:Nat}(h:i<l.length)(h1:x∉l.take i)(h2:l.getD i 0=x):vo l x=i:=by
 have hm:x∈l:=by rw[<-h2];exact ot h
 have e:l=l.take i++x::l.drop (i+1):=by rw[<-h2,o8 h,<-nU h,List.take_append_drop]
 rw[vo,if_pos hm];congr 1
 conv=>lhs;rw[e]
 rw[List.idxOf_append,if_neg h1,List.idxOf_cons_self,List.length_take];omega
abbrev xd(rest:br)(last:Int):cp:=[.sl bY rest .no,.val (.int .u64 last)]
theorem Bc(n:Int):IntKind.u64.wrap n=n % 18446744073709551616:=by simp[IntKind.wrap,IntKind.bits,IntKind.signed]
theorem u64_in(n:Int):0<=IntKind.u64.wrap n/\IntKind.u64.wrap n<18446744073709551616:=by rw[Bc];omega
theorem Xa(a:Int):a.fdiv 4294967296=a/4294967296:=Int.fdiv_eq_ediv_of_nonneg _ ab
theorem adn{x n:Int}(h:IntKind.u64.wrap n=x):0<=x.fdiv 4294967296/\x.fdiv 4294967296<4294967296:=by have:=u64_in n;rw[Xa,<-h];omega
theorem acN{k m:Int}(hm:m<=1000)(h0:0<m)(hk:0<=k)(rC:k<4294967296):0<=IntKind.i64.wrap ((IntKind.u64.wrap (k*IntKind.u64.wrap (m+1))).fdiv 4294967296)/\(IntKind.i64.wrap ((IntKind.u64.wrap (k*IntKind.u64.wrap (m+1))).fdiv 4294967296)<=m\/IntKind.i64.wrap ((IntKind.u64.wrap (k*IntKind.u64.wrap (m+1))).fdiv 4294967296)=0):=by have h1:k*(m+1)<=4294967295*(m+1):=RN ab ab;have h2:0<=k*(m+1):=Int.mul_nonneg hk ab;rw[Bc (m+1),Int.emod_eq_of_lt (a:=m+1) ab ab,Xa,Bc];generalize k*(m+1)=p at*;rw[Int.emod_eq_of_lt ab ab,D1 ab ab];omega
theorem MC{α:Type}{P:α->Prop}{l:List α}{a:α}(h:∀x∈l,P x)(ha:P a):∀x∈l++[a],P x:=by intro x hx;rcases eG.1 hx with hx|hx;exact h x hx;rw[bV.1 hx];exact ha
theorem Zj{l:br}{a:Int}(h:l.Pairwise (·<·))(ha:∀x∈l,x<a):(l++[a]).Pairwise (·<·):=by rw[List.pairwise_append];exact⟨h,List.pairwise_singleton _ _,λx hx y hy=>by rw[bV.1 hy];exact ha x hx⟩
theorem F8{f:Int->Int}{l:br}{i:Nat}(h:i<l.length):(l.take i).map f++[f (l.getD i 0)]=(l.take (i+1)).map f:=by rw[take_one h,fG];rfl
abbrev pcV(u l:br)(w:Int)(ls:br):TV:=.agg [.sl bY u .no,.sl bY l .no,aV w,.sl bY ls .no]
abbrev Num(u l:br)(w:Int):Prop:=3<=u.length/\u.length<=8/\l.length=u.length/\0<=w/\w<=2
structure Ok (u l:br) (w:Int) (ls:br):Prop where
 n3:3<=u.length
 n8:u.length<=8
 len:l.length=u.length
 hu:∀x∈u,0<=x/\x<=9
 hl:∀x∈l,0<=x/\x<=9
 w0:0<=w
 w2:w<=2
 ne:ls≠[]
 CH:∀x∈ls,0<=x/\x<=3
 U4:ls.Pairwise (·<·)
def mw(a b:Int):Int:=IntKind.i64.wrap ((BitVec.ofInt 64 a^^^BitVec.ofInt 64 b).toNat:Int)
def iC(y:Int)(ls:br)(i:Nat):br:=((List.range i).map Int.ofNat).filter λx=>decide (mw x y∈ls)
theorem TW{y:Int}{ls:br}{i:Nat}(h:mw i y∈ls):iC y ls i++[(i:Int)]=iC y ls (i+1):=by simp[iC,iy,wC,h]
theorem YP{y:Int}{ls:br}{i:Nat}(h:¬mw i y∈ls):iC y ls i=iC y ls (i+1):=by simp[iC,iy,wC,h]
theorem TX(y:Int)(ls:br)(i:Nat):(iC y ls i).length<=i:=by unfold iC;refine bt (tK _ _) ?_;simp
theorem TY(y:Int)(ls:br)(i:Nat):(iC y ls i).Pairwise (·<·):=by unfold iC;refine List.Pairwise.filter _ ?_;rw[List.pairwise_map];exact(List.pairwise_lt_range (n:=i)).imp λh=>nP.2 h
def pJ(eU x:Int):Bool:=decide (0<=x/\x<=eU)
theorem RI{eU:Int}{l:br}{i:Nat}(h:i<l.length)(h1:(l.take i).all (pJ eU)=true)(h2:pJ eU (l.getD i 0)=true):(l.take (i+1)).all (pJ eU)=true:=by rw[take_one h,qZ,h1,cC,h2];rfl
theorem QO{eU:Int}{l:br}{i:Nat}(h:i<l.length)(h2:pJ eU (l.getD i 0)=false):l.all (pJ eU)=false:=by refine Bool.eq_false_iff.2 λh1=>?_;rw[aX.1 h1 _ (ot h)]at h2;cases h2
def kK(ls:br)(i:Nat):Int:=if i<ls.length then(if ls.getD i 0<0\/3<ls.getD i 0 then 8 else if 0<i/\ls.getD i 0<=ls.getD (i-1) 0 then 5 else kK ls (i+1))else 0
 termination_by ls.length-i
def mq(u l:br)(w:Int)(ls:br):Int:=
 if u.length<3 then 7 else if 8<u.length then 6 else if l.length<u.length then 7 else if u.length<l.length then 6
 else if u.all (pJ 9)=false\/l.all (pJ 9)=false\/w<0\/2<w then 1 else if ls.length=0 then 7 else kK ls 0
theorem PF{ls:br}{i:Nat}(h:i<ls.length)(h1:ls.getD i 0<0\/3<ls.getD i 0):kK ls i=8:=by rw[kK,if_pos h,if_pos h1]
theorem VS{ls:br}{i:Nat}(h:i<ls.length)(h1:¬(ls.getD i 0<0\/3<ls.getD i 0))(h2:0<i/\ls.getD i 0<=ls.getD (i-1) 0):kK ls i=5:=by rw[kK,if_pos h,if_neg h1,if_pos h2]
theorem vE{ls:br}{i:Nat}(h:i<ls.length)(h1:¬(ls.getD i 0<0\/3<ls.getD i 0))(h2:¬(0<i/\ls.getD i 0<=ls.getD (i-1) 0)):kK ls i=kK ls (i+1):=by
 conv=>lhs;rw[kK]
 rw[if_pos h,if_neg h1,if_neg h2]
theorem VT{ls:br}{i:Nat}(h:¬i<ls.length):kK ls i=0:=by rw[kK,if_neg h]
theorem Rx{u l:br}{w:Int}{ls:br}(h1:¬u.length<3)(h2:¬8<u.length)(h3:¬l.length<u.length)(h4:¬u.length<l.length)(h5:(!u.all (pJ 9))=false)(h6:(!l.all (pJ 9))=false)(h7:¬w<0)(h8:¬2<w)(h9:ls.length≠0):mq u l w ls=kK ls 0:=by simp only[Bool.not_eq_eq_eq_not,zA]at h5 h6;rw[mq,if_neg h1,if_neg h2,if_neg h3,if_neg h4,if_neg (by rw[h5,h6];simp[h7,h8]),if_neg h9]
abbrev PD:Type:=aF.den
abbrev cP:=List PD
abbrev pd(u l:br)(w:Int)(ls:br):PD:=(u,l,w,ls,())
def DM(p:PD):Int:=mq p.1 p.2.1 p.2.2.1 p.2.2.2.1
def gG:cP->Int
 |[]=>0
 |p::l=>if DM p≠0 then DM p else gG l
theorem rB{l m:cP}(h:gG l=0):gG (l++m)=gG m:=by
 induction l with
 |nil=>rfl
 |cons p l ih=>
  simp only[gG]at h⊢;split at h;rename_i h1;exact(h1 h).elim
  rename_i h1;simp only[pq,gG,if_neg h1];exact ih h
theorem acy{l:cP}{i:Nat}{d:PD}(h:i<l.length)(h1:gG (l.take i)=0)(h2:DM (l.getD i d)≠0):gG l=DM (l.getD i d):=by
 have e:l.getD i d=l[i]:=by simp[aU,h]
 rw[e]at h2⊢
 conv=>lhs;rw[<-List.take_append_drop i l,nU h]
 rw[rB h1,gG,if_pos h2]
theorem Zd{l:cP}{i:Nat}{d:PD}(h:i<l.length)(h1:gG (l.take i)=0)(h2:DM (l.getD i d)=0):gG (l.take (i+1))=0:=by
 have e:l.getD i d=l[i]:=by simp[aU,h]
 rw[e]at h2;rw[<-List.take_append_getElem h,rB h1,gG,if_neg (by simp[h2])];rfl
def cV(p:PD):Prop:=p.1.length<=1000/\p.2.1.length<=1000/\p.2.2.2.1.length<=1000
theorem qq{P:PD->Prop}{l:cP}{i:Nat}{d:PD}(h:i<l.length)(hl:∀p∈l,P p):P (l.getD i d):=by
 have e:l.getD i d=l[i]:=by simp[aU,h]
 rw[e];exact hl _ (nQ _)
abbrev edV(u l:br):TV:=.agg [.sl bY u .no,.sl bY l .no]
def lg(l:br):Prop:=∀x∈l,0<=x/\x<=9
theorem A6{l:br}{i:Nat}(h:lg l)(hi:i<l.length):0<=l.getD i 0/\l.getD i 0<=9:=h _ (ot hi)
def gm(la ub:br)(s:Int):Nat->br
 |0=>[]
 |i+1=>if 0<=(i:Int)+s/\(i:Int)+s<la.length then gm la ub s i++[ub.getD i 0+la.getD ((i:Int)+s).toNat 0]else gm la ub s i
def RQ(st:Int×Int×Int)(x:Int):Int×Int×Int:=(if x<(if st.2.2=0 then x else st.1)then x else(if st.2.2=0 then x else st.1),if x>(if st.2.2=0 then x else st.2.1)then x else(if st.2.2=0 then x else st.2.1),st.2.2+1)
def qz(l:br):Int×Int×Int:=l.foldl RQ (0,0,0)
theorem XI{l:br}{lo hi m x:Int}(h:qz l=(lo,hi,m))(h0:m=0):qz (l++[x])=(if x<x then x else x,if x>x then x else x,m+1):=by subst h0;rw[qz,nS,<-qz,h];rfl
theorem GU{l:br}{lo hi m x:Int}(h:qz l=(lo,hi,m))(h0:m≠0):qz (l++[x])=(if x<lo then x else lo,if x>hi then x else hi,m+1):=by rw[qz,nS,<-qz,h];simp only[gh,List.foldl_nil,RQ,if_neg h0]
theorem BI{la ub:br}{s:Int}(h:s<=-(ub.length:Int)\/(la.length:Int)<=s):gm la ub s ub.length=[]:=by
 have key:∀i,i<=ub.length->gm la ub s i=[]:=by
  intro i;induction i with
  |zero=>intro _;rfl
  |succ i ih=>intro hi;rw[gm,if_neg ab];exact ih ab
 exact key _ (ak _)
abbrev stA(la ub:br)(s:Int):Int×Int×Int:=qz (gm la ub s ub.length)
def gr(la ub:br)(cS s:Int):Bool:=decide (3<=(qz (gm la ub s ub.length)).2.2/\(qz (gm la ub s ub.length)).2.1-(qz (gm la ub s ub.length)).1<=cS)
def yG(la ub:br)(cS:Int)(k:Nat):br:=((List.range k).map λ(j:Nat)=>(j:Int)-(ub.length:Int)).filter (gr la ub cS)
theorem abi{la ub:br}{cS:Int}{k:Nat}(h:gr la ub cS ((k:Int)-(ub.length:Int))=true):yG la ub cS k++[(k:Int)-(ub.length:Int)]=yG la ub cS (k+1):=by simp[yG,iy,wC,h]
theorem Wu{la ub:br}{cS:Int}{k:Nat}(h:gr la ub cS ((k:Int)-(ub.length:Int))=false):yG la ub cS k=yG la ub cS (k+1):=by simp[yG,iy,wC,h]
theorem abj(la ub:br)(cS:Int)(k:Nat):(yG la ub cS k).length<=k:=by unfold yG;refine bt (tK _ _) ?_;simp
theorem afw{l:br}(h:∀x∈l,0<=x/\x<=18):0<=(qz l).1/\(qz l).1<=18/\0<=(qz l).2.1/\(qz l).2.1<=18/\0<=(qz l).2.2:=by
 have key:∀(l:br)(st:Int×Int×Int),(∀x∈l,0<=x/\x<=18)->(0<=st.1/\st.1<=18/\0<=st.2.1/\st.2.1<=18/\0<=st.2.2)->0<=(l.foldl RQ st).1/\(l.foldl RQ st).1<=18/\0<=(l.foldl RQ st).2.1/\(l.foldl RQ st).2.1<=18/\0<=(l.foldl RQ st).2.2:=by
  intro l;induction l with
  |nil=>intro st _ h;exact h
  |cons x l ih=>intro st hx h;have h1:=hx x ae;refine ih _ (λy hy=>hx y (by simp[hy])) ?_;obtain⟨a,b,c⟩:=st;simp only[RQ]at h⊢;refine⟨?_,?_,?_,?_,?_⟩<;>(repeat' split)<;>omega
 exact key l _ h ae
theorem JI{la ub:br}{s:Int}(h1:lg la)(h2:lg ub):∀i,i<=ub.length->∀x∈gm la ub s i,0<=x/\x<=18
 |0,_,x,hx=>by cases hx
 |i+1,hi,x,hx=>by rw[gm]at hx;split at hx;rename_i hc;rcases eG.1 hx with hx|hx;exact JI h1 h2 i ab x hx;rw[bV]at hx;have k1:=A6 h2 (i:=i) ab;have k2:=A6 h1 (i:=((i:Int)+s).toNat) ab;omega;exact JI h1 h2 i ab x hx
theorem NY{la ub:br}(s:Int)(h1:lg la)(h2:lg ub):0<=(stA la ub s).1/\(stA la ub s).1<=18/\0<=(stA la ub s).2.1/\(stA la ub s).2.1<=18/\0<=(stA la ub s).2.2:=afw (JI h1 h2 _ (ak _))
theorem Dr{m:Int}{l:br}:l.all (pJ m)=true↔∀x∈l,0<=x/\x<=m:=by simp[pJ]
theorem HA{ls:br}:∀(n i:Nat),ls.length-i=n->(kK ls i=0↔∀j,i<=j->j<ls.length->(0<=ls.getD j 0/\ls.getD j 0<=3)/\(0<j->ls.getD (j-1) 0<ls.getD j 0)):=by
 intro n;induction n with
 |zero=>intro i h;rw[VT ab];exact⟨λ_ j h1 h2=>ab,λ_=>rfl⟩
 |succ n ih=>
  intro i h;by_cases h1:ls.getD i 0<0\/3<ls.getD i 0;rw[PF ab h1];exact⟨λe=>ab,λe=>by have:=(e i (ak _) ab).1;omega⟩;by_cases h2:0<i/\ls.getD i 0<=ls.getD (i-1) 0;rw[VS ab h1 h2];exact⟨λe=>ab,λe=>by have:=(e i (ak _) ab).2 h2.1;omega⟩;rw[vE ab h1 h2,ih (i+1) ab];refine⟨λe j hj AL=>?_,λe j hj AL=>e j ab AL⟩;by_cases RY:j=i;subst RY;exact⟨ab,λh3=>ab⟩
  exact e j ab AL
theorem agq{ls:br}(h:∀j,0<j->j<ls.length->ls.getD (j-1) 0<ls.getD j 0):ls.Pairwise (·<·):=by
 rw[List.pairwise_iff_getElem];have key:∀j i,i<j->(hj:j<ls.length)->ls.getD i 0<ls.getD j 0:=by
  intro j;induction j with
  |zero=>intro i hi;omega
  |succ j ih=>
   intro i hi hj;have h1:=h (j+1) ab hj;simp only[Nat.add_sub_cancel]at h1;by_cases e:i=j;subst e;exact h1
   have:=ih i ab ab;omega
 intro i j hi hj RY;have:=key j i RY hj
 rwa [o8 hi,o8 hj]at this
theorem afV{ls:br}(h:ls.Pairwise (·<·)){j:Nat}(h0:0<j)(hj:j<ls.length):ls.getD (j-1) 0<ls.getD j 0:=by rw[List.pairwise_iff_getElem]at h;rw[o8 hj,o8 ab];exact h _ _ _ _ ab
theorem agi{u l:br}{w:Int}{ls:br}:mq u l w ls=0↔Ok u l w ls:=by
 unfold mq;constructor;intro h;split at h;omega
 split at h;omega
 split at h;omega
 split at h;omega
 split at h;omega
 split at h;omega
 rename_i h1 h2 h3 h4 h5 h6;simp only[not_or,Bool.not_eq_false]at h5;have hz:=(HA _ 0 rfl).1 h;refine⟨ab,ab,ab,Dr.1 h5.1,Dr.1 h5.2.1,ab,ab,λe=>h6 (by rw[e];rfl),λx hx=>?_,agq λj hj AL=>(hz j (j7 _) AL).2 hj⟩;obtain⟨j,hj,rfl⟩:=List.getElem_of_mem hx;have:=(hz j (j7 _) hj).1
 rwa [o8 hj]at this
 intro h;have h1:=h.n3;have h2:=h.n8;have h3:=h.len;have h4:=h.w0;have h5:=h.w2;have h6:ls.length≠0:=λe=>h.ne (eR e);rw[if_neg ab,if_neg ab,if_neg ab,if_neg ab,if_neg (by rw[Dr.2 h.hu,Dr.2 h.hl];simp;omega),if_neg h6];exact(HA _ 0 rfl).2 λj _ hj=>⟨h.CH _ (ot hj),λh0=>afV h.U4 h0 hj⟩
def Sh(u l ls:br):Prop:=u.length<=1000/\l.length<=1000/\ls.length<=1000
theorem Ok.num {u l:br}{w:Int}{ls:br}(h:Ok u l w ls):(3<=u.length/\u.length<=8/\l.length=u.length/\0<=w/\w<=2)/\lg u/\lg l:=⟨⟨h.n3,h.n8,h.len,h.w0,h.w2⟩,h.hu,h.hl⟩
def akM(la ub:br)(wa wb s:Int):Xl.den:=((qz (gm la ub s ub.length)).2.1,(qz (gm la ub s ub.length)).1+wa+wb,())
theorem BU{u l:br}{w:Int}{ls:br}(h:Ok u l w ls):Sh u l ls:=by
 refine⟨by have:=h.n8;omega,by have:=h.n8;have:=h.len;omega,?_⟩;have key:∀(ls:br)(m:Int),m<=4->(∀x∈ls,m<=x/\x<=3)->ls.Pairwise (·<·)->(ls.length:Int)<=4-m:=by
  intro ls;induction ls with
  |nil=>intro m hm _ _;simp;omega
  |cons x ls ih=>intro m hm h1 h2;rw[List.pairwise_cons]at h2;have h3:=h1 x ae;have:=ih (x+1) ab (λy hy=>⟨by have:=h2.1 y hy;omega,(h1 y (by simp[hy])).2⟩) h2.2;simp only[di];omega
 have:=key ls 0 ab h.CH h.U4;omega
def akm(la ub:br)(s:Int)(i:Nat):Option Int:=if 0<=(i:Int)+s/\(i:Int)+s<la.length then some (ub.getD i 0+la.getD ((i:Int)+s).toNat 0)else none
def fK(n:Int)(u l:br):br:=if n=1 then l.reverse else if n=2 then u.reverse else if n=3 then l else u
def fL(n:Int)(u l:br):br:=if n=1 then u.reverse else if n=2 then l.reverse else if n=3 then u else l
theorem Yx{l a l1:br}{w:Int}{ls:br}(h:Ok a l1 w ls)(hn:l1.length=l.length)(hl:lg l):Ok (l.map (9-·)) l1 w ls where
 n3:=by have:=h.n3;have:=h.len;simp;omega
 n8:=by have:=h.n8;have:=h.len;simp;omega
 len:=by simp;omega
 hu:=λx hx=>by simp only[er]at hx;obtain⟨y,hy,rfl⟩:=hx;have:=hl y hy;omega
 hl:=h.hl
 w0:=h.w0
 w2:=h.w2
 ne:=h.ne
 CH:=h.CH
 U4:=h.U4
def akJ(la ub:br)(w s:Int):Int×Int×Int:=if(stA la ub s).2.2<3 then(0,0,7)else if(stA la ub s).2.1-(stA la ub s).1>w then(0,0,11)else((stA la ub s).2.1,(stA la ub s).1+w,0)
end Go.Tv
namespace Go.Tv
open Go Go.Di Go.Proofs
def D53:cp->Dn
 |[.sl (.int .i64) l .no,.val (.int .i64 x)]=>some ([l.length<=1000],.res (kR (decide (x∈l))) [] [],[(3,.ex Nat λi=>.st {sl:=[(5,aV i)],cQ:=[i<=l.length,x∉l.take i],m:=l.length-i})])
 |_=>none
theorem v53:VI T0 Tryz.f97 [some .bool] D53:=by
 refine dH λa=>?_;unfold D53;split
 rotate_left
 trivial;rename_i l x;intro hp;have h1:=hp.1;refine jx (A:=(∃(a:Nat),0=(↑a:Int)/\a<=l.length/\¬x∈List.take a l/\l.length-a<1000000)/\∀(a:Nat),a<=l.length->¬x∈List.take a l->aB (decide ((↑a:Int)<(↑l.length:Int))) ((0<=(↑a:Int)/\(↑a:Int)<(↑l.length:Int))/\aB (l.getD a 0==x) (true=decide (x∈l)/\True) (cR ((↑a:Int)+1)/\∃(y:Nat),l=l/\x=x/\(↑a:Int)+1=(↑y:Int)/\y<=l.length/\¬x∈List.take y l/\l.length-y<l.length-a)) (false=decide (x∈l)/\True)) (by kernel_rfl) ?_;simp only[bP,cH,dg,ek,eW,cR,and_true,true_and,eq_self];refine⟨⟨0,ab,ab,ae,ab⟩,λi h2 h3=>⟨λh4=>⟨ab,λh5=>?_,λh5=>⟨ab,i+1,ab,ab,?_,ab⟩⟩,λh4=>?_⟩⟩;rw[iN];rw[<-h5];exact ot ab
 rw[take_one ab];simp only[eG,bV,not_or];exact⟨h3,λe=>h5 e.symm⟩
 rw[show i=l.length by omega,fR]at h3;rw[gR h3]
def D52:cp->Dn
 |[.sl (.int .i64) l .no]=>some ([l.length<=1000],.res (.sl bY l.reverse .no) [] [],[(4,.ex Nat λi=>.st {sl:=[(3,.sl bY ((l.drop i).reverse) (.iT 0)),(4,aV ((i:Nat)-1:Int))],own:=[(3,1)],cQ:=[i<=l.length],m:=i})])
 |_=>none
theorem v52:VI T0 Tryz.f119 [some bC] D52:=by
 refine dH λa=>?_;unfold D52;split
 rotate_left
 trivial;rename_i l;intro hp;have h1:=hp.1;refine jx (A:=cR ((↑l.length:Int)-1)/\(∃(a:Nat),[]=(List.drop a l).reverse/\(↑l.length:Int)-1=(↑a:Int)-1/\a<=l.length/\a<1000000)/\∀(a:Nat),a<=l.length->aB (decide ((↑a:Int)-1>=0)) ((0<=(↑a:Int)-1/\(↑a:Int)-1<(↑l.length:Int))/\(List.drop a l).reverse.length+1<=1000000000/\cR ((↑a:Int)-1-1)/\∃(x:Nat),l=l/\ng bY.den/\(List.drop a l).reverse++[l.getD ((↑a:Int)-1).toNat (0:Int)]=(List.drop x l).reverse/\(↑a:Int)-1-1=(↑x:Int)-1/\x<=l.length/\x<a) ((List.drop a l).reverse=l.reverse/\True)) (by kernel_rfl) ?_;simp only[bP,cH,dg,ek,eW,cR,and_true,true_and,eq_self];refine⟨ab,⟨l.length,ae,ab,ab,ab⟩,λi h2=>⟨λh3=>⟨ab,by simp;omega,ab,i-1,?_,ab,ab,ab⟩,λh3=>?_⟩⟩;obtain⟨j,rfl⟩:∃j,i=j+1:=⟨i-1,ab⟩;rw[show((j+1:Nat):Int)-1=(j:Int)by omega,Int.toNat_natCast,drop_one ab];rfl
 rw[show i=0 by omega,pn]
def D97:cp->cp->Dn
 |[.val (.int .i64 x),.ptr 0 0],[.val (.int .i64 eU)]=>some ([],.res (kR (!pJ eU x)) [aV eU] [],[])
 |_,_=>none
theorem v97:VC T0 Tryz.f121 [some .bool] [some bY] D97:=by
 refine lN λa cs=>?_;unfold D97;split
 rotate_left
 trivial;rename_i x eU;intro hp;refine jx (A:=aB (decide (x<0)) (true=!pJ eU x/\eU=eU/\True) (decide (x>eU)=!pJ eU x/\eU=eU/\True)) (by kernel_rfl) ?_;simp only[bP,cH,dg,ek,eW,cR,and_true,true_and,eq_self];refine⟨λh=>?_,λh=>?_⟩;rw[pJ,gR ab];rfl
 rw[pJ,<-decide_not,decide_eq_decide];omega
def T1:eM:=((T0.cG 97 λa=>dS (D53 a)).cG 119 λa=>dS (D52 a)).mB 121 λa c=>dS (D97 a c)
def ae3:cp->cp->Dn
 |[.sl (.int .i64) l .no,.fn 121 [] [.ptr 0 0]],[.val (.int .i64 eU)]=>some ([l.length<=1000],.ex Int λk=>.res (aV k) [aV eU] [if l.all (pJ eU)then k=-1 else 0<=k],[(3,.ex Nat λi=>.st {sl:=[(8,aV i)],cQ:=[i<=l.length,(l.take i).all (pJ eU)=true],m:=l.length-i})])
 |_,_=>none
theorem v109:VC T1 Tryz.f132 [some bY] [some bY] ae3:=by
 refine lN λa cs=>?_;unfold ae3;split
 rotate_left
 trivial;rename_i l eU;intro hp;have h1:=hp.1;refine jx (A:=(∃(a:Nat),0=(↑a:Int)/\a<=l.length/\(List.take a l).all (pJ eU)=true/\l.length-a<1000000)/\∀(a:Nat),a<=l.length->(List.take a l).all (pJ eU)=true->aB (decide ((↑a:Int)<(↑l.length:Int))) ((0<=(↑a:Int)/\(↑a:Int)<(↑l.length:Int))/\aB (!pJ eU (l.getD a 0)) (∃(x:Int),(↑a:Int)=x/\eU=eU/\(if l.all (pJ eU)=true then x=(-1:Int)else 0<=x)/\True) (cR ((↑a:Int)+1)/\∃(x:Nat),l=l/\(↑l.length:Int)=(↑l.length:Int)/\(↑a:Int)+1=(↑x:Int)/\eU=eU/\x<=l.length/\(List.take x l).all (pJ eU)=true/\l.length-x<l.length-a)) (∃(a:Int),(-1:Int)=a/\eU=eU/\(if l.all (pJ eU)=true then a=(-1:Int)else 0<=a)/\True)) (by kernel_rfl) ?_;simp only[bP,cH,dg,ek,eW,cR,and_true,true_and,eq_self];refine⟨⟨0,ab,ab,ae,ab⟩,λi h2 h3=>⟨λh4=>⟨ab,?_⟩,λh4=>?_⟩⟩;rw[gZ];refine⟨λh5=>⟨ab,i+1,ab,ab,RI ab h3 h5,ab⟩,λh5=>⟨_,rfl,?_⟩⟩;rw[QO (i:=i) ab h5];simp
 rw[show i=l.length by omega,fR]at h3;exact⟨_,rfl,by rw[h3];simp⟩
def D16:cp->Dn
 |[.agg [.sl (.int .i64) u .no,.sl (.int .i64) l .no,.val (.int .i64 w),.sl (.int .i64) ls .no],.val (.int .i64 n)]=>some ([u.length<=1000,l.length<=1000,ls.length<=1000,0<=n,n<=3],.res (pcV (fK n u l) (fL n u l) w (iC n ls 4)) [] [],
  [(2,.ex br λu1=>.ex br λl1=>.st {sl:=[(5,.ptr 13 0)],pl:=[(13,[.sl bY u1 .no,.sl bY l1 .no,aV w,.ax])],cQ:=[u1=if n=1\/n=3 then l.reverse else u,l1=if n=1\/n=3 then u.reverse else l]}),
   (4,.st {sl:=[(5,.ptr 13 0)],pl:=[(13,[.sl bY (fK n u l) .no,.sl bY (fL n u l) .no,aV w,.ax])]}),
   (8,.ex Nat λi=>.st {sl:=[(6,aV i)],pl:=[(13,[.sl bY (fK n u l) .no,.sl bY (fL n u l) .no,aV w,.sl bY (iC n ls i) (.iT 14)])],own:=[(3,1)],cQ:=[i<=4],m:=4-i})])
 |_=>none
theorem v16:VI T1 Tryz.f81 [some aF] D16:=by
 refine dH λa=>?_;unfold D16;split
 rotate_left
 trivial;rename_i u l w ls n;intro hp;obtain⟨h1,h2,h3,h4,h5,-⟩:=hp;refine jx (A:=0+u.length<=1000000000/\0+l.length<=1000000000/\aB (n==1) (l.length<=1000/\u.length<=1000/\∃(a:br),∃(x:br),n=n/\u=u/\l=l/\w=w/\ls=ls/\(0:Int)=0/\l.reverse=a/\u.reverse=x/\w=w/\(a=if n=1\/n=3 then l.reverse else u)/\(x=if n=1\/n=3 then u.reverse else l)/\True) (aB (n==3) (l.length<=1000/\u.length<=1000/\∃(a:br),∃(x:br),n=n/\u=u/\l=l/\w=w/\ls=ls/\(0:Int)=0/\l.reverse=a/\u.reverse=x/\w=w/\(a=if n=1\/n=3 then l.reverse else u)/\(x=if n=1\/n=3 then u.reverse else l)/\True) (∃(a:br),∃(x:br),n=n/\u=u/\l=l/\w=w/\ls=ls/\(0:Int)=0/\u=a/\l=x/\w=w/\(a=if n=1\/n=3 then l.reverse else u)/\(x=if n=1\/n=3 then u.reverse else l)/\True))/\∀(a x:br),(a=if n=1\/n=3 then l.reverse else u)->(x=if n=1\/n=3 then u.reverse else l)->aB (n==2) (a.length<=1000/\x.length<=1000/\n=n/\u=u/\l=l/\w=w/\ls=ls/\(0:Int)=0/\a.reverse=fK n u l/\x.reverse=fL n u l/\w=w/\True) (aB (n==3) (a.length<=1000/\x.length<=1000/\n=n/\u=u/\l=l/\w=w/\ls=ls/\(0:Int)=0/\a.reverse=fK n u l/\x.reverse=fL n u l/\w=w/\True) (n=n/\u=u/\l=l/\w=w/\ls=ls/\(0:Int)=0/\a=fK n u l/\x=fL n u l/\w=w/\True))/\(∃(a:Nat),0=(↑a:Int)/\fK n u l=fK n u l/\fL n u l=fL n u l/\w=w/\[]=iC n ls a/\a<=4/\4-a<1000000)/\∀(a:Nat),a<=4->aB (decide ((↑a:Int)<=3)) (ls.length<=1000/\aB (decide (IntKind.i64.wrap (↑(BitVec.ofInt 64 (↑a:Int)^^^BitVec.ofInt 64 n).toNat:Int)∈ls)) ((iC n ls a).length+1<=1000000000/\cR ((↑a:Int)+1)/\∃(y:Nat),n=n/\(↑a:Int)+1=(↑y:Int)/\u=u/\l=l/\w=w/\ls=ls/\(0:Int)=0/\fK n u l=fK n u l/\fL n u l=fL n u l/\w=w/\iC n ls a++[(↑a:Int)]=iC n ls y/\y<=4/\4-y<4-a) (cR ((↑a:Int)+1)/\∃(y:Nat),n=n/\(↑a:Int)+1=(↑y:Int)/\u=u/\l=l/\w=w/\ls=ls/\(0:Int)=0/\fK n u l=fK n u l/\fL n u l=fL n u l/\w=w/\iC n ls a=iC n ls y/\y<=4/\4-y<4-a)) (fK n u l=fK n u l/\fL n u l=fL n u l/\w=w/\iC n ls a=iC n ls 4/\True)) (by kernel_rfl) ?_;simp only[bP,cH,dg,cR,and_true,true_and,eq_self];refine⟨ab,ab,⟨λe=>⟨h2,h1,_,_,rfl,rfl,by simp[e],by simp[e]⟩,λe=>⟨λe1=>⟨h2,h1,_,_,rfl,rfl,by simp[e1],by simp[e1]⟩,λe1=>⟨_,_,rfl,rfl,by simp[e,e1],by simp[e,e1]⟩⟩⟩,?_⟩;rintro _ _ rfl rfl;refine⟨⟨λe=>⟨by split<;>simp_all,by split<;>simp_all,by simp[e,fK],by simp[e,fL]⟩,λe=>⟨λe1=>⟨by split<;>simp_all,by split<;>simp_all,by simp[e1,fK],by simp[e1,fL]⟩,λe1=>⟨by simp[e,e1,fK],by simp[e,e1,fL]⟩⟩⟩,⟨0,rfl,rfl,ab,ab⟩,λi hi=>⟨λh=>⟨h3,?_⟩,λh=>by rw[show i=4 by omega]⟩⟩;have hx:=TX n ls i;change(mw i n∈ls->_)/\(¬mw i n∈ls->_);exact⟨λh=>⟨ab,ab,i+1,ab,TW h,ab,ab⟩,λh=>⟨ab,i+1,ab,YP h,ab,ab⟩⟩
section
variable {bI:b9} (tk:CX bI)
include tk
theorem Vc:ic bI 1 T1:=FD (dN tk) Tryz.func121 rfl v97 (mg tk (dN tk) an Tryz.func119 rfl v52 (mg tk (dN tk) an Tryz.func97 rfl v53 (fU (dN tk))))
end
end Go.Tv
namespace Go.Tv
open Go Go.Di Go.Proofs
abbrev K7(v:Int->TV)(f:Int->List Prop):uk:=.ex Int λk=>.ex br λr=>.ex Int λz=>.res (v k) (xd r z) (f k)
def D81:cp->cp->Dn
 |[.ptr 0 0],[.sl (.int .i64) _ .no,.val (.int .u64 z)]=>some ([],K7 (λk=>.val (.int .u64 k)) λk=>[0<=k,k<4294967296],[(2,.ex Int λk=>.ex br λr=>.st {sl:=[(3,.val (.int .u64 k))],pl:=[(0,xd r z)]})])
 |_,_=>none
theorem v81:VC T0 Tryz.f58 [some (.int .u64)] [some bC,some (.int .u64)] D81:=by
 refine lN λa cs=>?_;unfold D81;split
 rotate_left
 trivial;rename_i r z;intro hp;refine jx (A:=aB (decide ((↑r.length:Int)>0)) (((0:Int)<=0/\0<(↑r.length:Int))/\((0:Int)<=1/\1<=(↑r.length:Int))/\∃(a:Int),∃(x:br),(0:Int)=0/\IntKind.u64.wrap (r.getD 0 0)=a/\List.drop 1 r=x/\z=z/\True) (∃(a:Int),∃(x:br),(0:Int)=0/\0=a/\r=x/\z=z/\True)/\∀(a:Int)(x:br),∃(y:Int),∃(u:br),∃(v:Int),(IntKind.u64.wrap (IntKind.u64.wrap (↑(BitVec.ofInt 64 (IntKind.u64.wrap (↑(BitVec.ofInt 64 (IntKind.u64.wrap (IntKind.u64.wrap (IntKind.u64.wrap (z+a)+6364136223846793005)*15074714826142052245))^^^BitVec.ofInt 64 ((IntKind.u64.wrap (IntKind.u64.wrap (IntKind.u64.wrap (z+a)+6364136223846793005)*15074714826142052245)).fdiv (536870912:Int))).toNat:Int))^^^BitVec.ofInt 64 ((IntKind.u64.wrap (↑(BitVec.ofInt 64 (IntKind.u64.wrap (IntKind.u64.wrap (IntKind.u64.wrap (z+a)+6364136223846793005)*15074714826142052245))^^^BitVec.ofInt 64 ((IntKind.u64.wrap (IntKind.u64.wrap (IntKind.u64.wrap (z+a)+6364136223846793005)*15074714826142052245)).fdiv (536870912:Int))).toNat:Int)).fdiv (8589934592:Int))).toNat:Int)*18397679294719823053)).fdiv 4294967296=y/\x=u/\IntKind.u64.wrap (↑(BitVec.ofInt 64 (IntKind.u64.wrap (IntKind.u64.wrap (IntKind.u64.wrap (z+a)+6364136223846793005)*15074714826142052245))^^^BitVec.ofInt 64 ((IntKind.u64.wrap (IntKind.u64.wrap (IntKind.u64.wrap (z+a)+6364136223846793005)*15074714826142052245)).fdiv (536870912:Int))).toNat:Int)=v/\0<=y/\y<4294967296/\True) (by kernel_rfl) ?_;simp only[bP,cH,dg,ek,eW,cR,and_true,true_and,eq_self];refine⟨⟨λh=>⟨ab,ab,_,_,rfl,rfl⟩,λh=>⟨_,_,rfl,rfl⟩⟩,λk r1=>⟨_,_,_,rfl,rfl,rfl,(adn rfl).1,(adn rfl).2⟩⟩
def D11:cp->Dn
 |[.sl (.int .i64) l .no]=>some ([],.res .unk (xd l 1) [],[])
 |_=>none
theorem v11:VN T0 Tryz.f13 [some bC,some (.int .u64)] D11:=by
 refine acK λa=>?_;unfold D11;split
 rotate_left
 trivial;rename_i l;intro hp;refine jx (A:=l=l/\(1:Int)=1/\True) (by kernel_rfl) ?_;exact⟨rfl,rfl,trivial⟩
def D60:cp->Dn
 |[.agg [.sl (.int .i64) ua .no,.sl (.int .i64) la .no],.agg [.sl (.int .i64) ub .no,.sl (.int .i64) lb .no],.val (.int .i64 s)]=>some ([la.length<=1000,ub.length<=1000,lg la,lg ub],.res (.tup [aV (stA la ub s).1,aV (stA la ub s).2.1,aV (stA la ub s).2.2]) [] [],
  [(6,.ex Nat λi=>.ex Int λlo=>.ex Int λhi=>.ex Int λm=>.st {sl:=[(6,aV lo),(7,aV hi),(8,aV m),(29,aV i)],cQ:=[i<=ub.length,0<=m,m<=i,qz (gm la ub s i)=(lo,hi,m)],m:=ub.length-i})])
 |_=>none
theorem v60:VI T0 Tryz.f78 [some bY,some bY,some bY] D60:=by
 refine dH λa=>?_;unfold D60;split
 rotate_left
 trivial;rename_i ua la ub lb s;intro hp;obtain⟨h1,h2,h5,h6,-⟩:=hp;refine jx (A:=cR (-(↑ub.length:Int))/\aB (decide (s<=-(↑ub.length:Int))) (0=(stA la ub s).1/\0=(stA la ub s).2.1/\0=(stA la ub s).2.2/\True) (aB (decide (s>=(↑la.length:Int))) (0=(stA la ub s).1/\0=(stA la ub s).2.1/\0=(stA la ub s).2.2/\True) ((∃(a:Nat),∃(x:Int),∃(r:Int),∃(u:Int),0=x/\0=r/\0=u/\0=(↑a:Int)/\a<=ub.length/\0<=u/\u<=(↑a:Int)/\qz (gm la ub s a)=(x,r,u)/\ub.length-a<1000000)/\∀(a:Nat)(x r u:Int),a<=ub.length->0<=u->u<=(↑a:Int)->qz (gm la ub s a)=(x,r,u)->aB (decide ((↑a:Int)<(↑ub.length:Int))) ((0<=(↑a:Int)/\(↑a:Int)<(↑ub.length:Int))/\cR ((↑a:Int)+s)/\aB (decide ((↑a:Int)+s<0)) (cR ((↑a:Int)+1)/\∃(y:Nat),∃(w:Int),∃(v:Int),∃(z:Int),s=s/\x=w/\r=v/\u=z/\ub=ub/\(↑ub.length:Int)=(↑ub.length:Int)/\(↑a:Int)+1=(↑y:Int)/\ua=ua/\la=la/\ub=ub/\lb=lb/\y<=ub.length/\0<=z/\z<=(↑y:Int)/\qz (gm la ub s y)=(w,v,z)/\ub.length-y<ub.length-a) (aB (decide ((↑a:Int)+s>=(↑la.length:Int))) (cR ((↑a:Int)+1)/\∃(y:Nat),∃(w:Int),∃(v:Int),∃(z:Int),s=s/\x=w/\r=v/\u=z/\ub=ub/\(↑ub.length:Int)=(↑ub.length:Int)/\(↑a:Int)+1=(↑y:Int)/\ua=ua/\la=la/\ub=ub/\lb=lb/\y<=ub.length/\0<=z/\z<=(↑y:Int)/\qz (gm la ub s y)=(w,v,z)/\ub.length-y<ub.length-a) ((0<=(↑a:Int)+s/\(↑a:Int)+s<(↑la.length:Int))/\cR (ub.getD a 0+la.getD ((↑a:Int)+s).toNat (0:Int))/\aB (u==0) (cR (u+1)/\cR ((↑a:Int)+1)/\∃(y:Nat),∃(w:Int),∃(v:Int),∃(z:Int),s=s/\(if ub.getD a 0+la.getD ((↑a:Int)+s).toNat 0<ub.getD a 0+la.getD ((↑a:Int)+s).toNat (0:Int)then ub.getD a 0+la.getD ((↑a:Int)+s).toNat (0:Int)else ub.getD a 0+la.getD ((↑a:Int)+s).toNat (0:Int))=w/\(if ub.getD a 0+la.getD ((↑a:Int)+s).toNat 0>ub.getD a 0+la.getD ((↑a:Int)+s).toNat (0:Int)then ub.getD a 0+la.getD ((↑a:Int)+s).toNat (0:Int)else ub.getD a 0+la.getD ((↑a:Int)+s).toNat (0:Int))=v/\u+1=z/\ub=ub/\(↑ub.length:Int)=(↑ub.length:Int)/\(↑a:Int)+1=(↑y:Int)/\ua=ua/\la=la/\ub=ub/\lb=lb/\y<=ub.length/\0<=z/\z<=(↑y:Int)/\qz (gm la ub s y)=(w,v,z)/\ub.length-y<ub.length-a) (cR (u+1)/\cR ((↑a:Int)+1)/\∃(y:Nat),∃(w:Int),∃(v:Int),∃(z:Int),s=s/\(if ub.getD a 0+la.getD ((↑a:Int)+s).toNat 0<x then ub.getD a 0+la.getD ((↑a:Int)+s).toNat (0:Int)else x)=w/\(if ub.getD a 0+la.getD ((↑a:Int)+s).toNat 0>r then ub.getD a 0+la.getD ((↑a:Int)+s).toNat (0:Int)else r)=v/\u+1=z/\ub=ub/\(↑ub.length:Int)=(↑ub.length:Int)/\(↑a:Int)+1=(↑y:Int)/\ua=ua/\la=la/\ub=ub/\lb=lb/\y<=ub.length/\0<=z/\z<=(↑y:Int)/\qz (gm la ub s y)=(w,v,z)/\ub.length-y<ub.length-a)))) (x=(stA la ub s).1/\r=(stA la ub s).2.1/\u=(stA la ub s).2.2/\True)))) (by kernel_rfl) ?_;simp only[bP,stA,cH,dg,ek,eW,cR,and_true,true_and,eq_self];refine⟨ab,λh=>by rw[BI (.inl h)];exact⟨rfl,rfl,rfl⟩,λ_=>⟨λh=>by rw[BI (.inr h)];exact⟨rfl,rfl,rfl⟩,λh=>⟨⟨0,0,0,0,rfl,rfl,rfl,rfl,ab,ab,ab,rfl,ab⟩,λi lo hi m k1 k2 k3 k4=>⟨λk5=>⟨ab,ab,λk6=>⟨ab,i+1,lo,hi,m,rfl,rfl,rfl,ab,ab,ab,ab,by rw[gm,if_neg ab];exact k4,ab⟩,λk6=>⟨λk7=>⟨ab,i+1,lo,hi,m,rfl,rfl,rfl,ab,ab,ab,ab,by rw[gm,if_neg ab];exact k4,ab⟩,λk7=>?_⟩⟩,λk5=>?_⟩⟩⟩⟩;have e1:=A6 h6 (i:=i) ab;have e2:=A6 h5 (i:=((i:Int)+s).toNat) ab;exact⟨ab,ab,λk8=>⟨ab,ab,i+1,_,_,_,rfl,rfl,rfl,ab,ab,ab,ab,by rw[gm,if_pos ab];exact XI k4 k8,ab⟩,λk8=>⟨ab,ab,i+1,_,_,_,rfl,rfl,rfl,ab,ab,ab,ab,by rw[gm,if_pos ab];exact GU k4 k8,ab⟩⟩
 grind
def T1b:eM:=((T1.mB 58 λa c=>dS (D81 a c)).NQ 13 λa=>dS (D11 a)).cG 78 λa=>dS (D60 a)
def D46:cp->cp->Dn
 |[.ptr 0 0,.val (.int .i64 m)],[.sl (.int .i64) _ .no,.val (.int .u64 _)]=>some ([m<=1000,-10000<=m],K7 aV λk=>[0<=k,k<=m\/k=0],[])
 |_,_=>none
theorem v46:VC T1b Tryz.f15 [some bY] [some bC,some (.int .u64)] D46:=by
 refine lN λa cs=>?_;unfold D46;split
 rotate_left
 trivial;rename_i m r z;intro hp;obtain⟨h1,h2,-⟩:=hp;refine jx (A:=aB (decide (m<=0)) (∃(a:Int),∃(y:br),∃(u:Int),0=a/\r=y/\z=u/\0<=a/\(a<=m\/a=0)/\True) (∀(a:Int)(y:br)(u:Int),0<=a->a<4294967296->cR (m+1)/\∃(x:Int),∃(v:br),∃(w:Int),IntKind.i64.wrap ((IntKind.u64.wrap (a*IntKind.u64.wrap (m+1))).fdiv (4294967296:Int))=x/\y=v/\u=w/\0<=x/\(x<=m\/x=0)/\True)) (by kernel_rfl) ?_;simp only[bP,cH,dg,ek,eW,cR,and_true,true_and,eq_self];exact⟨λh=>⟨0,_,_,rfl,rfl,rfl,ab,ab⟩,λh k r1 z1 h3 h4=>⟨ab,_,_,_,rfl,rfl,rfl,(acN h1 ab h3 h4).1,(acN h1 ab h3 h4).2⟩⟩
def D65:cp->Dn
 |[.agg [.sl (.int .i64) ua .no,.sl (.int .i64) la .no],.agg [.sl (.int .i64) ub .no,.sl (.int .i64) lb .no],.val (.int .i64 w)]=>some ([la.length<=100,ub.length<=100,lg la,lg ub],.res (.sl bY (yG la ub w (ub.length+la.length+1)) .no) [] [],
  [(4,.ex Nat λk=>.st {sl:=[(7,.sl bY (yG la ub w k) (.iT 2)),(8,aV ((k:Int)-(ub.length:Int)))],own:=[(3,1)],cQ:=[k<=ub.length+la.length+1],m:=ub.length+la.length+1-k})])
 |_=>none
theorem v65:VI T1b Tryz.f103 [some bC] D65:=by
 refine dH λa=>?_;unfold D65;split
 rotate_left
 trivial;rename_i ua la ub lb w;intro hp;obtain⟨h1,h2,h3,h4,-⟩:=hp;refine jx (A:=cR (-(↑ub.length:Int))/\(∃(a:Nat),[]=yG la ub w a/\-(↑ub.length:Int)=(↑a:Int)-(↑ub.length:Int)/\a<=ub.length+la.length+1/\ub.length+la.length+1-a<1000000)/\∀(a:Nat),a<=ub.length+la.length+1->aB (decide ((↑a:Int)-(↑ub.length:Int)<=(↑la.length:Int))) (la.length<=1000/\ub.length<=1000/\lg la/\lg ub/\aB (decide ((stA la ub ((↑a:Int)-(↑ub.length:Int))).2.2>=3)) (cR ((stA la ub ((↑a:Int)-(↑ub.length:Int))).2.1-(stA la ub ((↑a:Int)-(↑ub.length:Int))).1)/\aB (decide ((stA la ub ((↑a:Int)-(↑ub.length:Int))).2.1-(stA la ub ((↑a:Int)-(↑ub.length:Int))).1<=w)) ((yG la ub w a).length+1<=1000000000/\cR ((↑a:Int)-(↑ub.length:Int)+1)/\∃(x:Nat),w=w/\ng bY.den/\yG la ub w a++[(↑a:Int)-(↑ub.length:Int)]=yG la ub w x/\(↑a:Int)-(↑ub.length:Int)+1=(↑x:Int)-(↑ub.length:Int)/\ua=ua/\la=la/\ub=ub/\lb=lb/\x<=ub.length+la.length+1/\ub.length+la.length+1-x<ub.length+la.length+1-a) (cR ((↑a:Int)-(↑ub.length:Int)+1)/\∃(x:Nat),w=w/\ng bY.den/\yG la ub w a=yG la ub w x/\(↑a:Int)-(↑ub.length:Int)+1=(↑x:Int)-(↑ub.length:Int)/\ua=ua/\la=la/\ub=ub/\lb=lb/\x<=ub.length+la.length+1/\ub.length+la.length+1-x<ub.length+la.length+1-a)) (cR ((↑a:Int)-(↑ub.length:Int)+1)/\∃(x:Nat),w=w/\ng bY.den/\yG la ub w a=yG la ub w x/\(↑a:Int)-(↑ub.length:Int)+1=(↑x:Int)-(↑ub.length:Int)/\ua=ua/\la=la/\ub=ub/\lb=lb/\x<=ub.length+la.length+1/\ub.length+la.length+1-x<ub.length+la.length+1-a)) (yG la ub w a=yG la ub w (ub.length+la.length+1)/\True)) (by kernel_rfl) ?_;simp only[bP,stA,cH,dg,ek,eW,cR,and_true,true_and,eq_self];refine⟨ab,⟨0,rfl,ab,ab,ab⟩,λk hk=>⟨λh=>⟨ab,ab,h3,h4,?_⟩,λh=>by rw[show k=ub.length+la.length+1 by omega]⟩⟩;have e:=NY (ub:=ub) ((k:Int)-ub.length) h3 h4;simp only[stA]at e;have hl:=abj la ub w k;exact⟨λh5=>⟨ab,λh6=>⟨ab,ab,k+1,abi (iN ⟨h5,h6⟩),ab,ab,ab⟩,λh6=>⟨ab,k+1,Wu (gR λe=>h6 e.2),ab,ab,ab⟩⟩,λh5=>⟨ab,k+1,Wu (gR λe=>h5 e.1),ab,ab,ab⟩⟩
def T2:eM:=(((T1b.mB 15 λa c=>dS (D46 a c)).cG 81 λa=>dS (D16 a)).mB 132 λa c=>dS (ae3 a c)).cG 103 λa=>dS (D65 a)
def D19:cp->cp->Dn
 |[.ptr 0 0,.val (.int .i64 lo),.val (.int .i64 hi)],[.sl (.int .i64) _ .no,.val (.int .u64 _)]=>some ([-1000<=lo,lo<=1000,-1000<=hi,hi<=1000+lo,hi<=5000],K7 aV λk=>[lo<=k,k<=hi\/k=lo],[])
 |_,_=>none
theorem v19:VC T2 Tryz.f70 [some bY] [some bC,some (.int .u64)] D19:=by
 refine lN λa cs=>?_;unfold D19;split
 rotate_left
 trivial;rename_i lo hi r z;intro hp;obtain⟨h1,h2,h3,h4,h5,-⟩:=hp;refine jx (A:=cR (hi-lo)/\hi-lo<=1000/\(-10000:Int)<=hi-lo/\∀(a:Int)(y:br)(z:Int),0<=a->a<=hi-lo\/a=0->cR (lo+a)/\∃(x:Int),∃(u:br),∃(v:Int),lo+a=x/\y=u/\z=v/\lo<=x/\(x<=hi\/x=lo)/\True) (by kernel_rfl) ?_;simp only[bP,cH,dg,ek,eW,cR,and_true,true_and,eq_self];exact⟨ab,ab,ab,λk r1 z1 h6 h7=>⟨ab,_,_,_,rfl,rfl,rfl,ab,ab⟩⟩
def D27:cp->cp->Dn
 |[.ptr 0 0,.val (.int .i64 m)],[.sl (.int .i64) _ .no,.val (.int .u64 _)]=>some ([m<=1000,0<=m],.ex Bool λb=>K7 (λ_=>kR b) λ_=>[],[])
 |_,_=>none
theorem v27:VC T2 Tryz.f67 [some .bool] [some bC,some (.int .u64)] D27:=by
 refine lN λa cs=>?_;unfold D27;split
 rotate_left
 trivial;rename_i m r z;intro hp;obtain⟨h1,h2,-⟩:=hp;refine jx (A:=cR (m-1)/\m-1<=1000/\(-10000:Int)<=m-1/\∀(a:Int)(x:br)(y:Int),0<=a->a<=m-1\/a=0->∃(z:Bool),∃(w:Int),∃(u:br),∃(v:Int),(a==IntKind.i64.wrap (m.tdiv (2:Int)))=z/\x=u/\y=v/\True) (by kernel_rfl) ?_;simp only[bP,cH,dg,ek,eW,cR,and_true,true_and,eq_self];exact⟨ab,ab,ab,λk r1 z1 _ _=>⟨_,0,_,_,rfl,rfl,rfl⟩⟩
def D45:cp->cp->Dn
 |[.ptr 0 0,.sl (.int .i64) l .no],[.sl (.int .i64) _ .no,.val (.int .u64 _)]=>some ([0<l.length,l.length<=1000],K7 aV λk=>[k∈l],[])
 |_,_=>none
theorem v45:VC T2 Tryz.f69 [some bY] [some bC,some (.int .u64)] D45:=by
 refine lN λa cs=>?_;unfold D45;split
 rotate_left
 trivial;rename_i l r z;intro hp;obtain⟨h1,h2,-⟩:=hp;refine jx (A:=cR ((↑l.length:Int)-1)/\(↑l.length:Int)-1<=1000/\(-10000:Int)<=(↑l.length:Int)-1/\∀(a:Int)(y:br)(z:Int),0<=a->a<=(↑l.length:Int)-1\/a=0->(0<=a/\a<(↑l.length:Int))/\∃(x:Int),∃(u:br),∃(v:Int),l.getD a.toNat 0=x/\y=u/\z=v/\x∈l/\True) (by kernel_rfl) ?_;simp only[bP,cH,dg,ek,eW,cR,and_true,true_and,eq_self];exact⟨ab,ab,ab,λk r1 z1 h3 h4=>⟨ab,_,_,_,rfl,rfl,rfl,ot ab⟩⟩
def D96:cp->cp->Dn
 |[.sl (.int .i64) l .no,.fn 121 [] [.ptr 0 0]],[.val (.int .i64 eU)]=>some ([l.length<=1000],.res (kR (!l.all (pJ eU))) [aV eU] [],[])
 |_,_=>none
theorem v96:VC T2 Tryz.f120 [some .bool] [some bY] D96:=by
 refine lN λa cs=>?_;unfold D96;split
 rotate_left
 trivial;rename_i l eU;intro hp;have h1:=hp.1;refine jx (A:=l.length<=1000/\∀(a:Int),(if l.all (pJ eU)=true then a=(-1:Int)else 0<=a)->decide (a>=0)=!l.all (pJ eU)/\eU=eU/\True) (by kernel_rfl) ?_;simp only[bP,cH,dg,ek,eW,cR,and_true,true_and,eq_self];refine⟨h1,λk hk=>?_⟩;cases hl:l.all (pJ eU)<;>simp[hl]at hk⊢<;>omega
def T3:eM:=(((T2.mB 70 λa c=>dS (D19 a c)).mB 67 λa c=>dS (D27 a c)).mB 69 λa c=>dS (D45 a c)).mB 120 λa c=>dS (D96 a c)
def D44:cp->cp->Dn
 |[.ptr 0 0,.val (.int .i64 c)],[.sl (.int .i64) _ .no,.val (.int .u64 _)]=>some ([0<=c,c<=100],.ex br λo=>.ex br λr=>.ex Int λz=>.res (.sl bY o .no) (xd r z) [(o.length:Int)=c,lg o],
  [(5,.ex Nat λi=>.ex br λo=>.ex br λr=>.ex Int λz=>.st {sl:=[(6,.sl bY o (.iT 1)),(7,aV i)],pl:=[(0,xd r z)],own:=[(3,1)],cQ:=[(i:Int)<=c,o.length=i,lg o],m:=c.toNat-i})])
 |_,_=>none
theorem v44:VC T3 Tryz.f87 [some bC] [some bC,some (.int .u64)] D44:=by
 refine lN λa cs=>?_;unfold D44;split
 rotate_left
 trivial;rename_i c r z;intro hp;obtain⟨h1,h2,-⟩:=hp;refine jx (A:=(7:Int)<=1000/\(-10000:Int)<=7/\∀(a:Int)(x:br)(w:Int),0<=a->a<=7\/a=0->0<3/\3<=1000/\∀(u:Int)(i:br)(h:Int),u∈[(0:Int),(2:Int),a]->(∃(a:Nat),∃(y:br),∃(m:br),∃(r:Int),[]=y/\0=(↑a:Int)/\i=m/\h=r/\(↑a:Int)<=c/\y.length=a/\lg y/\c.toNat-a<1000000)/\∀(a:Nat)(y m:br)(r:Int),(↑a:Int)<=c->y.length=a->lg y->aB (decide ((↑a:Int)<c)) (0<4/\4<=1000/\∀(z:Int)(s:br)(n:Int),z∈[(0:Int),(0:Int),(1:Int),(2:Int)]->cR (u+z)/\y.length+1<=1000000000/\cR ((↑a:Int)+1)/\∃(v:Nat),∃(t:br),∃(k:br),∃(j:Int),c=c/\ng bY.den/\u=u/\y++[u+z]=t/\(↑a:Int)+1=(↑v:Int)/\s=k/\n=j/\(↑v:Int)<=c/\t.length=v/\lg t/\c.toNat-v<c.toNat-a) (∃(a:br),∃(z:br),∃(s:Int),y=a/\m=z/\r=s/\(↑a.length:Int)=c/\lg a/\True)) (by kernel_rfl) ?_;simp only[bP,cH,dg,ek,eW,cR,and_true,true_and,eq_self];refine⟨ab,ab,λk1 r1 z1 h3 h4=>⟨ab,ab,λk2 r2 z2 h5=>?_⟩⟩;have h6:0<=k2/\k2<=7:=by simp at h5;omega
 refine⟨⟨0,[],r2,z2,rfl,rfl,rfl,rfl,h1,rfl,by simp[lg],ab⟩,λi o r3 z3 h6 h7 h8=>⟨λh9=>⟨ab,ab,λk4 r4 z4 uG=>?_⟩,λh9=>⟨_,_,_,rfl,rfl,rfl,ab,h8⟩⟩⟩;have Ig:0<=k4/\k4<=2:=by simp at uG;omega
 exact⟨ab,ab,ab,i+1,_,_,_,rfl,ab,rfl,rfl,ab,by simp[h7],MC h8 ab,ab⟩
def D47:cp->cp->Dn
 |[.ptr 0 0],[.sl (.int .i64) _ .no,.val (.int .u64 _)]=>some ([],.ex br λo=>.ex br λr=>.ex Int λz=>.res (.sl bY o .no) (xd r z) [o≠[],∀x∈o,0<=x/\x<=3,o.Pairwise (·<·)],
  [(4,.ex Nat λi=>.ex br λo=>.ex br λr=>.ex Int λz=>.st {sl:=[(3,.sl bY o (.iT 1)),(4,aV i)],pl:=[(0,xd r z)],own:=[(3,1)],cQ:=[i<=4,o.length<=i,∀x∈o,0<=x/\x<i,o.Pairwise (·<·)],m:=4-i})])
 |_,_=>none
theorem v47:VC T3 Tryz.f88 [some bC] [some bC,some (.int .u64)] D47:=by
 refine lN λa cs=>?_;unfold D47;split
 rotate_left
 trivial;rename_i r z;intro hp;refine jx (A:=(∃(a:Nat),∃(y:br),∃(n:br),∃(k:Int),[]=y/\0=(↑a:Int)/\r=n/\z=k/\a<=4/\y.length<=a/\(∀(x:Int),x∈y->0<=x/\x<(↑a:Int))/\List.Pairwise (λ(x1 x2:Int)=>x1<x2) y/\4-a<1000000)/\∀(a:Nat)(y n:br)(k:Int),a<=4->y.length<=a->(∀(x:Int),x∈y->0<=x/\x<(↑a:Int))->List.Pairwise (λ(x1 x2:Int)=>x1<x2) y->aB (decide ((↑a:Int)<=3)) ((2:Int)<=1000/\(0:Int)<=2/\∀(s:Bool)(t:Int)(j:br)(i:Int),aB s (y.length+1<=1000000000/\cR ((↑a:Int)+1)/\∃(u:Nat),∃(v:br),∃(w:br),∃(m:Int),ng bY.den/\y++[(↑a:Int)]=v/\(↑a:Int)+1=(↑u:Int)/\j=w/\i=m/\u<=4/\v.length<=u/\(∀(x:Int),x∈v->0<=x/\x<(↑u:Int))/\List.Pairwise (λ(x1 x2:Int)=>x1<x2) v/\4-u<4-a) (cR ((↑a:Int)+1)/\∃(u:Nat),∃(v:br),∃(w:br),∃(m:Int),ng bY.den/\y=v/\(↑a:Int)+1=(↑u:Int)/\j=w/\i=m/\u<=4/\v.length<=u/\(∀(x:Int),x∈v->0<=x/\x<(↑u:Int))/\List.Pairwise (λ(x1 x2:Int)=>x1<x2) v/\4-u<4-a)) (aB ((↑y.length:Int)==0) ((3:Int)<=1000/\(-10000:Int)<=3/\∀(a:Int)(s:br)(t:Int),0<=a->a<=3\/a=0->∃(u:br),∃(v:br),∃(w:Int),[a]=u/\s=v/\t=w/\u≠[]/\(∀(x:Int),x∈u->0<=x/\x<=3)/\List.Pairwise (λ(x1 x2:Int)=>x1<x2) u/\True) (∃(a:br),∃(s:br),∃(t:Int),y=a/\n=s/\k=t/\a≠[]/\(∀(x:Int),x∈a->0<=x/\x<=3)/\List.Pairwise (λ(x1 x2:Int)=>x1<x2) a/\True))) (by kernel_rfl) ?_;simp only[bP,cH,dg,ek,eW,cR,and_true,true_and,eq_self];refine⟨⟨0,[],_,_,rfl,rfl,rfl,rfl,ab,ae,ae,ae,ab⟩,λi o r1 z1 h1 h2 h3 h4=>⟨λh5=>⟨ab,ab,λb _ r2 z2=>?_⟩,λh5=>⟨λh6=>⟨ab,ab,λk r2 z2 h7 h8=>⟨_,_,_,rfl,rfl,rfl,ae,by simp;omega,ae⟩⟩,λh6=>⟨_,_,_,rfl,rfl,rfl,λe=>h6 (by rw[e];rfl),λx hx=>by have:=h3 x hx;omega,h4⟩⟩⟩⟩;rw[gZ];exact⟨λ_=>⟨ab,ab,i+1,_,_,_,rfl,ab,rfl,rfl,ab,by simp;omega,MC (λx hx=>by have:=h3 x hx;omega) ab,Zj h4 (λx hx=>(h3 x hx).2),ab⟩,λ_=>⟨ab,i+1,_,_,_,rfl,ab,rfl,rfl,ab,ab,λx hx=>by have:=h3 x hx;omega,h4,ab⟩⟩
def D78:cp->Dn
 |[.sl (.int .i64) l .no,.val (.int .i64 eU)]=>some ([l.length<=1000],.res (kR (l.all (pJ eU))) [] [],[])
 |_=>none
theorem v78:VI T3 Tryz.f90 [some .bool] D78:=by
 refine dH λa=>?_;unfold D78;split
 rotate_left
 trivial;rename_i l eU;intro hp;have h1:=hp.1;refine jx (A:=l.length<=1000/\(!!l.all (pJ eU))=l.all (pJ eU)/\True) (by kernel_rfl) ?_;exact⟨h1,Bool.not_not _,trivial⟩
def T4:eM:=((T3.mB 87 λa c=>dS (D44 a c)).mB 88 λa c=>dS (D47 a c)).cG 90 λa=>dS (D78 a)
section
variable {bI:b9} (tk:CX bI)
include tk
theorem Vz:ic bI 1 T1b:=mg tk (dN tk) an Tryz.func78 rfl v60 (mkN tk (dN tk) an Tryz.func13 rfl v11 (FD (dN tk) Tryz.func58 rfl v81 (Vc tk)))
theorem FP:ic bI 2 T2:=mg tk (Vz tk) an Tryz.func103 rfl v65 (FD (Vc tk) Tryz.func132 rfl v109 (mg tk (Vc tk) an Tryz.func81 rfl v16 (FD (Vz tk) Tryz.func15 rfl v46 (fU (Vz tk)))))
theorem Vb:ic bI 3 T3:=FD (FP tk) Tryz.func120 rfl v96 (FD (FP tk) Tryz.func69 rfl v45 (FD (FP tk) Tryz.func67 rfl v27 (FD (FP tk) Tryz.func70 rfl v19 (fU (FP tk)))))
theorem adT:ic bI 4 T4:=mg tk (Vb tk) an Tryz.func90 rfl v78 (FD (Vb tk) Tryz.func88 rfl v47 (FD (Vb tk) Tryz.func87 rfl v44 (fU (Vb tk))))
end
end Go.Tv
