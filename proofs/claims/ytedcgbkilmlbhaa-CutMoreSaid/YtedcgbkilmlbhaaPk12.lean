import Derived.Test.YtedcgbkilmlbhaaPk11
set_option maxHeartbeats 1000000
set_option maxRecDepth 100000
namespace Go.Tv
open Go Go.Di Go.Proofs
theorem oQ{l:List Int}{i:Nat}(h:i<l.length):l.getD i 0=l[i]:=by simp[aP,h]
theorem take_one{l:List Int}{i:Nat}(h:i<l.length):l.take (i+1)=l.take i++[l.getD i 0]:=by rw[oQ h,List.take_append_getElem]
theorem drop_one{l:List Int}{i:Nat}(h:i<l.length):(l.drop (i+1)).reverse++[l.getD i 0]=(l.drop i).reverse:=by rw[oQ h,qP h,List.reverse_cons]
theorem qd{l:List Int}{i:Nat}(h:i<l.length):l.getD i 0∈l:=by rw[oQ h];exact sU _
def uM(l:List Int)(x:Int):Int:=if x∈l then(l.idxOf x:Int)else-1
theorem Sg{l:List Int}{x:Int}{i:Nat}(h:i<l.length)(h1:x∉l.take i)(h2:l.getD i 0=x):uM l x=i:=by
 have hm:x∈l:=by rw[<-h2];exact qd h
 have e:l=l.take i++x::l.drop (i+1):=by rw[<-h2,oQ h,<-qP h,List.take_append_drop]
 rw[uM,if_pos hm];congr 1
 conv=>lhs;rw[e]
 rw[List.idxOf_append,if_neg h1,List.idxOf_cons_self,List.length_take];omega
abbrev Cw(rest:List Int)(last:Int):List TV:=[.sl cS rest .no,.val (.int .u64 last)]
theorem AG(n:Int):IntKind.u64.wrap n=n % 18446744073709551616:=by simp[IntKind.wrap,IntKind.bits,IntKind.signed]
theorem u64_in(n:Int):0<=IntKind.u64.wrap n/\IntKind.u64.wrap n<18446744073709551616:=by rw[AG];omega
theorem Vz(a:Int):a.fdiv 4294967296=a/4294967296:=Int.fdiv_eq_ediv_of_nonneg _ (by omega)
theorem ab2{x n:Int}(h:IntKind.u64.wrap n=x):0<=x.fdiv 4294967296/\x.fdiv 4294967296<4294967296:=by have:=u64_in n;rw[Vz,<-h];omega
theorem abp{k m:Int}(hm:m<=1000)(h0:0<m)(hk:0<=k)(pG:k<4294967296):0<=IntKind.i64.wrap ((IntKind.u64.wrap (k*IntKind.u64.wrap (m+1))).fdiv 4294967296)/\(IntKind.i64.wrap ((IntKind.u64.wrap (k*IntKind.u64.wrap (m+1))).fdiv 4294967296)<=m\/IntKind.i64.wrap ((IntKind.u64.wrap (k*IntKind.u64.wrap (m+1))).fdiv 4294967296)=0):=by have h1:k*(m+1)<=4294967295*(m+1):=abj (by omega) (by omega);have h2:0<=k*(m+1):=Int.mul_nonneg hk (by omega);rw[AG (m+1),Int.emod_eq_of_lt (a:=m+1) (by omega) (by omega),Vz,AG];generalize k*(m+1)=p at*;rw[Int.emod_eq_of_lt (by omega) (by omega),Dv (by omega) (by omega)];omega
theorem LC{α:Type}{P:α->Prop}{l:List α}{a:α}(h:∀x∈l,P x)(ha:P a):∀x∈l++[a],P x:=by
 intro x hx;rcases eY.1 hx with hx|hx;.exact h x hx
 rw[bI.1 hx];exact ha
theorem X0{l:List Int}{a:Int}(h:l.Pairwise (·<·))(ha:∀x∈l,x<a):(l++[a]).Pairwise (·<·):=by rw[List.pairwise_append];exact⟨h,List.pairwise_singleton _ _,λx hx y hy=>by rw[bI.1 hy];exact ha x hx⟩
theorem FQ{f:Int->Int}{l:List Int}{i:Nat}(h:i<l.length):(l.take i).map f++[f (l.getD i 0)]=(l.take (i+1)).map f:=by rw[take_one h,dY];rfl
abbrev pcV(u l:List Int)(w:Int)(ls:List Int):TV:=.agg [.sl cS u .no,.sl cS l .no,bp w,.sl cS ls .no]
abbrev Num(u l:List Int)(w:Int):Prop:=3<=u.length/\u.length<=8/\l.length=u.length/\0<=w/\w<=2
structure Ok (u l:List Int) (w:Int) (ls:List Int):Prop where
 n3:3<=u.length
 n8:u.length<=8
 len:l.length=u.length
 hu:∀x∈u,0<=x/\x<=9
 hl:∀x∈l,0<=x/\x<=9
 w0:0<=w
 w2:w<=2
 ne:ls≠[]
 Mc:∀x∈ls,0<=x/\x<=3
 asc:ls.Pairwise (·<·)
def iZ(a b:Int):Int:=IntKind.i64.wrap ((BitVec.ofInt 64 a^^^BitVec.ofInt 64 b).toNat:Int)
def mQ(y:Int)(ls:List Int)(i:Nat):List Int:=((List.range i).map Int.ofNat).filter λx=>decide (iZ x y∈ls)
theorem Se{y:Int}{ls:List Int}{i:Nat}(h:iZ i y∈ls):mQ y ls i++[(i:Int)]=mQ y ls (i+1):=by simp[mQ,eR,mC,h]
theorem Xv{y:Int}{ls:List Int}{i:Nat}(h:¬iZ i y∈ls):mQ y ls i=mQ y ls (i+1):=by simp[mQ,eR,mC,h]
theorem Sf(y:Int)(ls:List Int)(i:Nat):(mQ y ls i).length<=i:=by unfold mQ;refine bD (vP _ _) ?_;simp
def tY(eL x:Int):Bool:=decide (0<=x/\x<=eL)
theorem abh{eL:Int}{l:List Int}{i:Nat}(h:i<l.length)(h1:(l.take i).all (tY eL)=true)(h2:tY eL (l.getD i 0)=true):(l.take (i+1)).all (tY eL)=true:=by rw[take_one h,oV,h1,cG,h2];rfl
theorem aao{eL:Int}{l:List Int}{i:Nat}(h:i<l.length)(h2:tY eL (l.getD i 0)=false):l.all (tY eL)=false:=by refine Bool.eq_false_iff.2 λh1=>?_;rw[aX.1 h1 _ (qd h)]at h2;cases h2
def oI(ls:List Int)(i:Nat):Int:=if i<ls.length then(if ls.getD i 0<0\/3<ls.getD i 0 then 8 else if 0<i/\ls.getD i 0<=ls.getD (i-1) 0 then 5 else oI ls (i+1))else 0
 termination_by ls.length-i
def uf(u l:List Int)(w:Int)(ls:List Int):Int:=
 if u.length<3 then 7 else if 8<u.length then 6 else if l.length<u.length then 7 else if u.length<l.length then 6
 else if u.all (tY 9)=false\/l.all (tY 9)=false\/w<0\/2<w then 1 else if ls.length=0 then 7 else oI ls 0
theorem Ut{ls:List Int}{i:Nat}(h:i<ls.length)(h1:ls.getD i 0<0\/3<ls.getD i 0):oI ls i=8:=by rw[oI,if_pos h,if_pos h1]
theorem abN{ls:List Int}{i:Nat}(h:i<ls.length)(h1:¬(ls.getD i 0<0\/3<ls.getD i 0))(h2:0<i/\ls.getD i 0<=ls.getD (i-1) 0):oI ls i=5:=by rw[oI,if_pos h,if_neg h1,if_pos h2]
theorem Eg{ls:List Int}{i:Nat}(h:i<ls.length)(h1:¬(ls.getD i 0<0\/3<ls.getD i 0))(h2:¬(0<i/\ls.getD i 0<=ls.getD (i-1) 0)):oI ls i=oI ls (i+1):=by
 conv=>lhs;rw[oI]
 rw[if_pos h,if_neg h1,if_neg h2]
theorem abO{ls:List Int}{i:Nat}(h:¬i<ls.length):oI ls i=0:=by rw[oI,if_neg h]
theorem aa9{u l:List Int}{w:Int}{ls:List Int}(h1:¬u.length<3)(h2:¬8<u.length)(h3:¬l.length<u.length)(h4:¬u.length<l.length)(h5:(!u.all (tY 9))=false)(h6:(!l.all (tY 9))=false)(h7:¬w<0)(h8:¬2<w)(h9:ls.length≠0):uf u l w ls=oI ls 0:=by simp only[Bool.not_eq_eq_eq_not,vL]at h5 h6;rw[uf,if_neg h1,if_neg h2,if_neg h3,if_neg h4,if_neg (by rw[h5,h6];simp[h7,h8]),if_neg h9]
abbrev PD:Type:=aU.den
abbrev pd(u l:List Int)(w:Int)(ls:List Int):PD:=(u,l,w,ls,())
def QX(p:PD):Int:=uf p.1 p.2.1 p.2.2.1 p.2.2.2.1
def jT:List PD->Int
 |[]=>0
 |p::l=>if QX p≠0 then QX p else jT l
theorem Ce{l m:List PD}(h:jT l=0):jT (l++m)=jT m:=by
 induction l with
 |nil=>rfl
 |cons p l ih=>
  simp only[jT]at h⊢;split at h;.rename_i h1;exact(h1 h).elim
  rename_i h1;simp only[nH,jT,if_neg h1];exact ih h
theorem aba{l:List PD}{i:Nat}{d:PD}(h:i<l.length)(h1:jT (l.take i)=0)(h2:QX (l.getD i d)≠0):jT l=QX (l.getD i d):=by
 have e:l.getD i d=l[i]:=by simp[aP,h]
 rw[e]at h2⊢
 conv=>lhs;rw[<-List.take_append_drop i l,qP h]
 rw[Ce h1,jT,if_pos h2]
theorem XT{l:List PD}{i:Nat}{d:PD}(h:i<l.length)(h1:jT (l.take i)=0)(h2:QX (l.getD i d)=0):jT (l.take (i+1))=0:=by
 have e:l.getD i d=l[i]:=by simp[aP,h]
 rw[e]at h2;rw[<-List.take_append_getElem h,Ce h1,jT,if_neg (by simp[h2])];rfl
def gv(p:PD):Prop:=p.1.length<=1000/\p.2.1.length<=1000/\p.2.2.2.1.length<=1000
theorem uX{P:PD->Prop}{l:List PD}{i:Nat}{d:PD}(h:i<l.length)(hl:∀p∈l,P p):P (l.getD i d):=by
 have e:l.getD i d=l[i]:=by simp[aP,h]
 rw[e];exact hl _ (sU _)
abbrev edV(u l:List Int):TV:=.agg [.sl cS u .no,.sl cS l .no]
def ya(l:List Int):Prop:=∀x∈l,0<=x/\x<=9
theorem Ir{l:List Int}{i:Nat}(h:ya l)(hi:i<l.length):0<=l.getD i 0/\l.getD i 0<=9:=h _ (qd hi)
def lT(la ub:List Int)(s:Int):Nat->List Int
 |0=>[]
 |i+1=>if 0<=(i:Int)+s/\(i:Int)+s<la.length then lT la ub s i++[ub.getD i 0+la.getD ((i:Int)+s).toNat 0]else lT la ub s i
def X4(st:Int×Int×Int)(x:Int):Int×Int×Int:=(if x<(if st.2.2=0 then x else st.1)then x else(if st.2.2=0 then x else st.1),if x>(if st.2.2=0 then x else st.2.1)then x else(if st.2.2=0 then x else st.2.1),st.2.2+1)
def xb(l:List Int):Int×Int×Int:=l.foldl X4 (0,0,0)
theorem V9{l:List Int}{lo hi m x:Int}(h:xb l=(lo,hi,m))(h0:m=0):xb (l++[x])=(if x<x then x else x,if x>x then x else x,m+1):=by subst h0;rw[xb,jY,<-xb,h];rfl
theorem Rj{l:List Int}{lo hi m x:Int}(h:xb l=(lo,hi,m))(h0:m≠0):xb (l++[x])=(if x<lo then x else lo,if x>hi then x else hi,m+1):=by rw[xb,jY,<-xb,h];simp only[gp,List.foldl_nil,X4,if_neg h0]
theorem Hr{la ub:List Int}{s:Int}(h:s<=-(ub.length:Int)\/(la.length:Int)<=s):lT la ub s ub.length=[]:=by
 have key:∀i,i<=ub.length->lT la ub s i=[]:=by
  intro i;induction i with
  |zero=>intro _;rfl
  |succ i ih=>intro hi;rw[lT,if_neg (by omega)];exact ih (by omega)
 exact key _ (ak _)
abbrev stA(la ub:List Int)(s:Int):Int×Int×Int:=xb (lT la ub s ub.length)
def DF(la ub:List Int)(cL s:Int):Bool:=decide (3<=(xb (lT la ub s ub.length)).2.2/\(xb (lT la ub s ub.length)).2.1-(xb (lT la ub s ub.length)).1<=cL)
def Bj(la ub:List Int)(cL:Int)(k:Nat):List Int:=((List.range k).map λ(j:Nat)=>(j:Int)-(ub.length:Int)).filter (DF la ub cL)
theorem ZW{la ub:List Int}{cL:Int}{k:Nat}(h:DF la ub cL ((k:Int)-(ub.length:Int))=true):Bj la ub cL k++[(k:Int)-(ub.length:Int)]=Bj la ub cL (k+1):=by simp[Bj,eR,mC,h]
theorem U5{la ub:List Int}{cL:Int}{k:Nat}(h:DF la ub cL ((k:Int)-(ub.length:Int))=false):Bj la ub cL k=Bj la ub cL (k+1):=by simp[Bj,eR,mC,h]
theorem ZX(la ub:List Int)(cL:Int)(k:Nat):(Bj la ub cL k).length<=k:=by unfold Bj;refine bD (vP _ _) ?_;simp
theorem ad7{l:List Int}(h:∀x∈l,0<=x/\x<=18):0<=(xb l).1/\(xb l).1<=18/\0<=(xb l).2.1/\(xb l).2.1<=18/\0<=(xb l).2.2:=by
 have key:∀(l:List Int)(st:Int×Int×Int),(∀x∈l,0<=x/\x<=18)->(0<=st.1/\st.1<=18/\0<=st.2.1/\st.2.1<=18/\0<=st.2.2)->0<=(l.foldl X4 st).1/\(l.foldl X4 st).1<=18/\0<=(l.foldl X4 st).2.1/\(l.foldl X4 st).2.1<=18/\0<=(l.foldl X4 st).2.2:=by
  intro l;induction l with
  |nil=>intro st _ h;exact h
  |cons x l ih=>intro st hx h;have h1:=hx x (by simp);refine ih _ (λy hy=>hx y (by simp[hy])) ?_;obtain⟨a,b,c⟩:=st;simp only[X4]at h⊢;refine⟨?_,?_,?_,?_,?_⟩<;>(repeat' split)<;>omega
 exact key l _ h (by simp)
theorem Jb{la ub:List Int}{s:Int}(h1:ya la)(h2:ya ub):∀i,i<=ub.length->∀x∈lT la ub s i,0<=x/\x<=18
 |0,_,x,hx=>by cases hx
 |i+1,hi,x,hx=>by
  rw[lT]at hx;split at hx
  .rename_i hc;rcases eY.1 hx with hx|hx;.exact Jb h1 h2 i (by omega) x hx
   rw[bI]at hx;have k1:=Ir h2 (i:=i) (by omega);have k2:=Ir h1 (i:=((i:Int)+s).toNat) (by omega);omega
  exact Jb h1 h2 i (by omega) x hx
theorem ad8{la ub:List Int}(s:Int)(h1:ya la)(h2:ya ub):0<=(stA la ub s).1/\(stA la ub s).1<=18/\0<=(stA la ub s).2.1/\(stA la ub s).2.1<=18/\0<=(stA la ub s).2.2:=ad7 (Jb h1 h2 _ (ak _))
theorem C0{m:Int}{l:List Int}:l.all (tY m)=true↔∀x∈l,0<=x/\x<=m:=by simp[tY]
theorem G0{ls:List Int}:∀(n i:Nat),ls.length-i=n->(oI ls i=0↔∀j,i<=j->j<ls.length->(0<=ls.getD j 0/\ls.getD j 0<=3)/\(0<j->ls.getD (j-1) 0<ls.getD j 0)):=by
 intro n;induction n with
 |zero=>intro i h;rw[abO (by omega)];exact⟨λ_ j h1 h2=>by omega,λ_=>rfl⟩
 |succ n ih=>
  intro i h;by_cases h1:ls.getD i 0<0\/3<ls.getD i 0;.rw[Ut (by omega) h1];exact⟨λe=>by omega,λe=>by have:=(e i (ak _) (by omega)).1;omega⟩
  by_cases h2:0<i/\ls.getD i 0<=ls.getD (i-1) 0;.rw[abN (by omega) h1 h2];exact⟨λe=>by omega,λe=>by have:=(e i (ak _) (by omega)).2 h2.1;omega⟩
  rw[Eg (by omega) h1 h2,ih (i+1) (by omega)];refine⟨λe j hj wv=>?_,λe j hj wv=>e j (by omega) wv⟩;by_cases Ou:j=i;.subst Ou;exact⟨by omega,λh3=>by omega⟩
  exact e j (by omega) wv
theorem ae2{ls:List Int}(h:∀j,0<j->j<ls.length->ls.getD (j-1) 0<ls.getD j 0):ls.Pairwise (·<·):=by
 rw[List.pairwise_iff_getElem];have key:∀j i,i<j->(hj:j<ls.length)->ls.getD i 0<ls.getD j 0:=by
  intro j;induction j with
  |zero=>intro i hi;omega
  |succ j ih=>
   intro i hi hj;have h1:=h (j+1) (by omega) hj;simp only[Nat.add_sub_cancel]at h1;by_cases e:i=j;.subst e;exact h1
   have:=ih i (by omega) (by omega);omega
 intro i j hi hj Ou;have:=key j i Ou hj
 rwa [oQ hi,oQ hj]at this
theorem aeu{ls:List Int}(h:ls.Pairwise (·<·)){j:Nat}(h0:0<j)(hj:j<ls.length):ls.getD (j-1) 0<ls.getD j 0:=by rw[List.pairwise_iff_getElem]at h;rw[oQ hj,oQ (by omega)];exact h _ _ _ _ (by omega)
theorem VH{u l:List Int}{w:Int}{ls:List Int}:uf u l w ls=0↔Ok u l w ls:=by
 unfold uf;constructor
 .intro h;split at h;omega
  split at h;omega
  split at h;omega
  split at h;omega
  split at h;omega
  split at h;omega
  rename_i h1 h2 h3 h4 h5 h6;simp only[not_or,Bool.not_eq_false]at h5;have hz:=(G0 _ 0 rfl).1 h;refine⟨by omega,by omega,by omega,C0.1 h5.1,C0.1 h5.2.1,by omega,by omega,λe=>h6 (by rw[e];rfl),λx hx=>?_,ae2 λj hj wv=>(hz j (kT _) wv).2 hj⟩;obtain⟨j,hj,rfl⟩:=List.getElem_of_mem hx;have:=(hz j (kT _) hj).1
  rwa [oQ hj]at this
 intro h;have h1:=h.n3;have h2:=h.n8;have h3:=h.len;have h4:=h.w0;have h5:=h.w2;have h6:ls.length≠0:=λe=>h.ne (eS e);rw[if_neg (by omega),if_neg (by omega),if_neg (by omega),if_neg (by omega),if_neg (by rw[C0.2 h.hu,C0.2 h.hl];simp;omega),if_neg h6];exact(G0 _ 0 rfl).2 λj _ hj=>⟨h.Mc _ (qd hj),λh0=>aeu h.asc h0 hj⟩
def Sh(u l ls:List Int):Prop:=u.length<=1000/\l.length<=1000/\ls.length<=1000
def ai0(la ub:List Int)(wa wb s:Int):VL.den:=((xb (lT la ub s ub.length)).2.1,(xb (lT la ub s ub.length)).1+wa+wb,())
theorem abu{u l:List Int}{w:Int}{ls:List Int}(h:Ok u l w ls):Sh u l ls:=by
 refine⟨by have:=h.n8;omega,by have:=h.n8;have:=h.len;omega,?_⟩;have key:∀(ls:List Int)(m:Int),m<=4->(∀x∈ls,m<=x/\x<=3)->ls.Pairwise (·<·)->(ls.length:Int)<=4-m:=by
  intro ls;induction ls with
  |nil=>intro m hm _ _;simp;omega
  |cons x ls ih=>intro m hm h1 h2;rw[List.pairwise_cons]at h2;have h3:=h1 x (by simp);have:=ih (x+1) (by omega) (λy hy=>⟨by have:=h2.1 y hy;omega,(h1 y (by simp[hy])).2⟩) h2.2;simp only[dN];omega
 have:=key ls 0 (by omega) h.Mc h.asc;omega
def aiB(la ub:List Int)(s:Int)(i:Nat):Option Int:=if 0<=(i:Int)+s/\(i:Int)+s<la.length then some (ub.getD i 0+la.getD ((i:Int)+s).toNat 0)else none
def js(n:Int)(u l:List Int):List Int:=if n=1 then l.reverse else if n=2 then u.reverse else if n=3 then l else u
def jv(n:Int)(u l:List Int):List Int:=if n=1 then u.reverse else if n=2 then l.reverse else if n=3 then u else l
theorem W9{l a l1:List Int}{w:Int}{ls:List Int}(h:Ok a l1 w ls)(hn:l1.length=l.length)(hl:ya l):Ok (l.map (9-·)) l1 w ls where
 n3:=by have:=h.n3;have:=h.len;simp;omega
 n8:=by have:=h.n8;have:=h.len;simp;omega
 len:=by simp;omega
 hu:=λx hx=>by simp only[dM]at hx;obtain⟨y,hy,rfl⟩:=hx;have:=hl y hy;omega
 hl:=h.hl
 w0:=h.w0
 w2:=h.w2
 ne:=h.ne
 Mc:=h.Mc
 asc:=h.asc
def aiY(la ub:List Int)(w s:Int):Int×Int×Int:=if(stA la ub s).2.2<3 then(0,0,7)else if(stA la ub s).2.1-(stA la ub s).1>w then(0,0,11)else((stA la ub s).2.1,(stA la ub s).1+w,0)
end Go.Tv
namespace Go.Tv
open Go Go.Di Go.Proofs
def D53:List TV->Dn
 |[.sl (.int .i64) l .no,.val (.int .i64 x)]=>some ([l.length<=1000],.res (iD (decide (x∈l))) [] [],[(3,.ex Nat λi=>.st {sl:=[(5,bp i)],cO:=[i<=l.length,x∉l.take i],m:=l.length-i})])
 |_=>none
theorem v53:VI T0 Try.f35 [some .bool] D53:=by
 refine gT λa=>?_;unfold D53;split
 rotate_left
 .trivial
 rename_i l x;intro hp;have h1:=hp.1;refine pE (A:=(∃(a:Nat),0=(↑a:Int)/\a<=l.length/\¬x∈List.take a l/\l.length-a<1000000)/\∀(a:Nat),a<=l.length->¬x∈List.take a l->aS (decide ((↑a:Int)<(↑l.length:Int))) ((0<=(↑a:Int)/\(↑a:Int)<(↑l.length:Int))/\aS (l.getD a 0==x) (true=decide (x∈l)/\True) (dw ((↑a:Int)+1)/\∃(y:Nat),l=l/\x=x/\(↑a:Int)+1=(↑y:Int)/\y<=l.length/\¬x∈List.take y l/\l.length-y<l.length-a)) (false=decide (x∈l)/\True)) (by kernel_rfl) ?_;simp only[ek,fe,fS,ij,iz,dw,and_true,true_and,eq_self];refine⟨⟨0,by omega,by omega,by simp,by omega⟩,λi h2 h3=>⟨λh4=>⟨by omega,λh5=>?_,λh5=>⟨by omega,i+1,by omega,by omega,?_,by omega⟩⟩,λh4=>?_⟩⟩;· rw[eF];rw[<-h5];exact qd (by omega)
 .rw[take_one (by omega)];simp only[eY,bI,not_or];exact⟨h3,λe=>h5 e.symm⟩
 rw[show i=l.length by omega,iH]at h3;rw[jl h3]
def D52:List TV->Dn
 |[.sl (.int .i64) l .no]=>some ([l.length<=1000],.res (.sl cS l.reverse .no) [] [],[(4,.ex Nat λi=>.st {sl:=[(3,.sl cS ((l.drop i).reverse) (.je 0)),(4,bp ((i:Nat)-1:Int))],own:=[(3,1)],cO:=[i<=l.length],m:=i})])
 |_=>none
theorem v52:VI T0 Try.f34 [some bq] D52:=by
 refine gT λa=>?_;unfold D52;split
 rotate_left
 .trivial
 rename_i l;intro hp;have h1:=hp.1;refine pE (A:=dw ((↑l.length:Int)-1)/\(∃(a:Nat),[]=(List.drop a l).reverse/\(↑l.length:Int)-1=(↑a:Int)-1/\a<=l.length/\a<1000000)/\∀(a:Nat),a<=l.length->aS (decide ((↑a:Int)-1>=0)) ((0<=(↑a:Int)-1/\(↑a:Int)-1<(↑l.length:Int))/\(List.drop a l).reverse.length+1<=1000000000/\dw ((↑a:Int)-1-1)/\∃(x:Nat),l=l/\mU cS.den/\(List.drop a l).reverse++[l.getD ((↑a:Int)-1).toNat (0:Int)]=(List.drop x l).reverse/\(↑a:Int)-1-1=(↑x:Int)-1/\x<=l.length/\x<a) ((List.drop a l).reverse=l.reverse/\True)) (by kernel_rfl) ?_;simp only[ek,fe,fS,ij,iz,dw,and_true,true_and,eq_self];refine⟨by omega,⟨l.length,by simp,by omega,by omega,by omega⟩,λi h2=>⟨λh3=>⟨by omega,by simp;omega,by omega,i-1,?_,by omega,by omega,by omega⟩,λh3=>?_⟩⟩;· obtain⟨j,rfl⟩:∃j,i=j+1:=⟨i-1,by omega⟩;rw[show((j+1:Nat):Int)-1=(j:Int)by omega,Int.toNat_natCast,drop_one (by omega)];rfl
 rw[show i=0 by omega,nG]
def D97:List TV->List TV->Dn
 |[.val (.int .i64 x),.ptr 0 0],[.val (.int .i64 eL)]=>some ([],.res (iD (!tY eL x)) [bp eL] [],[])
 |_,_=>none
theorem v97:VC T0 Try.f103 [some .bool] [some cS] D97:=by
 refine pM λa cs=>?_;unfold D97;split
 rotate_left
 .trivial
 rename_i x eL;intro hp;refine pE (A:=aS (decide (x<0)) (true=!tY eL x/\eL=eL/\True) (decide (x>eL)=!tY eL x/\eL=eL/\True)) (by kernel_rfl) ?_;simp only[ek,fe,fS,ij,iz,dw,and_true,true_and,eq_self];refine⟨λh=>?_,λh=>?_⟩;· rw[tY,jl (by omega)];rfl
 rw[tY,<-decide_not,decide_eq_decide];omega
def T1:eZ:=((T0.dQ 35 λa=>dS (D53 a)).dQ 34 λa=>dS (D52 a)).oJ 103 λa c=>dS (D97 a c)
def adG:List TV->List TV->Dn
 |[.sl (.int .i64) l .no,.fn 103 [] [.ptr 0 0]],[.val (.int .i64 eL)]=>some ([l.length<=1000],.ex Int λk=>.res (bp k) [bp eL] [if l.all (tY eL)then k=-1 else 0<=k],[(3,.ex Nat λi=>.st {sl:=[(8,bp i)],cO:=[i<=l.length,(l.take i).all (tY eL)=true],m:=l.length-i})])
 |_,_=>none
theorem v109:VC T1 Try.f105 [some cS] [some cS] adG:=by
 refine pM λa cs=>?_;unfold adG;split
 rotate_left
 .trivial
 rename_i l eL;intro hp;have h1:=hp.1;refine pE (A:=(∃(a:Nat),0=(↑a:Int)/\a<=l.length/\(List.take a l).all (tY eL)=true/\l.length-a<1000000)/\∀(a:Nat),a<=l.length->(List.take a l).all (tY eL)=true->aS (decide ((↑a:Int)<(↑l.length:Int))) ((0<=(↑a:Int)/\(↑a:Int)<(↑l.length:Int))/\aS (!tY eL (l.getD a 0)) (∃(x:Int),(↑a:Int)=x/\eL=eL/\(if l.all (tY eL)=true then x=(-1:Int)else 0<=x)/\True) (dw ((↑a:Int)+1)/\∃(x:Nat),l=l/\(↑l.length:Int)=(↑l.length:Int)/\(↑a:Int)+1=(↑x:Int)/\eL=eL/\x<=l.length/\(List.take x l).all (tY eL)=true/\l.length-x<l.length-a)) (∃(a:Int),(-1:Int)=a/\eL=eL/\(if l.all (tY eL)=true then a=(-1:Int)else 0<=a)/\True)) (by kernel_rfl) ?_;simp only[ek,fe,fS,ij,iz,dw,and_true,true_and,eq_self];refine⟨⟨0,by omega,by omega,by simp,by omega⟩,λi h2 h3=>⟨λh4=>⟨by omega,?_⟩,λh4=>?_⟩⟩;· rw[mc];refine⟨λh5=>⟨by omega,i+1,by omega,by omega,abh (by omega) h3 h5,by omega⟩,λh5=>⟨_,rfl,?_⟩⟩;rw[aao (i:=i) (by omega) h5];simp
 rw[show i=l.length by omega,iH]at h3;exact⟨_,rfl,by rw[h3];simp⟩
def D16:List TV->Dn
 |[.agg [.sl (.int .i64) u .no,.sl (.int .i64) l .no,.val (.int .i64 w),.sl (.int .i64) ls .no],.val (.int .i64 n)]=>some ([u.length<=1000,l.length<=1000,ls.length<=1000,0<=n,n<=3],.res (pcV (js n u l) (jv n u l) w (mQ n ls 4)) [] [],
  [(2,.ex (List Int) λu1=>.ex (List Int) λl1=>.st {sl:=[(5,.ptr 13 0)],pl:=[(13,[.sl cS u1 .no,.sl cS l1 .no,bp w,.ax])],cO:=[u1=if n=1\/n=3 then l.reverse else u,l1=if n=1\/n=3 then u.reverse else l]}),
   (4,.st {sl:=[(5,.ptr 13 0)],pl:=[(13,[.sl cS (js n u l) .no,.sl cS (jv n u l) .no,bp w,.ax])]}),
   (8,.ex Nat λi=>.st {sl:=[(6,bp i)],pl:=[(13,[.sl cS (js n u l) .no,.sl cS (jv n u l) .no,bp w,.sl cS (mQ n ls i) (.je 14)])],own:=[(3,1)],cO:=[i<=4],m:=4-i})])
 |_=>none
theorem v16:VI T1 Try.f12 [some aU] D16:=by
 refine gT λa=>?_;unfold D16;split
 rotate_left
 .trivial
 rename_i u l w ls n;intro hp;obtain⟨h1,h2,h3,h4,h5,-⟩:=hp;refine pE (A:=0+u.length<=1000000000/\0+l.length<=1000000000/\aS (n==1) (l.length<=1000/\u.length<=1000/\∃(a:List Int),∃(x:List Int),n=n/\u=u/\l=l/\w=w/\ls=ls/\(0:Int)=0/\l.reverse=a/\u.reverse=x/\w=w/\(a=if n=1\/n=3 then l.reverse else u)/\(x=if n=1\/n=3 then u.reverse else l)/\True) (aS (n==3) (l.length<=1000/\u.length<=1000/\∃(a:List Int),∃(x:List Int),n=n/\u=u/\l=l/\w=w/\ls=ls/\(0:Int)=0/\l.reverse=a/\u.reverse=x/\w=w/\(a=if n=1\/n=3 then l.reverse else u)/\(x=if n=1\/n=3 then u.reverse else l)/\True) (∃(a:List Int),∃(x:List Int),n=n/\u=u/\l=l/\w=w/\ls=ls/\(0:Int)=0/\u=a/\l=x/\w=w/\(a=if n=1\/n=3 then l.reverse else u)/\(x=if n=1\/n=3 then u.reverse else l)/\True))/\∀(a x:List Int),(a=if n=1\/n=3 then l.reverse else u)->(x=if n=1\/n=3 then u.reverse else l)->aS (n==2) (a.length<=1000/\x.length<=1000/\n=n/\u=u/\l=l/\w=w/\ls=ls/\(0:Int)=0/\a.reverse=js n u l/\x.reverse=jv n u l/\w=w/\True) (aS (n==3) (a.length<=1000/\x.length<=1000/\n=n/\u=u/\l=l/\w=w/\ls=ls/\(0:Int)=0/\a.reverse=js n u l/\x.reverse=jv n u l/\w=w/\True) (n=n/\u=u/\l=l/\w=w/\ls=ls/\(0:Int)=0/\a=js n u l/\x=jv n u l/\w=w/\True))/\(∃(a:Nat),0=(↑a:Int)/\js n u l=js n u l/\jv n u l=jv n u l/\w=w/\[]=mQ n ls a/\a<=4/\4-a<1000000)/\∀(a:Nat),a<=4->aS (decide ((↑a:Int)<=3)) (ls.length<=1000/\aS (decide (IntKind.i64.wrap (↑(BitVec.ofInt 64 (↑a:Int)^^^BitVec.ofInt 64 n).toNat:Int)∈ls)) ((mQ n ls a).length+1<=1000000000/\dw ((↑a:Int)+1)/\∃(y:Nat),n=n/\(↑a:Int)+1=(↑y:Int)/\u=u/\l=l/\w=w/\ls=ls/\(0:Int)=0/\js n u l=js n u l/\jv n u l=jv n u l/\w=w/\mQ n ls a++[(↑a:Int)]=mQ n ls y/\y<=4/\4-y<4-a) (dw ((↑a:Int)+1)/\∃(y:Nat),n=n/\(↑a:Int)+1=(↑y:Int)/\u=u/\l=l/\w=w/\ls=ls/\(0:Int)=0/\js n u l=js n u l/\jv n u l=jv n u l/\w=w/\mQ n ls a=mQ n ls y/\y<=4/\4-y<4-a)) (js n u l=js n u l/\jv n u l=jv n u l/\w=w/\mQ n ls a=mQ n ls 4/\True)) (by kernel_rfl) ?_;simp only[ek,fe,fS,dw,and_true,true_and,eq_self];refine⟨by omega,by omega,⟨λe=>⟨h2,h1,_,_,rfl,rfl,by simp[e],by simp[e]⟩,λe=>⟨λe1=>⟨h2,h1,_,_,rfl,rfl,by simp[e1],by simp[e1]⟩,λe1=>⟨_,_,rfl,rfl,by simp[e,e1],by simp[e,e1]⟩⟩⟩,?_⟩;rintro _ _ rfl rfl;refine⟨⟨λe=>⟨by split<;>simp_all,by split<;>simp_all,by simp[e,js],by simp[e,jv]⟩,λe=>⟨λe1=>⟨by split<;>simp_all,by split<;>simp_all,by simp[e1,js],by simp[e1,jv]⟩,λe1=>⟨by simp[e,e1,js],by simp[e,e1,jv]⟩⟩⟩,⟨0,rfl,rfl,by omega,by omega⟩,λi hi=>⟨λh=>⟨h3,?_⟩,λh=>by rw[show i=4 by omega]⟩⟩;have hx:=Sf n ls i;change(iZ i n∈ls->_)/\(¬iZ i n∈ls->_);exact⟨λh=>⟨by omega,by omega,i+1,by omega,Se h,by omega,by omega⟩,λh=>⟨by omega,i+1,by omega,Xv h,by omega,by omega⟩⟩
section
variable {bH:bR} (tk:yx bH)
include tk
theorem acz:ko bH 1 T1:=Mb (ic tk) Try.func103 rfl v97 (wu tk (ic tk) (by decide) Try.func34 rfl v52 (wu tk (ic tk) (by decide) Try.func35 rfl v53 (lp (ic tk))))
end
end Go.Tv
namespace Go.Tv
open Go Go.Di Go.Proofs
abbrev Kh(v:Int->TV)(f:Int->List Prop):tC:=.ex Int λk=>.ex (List Int) λr=>.ex Int λz=>.res (v k) (Cw r z) (f k)
def D81:List TV->List TV->Dn
 |[.ptr 0 0],[.sl (.int .i64) _ .no,.val (.int .u64 z)]=>some ([],Kh (λk=>.val (.int .u64 k)) λk=>[0<=k,k<4294967296],[(2,.ex Int λk=>.ex (List Int) λr=>.st {sl:=[(3,.val (.int .u64 k))],pl:=[(0,Cw r z)]})])
 |_,_=>none
theorem v81:VC T0 Try.f55 [some (.int .u64)] [some bq,some (.int .u64)] D81:=by
 refine pM λa cs=>?_;unfold D81;split
 rotate_left
 .trivial
 rename_i r z;intro hp;refine pE (A:=aS (decide ((↑r.length:Int)>0)) (((0:Int)<=0/\0<(↑r.length:Int))/\((0:Int)<=1/\1<=(↑r.length:Int))/\∃(a:Int),∃(x:List Int),(0:Int)=0/\IntKind.u64.wrap (r.getD 0 0)=a/\List.drop 1 r=x/\z=z/\True) (∃(a:Int),∃(x:List Int),(0:Int)=0/\0=a/\r=x/\z=z/\True)/\∀(a:Int)(x:List Int),∃(y:Int),∃(u:List Int),∃(v:Int),(IntKind.u64.wrap (IntKind.u64.wrap (↑(BitVec.ofInt 64 (IntKind.u64.wrap (↑(BitVec.ofInt 64 (IntKind.u64.wrap (IntKind.u64.wrap (IntKind.u64.wrap (z+a)+6364136223846793005)*15074714826142052245))^^^BitVec.ofInt 64 ((IntKind.u64.wrap (IntKind.u64.wrap (IntKind.u64.wrap (z+a)+6364136223846793005)*15074714826142052245)).fdiv (536870912:Int))).toNat:Int))^^^BitVec.ofInt 64 ((IntKind.u64.wrap (↑(BitVec.ofInt 64 (IntKind.u64.wrap (IntKind.u64.wrap (IntKind.u64.wrap (z+a)+6364136223846793005)*15074714826142052245))^^^BitVec.ofInt 64 ((IntKind.u64.wrap (IntKind.u64.wrap (IntKind.u64.wrap (z+a)+6364136223846793005)*15074714826142052245)).fdiv (536870912:Int))).toNat:Int)).fdiv (8589934592:Int))).toNat:Int)*18397679294719823053)).fdiv 4294967296=y/\x=u/\IntKind.u64.wrap (↑(BitVec.ofInt 64 (IntKind.u64.wrap (IntKind.u64.wrap (IntKind.u64.wrap (z+a)+6364136223846793005)*15074714826142052245))^^^BitVec.ofInt 64 ((IntKind.u64.wrap (IntKind.u64.wrap (IntKind.u64.wrap (z+a)+6364136223846793005)*15074714826142052245)).fdiv (536870912:Int))).toNat:Int)=v/\0<=y/\y<4294967296/\True) (by kernel_rfl) ?_;simp only[ek,fe,fS,ij,iz,dw,and_true,true_and,eq_self];refine⟨⟨λh=>⟨by omega,by omega,_,_,rfl,rfl⟩,λh=>⟨_,_,rfl,rfl⟩⟩,λk r1=>⟨_,_,_,rfl,rfl,rfl,(ab2 rfl).1,(ab2 rfl).2⟩⟩
def D11:List TV->Dn
 |[.sl (.int .i64) l .no]=>some ([],.res .unk (Cw l 1) [],[])
 |_=>none
theorem v11:VN T0 Try.f7 [some bq,some (.int .u64)] D11:=by
 refine abm λa=>?_;unfold D11;split
 rotate_left
 .trivial
 rename_i l;intro hp;refine pE (A:=l=l/\(1:Int)=1/\True) (by kernel_rfl) ?_;exact⟨rfl,rfl,trivial⟩
def D60:List TV->Dn
 |[.agg [.sl (.int .i64) ua .no,.sl (.int .i64) la .no],.agg [.sl (.int .i64) ub .no,.sl (.int .i64) lb .no],.val (.int .i64 s)]=>some ([la.length<=1000,ub.length<=1000,ya la,ya ub],.res (.tup [bp (stA la ub s).1,bp (stA la ub s).2.1,bp (stA la ub s).2.2]) [] [],
  [(6,.ex Nat λi=>.ex Int λlo=>.ex Int λhi=>.ex Int λm=>.st {sl:=[(6,bp lo),(7,bp hi),(8,bp m),(29,bp i)],cO:=[i<=ub.length,0<=m,m<=i,xb (lT la ub s i)=(lo,hi,m)],m:=ub.length-i})])
 |_=>none
theorem v60:VI T0 Try.f51 [some cS,some cS,some cS] D60:=by
 refine gT λa=>?_;unfold D60;split
 rotate_left
 .trivial
 rename_i ua la ub lb s;intro hp;obtain⟨h1,h2,h5,h6,-⟩:=hp;refine pE (A:=dw (-(↑ub.length:Int))/\aS (decide (s<=-(↑ub.length:Int))) (0=(stA la ub s).1/\0=(stA la ub s).2.1/\0=(stA la ub s).2.2/\True) (aS (decide (s>=(↑la.length:Int))) (0=(stA la ub s).1/\0=(stA la ub s).2.1/\0=(stA la ub s).2.2/\True) ((∃(a:Nat),∃(x:Int),∃(r:Int),∃(u:Int),0=x/\0=r/\0=u/\0=(↑a:Int)/\a<=ub.length/\0<=u/\u<=(↑a:Int)/\xb (lT la ub s a)=(x,r,u)/\ub.length-a<1000000)/\∀(a:Nat)(x r u:Int),a<=ub.length->0<=u->u<=(↑a:Int)->xb (lT la ub s a)=(x,r,u)->aS (decide ((↑a:Int)<(↑ub.length:Int))) ((0<=(↑a:Int)/\(↑a:Int)<(↑ub.length:Int))/\dw ((↑a:Int)+s)/\aS (decide ((↑a:Int)+s<0)) (dw ((↑a:Int)+1)/\∃(y:Nat),∃(w:Int),∃(v:Int),∃(z:Int),s=s/\x=w/\r=v/\u=z/\ub=ub/\(↑ub.length:Int)=(↑ub.length:Int)/\(↑a:Int)+1=(↑y:Int)/\ua=ua/\la=la/\ub=ub/\lb=lb/\y<=ub.length/\0<=z/\z<=(↑y:Int)/\xb (lT la ub s y)=(w,v,z)/\ub.length-y<ub.length-a) (aS (decide ((↑a:Int)+s>=(↑la.length:Int))) (dw ((↑a:Int)+1)/\∃(y:Nat),∃(w:Int),∃(v:Int),∃(z:Int),s=s/\x=w/\r=v/\u=z/\ub=ub/\(↑ub.length:Int)=(↑ub.length:Int)/\(↑a:Int)+1=(↑y:Int)/\ua=ua/\la=la/\ub=ub/\lb=lb/\y<=ub.length/\0<=z/\z<=(↑y:Int)/\xb (lT la ub s y)=(w,v,z)/\ub.length-y<ub.length-a) ((0<=(↑a:Int)+s/\(↑a:Int)+s<(↑la.length:Int))/\dw (ub.getD a 0+la.getD ((↑a:Int)+s).toNat (0:Int))/\aS (u==0) (dw (u+1)/\dw ((↑a:Int)+1)/\∃(y:Nat),∃(w:Int),∃(v:Int),∃(z:Int),s=s/\(if ub.getD a 0+la.getD ((↑a:Int)+s).toNat 0<ub.getD a 0+la.getD ((↑a:Int)+s).toNat (0:Int)then ub.getD a 0+la.getD ((↑a:Int)+s).toNat (0:Int)else ub.getD a 0+la.getD ((↑a:Int)+s).toNat (0:Int))=w/\(if ub.getD a 0+la.getD ((↑a:Int)+s).toNat 0>ub.getD a 0+la.getD ((↑a:Int)+s).toNat (0:Int)then ub.getD a 0+la.getD ((↑a:Int)+s).toNat (0:Int)else ub.getD a 0+la.getD ((↑a:Int)+s).toNat (0:Int))=v/\u+1=z/\ub=ub/\(↑ub.length:Int)=(↑ub.length:Int)/\(↑a:Int)+1=(↑y:Int)/\ua=ua/\la=la/\ub=ub/\lb=lb/\y<=ub.length/\0<=z/\z<=(↑y:Int)/\xb (lT la ub s y)=(w,v,z)/\ub.length-y<ub.length-a) (dw (u+1)/\dw ((↑a:Int)+1)/\∃(y:Nat),∃(w:Int),∃(v:Int),∃(z:Int),s=s/\(if ub.getD a 0+la.getD ((↑a:Int)+s).toNat 0<x then ub.getD a 0+la.getD ((↑a:Int)+s).toNat (0:Int)else x)=w/\(if ub.getD a 0+la.getD ((↑a:Int)+s).toNat 0>r then ub.getD a 0+la.getD ((↑a:Int)+s).toNat (0:Int)else r)=v/\u+1=z/\ub=ub/\(↑ub.length:Int)=(↑ub.length:Int)/\(↑a:Int)+1=(↑y:Int)/\ua=ua/\la=la/\ub=ub/\lb=lb/\y<=ub.length/\0<=z/\z<=(↑y:Int)/\xb (lT la ub s y)=(w,v,z)/\ub.length-y<ub.length-a)))) (x=(stA la ub s).1/\r=(stA la ub s).2.1/\u=(stA la ub s).2.2/\True)))) (by kernel_rfl) ?_;simp only[ek,stA,fe,fS,ij,iz,dw,and_true,true_and,eq_self];refine⟨by omega,λh=>by rw[Hr (.inl h)];exact⟨rfl,rfl,rfl⟩,λ_=>⟨λh=>by rw[Hr (.inr h)];exact⟨rfl,rfl,rfl⟩,λh=>⟨⟨0,0,0,0,rfl,rfl,rfl,rfl,by omega,by omega,by omega,rfl,by omega⟩,λi lo hi m k1 k2 k3 k4=>⟨λk5=>⟨by omega,by omega,λk6=>⟨by omega,i+1,lo,hi,m,rfl,rfl,rfl,by omega,by omega,by omega,by omega,by rw[lT,if_neg (by omega)];exact k4,by omega⟩,λk6=>⟨λk7=>⟨by omega,i+1,lo,hi,m,rfl,rfl,rfl,by omega,by omega,by omega,by omega,by rw[lT,if_neg (by omega)];exact k4,by omega⟩,λk7=>?_⟩⟩,λk5=>?_⟩⟩⟩⟩;.have e1:=Ir h6 (i:=i) (by omega);have e2:=Ir h5 (i:=((i:Int)+s).toNat) (by omega);exact⟨by omega,by omega,λk8=>⟨by omega,by omega,i+1,_,_,_,rfl,rfl,rfl,by omega,by omega,by omega,by omega,by rw[lT,if_pos (by omega)];exact V9 k4 k8,by omega⟩,λk8=>⟨by omega,by omega,i+1,_,_,_,rfl,rfl,rfl,by omega,by omega,by omega,by omega,by rw[lT,if_pos (by omega)];exact Rj k4 k8,by omega⟩⟩
 rw[show i=ub.length by omega]at k4;rw[k4];exact⟨rfl,rfl,rfl⟩
def T1b:eZ:=((T1.oJ 55 λa c=>dS (D81 a c)).MQ 7 λa=>dS (D11 a)).dQ 51 λa=>dS (D60 a)
def D46:List TV->List TV->Dn
 |[.ptr 0 0,.val (.int .i64 m)],[.sl (.int .i64) _ .no,.val (.int .u64 _)]=>some ([m<=1000,-10000<=m],Kh bp λk=>[0<=k,k<=m\/k=0],[])
 |_,_=>none
theorem v46:VC T1b Try.f28 [some cS] [some bq,some (.int .u64)] D46:=by
 refine pM λa cs=>?_;unfold D46;split
 rotate_left
 .trivial
 rename_i m r z;intro hp;obtain⟨h1,h2,-⟩:=hp;refine pE (A:=aS (decide (m<=0)) (∃(a:Int),∃(y:List Int),∃(u:Int),0=a/\r=y/\z=u/\0<=a/\(a<=m\/a=0)/\True) (∀(a:Int)(y:List Int)(u:Int),0<=a->a<4294967296->dw (m+1)/\∃(x:Int),∃(v:List Int),∃(w:Int),IntKind.i64.wrap ((IntKind.u64.wrap (a*IntKind.u64.wrap (m+1))).fdiv (4294967296:Int))=x/\y=v/\u=w/\0<=x/\(x<=m\/x=0)/\True)) (by kernel_rfl) ?_;simp only[ek,fe,fS,ij,iz,dw,and_true,true_and,eq_self];exact⟨λh=>⟨0,_,_,rfl,rfl,rfl,by omega,by omega⟩,λh k r1 z1 h3 h4=>⟨by omega,_,_,_,rfl,rfl,rfl,(abp h1 (by omega) h3 h4).1,(abp h1 (by omega) h3 h4).2⟩⟩
def D65:List TV->Dn
 |[.agg [.sl (.int .i64) ua .no,.sl (.int .i64) la .no],.agg [.sl (.int .i64) ub .no,.sl (.int .i64) lb .no],.val (.int .i64 w)]=>some ([la.length<=100,ub.length<=100,ya la,ya ub],.res (.sl cS (Bj la ub w (ub.length+la.length+1)) .no) [] [],
  [(4,.ex Nat λk=>.st {sl:=[(7,.sl cS (Bj la ub w k) (.je 2)),(8,bp ((k:Int)-(ub.length:Int)))],own:=[(3,1)],cO:=[k<=ub.length+la.length+1],m:=ub.length+la.length+1-k})])
 |_=>none
theorem v65:VI T1b Try.f59 [some bq] D65:=by
 refine gT λa=>?_;unfold D65;split
 rotate_left
 .trivial
 rename_i ua la ub lb w;intro hp;obtain⟨h1,h2,h3,h4,-⟩:=hp;refine pE (A:=dw (-(↑ub.length:Int))/\(∃(a:Nat),[]=Bj la ub w a/\-(↑ub.length:Int)=(↑a:Int)-(↑ub.length:Int)/\a<=ub.length+la.length+1/\ub.length+la.length+1-a<1000000)/\∀(a:Nat),a<=ub.length+la.length+1->aS (decide ((↑a:Int)-(↑ub.length:Int)<=(↑la.length:Int))) (la.length<=1000/\ub.length<=1000/\ya la/\ya ub/\aS (decide ((stA la ub ((↑a:Int)-(↑ub.length:Int))).2.2>=3)) (dw ((stA la ub ((↑a:Int)-(↑ub.length:Int))).2.1-(stA la ub ((↑a:Int)-(↑ub.length:Int))).1)/\aS (decide ((stA la ub ((↑a:Int)-(↑ub.length:Int))).2.1-(stA la ub ((↑a:Int)-(↑ub.length:Int))).1<=w)) ((Bj la ub w a).length+1<=1000000000/\dw ((↑a:Int)-(↑ub.length:Int)+1)/\∃(x:Nat),w=w/\mU cS.den/\Bj la ub w a++[(↑a:Int)-(↑ub.length:Int)]=Bj la ub w x/\(↑a:Int)-(↑ub.length:Int)+1=(↑x:Int)-(↑ub.length:Int)/\ua=ua/\la=la/\ub=ub/\lb=lb/\x<=ub.length+la.length+1/\ub.length+la.length+1-x<ub.length+la.length+1-a) (dw ((↑a:Int)-(↑ub.length:Int)+1)/\∃(x:Nat),w=w/\mU cS.den/\Bj la ub w a=Bj la ub w x/\(↑a:Int)-(↑ub.length:Int)+1=(↑x:Int)-(↑ub.length:Int)/\ua=ua/\la=la/\ub=ub/\lb=lb/\x<=ub.length+la.length+1/\ub.length+la.length+1-x<ub.length+la.length+1-a)) (dw ((↑a:Int)-(↑ub.length:Int)+1)/\∃(x:Nat),w=w/\mU cS.den/\Bj la ub w a=Bj la ub w x/\(↑a:Int)-(↑ub.length:Int)+1=(↑x:Int)-(↑ub.length:Int)/\ua=ua/\la=la/\ub=ub/\lb=lb/\x<=ub.length+la.length+1/\ub.length+la.length+1-x<ub.length+la.length+1-a)) (Bj la ub w a=Bj la ub w (ub.length+la.length+1)/\True)) (by kernel_rfl) ?_;simp only[ek,stA,fe,fS,ij,iz,dw,and_true,true_and,eq_self];refine⟨by omega,⟨0,rfl,by omega,by omega,by omega⟩,λk hk=>⟨λh=>⟨by omega,by omega,h3,h4,?_⟩,λh=>by rw[show k=ub.length+la.length+1 by omega]⟩⟩;have e:=ad8 (ub:=ub) ((k:Int)-ub.length) h3 h4;simp only[stA]at e;have hl:=ZX la ub w k;exact⟨λh5=>⟨by omega,λh6=>⟨by omega,by omega,k+1,ZW (eF ⟨h5,h6⟩),by omega,by omega,by omega⟩,λh6=>⟨by omega,k+1,U5 (jl λe=>h6 e.2),by omega,by omega,by omega⟩⟩,λh5=>⟨by omega,k+1,U5 (jl λe=>h5 e.1),by omega,by omega,by omega⟩⟩
def T2:eZ:=(((T1b.oJ 28 λa c=>dS (D46 a c)).dQ 12 λa=>dS (D16 a)).oJ 105 λa c=>dS (adG a c)).dQ 59 λa=>dS (D65 a)
def D19:List TV->List TV->Dn
 |[.ptr 0 0,.val (.int .i64 lo),.val (.int .i64 hi)],[.sl (.int .i64) _ .no,.val (.int .u64 _)]=>some ([-1000<=lo,lo<=1000,-1000<=hi,hi<=1000+lo,hi<=5000],Kh bp λk=>[lo<=k,k<=hi\/k=lo],[])
 |_,_=>none
theorem v19:VC T2 Try.f24 [some cS] [some bq,some (.int .u64)] D19:=by
 refine pM λa cs=>?_;unfold D19;split
 rotate_left
 .trivial
 rename_i lo hi r z;intro hp;obtain⟨h1,h2,h3,h4,h5,-⟩:=hp;refine pE (A:=dw (hi-lo)/\hi-lo<=1000/\(-10000:Int)<=hi-lo/\∀(a:Int)(y:List Int)(z:Int),0<=a->a<=hi-lo\/a=0->dw (lo+a)/\∃(x:Int),∃(u:List Int),∃(v:Int),lo+a=x/\y=u/\z=v/\lo<=x/\(x<=hi\/x=lo)/\True) (by kernel_rfl) ?_;simp only[ek,fe,fS,ij,iz,dw,and_true,true_and,eq_self];exact⟨by omega,by omega,by omega,λk r1 z1 h6 h7=>⟨by omega,_,_,_,rfl,rfl,rfl,by omega,by omega⟩⟩
def D27:List TV->List TV->Dn
 |[.ptr 0 0,.val (.int .i64 m)],[.sl (.int .i64) _ .no,.val (.int .u64 _)]=>some ([m<=1000,0<=m],.ex Bool λb=>Kh (λ_=>iD b) λ_=>[],[])
 |_,_=>none
theorem v27:VC T2 Try.f41 [some .bool] [some bq,some (.int .u64)] D27:=by
 refine pM λa cs=>?_;unfold D27;split
 rotate_left
 .trivial
 rename_i m r z;intro hp;obtain⟨h1,h2,-⟩:=hp;refine pE (A:=dw (m-1)/\m-1<=1000/\(-10000:Int)<=m-1/\∀(a:Int)(x:List Int)(y:Int),0<=a->a<=m-1\/a=0->∃(z:Bool),∃(w:Int),∃(u:List Int),∃(v:Int),(a==IntKind.i64.wrap (m.tdiv (2:Int)))=z/\x=u/\y=v/\True) (by kernel_rfl) ?_;simp only[ek,fe,fS,ij,iz,dw,and_true,true_and,eq_self];exact⟨by omega,by omega,by omega,λk r1 z1 _ _=>⟨_,0,_,_,rfl,rfl,rfl⟩⟩
def D45:List TV->List TV->Dn
 |[.ptr 0 0,.sl (.int .i64) l .no],[.sl (.int .i64) _ .no,.val (.int .u64 _)]=>some ([0<l.length,l.length<=1000],Kh bp λk=>[k∈l],[])
 |_,_=>none
theorem v45:VC T2 Try.f27 [some cS] [some bq,some (.int .u64)] D45:=by
 refine pM λa cs=>?_;unfold D45;split
 rotate_left
 .trivial
 rename_i l r z;intro hp;obtain⟨h1,h2,-⟩:=hp;refine pE (A:=dw ((↑l.length:Int)-1)/\(↑l.length:Int)-1<=1000/\(-10000:Int)<=(↑l.length:Int)-1/\∀(a:Int)(y:List Int)(z:Int),0<=a->a<=(↑l.length:Int)-1\/a=0->(0<=a/\a<(↑l.length:Int))/\∃(x:Int),∃(u:List Int),∃(v:Int),l.getD a.toNat 0=x/\y=u/\z=v/\x∈l/\True) (by kernel_rfl) ?_;simp only[ek,fe,fS,ij,iz,dw,and_true,true_and,eq_self];exact⟨by omega,by omega,by omega,λk r1 z1 h3 h4=>⟨by omega,_,_,_,rfl,rfl,rfl,qd (by omega)⟩⟩
def D96:List TV->List TV->Dn
 |[.sl (.int .i64) l .no,.fn 103 [] [.ptr 0 0]],[.val (.int .i64 eL)]=>some ([l.length<=1000],.res (iD (!l.all (tY eL))) [bp eL] [],[])
 |_,_=>none
theorem v96:VC T2 Try.f102 [some .bool] [some cS] D96:=by
 refine pM λa cs=>?_;unfold D96;split
 rotate_left
 .trivial
 rename_i l eL;intro hp;have h1:=hp.1;refine pE (A:=l.length<=1000/\∀(a:Int),(if l.all (tY eL)=true then a=(-1:Int)else 0<=a)->decide (a>=0)=!l.all (tY eL)/\eL=eL/\True) (by kernel_rfl) ?_;simp only[ek,fe,fS,ij,iz,dw,and_true,true_and,eq_self];refine⟨h1,λk hk=>?_⟩;cases hl:l.all (tY eL)<;>simp[hl]at hk⊢<;>omega
def T3:eZ:=(((T2.oJ 24 λa c=>dS (D19 a c)).oJ 41 λa c=>dS (D27 a c)).oJ 27 λa c=>dS (D45 a c)).oJ 102 λa c=>dS (D96 a c)
def D44:List TV->List TV->Dn
 |[.ptr 0 0,.val (.int .i64 c)],[.sl (.int .i64) _ .no,.val (.int .u64 _)]=>some ([0<=c,c<=100],.ex (List Int) λo=>.ex (List Int) λr=>.ex Int λz=>.res (.sl cS o .no) (Cw r z) [(o.length:Int)=c,ya o],
  [(5,.ex Nat λi=>.ex (List Int) λo=>.ex (List Int) λr=>.ex Int λz=>.st {sl:=[(6,.sl cS o (.je 1)),(7,bp i)],pl:=[(0,Cw r z)],own:=[(3,1)],cO:=[(i:Int)<=c,o.length=i,ya o],m:=c.toNat-i})])
 |_,_=>none
theorem v44:VC T3 Try.f26 [some bq] [some bq,some (.int .u64)] D44:=by
 refine pM λa cs=>?_;unfold D44;split
 rotate_left
 .trivial
 rename_i c r z;intro hp;obtain⟨h1,h2,-⟩:=hp;refine pE (A:=(7:Int)<=1000/\(-10000:Int)<=7/\∀(a:Int)(x:List Int)(w:Int),0<=a->a<=7\/a=0->0<3/\3<=1000/\∀(u:Int)(i:List Int)(h:Int),u∈[(0:Int),(2:Int),a]->(∃(a:Nat),∃(y:List Int),∃(m:List Int),∃(r:Int),[]=y/\0=(↑a:Int)/\i=m/\h=r/\(↑a:Int)<=c/\y.length=a/\ya y/\c.toNat-a<1000000)/\∀(a:Nat)(y m:List Int)(r:Int),(↑a:Int)<=c->y.length=a->ya y->aS (decide ((↑a:Int)<c)) (0<4/\4<=1000/\∀(z:Int)(s:List Int)(n:Int),z∈[(0:Int),(0:Int),(1:Int),(2:Int)]->dw (u+z)/\y.length+1<=1000000000/\dw ((↑a:Int)+1)/\∃(v:Nat),∃(t:List Int),∃(k:List Int),∃(j:Int),c=c/\mU cS.den/\u=u/\y++[u+z]=t/\(↑a:Int)+1=(↑v:Int)/\s=k/\n=j/\(↑v:Int)<=c/\t.length=v/\ya t/\c.toNat-v<c.toNat-a) (∃(a:List Int),∃(z:List Int),∃(s:Int),y=a/\m=z/\r=s/\(↑a.length:Int)=c/\ya a/\True)) (by kernel_rfl) ?_;simp only[ek,fe,fS,ij,iz,dw,and_true,true_and,eq_self];refine⟨by omega,by omega,λk1 r1 z1 h3 h4=>⟨by omega,by omega,λk2 r2 z2 h5=>?_⟩⟩;have h6:0<=k2/\k2<=7:=by simp at h5;omega
 refine⟨⟨0,[],r2,z2,rfl,rfl,rfl,rfl,h1,rfl,by simp[ya],by omega⟩,λi o r3 z3 h6 h7 h8=>⟨λh9=>⟨by omega,by omega,λk4 r4 z4 ue=>?_⟩,λh9=>⟨_,_,_,rfl,rfl,rfl,by omega,h8⟩⟩⟩;have HI:0<=k4/\k4<=2:=by simp at ue;omega
 exact⟨by omega,by omega,by omega,i+1,_,_,_,rfl,by omega,rfl,rfl,by omega,by simp[h7],LC h8 (by omega),by omega⟩
def D47:List TV->List TV->Dn
 |[.ptr 0 0],[.sl (.int .i64) _ .no,.val (.int .u64 _)]=>some ([],.ex (List Int) λo=>.ex (List Int) λr=>.ex Int λz=>.res (.sl cS o .no) (Cw r z) [o≠[],∀x∈o,0<=x/\x<=3,o.Pairwise (·<·)],
  [(4,.ex Nat λi=>.ex (List Int) λo=>.ex (List Int) λr=>.ex Int λz=>.st {sl:=[(3,.sl cS o (.je 1)),(4,bp i)],pl:=[(0,Cw r z)],own:=[(3,1)],cO:=[i<=4,o.length<=i,∀x∈o,0<=x/\x<i,o.Pairwise (·<·)],m:=4-i})])
 |_,_=>none
theorem v47:VC T3 Try.f29 [some bq] [some bq,some (.int .u64)] D47:=by
 refine pM λa cs=>?_;unfold D47;split
 rotate_left
 .trivial
 rename_i r z;intro hp;refine pE (A:=(∃(a:Nat),∃(y:List Int),∃(n:List Int),∃(k:Int),[]=y/\0=(↑a:Int)/\r=n/\z=k/\a<=4/\y.length<=a/\(∀(x:Int),x∈y->0<=x/\x<(↑a:Int))/\List.Pairwise (λ(x1 x2:Int)=>x1<x2) y/\4-a<1000000)/\∀(a:Nat)(y n:List Int)(k:Int),a<=4->y.length<=a->(∀(x:Int),x∈y->0<=x/\x<(↑a:Int))->List.Pairwise (λ(x1 x2:Int)=>x1<x2) y->aS (decide ((↑a:Int)<=3)) ((2:Int)<=1000/\(0:Int)<=2/\∀(s:Bool)(t:Int)(j:List Int)(i:Int),aS s (y.length+1<=1000000000/\dw ((↑a:Int)+1)/\∃(u:Nat),∃(v:List Int),∃(w:List Int),∃(m:Int),mU cS.den/\y++[(↑a:Int)]=v/\(↑a:Int)+1=(↑u:Int)/\j=w/\i=m/\u<=4/\v.length<=u/\(∀(x:Int),x∈v->0<=x/\x<(↑u:Int))/\List.Pairwise (λ(x1 x2:Int)=>x1<x2) v/\4-u<4-a) (dw ((↑a:Int)+1)/\∃(u:Nat),∃(v:List Int),∃(w:List Int),∃(m:Int),mU cS.den/\y=v/\(↑a:Int)+1=(↑u:Int)/\j=w/\i=m/\u<=4/\v.length<=u/\(∀(x:Int),x∈v->0<=x/\x<(↑u:Int))/\List.Pairwise (λ(x1 x2:Int)=>x1<x2) v/\4-u<4-a)) (aS ((↑y.length:Int)==0) ((3:Int)<=1000/\(-10000:Int)<=3/\∀(a:Int)(s:List Int)(t:Int),0<=a->a<=3\/a=0->∃(u:List Int),∃(v:List Int),∃(w:Int),[a]=u/\s=v/\t=w/\u≠[]/\(∀(x:Int),x∈u->0<=x/\x<=3)/\List.Pairwise (λ(x1 x2:Int)=>x1<x2) u/\True) (∃(a:List Int),∃(s:List Int),∃(t:Int),y=a/\n=s/\k=t/\a≠[]/\(∀(x:Int),x∈a->0<=x/\x<=3)/\List.Pairwise (λ(x1 x2:Int)=>x1<x2) a/\True))) (by kernel_rfl) ?_;simp only[ek,fe,fS,ij,iz,dw,and_true,true_and,eq_self];refine⟨⟨0,[],_,_,rfl,rfl,rfl,rfl,by omega,by simp,by simp,by simp,by omega⟩,λi o r1 z1 h1 h2 h3 h4=>⟨λh5=>⟨by omega,by omega,λb _ r2 z2=>?_⟩,λh5=>⟨λh6=>⟨by omega,by omega,λk r2 z2 h7 h8=>⟨_,_,_,rfl,rfl,rfl,by simp,by simp;omega,by simp⟩⟩,λh6=>⟨_,_,_,rfl,rfl,rfl,λe=>h6 (by rw[e];rfl),λx hx=>by have:=h3 x hx;omega,h4⟩⟩⟩⟩;rw[mc];exact⟨λ_=>⟨by omega,by omega,i+1,_,_,_,rfl,by omega,rfl,rfl,by omega,by simp;omega,LC (λx hx=>by have:=h3 x hx;omega) (by omega),X0 h4 (λx hx=>(h3 x hx).2),by omega⟩,λ_=>⟨by omega,i+1,_,_,_,rfl,by omega,rfl,rfl,by omega,by omega,λx hx=>by have:=h3 x hx;omega,h4,by omega⟩⟩
def D78:List TV->Dn
 |[.sl (.int .i64) l .no,.val (.int .i64 eL)]=>some ([l.length<=1000],.res (iD (l.all (tY eL))) [] [],[])
 |_=>none
theorem v78:VI T3 Try.f94 [some .bool] D78:=by
 refine gT λa=>?_;unfold D78;split
 rotate_left
 .trivial
 rename_i l eL;intro hp;have h1:=hp.1;refine pE (A:=l.length<=1000/\(!!l.all (tY eL))=l.all (tY eL)/\True) (by kernel_rfl) ?_;exact⟨h1,Bool.not_not _,trivial⟩
def T4:eZ:=((T3.oJ 26 λa c=>dS (D44 a c)).oJ 29 λa c=>dS (D47 a c)).dQ 94 λa=>dS (D78 a)
section
variable {bH:bR} (tk:yx bH)
include tk
theorem Uf:ko bH 1 T1b:=wu tk (ic tk) (by decide) Try.func51 rfl v60 (mkN tk (ic tk) (by decide) Try.func7 rfl v11 (Mb (ic tk) Try.func55 rfl v81 (acz tk)))
theorem Fv:ko bH 2 T2:=wu tk (Uf tk) (by decide) Try.func59 rfl v65 (Mb (acz tk) Try.func105 rfl v109 (wu tk (acz tk) (by decide) Try.func12 rfl v16 (Mb (Uf tk) Try.func28 rfl v46 (lp (Uf tk)))))
theorem YR:ko bH 3 T3:=Mb (Fv tk) Try.func102 rfl v96 (Mb (Fv tk) Try.func27 rfl v45 (Mb (Fv tk) Try.func41 rfl v27 (Mb (Fv tk) Try.func24 rfl v19 (lp (Fv tk)))))
theorem acy:ko bH 4 T4:=wu tk (YR tk) (by decide) Try.func94 rfl v78 (Mb (YR tk) Try.func29 rfl v47 (Mb (YR tk) Try.func26 rfl v44 (lp (YR tk))))
end
end Go.Tv
