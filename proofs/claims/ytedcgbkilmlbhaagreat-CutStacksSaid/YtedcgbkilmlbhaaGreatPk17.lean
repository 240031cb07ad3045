import Derived.Test.YtedcgbkilmlbhaaGreatPk15
import Derived.Test.YtedcgbkilmlbhaaGreatPk16
import Derived.Test.YtedcgbkilmlbhaaGreatPk13
set_option maxRecDepth 100000
namespace Go.Tv
open Go Go.Di Go.Proofs
def Wi:cp->cp->Dn
 |[.sl (.pair (.int .i64) (.pair (.int .i64) (.pair (.int .i64) .unit))) l .no,.fn 116 [] [.ptr 0 0]],[.val (.int .i64 x),.val (.int .i64 y),.val (.int .i64 z)]=>some ([l.length<=1000],.ex Int λr=>.res (aV r) [aV x,aV y,aV z] [KB l x r],[(3,.ex Nat λi=>.st {sl:=[(8,aV i)],cQ:=[i<=l.length,fA (l.take i) x=false],m:=l.length-i})])
 |_,_=>none
theorem ahn:VC K2s Tryz.f131 [some bY] [some bY,some bY,some bY] Wi:=by
 refine lN λa cs=>?_;unfold Wi;split
 rotate_left
 trivial;rename_i l x y z;intro hp;change dp at l;refine jx (A:=(∃(a:Nat),0=(↑a:Int)/\a<=l.length/\fA (List.take a l) x=false/\l.length-a<1000000)/\∀(a:Nat),a<=l.length->fA (List.take a l) x=false->aB (decide ((↑a:Int)<(↑l.length:Int))) ((0<=(↑a:Int)/\(↑a:Int)<(↑l.length:Int))/\aB ((l.getD a bo).1==x) (∃(u:Int),(↑a:Int)=u/\x=x/\y=y/\z=z/\KB l x u/\True) (cR ((↑a:Int)+1)/\∃(u:Nat),l=l/\(↑l.length:Int)=(↑l.length:Int)/\(↑a:Int)+1=(↑u:Int)/\x=x/\y=y/\z=z/\u<=l.length/\fA (List.take u l) x=false/\l.length-u<l.length-a)) (∃(a:Int),(-1:Int)=a/\x=x/\y=y/\z=z/\KB l x a/\True)) (by kernel_rfl) ?_;have h1:=hp.1;simp only[bP,cH,eq_self,true_and,and_true,cR];refine⟨⟨0,rfl,ab,rfl,ab⟩,λi hi hh=>⟨λhl=>⟨⟨ab,ab⟩,λe=>⟨_,rfl,.inr ⟨ab,Om ab e⟩⟩,λe=>⟨⟨ab,ab⟩,i+1,ab,ab,EF ab hh e,ab⟩⟩,λhl=>⟨_,rfl,.inl ⟨rfl,by rw[<-List.take_of_length_le (l:=l) (i:=i) ab];exact hh⟩⟩⟩⟩
def K3g:eM:=K2s.mB 131 λa c=>dS (Wi a c)
def Wj:cp->cp->Dn
 |[.sl (.pair (.int .i64) (.pair (.int .i64) (.pair (.int .i64) .unit))) l .no,.fn 116 [] [.ptr 0 0]],[.val (.int .i64 x),.val (.int .i64 y),.val (.int .i64 z)]=>some ([l.length<=1000],.res (kR (fA l x)) [aV x,aV y,aV z] [],[])
 |_,_=>none
theorem aho:VC K3g Tryz.f113 [some .bool] [some bY,some bY,some bY] Wj:=by
 refine lN λa cs=>?_;unfold Wj;split
 rotate_left
 trivial;rename_i l x y z;intro hp;change dp at l;refine jx (A:=l.length<=1000/\∀(a:Int),KB l x a->decide (a>=0)=fA l x/\x=x/\y=y/\z=z/\True) (by kernel_rfl) ?_;refine⟨hp.1,λr hr=>⟨?_,rfl,rfl,rfl,trivial⟩⟩;rcases hr with ⟨rfl,h⟩|⟨h0,h⟩
 grind
 grind
def Vv:cp->Dn
 |[.sl (.pair (.int .i64) (.pair (.int .i64) (.pair (.int .i64) .unit))) l .no,.val (.int .i64 x)]=>some ([l.length<=1000],.res (kR (fA l x)) [] [],[(3,.ex Nat λi=>.st {sl:=[(5,aV i)],cQ:=[i<=l.length,fA (l.take i) x=false],m:=l.length-i})])
 |_=>none
theorem agB:VI T0 Tryz.f115 [some .bool] Vv:=by
 refine dH λa=>?_;unfold Vv;split
 rotate_left
 trivial;rename_i l x;intro hp;change dp at l;refine jx (A:=(∃(a:Nat),0=(↑a:Int)/\a<=l.length/\fA (List.take a l) x=false/\l.length-a<1000000)/\∀(a:Nat),a<=l.length->fA (List.take a l) x=false->aB (decide ((↑a:Int)<(↑l.length:Int))) ((0<=(↑a:Int)/\(↑a:Int)<(↑l.length:Int))/\aB ((l.getD a bo).1==x) (true=fA l x/\True) (cR ((↑a:Int)+1)/\∃(y:Nat),l=l/\x=x/\(↑a:Int)+1=(↑y:Int)/\y<=l.length/\fA (List.take y l) x=false/\l.length-y<l.length-a)) (false=fA l x/\True)) (by kernel_rfl) ?_;have h1:=hp.1;simp only[bP,cH,eq_self,true_and,and_true,cR];refine⟨⟨0,rfl,ab,rfl,ab⟩,λi hi hh=>⟨λhl=>⟨⟨ab,ab⟩,λe=>(Om ab e).symm,λe=>⟨⟨ab,ab⟩,i+1,ab,ab,EF ab hh e,ab⟩⟩,λhl=>by rw[<-hh,List.take_of_length_le ab]⟩⟩
def Ng(ps:cP)(t:dp)(i:Nat)(x:ay):Int:=
 if x.1<0\/(ps.length:Int)<=x.1 then 3
 else if fA t x.1=true then 4
 else if x.2.1<0\/3<x.2.1 then 8
 else if x.2.1∉(ps.getD x.1.toNat bm).2.2.2.1 then 12
 else if i=0/\x.2.2.1≠0 then 1 else 0
def yI(ps:cP)(s:dp)(i:Nat):Int:=Ng ps (s.take i) i (s.getD i bo)
def qD(f:Nat->Int):Nat->Int
 |0=>0
 |n+1=>if qD f n=0 then f n else qD f n
theorem adv{f:Nat->Int}:∀{n:Nat},qD f n=0->∀j,j<n->f j=0
 |0,_,j,h=>ab
 |n+1,h,j,hj=>by
  unfold qD at h;split at h;rename_i h0;by_cases e:j=n
  grind
  exact adv h0 j ab
  grind
theorem Rc{f:Nat->Int}{i:Nat}(h0:qD f i=0)(h1:f i≠0):∀{n:Nat},i<n->qD f n=f i
 |0,h=>ab
 |n+1,h=>by
  unfold qD;by_cases e:i=n
  grind
  have:=Rc h0 h1 (n:=n) ab;rw[this,if_neg h1]
theorem W7{f:Nat->Int}{i:Nat}(h0:qD f i=0)(h1:f i=0):qD f (i+1)=0:=by unfold qD;rw[if_pos h0];exact h1
def gY(ps:cP)(s:dp):Int:=if s.length=0 then 7 else if 4<s.length then 6 else qD (yI ps s) s.length
def K4g:eM:=(T0.mB 113 λa c=>dS (Wj a c)).cG 95 λa=>dS (D80 a)
def aeS:cp->Dn
 |[.sl (.pair (.sl (.int .i64)) (.pair (.sl (.int .i64)) (.pair (.int .i64) (.pair (.sl (.int .i64)) .unit)))) ps .no,.sl (.pair (.int .i64) (.pair (.int .i64) (.pair (.int .i64) .unit))) s .no]=>some ([s.length<=1000,∀p∈ps,cV p],.res (aV (gY ps s)) [] [],
  [(8,.ex Nat λi=>.st {sl:=[(17,aV i)],cQ:=[i<=s.length,qD (yI ps s) i=0],m:=s.length-i})])
 |_=>none
theorem Ry{ps:cP}{s:dp}{i:Nat}(g1:s.length≠0)(g2:¬4<s.length)(hi:i<s.length)(h0:qD (yI ps s) i=0){e:Int}(he:yI ps s i=e)(hne:e≠0):e=gY ps s:=by rw[gY,if_neg g1,if_neg g2,Rc h0 (by rw[he];exact hne) hi,he]
def U7.q1 (p0:Nat)(p1:List (aF).den)(p2:List (bn).den):Prop:=cR ((↑p0:Int)+1)/\∃(a:Nat),p1=p1/\p2=p2/\p2=p2/\(↑p2.length:Int)=(↑p2.length:Int)/\(↑p0:Int)+1=(↑a:Int)/\a<=p2.length/\qD (yI p1 p2) a=0/\p2.length-a<p2.length-p0
theorem U7:VI K4g Tryz.f77 [some bY] aeS:=by
 refine dH λa=>?_;unfold aeS;split
 rotate_left
 trivial;rename_i ps s;intro hp;refine jx (A:=aB ((↑s.length:Int)==0) (7=gY ps s/\True) (aB (decide ((↑s.length:Int)>4)) (6=gY ps s/\True) ((∃(a:Nat),0=(↑a:Int)/\a<=s.length/\qD (yI ps s) a=0/\s.length-a<1000000)/\∀(a:Nat),a<=s.length->qD (yI ps s) a=0->aB (decide ((↑a:Int)<(↑s.length:Int))) ((0<=(↑a:Int)/\(↑a:Int)<(↑s.length:Int))/\aB (decide ((s.getD a bo).1<0)) (3=gY ps s/\True) (aB (decide ((s.getD a bo).1>=(↑ps.length:Int))) (3=gY ps s/\True) ((0<=(↑a:Int)/\(↑a:Int)<=(↑s.length:Int))/\(List.take a s).length<=1000/\aB (fA (List.take a s) (s.getD a bo).1) (4=gY ps s/\True) (aB (decide ((s.getD a bo).2.1<0)) (8=gY ps s/\True) (aB (decide ((s.getD a bo).2.1>3)) (8=gY ps s/\True) ((0<=(s.getD a bo).1/\(s.getD a bo).1<(↑ps.length:Int))/\List.length (ps.getD (Int.toNat (s.getD a bo).1) bm).2.2.2.1<=1000/\aB (!decide ((s.getD a bo).2.1∈(ps.getD (Int.toNat (s.getD a bo).1) bm).2.2.2.1)) (12=gY ps s/\True) (aB ((↑a:Int)==0) (aB ((s.getD a bo).2.2.1 !=0) (1=gY ps s/\True) (U7.q1 a ps s)) (U7.q1 a ps s)))))))) (0=gY ps s/\True)))) (by kernel_rfl) ?_;unfold U7.q1;obtain⟨h1,h2,-⟩:=hp;change dp at s;simp only[bP,cH,dg,ek,eq_self,and_true,true_and,cR];refine⟨λh=>by rw[gY,if_pos ab],λg1=>⟨λh=>by rw[gY,if_neg ab,if_pos ab],λg2=>⟨⟨0,rfl,ab,rfl,ab⟩,λi hi h0=>⟨λhlt=>?_,λ_=>by rw[gY,if_neg ab,if_neg ab,<-h0,show i=s.length by omega]⟩⟩⟩⟩;have key:∀e,yI ps s i=e->e≠0->e=gY ps s:=λe=>Ry ab ab ab h0;refine⟨⟨ab,ab⟩,λ(c1:((s.getD i bo).1:Int)<0)=>key _ (by rw[yI,Ng,if_pos ab]) an,λ(c1:¬((s.getD i bo).1:Int)<0)=>⟨λ(c2:((s.getD i bo).1:Int)>=ps.length)=>key _ (by rw[yI,Ng,if_pos ab]) an,λ(c2:¬((s.getD i bo).1:Int)>=ps.length)=>⟨⟨ab,ab⟩,by rw[List.length_take];omega,gZ.2 ⟨λc3=>key _ (by rw[yI,Ng,if_neg ab,if_pos c3]) an,λc3=>⟨λ(c4:((s.getD i bo).2.1:Int)<0)=>key _ (by rw[yI,Ng,if_neg ab,if_neg (by rw[c3];decide),if_pos ab]) an,λ(c4:¬((s.getD i bo).2.1:Int)<0)=>⟨λ(c5:((s.getD i bo).2.1:Int)>3)=>key _ (by rw[yI,Ng,if_neg ab,if_neg (by rw[c3];decide),if_pos ab]) an,λ(c5:¬((s.getD i bo).2.1:Int)>3)=>⟨⟨Int.not_lt.1 c1,Int.not_le.1 c2⟩,(qq (P:=cV) ab h2).2.2,λc6=>?_,λc6=>key _ (by rw[yI,Ng,if_neg ab,if_neg (by rw[c3];decide),if_neg ab,if_pos c6]) an⟩⟩⟩⟩⟩⟩⟩;have tl:∀_:¬(i=0/\(s.getD i bo).2.2.1≠0),(-9223372036854775808<=(i:Int)+1/\(i:Int)+1<=9223372036854775807)/\∃a:Nat,(i:Int)+1=a/\a<=s.length/\qD (yI ps s) a=0/\s.length-a<s.length-i:=λc7=>⟨⟨ab,ab⟩,i+1,ab,ab,W7 h0 (by rw[yI,Ng,if_neg ab,if_neg (by rw[c3];decide),if_neg ab,if_neg (λh=>h c6),if_neg c7]),ab⟩;exact⟨λe0=>⟨λc7=>tl (λh=>h.2 c7),λc7=>key _ (by rw[yI,Ng,if_neg ab,if_neg (by rw[c3];decide),if_neg ab,if_neg (λh=>h c6),if_pos ⟨ab,c7⟩]) an⟩,λe0=>tl (λh=>e0 ab)⟩
def K4r:eM:=((T0.cG 100 λa=>dS (aaM a)).cG 115 λa=>dS (Vv a)).cG 97 λa=>dS (D53 a)
def aeR:cp->Dn
 |[.sl (.pair (.sl (.int .i64)) (.pair (.sl (.int .i64)) (.pair (.int .i64) (.pair (.sl (.int .i64)) .unit)))) ps .no,.sl (.pair (.int .i64) (.pair (.int .i64) (.pair (.int .i64) .unit))) s .no]=>some ([s.length<=1000,ps.length<=1000,∀p∈ps,cV p],.res (aV (gY ps s)) [] [],
  [(9,.ex Nat λi=>.st {sl:=[(5,aV i)],cQ:=[i<=s.length,qD (yI ps s) i=0],m:=s.length-i})])
 |_=>none
def U6.q1 (p0:Nat)(p1:List (aF).den)(p2:List (bn).den):Prop:=cR ((↑p0:Int)+1)/\∃(a:Nat),p1=p1/\p2=p2/\(↑p0:Int)+1=(↑a:Int)/\a<=p2.length/\qD (yI p1 p2) a=0/\p2.length-a<p2.length-p0
theorem U6:VI K4r Tryz.f79 [some bY] aeR:=by
 refine dH λa=>?_;unfold aeR;split
 rotate_left
 trivial;rename_i ps s;intro hp;refine jx (A:=aB ((↑s.length:Int)==0) (7=gY ps s/\True) (aB (decide ((↑s.length:Int)>4)) (6=gY ps s/\True) ((∃(a:Nat),0=(↑a:Int)/\a<=s.length/\qD (yI ps s) a=0/\s.length-a<1000000)/\∀(a:Nat),a<=s.length->qD (yI ps s) a=0->aB (decide ((↑a:Int)<(↑s.length:Int))) ((0<=(↑a:Int)/\(↑a:Int)<(↑s.length:Int))/\cR ((↑ps.length:Int)-1)/\aB (!decide (0<=(s.getD a bo).1/\(s.getD a bo).1<=(↑ps.length:Int)-1)) (3=gY ps s/\True) ((0<=(↑a:Int)/\(↑a:Int)<=(↑s.length:Int))/\(List.take a s).length<=1000/\aB (fA (List.take a s) (s.getD a bo).1) (4=gY ps s/\True) (aB (!decide (0<=(s.getD a bo).2.1/\(s.getD a bo).2.1<=3)) (8=gY ps s/\True) ((0<=(s.getD a bo).1/\(s.getD a bo).1<(↑ps.length:Int))/\List.length (ps.getD (Int.toNat (s.getD a bo).1) bm).2.2.2.1<=1000/\aB (!decide ((s.getD a bo).2.1∈(ps.getD (Int.toNat (s.getD a bo).1) bm).2.2.2.1)) (12=gY ps s/\True) (aB ((↑a:Int)==0) (aB ((s.getD a bo).2.2.1 !=0) (1=gY ps s/\True) (U6.q1 a ps s)) (U6.q1 a ps s)))))) (0=gY ps s/\True)))) (by kernel_rfl) ?_;unfold U6.q1;obtain⟨h1,h3,h2,-⟩:=hp;change dp at s;simp only[bP,cH,dg,ek,eq_self,and_true,true_and,cR];refine⟨λh=>by rw[gY,if_pos ab],λg1=>⟨λh=>by rw[gY,if_neg ab,if_pos ab],λg2=>⟨⟨0,rfl,ab,rfl,ab⟩,λi hi h0=>⟨λhlt=>?_,λ_=>by rw[gY,if_neg ab,if_neg ab,<-h0,show i=s.length by omega]⟩⟩⟩⟩;have key:∀e,yI ps s i=e->e≠0->e=gY ps s:=λe=>Ry ab ab ab h0;refine⟨⟨ab,ab⟩,⟨ab,ab⟩,λ(c1:0<=((s.getD i bo).1:Int)/\((s.getD i bo).1:Int)<=(ps.length:Int)-1)=>⟨⟨ab,ab⟩,by rw[List.length_take];omega,gZ.2 ⟨λc3=>key _ (by rw[yI,Ng,if_neg ab,if_pos c3]) an,λc3=>⟨λ(c4:0<=((s.getD i bo).2.1:Int)/\((s.getD i bo).2.1:Int)<=3)=>⟨⟨c1.1,Int.lt_of_le_sub_one c1.2⟩,(qq (P:=cV) ab h2).2.2,λc6=>?_,λc6=>key _ (by rw[yI,Ng,if_neg ab,if_neg (by rw[c3];decide),if_neg ab,if_pos c6]) an⟩,λ(c4:¬(0<=((s.getD i bo).2.1:Int)/\((s.getD i bo).2.1:Int)<=3))=>key _ (by rw[yI,Ng,if_neg ab,if_neg (by rw[c3];decide),if_pos ab]) an⟩⟩⟩,λ(c1:¬(0<=((s.getD i bo).1:Int)/\((s.getD i bo).1:Int)<=(ps.length:Int)-1))=>key _ (by rw[yI,Ng,if_pos ab]) an⟩;have tl:∀_:¬(i=0/\(s.getD i bo).2.2.1≠0),(-9223372036854775808<=(i:Int)+1/\(i:Int)+1<=9223372036854775807)/\∃a:Nat,(i:Int)+1=a/\a<=s.length/\qD (yI ps s) a=0/\s.length-a<s.length-i:=λc7=>⟨⟨ab,ab⟩,i+1,ab,ab,W7 h0 (by rw[yI,Ng,if_neg ab,if_neg (by rw[c3];decide),if_neg ab,if_neg (λh=>h c6),if_neg c7]),ab⟩;exact⟨λe0=>⟨λc7=>tl (λh=>h.2 c7),λc7=>key _ (by rw[yI,Ng,if_neg ab,if_neg (by rw[c3];decide),if_neg ab,if_neg (λh=>h c6),if_pos ⟨ab,c7⟩]) an⟩,λe0=>tl (λh=>e0 ab)⟩
end Go.Tv
namespace Go.Tv
open Go Go.Di Go.Proofs
theorem Rz{ps:cP}{s:dp}(h:gY ps s=0):1<=s.length/\s.length<=4/\∀k,k<s.length->(0<=(s.getD k bo).1/\(s.getD k bo).1<(ps.length:Int))/\(s.getD k bo).2.1∈(qC ps (s.getD k bo)).2.2.2.1:=by
 unfold gY at h;split at h;cases h;split at h;cases h;refine⟨ab,ab,λk hk=>?_⟩;have:=adv h k hk;unfold yI Ng at this;split at this;cases this
 grind
def Nh(ps:cP)(s:dp)(k e:Int):Prop:=(fC ps≠0/\k=0/\e=fC ps)\/(fC ps=0/\gY ps s≠0/\k=0/\e=gY ps s)\/(fC ps=0/\gY ps s=0/\e=0/\Z9 ps s k)
theorem acB{ps:cP}{s:dp}{k k':Int}(h:Z9 ps s k)(h':Z9 ps s k'):k=k':=by
 rcases h with ⟨rfl,h⟩|⟨n,rfl,h1,h2,h3⟩<;>rcases h' with ⟨rfl,h'⟩|⟨n',rfl,AP,Z5,h3'⟩;rfl
 grind
 grind
 grind
theorem acC{ps:cP}{s:dp}{k e k' e':Int}(h:Nh ps s k e)(h':Nh ps s k' e'):k=k'/\e=e':=by rcases h with ⟨a,h1,h2⟩|⟨a,b,h1,h2⟩|⟨a,b,h2,h1⟩<;>rcases h' with ⟨a',AP,Z5⟩|⟨a',b',AP,Z5⟩|⟨a',b',Z5,AP⟩;all_goals first|exact absurd a' a|exact absurd a a'|exact absurd b' b|exact absurd b b'|exact⟨h1.trans AP.symm,h2.trans Z5.symm⟩|exact⟨acB h1 AP,h2.trans Z5.symm⟩
def aeW:cp->Dn
 |[.sl (.pair (.sl (.int .i64)) (.pair (.sl (.int .i64)) (.pair (.int .i64) (.pair (.sl (.int .i64)) .unit)))) ps .no,.sl (.pair (.int .i64) (.pair (.int .i64) (.pair (.int .i64) .unit))) s .no]=>some ([ps.length<=1000,s.length<=1000,∀p∈ps,cV p],.ex Int λk=>.ex Int λe=>.res (.tup [aV k,aV e]) [] [Nh ps s k e],
  [(2,.ex Int λe=>.st {sl:=[(6,aV e)],cQ:=[e=if fC ps=0 then gY ps s else fC ps]}),
   (9,.ex Nat λn=>.st {sl:=[(7,aV ((n:Int)+1))],cQ:=[n+1<=s.length,∀j,j<n->Na ps (eT s j) (eT s (j+1))],m:=s.length-n}),
   (15,.dep λte _=>Gn te 7 λi=>.st {sl:=[(12,aV (oQ ps (eT s (i-1).toNat) (eT s i.toNat)).1),(13,aV (oQ ps (eT s (i-1).toNat) (eT s i.toNat)).2.1),(14,aV (oQ ps (eT s (i-1).toNat) (eT s i.toNat)).2.2)]})])
 |_=>none
def K5g:eM:=(((T0.cG 50 λa=>dS (D42 a)).cG 77 λa=>dS (aeS a)).cG 61 λa=>dS (D50 a)).cG 78 λa=>dS (D60 a)
def mz.q1 (p0:List (bn).den)(p1:Nat)(p2:List (aF).den)(p3 p4:bC.den)(p5:Prop):Prop:=True/\(List.reverse p3).length<=1000/\(List.reverse p4).length<=1000/\lg (List.reverse p3)/\lg (List.reverse p4)/\(stA (List.reverse p3) (List.reverse p4) (p0.getD ((↑p1:Int)+1).toNat bo).2.2.1).1=(oQ p2 (eT p0 ((↑p1:Int)+1-1).toNat) (eT p0 ((↑p1:Int)+1).toNat)).1/\(stA (List.reverse p3) (List.reverse p4) (p0.getD ((↑p1:Int)+1).toNat bo).2.2.1).2.1=(oQ p2 (eT p0 ((↑p1:Int)+1-1).toNat) (eT p0 ((↑p1:Int)+1).toNat)).2.1/\(stA (List.reverse p3) (List.reverse p4) (p0.getD ((↑p1:Int)+1).toNat bo).2.2.1).2.2=(oQ p2 (eT p0 ((↑p1:Int)+1-1).toNat) (eT p0 ((↑p1:Int)+1).toNat)).2.2/\p5
def mz.q2 (p0:bC.den)(p1:List (bn).den)(p2:Nat)(p3:List (aF).den)(p4:bC.den)(p5:Prop):Prop:=True/\List.length p0<=1000/\(List.reverse p4).length<=1000/\lg p0/\lg (List.reverse p4)/\(stA p0 (List.reverse p4) (p1.getD ((↑p2:Int)+1).toNat bo).2.2.1).1=(oQ p3 (eT p1 ((↑p2:Int)+1-1).toNat) (eT p1 ((↑p2:Int)+1).toNat)).1/\(stA p0 (List.reverse p4) (p1.getD ((↑p2:Int)+1).toNat bo).2.2.1).2.1=(oQ p3 (eT p1 ((↑p2:Int)+1-1).toNat) (eT p1 ((↑p2:Int)+1).toNat)).2.1/\(stA p0 (List.reverse p4) (p1.getD ((↑p2:Int)+1).toNat bo).2.2.1).2.2=(oQ p3 (eT p1 ((↑p2:Int)+1-1).toNat) (eT p1 ((↑p2:Int)+1).toNat)).2.2/\p5
def mz.q3 (p0:bC.den)(p1:List (bn).den)(p2:Nat)(p3:List (aF).den)(p4:bC.den):Prop:=True/\List.length p0<=1000/\List.length p4<=1000/\lg p0/\lg p4/\(stA p0 p4 (p1.getD ((↑p2:Int)+1).toNat bo).2.2.1).1=(oQ p3 (eT p1 ((↑p2:Int)+1-1).toNat) (eT p1 ((↑p2:Int)+1).toNat)).1/\(stA p0 p4 (p1.getD ((↑p2:Int)+1).toNat bo).2.2.1).2.1=(oQ p3 (eT p1 ((↑p2:Int)+1-1).toNat) (eT p1 ((↑p2:Int)+1).toNat)).2.1/\(stA p0 p4 (p1.getD ((↑p2:Int)+1).toNat bo).2.2.1).2.2=(oQ p3 (eT p1 ((↑p2:Int)+1-1).toNat) (eT p1 ((↑p2:Int)+1).toNat)).2.2/\True
def mz.q4 (p0:List (bn).den)(p1:Nat)(p2:List (aF).den)(p3:bC.den):Prop:=True/\aB (decide ((p0.getD ((↑p1:Int)+1).toNat bo).2.1=0)) (mz.q3 p3 p0 p1 p2 (p2.getD (Int.toNat (p0.getD ((↑p1:Int)+1).toNat bo).1) bm).1) (aB (decide ((p0.getD ((↑p1:Int)+1).toNat bo).2.1=1)) (mz.q2 p3 p0 p1 p2 (p2.getD (Int.toNat (p0.getD ((↑p1:Int)+1).toNat bo).1) bm).2.1 True) (aB (decide ((p0.getD ((↑p1:Int)+1).toNat bo).2.1=2)) (mz.q2 p3 p0 p1 p2 (p2.getD (Int.toNat (p0.getD ((↑p1:Int)+1).toNat bo).1) bm).1 True) (aB (decide ((p0.getD ((↑p1:Int)+1).toNat bo).2.1=3)) (mz.q3 p3 p0 p1 p2 (p2.getD (Int.toNat (p0.getD ((↑p1:Int)+1).toNat bo).1) bm).2.1) False)))
def mz.q5 (p0:List (bn).den)(p1:Nat)(p2:List (aF).den)(p3 p4:bC.den):Prop:=True/\(List.reverse p3).length<=1000/\List.length p4<=1000/\lg (List.reverse p3)/\lg p4/\(stA (List.reverse p3) p4 (p0.getD ((↑p1:Int)+1).toNat bo).2.2.1).1=(oQ p2 (eT p0 ((↑p1:Int)+1-1).toNat) (eT p0 ((↑p1:Int)+1).toNat)).1/\(stA (List.reverse p3) p4 (p0.getD ((↑p1:Int)+1).toNat bo).2.2.1).2.1=(oQ p2 (eT p0 ((↑p1:Int)+1-1).toNat) (eT p0 ((↑p1:Int)+1).toNat)).2.1/\(stA (List.reverse p3) p4 (p0.getD ((↑p1:Int)+1).toNat bo).2.2.1).2.2=(oQ p2 (eT p0 ((↑p1:Int)+1-1).toNat) (eT p0 ((↑p1:Int)+1).toNat)).2.2/\True
def mz.q6 (p0:List (bn).den)(p1:Nat)(p2:List (aF).den)(p3:bC.den):Prop:=True/\aB (decide ((p0.getD ((↑p1:Int)+1).toNat bo).2.1=0)) (mz.q5 p0 p1 p2 p3 (p2.getD (Int.toNat (p0.getD ((↑p1:Int)+1).toNat bo).1) bm).1) (aB (decide ((p0.getD ((↑p1:Int)+1).toNat bo).2.1=1)) (mz.q1 p0 p1 p2 p3 (p2.getD (Int.toNat (p0.getD ((↑p1:Int)+1).toNat bo).1) bm).2.1 True) (aB (decide ((p0.getD ((↑p1:Int)+1).toNat bo).2.1=2)) (mz.q1 p0 p1 p2 p3 (p2.getD (Int.toNat (p0.getD ((↑p1:Int)+1).toNat bo).1) bm).1 True) (aB (decide ((p0.getD ((↑p1:Int)+1).toNat bo).2.1=3)) (mz.q5 p0 p1 p2 p3 (p2.getD (Int.toNat (p0.getD ((↑p1:Int)+1).toNat bo).1) bm).2.1) False)))
def mz.q7 (p0:List (bn).den)(p1:List (aF).den)(p2:Int)(p3:Prop):Prop:=(0<=(p0.getD p2.toNat bo).1/\(p0.getD p2.toNat bo).1<(↑p1.length:Int))/\List.length (p1.getD (Int.toNat (p0.getD p2.toNat bo).1) bm).1<=1000/\List.length (p1.getD (Int.toNat (p0.getD p2.toNat bo).1) bm).2.1<=1000/\p3
theorem mz:VI K5g Tryz.f33 [some bY,some bY] aeW:=by
 refine dH λa=>?_;unfold aeW;split
 rotate_left
 trivial;rename_i ps s;intro hp;refine jx (A:=ps.length<=1000/\(∀(p:(aF).den),p∈ps->cV p)/\aB ((if 4<ps.length then(6:Int)else gG ps)==0) (s.length<=1000/\(∀(p:(aF).den),p∈ps->cV p)/\∃(a:Int),ps=ps/\s=s/\(0:Int)=0/\(0:Int)=0/\gY ps s=a/\(a=if fC ps=0 then gY ps s else fC ps)/\True) (∃(a:Int),ps=ps/\s=s/\(0:Int)=0/\(0:Int)=0/\(if 4<ps.length then(6:Int)else gG ps)=a/\(a=if fC ps=0 then gY ps s else fC ps)/\True)/\∀(a:Int),(a=if fC ps=0 then gY ps s else fC ps)->aB (a !=0) (∃(x:Int),∃(y:Int),0=x/\a=y/\Nh ps s x y/\True) ((∃(a:Nat),1=(↑a:Int)+1/\a+1<=s.length/\(∀(j:Nat),j<a->Na ps (eT s j) (eT s (j+1)))/\s.length-a<1000000)/\∀(a:Nat),a+1<=s.length->(∀(j:Nat),j<a->Na ps (eT s j) (eT s (j+1)))->aB (decide ((↑a:Int)+1<(↑s.length:Int))) (cR ((↑a:Int)+1-1)/\(0<=(↑a:Int)+1-1/\(↑a:Int)+1-1<(↑s.length:Int))/\(0<=(↑a:Int)+1/\(↑a:Int)+1<(↑s.length:Int))/\mz.q7 s ps ((↑a:Int)+1-1) (mz.q7 s ps ((↑a:Int)+1) (aB (decide ((s.getD ((↑a:Int)+1-1).toNat bo).2.1=0)) (mz.q4 s a ps (ps.getD (Int.toNat (s.getD ((↑a:Int)+1-1).toNat bo).1) bm).2.1) (aB (decide ((s.getD ((↑a:Int)+1-1).toNat bo).2.1=1)) (mz.q6 s a ps (ps.getD (Int.toNat (s.getD ((↑a:Int)+1-1).toNat bo).1) bm).1) (aB (decide ((s.getD ((↑a:Int)+1-1).toNat bo).2.1=2)) (mz.q6 s a ps (ps.getD (Int.toNat (s.getD ((↑a:Int)+1-1).toNat bo).1) bm).2.1) (aB (decide ((s.getD ((↑a:Int)+1-1).toNat bo).2.1=3)) (mz.q4 s a ps (ps.getD (Int.toNat (s.getD ((↑a:Int)+1-1).toNat bo).1) bm).1) False)))/\aB (decide ((oQ ps (eT s ((↑a:Int)+1-1).toNat) (eT s ((↑a:Int)+1).toNat)).2.2<3)) (∃(x:Int),∃(y:Int),(↑a:Int)+1=x/\0=y/\Nh ps s x y/\True) (cR ((oQ ps (eT s ((↑a:Int)+1-1).toNat) (eT s ((↑a:Int)+1).toNat)).2.1-(oQ ps (eT s ((↑a:Int)+1-1).toNat) (eT s ((↑a:Int)+1).toNat)).1)/\cR ((ps.getD (Int.toNat (s.getD ((↑a:Int)+1-1).toNat bo).1) bm).2.2.1+(ps.getD (Int.toNat (s.getD ((↑a:Int)+1).toNat bo).1) bm).2.2.1)/\aB (decide ((oQ ps (eT s ((↑a:Int)+1-1).toNat) (eT s ((↑a:Int)+1).toNat)).2.1-(oQ ps (eT s ((↑a:Int)+1-1).toNat) (eT s ((↑a:Int)+1).toNat)).1>(ps.getD (Int.toNat (s.getD ((↑a:Int)+1-1).toNat bo).1) bm).2.2.1+(ps.getD (Int.toNat (s.getD ((↑a:Int)+1).toNat bo).1) bm).2.2.1)) (∃(x:Int),∃(y:Int),(↑a:Int)+1=x/\0=y/\Nh ps s x y/\True) (cR ((↑a:Int)+1+1)/\∃(x:Nat),ps=ps/\s=s/\(↑a:Int)+1+1=(↑x:Int)+1/\x+1<=s.length/\(∀(j:Nat),j<x->Na ps (eT s j) (eT s (j+1)))/\s.length-x<s.length-a))))) (∃(a:Int),∃(x:Int),(-1:Int)=a/\0=x/\Nh ps s a x/\True))) (by kernel_rfl) ?_;unfold mz.q7 mz.q6 mz.q5 mz.q4 mz.q3 mz.q2 mz.q1;obtain⟨g1,g2,g3,-⟩:=hp;refine⟨g1,g3,cH.2 ⟨λh0=>⟨g2,g3,_,rfl,rfl,rfl,rfl,rfl,(if_pos h0).symm,trivial⟩,λh0=>⟨_,rfl,rfl,rfl,rfl,rfl,(if_neg h0).symm,trivial⟩⟩,λe he=>dg.2 ⟨λe0=>?_,λe0=>⟨_,_,rfl,rfl,?_,trivial⟩⟩⟩
 rotate_left
 by_cases hA:fC ps=0;rw[if_pos hA]at he;exact .inr (.inl ⟨hA,he▸e0,rfl,he⟩);rw[if_neg hA]at he;exact .inl ⟨hA,rfl,he⟩;have hA:fC ps=0:=Decidable.byContradiction λh=>h (by rw[if_neg h]at he;exact he.symm.trans e0);have hS:gY ps s=0:=by rw[if_pos hA]at he;exact he.symm.trans e0
 obtain⟨h1,h4⟩:=nL hA;obtain⟨h2,h3,h5⟩:=Rz hS;have fin:∀k,Z9 ps s k->∃a b,k=a/\0=b/\Nh ps s a b:=λk h=>⟨_,_,rfl,rfl,.inr (.inr ⟨hA,hS,rfl,h⟩)⟩;simp only[bP,eq_self,and_true,true_and,cR,eT];refine⟨⟨0,ab,ab,λj hj=>absurd hj ab,by first|omega|(dsimp only;omega)⟩,λn hn hold=>⟨λhlt=>?_,λhlt=>fin _ (.inl ⟨rfl,λj hj=>hold j ab⟩)⟩⟩;have e1:((n:Int)+1-1).toNat=n:=ab
 have e2:((n:Int)+1).toNat=n+1:=ab
 rw[e1,e2];obtain⟨b1,c1⟩:=h5 n ab;obtain⟨b2,c2⟩:=h5 (n+1) ab;have Vf:∀k:Nat,k<ps.length->iA (ps.getD k bm):=λk hk=>h4 _ (by rw[aU,cq hk];exact nQ hk);have o1:=Vf _ ((Int.toNat_lt b1.1).2 b1.2);have o2:=Vf _ ((Int.toNat_lt b2.1).2 b2.2);have hx:=o1.CH _ c1;have hy:=o2.CH _ c2;have s1:=BU o1;have s2:=BU o2;have st:=NY (s.getD (n+1) bo).2.2.1 (IW (n:=(s.getD n bo).2.1) o1.hu o1.hl).2 (IW (n:=(s.getD (n+1) bo).2.1) o2.hu o2.hl).1;have w1:=o1.num.1.2.2.2;have w2:=o2.num.1.2.2.2;refine⟨⟨ab,ab⟩,⟨ab,ab⟩,⟨ab,ab⟩,b1,s1.1,s1.2.1,b2,s2.1,s2.2.1,?_,?_⟩;have i1:lg (qC ps (s.getD n bo)).1:=o1.hu;have i2:lg (qC ps (s.getD n bo)).2.1:=o1.hl;have i3:lg (qC ps (s.getD (n+1) bo)).1:=o2.hu;have i4:lg (qC ps (s.getD (n+1) bo)).2.1:=o2.hl;have t1:(qC ps (s.getD n bo)).1.length<=1000:=s1.1;have t2:(qC ps (s.getD n bo)).2.1.length<=1000:=s1.2.1;have t3:(qC ps (s.getD (n+1) bo)).1.length<=1000:=s2.1;have t4:(qC ps (s.getD (n+1) bo)).2.1.length<=1000:=s2.2.1;clear st;unfold oQ;simp only[qC]at i1 i2 i3 i4 t1 t2 t3 t4⊢;clear c1 c2
 revert hx hy i1 i2 i3 i4 t1 t2 t3 t4
 generalize ps.getD (Int.toNat (s.getD n bo).1) bm=p;generalize ps.getD (Int.toNat (s.getD (n+1) bo).1) bm=q;generalize(s.getD n bo).2.1=lx;generalize(s.getD (n+1) bo).2.1=ly;intro hx hy i1 i2 i3 i4 t1 t2 t3 t4;have i5:lg p.1.reverse:=λx hx=>i1 x (by simpa using hx);have i6:lg p.2.1.reverse:=λx hx=>i2 x (by simpa using hx);have i7:lg q.1.reverse:=λx hx=>i3 x (by simpa using hx);have i8:lg q.2.1.reverse:=λx hx=>i4 x (by simpa using hx);rcases adz hx with rfl|rfl|rfl|rfl<;>rcases adz hy with rfl|rfl|rfl|rfl<;>simp[fL,fK,i1,i2,i3,i4,i5,i6,i7,i8,t1,t2,t3,t4];have st:0<=(oQ ps (s.getD n bo) (s.getD (n+1) bo)).1/\(oQ ps (s.getD n bo) (s.getD (n+1) bo)).1<=18/\0<=(oQ ps (s.getD n bo) (s.getD (n+1) bo)).2.1/\(oQ ps (s.getD n bo) (s.getD (n+1) bo)).2.1<=18/\0<=(oQ ps (s.getD n bo) (s.getD (n+1) bo)).2.2:=st;refine bP.2 ⟨λh=>fin _ (.inr ⟨n,rfl,ab,hold,λhj=>absurd hj.1 (Int.not_le.2 h)⟩),λh=>⟨⟨ab,ab⟩,⟨?_,?_⟩,bP.2 ⟨λh'=>fin _ (.inr ⟨n,rfl,ab,hold,λhj=>absurd hj.2 (Int.not_le.2 h')⟩),λh'=>⟨⟨ab,ab⟩,n+1,ab,ab,λj hj=>?_,ab⟩⟩⟩⟩
 grind
 grind
 rcases Nat.lt_succ_iff_lt_or_eq.1 hj with hj|rfl
 grind
 exact⟨Int.not_lt.1 h,Int.not_lt.1 h'⟩
def K6g:eM:=(((T0.cG 51 λa=>dS (D51 a)).cG 79 λa=>dS (aeR a)).cG 81 λa=>dS (D16 a)).cG 80 λa=>dS (D63 a)
def aeV:cp->Dn
 |[.sl (.pair (.sl (.int .i64)) (.pair (.sl (.int .i64)) (.pair (.int .i64) (.pair (.sl (.int .i64)) .unit)))) ps .no,.sl (.pair (.int .i64) (.pair (.int .i64) (.pair (.int .i64) .unit))) s .no]=>some ([ps.length<=1000,s.length<=1000,∀p∈ps,cV p],.ex Int λk=>.ex Int λe=>.res (.tup [aV k,aV e]) [] [Nh ps s k e],
  [(11,.ex Nat λn=>.st {sl:=[(8,aV ((n:Int)+1))],cQ:=[n+1<=s.length,∀j,j<n->Na ps (eT s j) (eT s (j+1))],m:=s.length-n})])
 |_=>none
def Ij.q1 (p0:List (bn).den)(p1:List (aF).den)(p2:Int)(p3:Prop):Prop:=(0<=(p0.getD p2.toNat bo).1/\(p0.getD p2.toNat bo).1<(↑p1.length:Int))/\List.length (p1.getD (Int.toNat (p0.getD p2.toNat bo).1) bm).1<=1000/\List.length (p1.getD (Int.toNat (p0.getD p2.toNat bo).1) bm).2.1<=1000/\List.length (p1.getD (Int.toNat (p0.getD p2.toNat bo).1) bm).2.2.2.1<=1000/\0<=(p0.getD p2.toNat bo).2.1/\(p0.getD p2.toNat bo).2.1<=3/\p3
def Ij.q2 (p0:List (aF).den)(p1:List (bn).den)(p2:Int)(p3:Prop):Prop:=0<=(p0.getD (Int.toNat (p1.getD p2.toNat bo).1) bm).2.2.1/\(p0.getD (Int.toNat (p1.getD p2.toNat bo).1) bm).2.2.1<=2/\p3
theorem Ij:VI K6g Tryz.f34 [some bY,some bY] aeV:=by
 refine dH λa=>?_;unfold aeV;split
 rotate_left
 trivial;rename_i ps s;intro hp;refine jx (A:=ps.length<=1000/\(∀(p:(aF).den),p∈ps->cV p)/\aB (fC ps !=0) (∃(a:Int),∃(x:Int),0=a/\fC ps=x/\Nh ps s a x/\True) (s.length<=1000/\ps.length<=1000/\(∀(p:(aF).den),p∈ps->cV p)/\aB (gY ps s !=0) (∃(a:Int),∃(x:Int),0=a/\gY ps s=x/\Nh ps s a x/\True) ((∃(a:Nat),1=(↑a:Int)+1/\a+1<=s.length/\(∀(j:Nat),j<a->Na ps (eT s j) (eT s (j+1)))/\s.length-a<1000000)/\∀(a:Nat),a+1<=s.length->(∀(j:Nat),j<a->Na ps (eT s j) (eT s (j+1)))->aB (decide ((↑a:Int)+1<(↑s.length:Int))) (cR ((↑a:Int)+1-1)/\(0<=(↑a:Int)+1-1/\(↑a:Int)+1-1<(↑s.length:Int))/\(0<=(↑a:Int)+1/\(↑a:Int)+1<(↑s.length:Int))/\Ij.q1 s ps ((↑a:Int)+1-1) (Ij.q1 s ps ((↑a:Int)+1) ((fL (s.getD ((↑a:Int)+1-1).toNat bo).2.1 (ps.getD (Int.toNat (s.getD ((↑a:Int)+1-1).toNat bo).1) bm).1 (ps.getD (Int.toNat (s.getD ((↑a:Int)+1-1).toNat bo).1) bm).2.1).length<=1000/\(fK (s.getD ((↑a:Int)+1).toNat bo).2.1 (ps.getD (Int.toNat (s.getD ((↑a:Int)+1).toNat bo).1) bm).1 (ps.getD (Int.toNat (s.getD ((↑a:Int)+1).toNat bo).1) bm).2.1).length<=1000/\lg (fL (s.getD ((↑a:Int)+1-1).toNat bo).2.1 (ps.getD (Int.toNat (s.getD ((↑a:Int)+1-1).toNat bo).1) bm).1 (ps.getD (Int.toNat (s.getD ((↑a:Int)+1-1).toNat bo).1) bm).2.1)/\lg (fK (s.getD ((↑a:Int)+1).toNat bo).2.1 (ps.getD (Int.toNat (s.getD ((↑a:Int)+1).toNat bo).1) bm).1 (ps.getD (Int.toNat (s.getD ((↑a:Int)+1).toNat bo).1) bm).2.1)/\Ij.q2 ps s ((↑a:Int)+1-1) (Ij.q2 ps s ((↑a:Int)+1) (aB (!gr (fL (s.getD ((↑a:Int)+1-1).toNat bo).2.1 (ps.getD (Int.toNat (s.getD ((↑a:Int)+1-1).toNat bo).1) bm).1 (ps.getD (Int.toNat (s.getD ((↑a:Int)+1-1).toNat bo).1) bm).2.1) (fK (s.getD ((↑a:Int)+1).toNat bo).2.1 (ps.getD (Int.toNat (s.getD ((↑a:Int)+1).toNat bo).1) bm).1 (ps.getD (Int.toNat (s.getD ((↑a:Int)+1).toNat bo).1) bm).2.1) ((ps.getD (Int.toNat (s.getD ((↑a:Int)+1-1).toNat bo).1) bm).2.2.1+(ps.getD (Int.toNat (s.getD ((↑a:Int)+1).toNat bo).1) bm).2.2.1) (s.getD ((↑a:Int)+1).toNat bo).2.2.1) (∃(x:Int),∃(y:Int),(↑a:Int)+1=x/\0=y/\Nh ps s x y/\True) (cR ((↑a:Int)+1+1)/\∃(x:Nat),ps=ps/\s=s/\(↑a:Int)+1+1=(↑x:Int)+1/\x+1<=s.length/\(∀(j:Nat),j<x->Na ps (eT s j) (eT s (j+1)))/\s.length-x<s.length-a)))))) (∃(a:Int),∃(x:Int),(-1:Int)=a/\0=x/\Nh ps s a x/\True)))) (by kernel_rfl) ?_;unfold Ij.q2 Ij.q1;obtain⟨g1,g2,g3,-⟩:=hp;refine⟨g1,g3,dg.2 ⟨λhA=>⟨g2,g1,g3,dg.2 ⟨λhS=>?_,λhS=>⟨_,_,rfl,rfl,.inr (.inl ⟨hA,hS,rfl,rfl⟩),trivial⟩⟩⟩,λhA=>⟨_,_,rfl,rfl,.inl ⟨hA,rfl,rfl⟩,trivial⟩⟩⟩;obtain⟨h1,h4⟩:=nL hA;obtain⟨h2,h3,h5⟩:=Rz hS;have fin:∀k,Z9 ps s k->∃a b,k=a/\0=b/\Nh ps s a b:=λk h=>⟨_,_,rfl,rfl,.inr (.inr ⟨hA,hS,rfl,h⟩)⟩;simp only[bP,ek,eq_self,and_true,true_and,cR];refine⟨⟨0,ab,ab,λj hj=>absurd hj ab,ab⟩,λn hn hold=>⟨λhlt=>?_,λhlt=>fin _ (.inl ⟨rfl,λj hj=>hold j ab⟩)⟩⟩;have e1:((n:Int)+1-1).toNat=n:=ab
 have e2:((n:Int)+1).toNat=n+1:=ab
 rw[e1,e2];obtain⟨b1,c1⟩:=h5 n ab;obtain⟨b2,c2⟩:=h5 (n+1) ab;have Vf:∀k:Nat,k<ps.length->iA (ps.getD k bm):=λk hk=>h4 _ (by rw[aU,cq hk];exact nQ hk);have o1:=Vf _ ((Int.toNat_lt b1.1).2 b1.2);have o2:=Vf _ ((Int.toNat_lt b2.1).2 b2.2);have hx:=o1.CH _ c1;have hy:=o2.CH _ c2;have s1:=BU o1;have s2:=BU o2;have w1:=o1.num.1.2.2.2;have w2:=o2.num.1.2.2.2;have hj:gr (fL (s.getD n bo).2.1 (qC ps (s.getD n bo)).1 (qC ps (s.getD n bo)).2.1) (fK (s.getD (n+1) bo).2.1 (qC ps (s.getD (n+1) bo)).1 (qC ps (s.getD (n+1) bo)).2.1) ((qC ps (s.getD n bo)).2.2.1+(qC ps (s.getD (n+1) bo)).2.2.1) (s.getD (n+1) bo).2.2.1=true↔Na ps (eT s n) (eT s (n+1)):=by unfold gr;rw[decide_eq_true_iff];exact Iff.rfl
 refine⟨⟨ab,ab⟩,⟨ab,ab⟩,⟨ab,ab⟩,b1,s1.1,s1.2.1,s1.2.2,hx.1,hx.2,b2,s2.1,s2.2.1,s2.2.2,hy.1,hy.2,?_,?_,(IW o1.hu o1.hl).2,(IW o2.hu o2.hl).1,w1.1,w1.2,w2.1,w2.2,gZ.2 ⟨λh=>⟨⟨ab,ab⟩,n+1,ab,ab,λj AL=>?_,ab⟩,λh=>fin _ (.inr ⟨n,rfl,ab,hold,λh'=>?_⟩)⟩⟩;rw[(Dj o1.len).2];exact s1.1
 rw[(Dj o2.len).1];exact s2.1
 grind
 grind
end Go.Tv
namespace Go.Tv
open Go Go.Di Go.Proofs
theorem four{x:Int}(h:0<=x/\x<=3):x=0\/x=1\/x=2\/x=3:=ab
theorem ae9{x n:Int}(hx:0<=x/\x<=3)(hn:0<=n/\n<=3):(0<=mw x n/\mw x n<=3)/\mw (mw x n) n=x:=by rcases four hx with rfl|rfl|rfl|rfl<;>rcases four hn with rfl|rfl|rfl|rfl<;>decide
theorem L5{n x:Int}{q:br}:x∈iC n q 4↔(0<=x/\x<=3)/\mw x n∈q:=by simp only[iC,List.mem_filter,er,qY,cA];constructor;rintro⟨⟨k,hk,rfl⟩,h⟩;exact⟨by simp only[Int.ofNat_eq_natCast];omega,h⟩;rintro⟨h1,h2⟩;exact⟨⟨x.toNat,ab,by simp only[Int.ofNat_eq_natCast];omega⟩,h2⟩
theorem WG{u l q:br}{w n:Int}(h:Ok u l w q)(hn:0<=n/\n<=3):Ok (fK n u l) (fL n u l) w (iC n q 4):=by
 have h1:=h.n3;have h2:=h.n8;have h3:=h.len;have hlen:(fK n u l).length=u.length/\(fL n u l).length=u.length:=by rcases four hn with rfl|rfl|rfl|rfl<;>simp[fK,fL,h3]
 have hm:(∀x∈fK n u l,x∈u\/x∈l)/\∀x∈fL n u l,x∈u\/x∈l:=by rcases four hn with rfl|rfl|rfl|rfl<;>simp[fK,fL]<;>exact⟨λx h=>by simp[h],λx h=>by simp[h]⟩
 refine⟨ab,ab,ab,λx hx=>(hm.1 x hx).elim (h.hu x) (h.hl x),λx hx=>(hm.2 x hx).elim (h.hu x) (h.hl x),h.w0,h.w2,?_,λx hx=>(L5.1 hx).1,TY _ _ _⟩;obtain⟨y,hy⟩:=List.exists_mem_of_ne_nil _ h.ne;have:=ae9 (h.CH y hy) hn;intro e;have:mw y n∈iC n q 4:=L5.2 ⟨this.1,by rw[this.2];exact hy⟩;rw[e]at this;cases this
structure Grp (g1 g2 g3:mm->mm) (Z8:mm->Prop):Prop where
 qB:∀w,Z8 w->Z8 (g1 w)/\Z8 (g2 w)/\Z8 (g3 w)
 nd:∀w,Z8 w->[w,g1 w,g2 w,g3 w].Nodup
 m1:∀w,Z8 w->g1 (g1 w)=w/\g2 (g1 w)=g3 w/\g3 (g1 w)=g2 w
 m2:∀w,Z8 w->g1 (g2 w)=g3 w/\g2 (g2 w)=w/\g3 (g2 w)=g1 w
 m3:∀w,Z8 w->g1 (g3 w)=g2 w/\g2 (g3 w)=g1 w/\g3 (g3 w)=w
def orb(g1 g2 g3:mm->mm)(w:mm):List mm:=[w,g1 w,g2 w,g3 w]
def stp(g1 g2 g3:mm->mm)(q:List mm×Int)(w:mm):List mm×Int:=
 (wX lF w q.1,bif AU lF (g1 w) (wX lF w q.1)then q.2 else bif (!eqW (g2 w) w&&AU lF (g2 w) (wX lF w q.1))then q.2 else bif AU lF (g3 w) (wX lF w q.1)then q.2 else q.2+1)
section
variable {g1 g2 g3:mm->mm} {Z8:mm->Prop}
end
end Go.Tv
