import Derived.Test.YtedcgbkilmlbhaaPk15
set_option maxRecDepth 100000
namespace Go.Tv
open Go Go.Di Go.Proofs
def abq(te:List TV)(i:Nat)(k:Int->LA):LA:=
 match te.getD i .unk with
 |.val (.int .i64 n)=>k n
 |_=>.un 0
structure Stk (ps:List aW.den) (o:List Int) (s:List bV.den):Prop where
 nd:(s.map (·.1)).Nodup
 fr:∀x∈s,x.1∈o
 ix:∀x∈s,0<=x.1/\x.1<(ps.length:Int)
 yw:∀x∈s,x.2.1∈(ps.getD x.1.toNat ([],[],0,[],())).2.2.2.1
 z:(s.getD 0 (0,0,0,())).2.2.1=0
def adF:List TV->List TV->Dn
 |[.agg [.val (.int .i64 a),.val (.int .i64 _),.val (.int .i64 _)],.ptr 0 0],[.val (.int .i64 x),.val (.int .i64 y),.val (.int .i64 z)]=>some ([],.res (nW (a==x)) [bI x,bI y,bI z] [],[])
 |_,_=>none
theorem afd:VC T0 Try.f71 [some .bool] [some cn,some cn,some cn] adF:=by
 refine mV λa cs=>?_;unfold adF;split
 rotate_left
 .trivial
 rename_i a b c x y z;intro hp;refine nS (A:=(a==x)=(a==x)/\x=x/\y=y/\z=z/\True) (by kernel_rfl) ?_;exact⟨rfl,rfl,rfl,rfl,trivial⟩
def K2s:fQ:=T0.oz 71 λa c=>dS (adF a c)
def adD:List TV->List TV->Dn
 |[.sl (.pair (.int .i64) (.pair (.int .i64) (.pair (.int .i64) .unit))) l .no,.fn 71 [] [.ptr 0 0]],[.val (.int .i64 x),.val (.int .i64 y),.val (.int .i64 z)]=>some ([l.length<=1000,∀e∈l,e.1≠x],.res (bI (-1)) [bI x,bI y,bI z] [],[(3,.ex Nat λi=>.st {sl:=[(8,bI i)],en:=[i<=l.length],m:=l.length-i})])
 |_,_=>none
theorem ahi:VC K2s Try.f81 [some cn] [some cn,some cn,some cn] adD:=by
 refine mV λa cs=>?_;unfold adD;split
 rotate_left
 .trivial
 rename_i l x y z;intro hp;obtain⟨h1,h2,-⟩:=hp;refine nS (A:=(∃(a:Nat),0=(↑a:Int)/\a<=l.length/\(l.length-a)<1000000)/\∀(a:Nat),a<=l.length->aO (decide ((↑a:Int)<(↑l.length:Int))) ((0<=(↑a:Int)/\(↑a:Int)<(↑l.length:Int))/\aO ((l.getD a (0,0,0,())).1==x) ((↑a:Int)=(-1:Int)/\x=x/\y=y/\z=z/\True) (dQ ((↑a:Int)+1)/\∃(u:Nat),l=l/\(↑l.length:Int)=(↑l.length:Int)/\(↑a:Int)+1=(↑u:Int)/\x=x/\y=y/\z=z/\u<=l.length/\(l.length-u)<(l.length-a))) ((-1:Int)=(-1:Int)/\x=x/\y=y/\z=z/\True)) (by kernel_rfl) ?_;simp only[dz,ek,eq_self,and_true,true_and,dQ];refine⟨⟨0,rfl,by omega,by first|omega|(dsimp only;omega)⟩,λi hi=>⟨λh=>⟨⟨by omega,by omega⟩,λe=>?_,λ_=>⟨⟨by omega,by omega⟩,i+1,by omega,by omega,by omega⟩⟩,λ_=>trivial⟩⟩;refine(h2 _ ?_ e).elim;have hi:i<l.length:=by omega
 rw[aR,bQ hi];exact mB hi
def K3s:fQ:=K2s.oz 81 λa c=>dS (adD a c)
def adG:List TV->List TV->Dn
 |[.sl (.pair (.int .i64) (.pair (.int .i64) (.pair (.int .i64) .unit))) l .no,.fn 71 [] [.ptr 0 0]],[.val (.int .i64 x),.val (.int .i64 y),.val (.int .i64 z)]=>some ([l.length<=1000,∀e∈l,e.1≠x],.res (nW false) [bI x,bI y,bI z] [],[])
 |_,_=>none
theorem ahk:VC K3s Try.f69 [some .bool] [some cn,some cn,some cn] adG:=by
 refine mV λa cs=>?_;unfold adG;split
 rotate_left
 .trivial
 rename_i l x y z;intro hp;obtain⟨h1,h2,-⟩:=hp;refine nS (A:=l.length<=1000/\(∀(e:(bV).den),e∈l->e.fst≠x)/\false=false/\x=x/\y=y/\z=z/\True) (by kernel_rfl) ?_;exact⟨h1,h2,rfl,rfl,rfl,rfl,trivial⟩
def K4s:fQ:=(T0.oz 69 λa c=>dS (adG a c)).eV 72 λa=>dS (D80 a)
def adH:List TV->Dn
 |[.sl (.pair (.sl (.int .i64)) (.pair (.sl (.int .i64)) (.pair (.int .i64) (.pair (.sl (.int .i64)) .unit)))) ps .no,.sl (.pair (.int .i64) (.pair (.int .i64) (.pair (.int .i64) .unit))) s .no]=>some ([1<=s.length,s.length<=4,∀p∈ps,gX p,Stk ps (s.map (·.1)) s],.res (bI 0) [] [],
  [(8,.ex Nat λi=>.st {sl:=[(17,bI i)],en:=[i<=s.length],m:=s.length-i})])
 |_=>none
def TM.q1 (p0:Nat)(p1:List (aW).den)(p2:List (bV).den):Prop:=dQ ((↑p0:Int)+1)/\∃(a:Nat),p1=p1/\p2=p2/\p2=p2/\(↑p2.length:Int)=(↑p2.length:Int)/\(↑p0:Int)+1=(↑a:Int)/\a<=p2.length/\(p2.length-a)<(p2.length-p0)
theorem TM:VI K4s Try.f50 [some cn] adH:=by
 refine gz λa=>?_;unfold adH;split
 rotate_left
 .trivial
 rename_i ps s;intro hp;obtain⟨h1,h2,h3,h4,-⟩:=hp;refine nS (A:=aO ((↑s.length:Int)==0) ((7:Int)=0/\True) (aO (decide ((↑s.length:Int)>4)) ((6:Int)=0/\True) ((∃(a:Nat),0=(↑a:Int)/\a<=s.length/\(s.length-a)<1000000)/\∀(a:Nat),a<=s.length->aO (decide ((↑a:Int)<(↑s.length:Int))) ((0<=(↑a:Int)/\(↑a:Int)<(↑s.length:Int))/\aO (decide ((s.getD a (0,0,0,())).1<0)) ((3:Int)=0/\True) (aO (decide ((s.getD a (0,0,0,())).1>=(↑ps.length:Int))) ((3:Int)=0/\True) ((0<=(↑a:Int)/\(↑a:Int)<=(↑s.length:Int))/\(List.take a s).length<=1000/\(∀(e:(bV).den),e∈List.take a s->e.1≠(s.getD a (0,0,0,())).1)/\aO (decide ((s.getD a (0,0,0,())).2.1<0)) ((8:Int)=0/\True) (aO (decide ((s.getD a (0,0,0,())).2.1>3)) ((8:Int)=0/\True) ((0<=(s.getD a (0,0,0,())).1/\(s.getD a (0,0,0,())).1<(↑ps.length:Int))/\List.length (ps.getD (Int.toNat (s.getD a (0,0,0,())).1) ([],[],0,[],())).2.2.2.1<=1000/\aO (!decide ((s.getD a (0,0,0,())).2.1∈(ps.getD (Int.toNat (s.getD a (0,0,0,())).1) ([],[],0,[],())).2.2.2.1)) ((12:Int)=0/\True) (aO ((↑a:Int)==0) (aO ((s.getD a (0,0,0,())).2.2.1 !=0) ((1:Int)=0/\True) (TM.q1 a ps s)) (TM.q1 a ps s))))))) ((0:Int)=0/\True)))) (by kernel_rfl) ?_;unfold TM.q1;simp only[dz,ek,fC,gF,eq_self,and_true,true_and,dQ];refine⟨λh=>absurd h (by omega),λ_=>⟨λh=>absurd h (by omega),λ_=>⟨⟨0,rfl,by omega,by first|omega|(dsimp only;omega)⟩,λi hi=>⟨λOK=>?_,λ_=>trivial⟩⟩⟩⟩;have hlt:i<s.length:=by omega
 have e0:s.getD i (0,0,0,())=s[i]:=by rw[aR,bQ hlt];rfl
 have hm:s.getD i (0,0,0,())∈s:=by rw[e0];exact mB hlt
 have b1:=h4.ix _ hm;have b2:=h4.yw _ hm;have hi2:(s.getD i (0,0,0,())).1.toNat<ps.length:=(Int.toNat_lt b1.1).2 b1.2;have hp:gX (ps.getD (s.getD i (0,0,0,())).1.toNat ([],[],0,[],())):=h3 _ (by rw[aR,bQ hi2];exact mB hi2);have b3:=hp.yw _ b2;have b4:=q_len hp;have hne:∀e∈s.take i,e.1≠(s.getD i (0,0,0,())).1:=λe he hee=>by have hd:=h4.nd;rw[<-List.take_append_drop i s,dW,List.nodup_append]at hd;refine hd.2.2 _ (dL.2 ⟨e,he,rfl⟩) _ (dL.2 ⟨s[i],?_,rfl⟩) (by rw[hee,e0]);rw[pg hlt];exact gv
 have hz:(i:Int)=0->(s.getD i (0,0,0,())).2.2.1=0:=λe=>by
  obtain rfl:i=0:=by omega
  exact h4.z
 have tl:(-9223372036854775808<=(i:Int)+1/\(i:Int)+1<=9223372036854775807)/\∃a:Nat,(i:Int)+1=a/\a<=s.length/\s.length-a<s.length-i:=⟨⟨by omega,by omega⟩,i+1,by omega,by omega,by omega⟩;exact⟨⟨by omega,by omega⟩,λh=>absurd b1.1 (Int.not_le.2 h),λ_=>⟨λh=>absurd b1.2 (Int.not_lt.2 h),λ_=>⟨⟨by omega,by omega⟩,by rw[List.length_take];omega,hne,λh=>absurd b3.1 (Int.not_le.2 h),λ_=>⟨λh=>absurd b3.2 (Int.not_le.2 h),λ_=>⟨b1,bp b4 (by decide),λ_=>⟨λh0=>⟨λ_=>tl,λh=>(h (hz h0)).elim⟩,λ_=>tl⟩,λh=>(h b2).elim⟩⟩⟩⟩⟩
abbrev wQ(ps:List aW.den)(x:bV.den):aW.den:=ps.getD x.1.toNat ([],[],0,[],())
def yx(ps:List aW.den)(x y:bV.den):Int×Int×Int:=stA (iW x.2.1 (wQ ps x).1 (wQ ps x).2.1) (iV y.2.1 (wQ ps y).1 (wQ ps y).2.1) y.2.2.1
def YL(ps:List aW.den)(x y:bV.den):Prop:=3<=(yx ps x y).2.2/\(yx ps x y).2.1-(yx ps x y).1<=((wQ ps x).2.2.1:Int)+((wQ ps y).2.2.1:Int)
def kJ(s:List bV.den)(i:Nat):bV.den:=s.getD i (0,0,0,())
def Brk(ps:List aW.den)(s:List bV.den)(k:Int):Prop:=
 (k=-1/\∀j,j+1<s.length->YL ps (kJ s j) (kJ s (j+1)))\/
 ∃n:Nat,k=(n:Int)+1/\n+1<s.length/\(∀j,j<n->YL ps (kJ s j) (kJ s (j+1)))/\¬YL ps (kJ s n) (kJ s (n+1))
def adJ:List TV->Dn
 |[.sl (.pair (.sl (.int .i64)) (.pair (.sl (.int .i64)) (.pair (.int .i64) (.pair (.sl (.int .i64)) .unit)))) ps .no,.sl (.pair (.int .i64) (.pair (.int .i64) (.pair (.int .i64) .unit))) s .no]=>some ([ps.length<=4,1<=s.length,s.length<=4,∀p∈ps,gX p,Stk ps (s.map (·.1)) s],.ex Int λk=>.res (.tup [bI k,bI 0]) [] [Brk ps s k],
  [(9,.ex Nat λn=>.st {sl:=[(7,bI ((n:Int)+1))],en:=[n+1<=s.length,∀j,j<n->YL ps (kJ s j) (kJ s (j+1))],m:=s.length-n}),
   (15,.dep λte _=>abq te 7 λi=>.st {sl:=[(12,bI (yx ps (kJ s (i-1).toNat) (kJ s i.toNat)).1),(13,bI (yx ps (kJ s (i-1).toNat) (kJ s i.toNat)).2.1),(14,bI (yx ps (kJ s (i-1).toNat) (kJ s i.toNat)).2.2)]})])
 |_=>none
def K5s:fQ:=(((T0.eV 43 λa=>dS (D42 a)).eV 50 λa=>dS (adH a)).eV 32 λa=>dS (D50 a)).eV 51 λa=>dS (D60 a)
theorem Dc:∀{l:List aW.den},(∀p∈l,gX p)->iK l=0
 |[],_=>rfl
 |p::l,h=>by have e:Re p=0:=VY.2 (h p (by simp));rw[iK,if_neg (by rw[e];simp)];exact Dc λq hq=>h q (by simp[hq])
theorem aci{n:Int}(h:0<=n/\n<=3):n=0\/n=1\/n=2\/n=3:=by omega
def kB.q1 (p0:List (bV).den)(p1:Nat)(p2:List (aW).den)(p3 p4:bH.den)(p5:Prop):Prop:=True/\(List.reverse p3).length<=1000/\(List.reverse p4).length<=1000/\qq (List.reverse p3)/\qq (List.reverse p4)/\(stA (List.reverse p3) (List.reverse p4) (p0.getD ((↑p1:Int)+1).toNat (0,0,0,())).2.2.1).1=(yx p2 (kJ p0 ((↑p1:Int)+1-1).toNat) (kJ p0 ((↑p1:Int)+1).toNat)).1/\(stA (List.reverse p3) (List.reverse p4) (p0.getD ((↑p1:Int)+1).toNat (0,0,0,())).2.2.1).2.1=(yx p2 (kJ p0 ((↑p1:Int)+1-1).toNat) (kJ p0 ((↑p1:Int)+1).toNat)).2.1/\(stA (List.reverse p3) (List.reverse p4) (p0.getD ((↑p1:Int)+1).toNat (0,0,0,())).2.2.1).2.2=(yx p2 (kJ p0 ((↑p1:Int)+1-1).toNat) (kJ p0 ((↑p1:Int)+1).toNat)).2.2/\p5
def kB.q2 (p0:bH.den)(p1:List (bV).den)(p2:Nat)(p3:List (aW).den)(p4:bH.den)(p5:Prop):Prop:=True/\List.length p0<=1000/\(List.reverse p4).length<=1000/\qq p0/\qq (List.reverse p4)/\(stA p0 (List.reverse p4) (p1.getD ((↑p2:Int)+1).toNat (0,0,0,())).2.2.1).1=(yx p3 (kJ p1 ((↑p2:Int)+1-1).toNat) (kJ p1 ((↑p2:Int)+1).toNat)).1/\(stA p0 (List.reverse p4) (p1.getD ((↑p2:Int)+1).toNat (0,0,0,())).2.2.1).2.1=(yx p3 (kJ p1 ((↑p2:Int)+1-1).toNat) (kJ p1 ((↑p2:Int)+1).toNat)).2.1/\(stA p0 (List.reverse p4) (p1.getD ((↑p2:Int)+1).toNat (0,0,0,())).2.2.1).2.2=(yx p3 (kJ p1 ((↑p2:Int)+1-1).toNat) (kJ p1 ((↑p2:Int)+1).toNat)).2.2/\p5
def kB.q3 (p0:bH.den)(p1:List (bV).den)(p2:Nat)(p3:List (aW).den)(p4:bH.den):Prop:=True/\List.length p0<=1000/\List.length p4<=1000/\qq p0/\qq p4/\(stA p0 p4 (p1.getD ((↑p2:Int)+1).toNat (0,0,0,())).2.2.1).1=(yx p3 (kJ p1 ((↑p2:Int)+1-1).toNat) (kJ p1 ((↑p2:Int)+1).toNat)).1/\(stA p0 p4 (p1.getD ((↑p2:Int)+1).toNat (0,0,0,())).2.2.1).2.1=(yx p3 (kJ p1 ((↑p2:Int)+1-1).toNat) (kJ p1 ((↑p2:Int)+1).toNat)).2.1/\(stA p0 p4 (p1.getD ((↑p2:Int)+1).toNat (0,0,0,())).2.2.1).2.2=(yx p3 (kJ p1 ((↑p2:Int)+1-1).toNat) (kJ p1 ((↑p2:Int)+1).toNat)).2.2/\True
def kB.q4 (p0:List (bV).den)(p1:Nat)(p2:List (aW).den)(p3:bH.den):Prop:=True/\aO (decide ((p0.getD ((↑p1:Int)+1).toNat (0,0,0,())).2.1=0)) (kB.q3 p3 p0 p1 p2 (p2.getD (Int.toNat (p0.getD ((↑p1:Int)+1).toNat (0,0,0,())).1) ([],[],0,[],())).1) (aO (decide ((p0.getD ((↑p1:Int)+1).toNat (0,0,0,())).2.1=1)) (kB.q2 p3 p0 p1 p2 (p2.getD (Int.toNat (p0.getD ((↑p1:Int)+1).toNat (0,0,0,())).1) ([],[],0,[],())).2.1 True) (aO (decide ((p0.getD ((↑p1:Int)+1).toNat (0,0,0,())).2.1=2)) (kB.q2 p3 p0 p1 p2 (p2.getD (Int.toNat (p0.getD ((↑p1:Int)+1).toNat (0,0,0,())).1) ([],[],0,[],())).1 True) (aO (decide ((p0.getD ((↑p1:Int)+1).toNat (0,0,0,())).2.1=3)) (kB.q3 p3 p0 p1 p2 (p2.getD (Int.toNat (p0.getD ((↑p1:Int)+1).toNat (0,0,0,())).1) ([],[],0,[],())).2.1) False)))
def kB.q5 (p0:List (bV).den)(p1:Nat)(p2:List (aW).den)(p3 p4:bH.den):Prop:=True/\(List.reverse p3).length<=1000/\List.length p4<=1000/\qq (List.reverse p3)/\qq p4/\(stA (List.reverse p3) p4 (p0.getD ((↑p1:Int)+1).toNat (0,0,0,())).2.2.1).1=(yx p2 (kJ p0 ((↑p1:Int)+1-1).toNat) (kJ p0 ((↑p1:Int)+1).toNat)).1/\(stA (List.reverse p3) p4 (p0.getD ((↑p1:Int)+1).toNat (0,0,0,())).2.2.1).2.1=(yx p2 (kJ p0 ((↑p1:Int)+1-1).toNat) (kJ p0 ((↑p1:Int)+1).toNat)).2.1/\(stA (List.reverse p3) p4 (p0.getD ((↑p1:Int)+1).toNat (0,0,0,())).2.2.1).2.2=(yx p2 (kJ p0 ((↑p1:Int)+1-1).toNat) (kJ p0 ((↑p1:Int)+1).toNat)).2.2/\True
def kB.q6 (p0:List (bV).den)(p1:Nat)(p2:List (aW).den)(p3:bH.den):Prop:=True/\aO (decide ((p0.getD ((↑p1:Int)+1).toNat (0,0,0,())).2.1=0)) (kB.q5 p0 p1 p2 p3 (p2.getD (Int.toNat (p0.getD ((↑p1:Int)+1).toNat (0,0,0,())).1) ([],[],0,[],())).1) (aO (decide ((p0.getD ((↑p1:Int)+1).toNat (0,0,0,())).2.1=1)) (kB.q1 p0 p1 p2 p3 (p2.getD (Int.toNat (p0.getD ((↑p1:Int)+1).toNat (0,0,0,())).1) ([],[],0,[],())).2.1 True) (aO (decide ((p0.getD ((↑p1:Int)+1).toNat (0,0,0,())).2.1=2)) (kB.q1 p0 p1 p2 p3 (p2.getD (Int.toNat (p0.getD ((↑p1:Int)+1).toNat (0,0,0,())).1) ([],[],0,[],())).1 True) (aO (decide ((p0.getD ((↑p1:Int)+1).toNat (0,0,0,())).2.1=3)) (kB.q5 p0 p1 p2 p3 (p2.getD (Int.toNat (p0.getD ((↑p1:Int)+1).toNat (0,0,0,())).1) ([],[],0,[],())).2.1) False)))
def kB.q7 (p0:List (bV).den)(p1:List (aW).den)(p2:Int)(p3:Prop):Prop:=(0<=(p0.getD p2.toNat (0,0,0,())).1/\(p0.getD p2.toNat (0,0,0,())).1<(↑p1.length:Int))/\List.length (p1.getD (Int.toNat (p0.getD p2.toNat (0,0,0,())).1) ([],[],0,[],())).1<=1000/\List.length (p1.getD (Int.toNat (p0.getD p2.toNat (0,0,0,())).1) ([],[],0,[],())).2.1<=1000/\p3
def kB.q8 (p0:List (bV).den)(p1:List (aW).den):Prop:=(∃(a:Nat),1=(↑a:Int)+1/\a+1<=p0.length/\(∀(j:Nat),j<a->YL p1 (kJ p0 j) (kJ p0 (j+1)))/\(p0.length-a)<1000000)/\∀(a:Nat),a+1<=p0.length->(∀(j:Nat),j<a->YL p1 (kJ p0 j) (kJ p0 (j+1)))->aO (decide ((↑a:Int)+1<(↑p0.length:Int))) (dQ ((↑a:Int)+1-1)/\(0<=(↑a:Int)+1-1/\(↑a:Int)+1-1<(↑p0.length:Int))/\(0<=(↑a:Int)+1/\(↑a:Int)+1<(↑p0.length:Int))/\kB.q7 p0 p1 ((↑a:Int)+1-1) (kB.q7 p0 p1 ((↑a:Int)+1) (aO (decide ((p0.getD ((↑a:Int)+1-1).toNat (0,0,0,())).2.1=0)) (kB.q4 p0 a p1 (p1.getD (Int.toNat (p0.getD ((↑a:Int)+1-1).toNat (0,0,0,())).1) ([],[],0,[],())).2.1) (aO (decide ((p0.getD ((↑a:Int)+1-1).toNat (0,0,0,())).2.1=1)) (kB.q6 p0 a p1 (p1.getD (Int.toNat (p0.getD ((↑a:Int)+1-1).toNat (0,0,0,())).1) ([],[],0,[],())).1) (aO (decide ((p0.getD ((↑a:Int)+1-1).toNat (0,0,0,())).2.1=2)) (kB.q6 p0 a p1 (p1.getD (Int.toNat (p0.getD ((↑a:Int)+1-1).toNat (0,0,0,())).1) ([],[],0,[],())).2.1) (aO (decide ((p0.getD ((↑a:Int)+1-1).toNat (0,0,0,())).2.1=3)) (kB.q4 p0 a p1 (p1.getD (Int.toNat (p0.getD ((↑a:Int)+1-1).toNat (0,0,0,())).1) ([],[],0,[],())).1) False)))/\aO (decide ((yx p1 (kJ p0 ((↑a:Int)+1-1).toNat) (kJ p0 ((↑a:Int)+1).toNat)).2.2<3)) (∃(x:Int),(↑a:Int)+1=x/\(0:Int)=0/\Brk p1 p0 x/\True) (dQ ((yx p1 (kJ p0 ((↑a:Int)+1-1).toNat) (kJ p0 ((↑a:Int)+1).toNat)).2.1-(yx p1 (kJ p0 ((↑a:Int)+1-1).toNat) (kJ p0 ((↑a:Int)+1).toNat)).1)/\dQ ((p1.getD (Int.toNat (p0.getD ((↑a:Int)+1-1).toNat (0,0,0,())).1) ([],[],0,[],())).2.2.1+(p1.getD (Int.toNat (p0.getD ((↑a:Int)+1).toNat (0,0,0,())).1) ([],[],0,[],())).2.2.1)/\aO (decide ((yx p1 (kJ p0 ((↑a:Int)+1-1).toNat) (kJ p0 ((↑a:Int)+1).toNat)).2.1-(yx p1 (kJ p0 ((↑a:Int)+1-1).toNat) (kJ p0 ((↑a:Int)+1).toNat)).1>(p1.getD (Int.toNat (p0.getD ((↑a:Int)+1-1).toNat (0,0,0,())).1) ([],[],0,[],())).2.2.1+(p1.getD (Int.toNat (p0.getD ((↑a:Int)+1).toNat (0,0,0,())).1) ([],[],0,[],())).2.2.1)) (∃(x:Int),(↑a:Int)+1=x/\(0:Int)=0/\Brk p1 p0 x/\True) (dQ ((↑a:Int)+1+1)/\∃(x:Nat),p1=p1/\p0=p0/\(↑a:Int)+1+1=(↑x:Int)+1/\x+1<=p0.length/\(∀(j:Nat),j<x->YL p1 (kJ p0 j) (kJ p0 (j+1)))/\(p0.length-x)<(p0.length-a)))))) (∃(a:Int),(-1:Int)=a/\(0:Int)=0/\Brk p1 p0 a/\True)
theorem kB:VI K5s Try.f23 [some cn,some cn] adJ:=by
 refine gz λa=>?_;unfold adJ;split
 rotate_left
 .trivial
 rename_i ps s;intro hp;obtain⟨h1,h2,h3,h4,h5,-⟩:=hp;refine nS (A:=ps.length<=1000/\(∀(p:(aW).den),p∈ps->iA p)/\aO ((if 4<ps.length then(6:Int)else iK ps)==0) (1<=s.length/\s.length<=4/\(∀(p:(aW).den),p∈ps->gX p)/\Stk ps (List.map (λ(x:(bV).den)=>x.1) s) s/\kB.q8 s ps) (aO ((if 4<ps.length then(6:Int)else iK ps) !=0) (∃(a:Int),0=a/\(if 4<ps.length then(6:Int)else iK ps)=0/\Brk ps s a/\True) (kB.q8 s ps))) (by kernel_rfl) ?_;unfold kB.q8 kB.q7 kB.q6 kB.q5 kB.q4 kB.q3 kB.q2 kB.q1;have e0:(if 4<ps.length then(6:Int)else iK ps)=0:=by rw[if_neg (by omega),Dc h4]
 refine⟨by omega,λp hp=>Kg (h4 p hp),ek.2 ⟨λ_=>⟨h2,h3,h4,h5,?_⟩,λh=>absurd e0 h⟩⟩;simp only[dz,eq_self,and_true,true_and,dQ,kJ];refine⟨⟨0,by omega,by omega,λj hj=>absurd hj (by omega),by first|omega|(dsimp only;omega)⟩,λn hn hold=>⟨λhlt=>?_,λhlt=>⟨-1,rfl,.inl ⟨rfl,λj hj=>hold j (by omega)⟩⟩⟩⟩;have e1:((n:Int)+1-1).toNat=n:=by omega
 have e2:((n:Int)+1).toNat=n+1:=by omega
 rw[e1,e2];have mem:∀k,k<s.length->s.getD k (0,0,0,())∈s:=λk hk=>by rw[aR,bQ hk];exact mB hk
 have m1:=mem n (by omega);have m2:=mem (n+1) (by omega);have b1:=h5.ix _ m1;have b2:=h5.ix _ m2;have c1:=h5.yw _ m1;have c2:=h5.yw _ m2;have afh:∀k:Nat,k<ps.length->gX (ps.getD k ([],[],0,[],())):=λk hk=>h4 _ (by rw[aR,bQ hk];exact mB hk);have o1:=afh _ ((Int.toNat_lt b1.1).2 b1.2);have o2:=afh _ ((Int.toNat_lt b2.1).2 b2.2);have hx:=o1.yw _ c1;have hy:=o2.yw _ c2;have s1:=Kg o1;have s2:=Kg o2;have st:=Vg (s.getD (n+1) (0,0,0,())).2.2.1 (Vy (n:=(s.getD n (0,0,0,())).2.1) o1.hu o1.hl).2 (Vy (n:=(s.getD (n+1) (0,0,0,())).2.1) o2.hu o2.hl).1;have w1:=o1.num.1.2.2.2;have w2:=o2.num.1.2.2.2;refine⟨⟨by omega,by omega⟩,⟨by omega,by omega⟩,⟨by omega,by omega⟩,b1,s1.1,s1.2.1,b2,s2.1,s2.2.1,?_,?_⟩
 .have i1:qq (wQ ps (s.getD n (0,0,0,()))).1:=o1.hu;have i2:qq (wQ ps (s.getD n (0,0,0,()))).2.1:=o1.hl;have i3:qq (wQ ps (s.getD (n+1) (0,0,0,()))).1:=o2.hu;have i4:qq (wQ ps (s.getD (n+1) (0,0,0,()))).2.1:=o2.hl;have t1:(wQ ps (s.getD n (0,0,0,()))).1.length<=1000:=s1.1;have t2:(wQ ps (s.getD n (0,0,0,()))).2.1.length<=1000:=s1.2.1;have t3:(wQ ps (s.getD (n+1) (0,0,0,()))).1.length<=1000:=s2.1;have t4:(wQ ps (s.getD (n+1) (0,0,0,()))).2.1.length<=1000:=s2.2.1;clear st;unfold yx;simp only[wQ]at i1 i2 i3 i4 t1 t2 t3 t4⊢;clear c1 c2
  revert hx hy i1 i2 i3 i4 t1 t2 t3 t4
  generalize ps.getD (Int.toNat (s.getD n (0,0,0,())).1) ([],[],0,[],())=p;generalize ps.getD (Int.toNat (s.getD (n+1) (0,0,0,())).1) ([],[],0,[],())=q;generalize(s.getD n (0,0,0,())).2.1=lx;generalize(s.getD (n+1) (0,0,0,())).2.1=ly;intro hx hy i1 i2 i3 i4 t1 t2 t3 t4;have i5:qq p.1.reverse:=λx hx=>i1 x (by simpa using hx);have i6:qq p.2.1.reverse:=λx hx=>i2 x (by simpa using hx);have i7:qq q.1.reverse:=λx hx=>i3 x (by simpa using hx);have i8:qq q.2.1.reverse:=λx hx=>i4 x (by simpa using hx);rcases aci hx with rfl|rfl|rfl|rfl<;>rcases aci hy with rfl|rfl|rfl|rfl<;>simp[iW,iV,i1,i2,i3,i4,i5,i6,i7,i8,t1,t2,t3,t4]
 have st:0<=(yx ps (s.getD n (0,0,0,())) (s.getD (n+1) (0,0,0,()))).1/\(yx ps (s.getD n (0,0,0,())) (s.getD (n+1) (0,0,0,()))).1<=18/\0<=(yx ps (s.getD n (0,0,0,())) (s.getD (n+1) (0,0,0,()))).2.1/\(yx ps (s.getD n (0,0,0,())) (s.getD (n+1) (0,0,0,()))).2.1<=18/\0<=(yx ps (s.getD n (0,0,0,())) (s.getD (n+1) (0,0,0,()))).2.2:=st;refine dz.2 ⟨λh=>⟨_,rfl,.inr ⟨n,rfl,by omega,hold,λhj=>absurd hj.1 (Int.not_le.2 h)⟩⟩,λh=>⟨⟨by omega,by omega⟩,⟨?_,?_⟩,dz.2 ⟨λh'=>⟨_,rfl,.inr ⟨n,rfl,by omega,hold,λhj=>absurd hj.2 (Int.not_le.2 h')⟩⟩,λh'=>⟨⟨by omega,by omega⟩,n+1,by omega,by omega,λj hj=>?_,by omega⟩⟩⟩⟩;· exact oZ (by decide) (Int.add_nonneg w1.1 w2.1)
 .exact oZ (Int.add_le_add w1.2 w2.2) (by decide)
 rcases Nat.lt_succ_iff_lt_or_eq.1 hj with hj|rfl;· exact hold j hj
 exact⟨Int.not_lt.1 h,Int.not_lt.1 h'⟩
end Go.Tv
