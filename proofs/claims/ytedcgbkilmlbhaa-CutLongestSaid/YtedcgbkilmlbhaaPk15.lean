import Derived.Test.YtedcgbkilmlbhaaPk14
import Derived.Test.YtedcgbkilmlbhaaPk13
set_option maxRecDepth 100000
namespace Go.Tv
open Go Go.Di Go.Proofs
def Zx:List TV->Dn
 |[.sl (.pair (.int .i64) (.pair (.int .i64) (.pair (.int .i64) .unit))) l .no]=>some ([l≠[],l.length<=1000],.res (.sl bV l .no) [] [],[])
 |_=>none
theorem ahl:VI T0 Try.f46 [some (.sl bV)] Zx:=by
 refine gz λa=>?_;unfold Zx;split
 rotate_left
 .trivial
 rename_i l;intro hp;change List ax at l;refine nS (A:=l≠[]/\0+l.length<=1000000000/\l=l/\True) (by kernel_rfl) ?_;exact⟨hp.1,by have:=hp.2.1;omega,rfl,trivial⟩
def lW(ws:List rW.den):List PD:=ws.map λw=>(w.1,w.2.1,w.2.2.1,w.2.2.2.1,())
theorem O0{l:List PD}:lW (l.map aS)=l:=by unfold lW;rw[kW];exact List.map_id'' (λp=>rfl) l
def kF(st b:List ax):List ax:=if b.length<st.length then st else b
def nX(l:List PD)(F:Nat->List Int):Nat->List ax->List ax->List ax
 |0,st,b=>kF st b
 |r+1,st,b=>(kL l F st l.length).foldl (λb p=>nX l F r (st++[p.1]) b) (kF st b)
def gC(l:List PD)(F:Nat->List Int)(st:List ax)(ns:List (ax×List Int))(c:List ax):List ax:=ns.foldl (λb p=>nX l F (l.length-st.length-1) (st++[p.1]) b) c
section
variable {l:List PD} {F:Nat->List Int} {st b:List ax} {i y:Nat}
theorem zK:∀(n:Nat)(L:List Int),L.Nodup->(∀x∈L,0<=x/\x<(n:Int))->L.length<=n
 |0,L,_,h=>by
  cases L with
  |nil=>simp
  |cons a L=>have:=h a (by simp);omega
 |n+1,L,hn,h=>by
  by_cases hm:(n:Int)∈L
  .have h1:=zK n (L.erase (n:Int)) (hn.erase _) λx hx=>by have:=(List.Nodup.mem_erase_iff hn).1 hx;have h2:=h x this.2;exact⟨h2.1,by have:=this.1;omega⟩
   rw[Df hm]at h1;omega
  have h1:=zK n L hn λx hx=>by have h2:=h x hx;exact⟨h2.1,by have:x≠n:=λe=>hm (e▸hx);omega⟩
  omega
theorem zQ{x:Int}(h:gE st x=false):x∉st.map (·.1):=by intro hm;rw[dL]at hm;obtain⟨e,he,rfl⟩:=hm;unfold gE at h;rw[List.any_eq_false]at h;exact h e he (by simp)
theorem wD{x:ax}(hn:(st.map (·.1)).Nodup)(h:gE st x.1=false):((st++[x]).map (·.1)).Nodup:=by rw[dW,List.nodup_append];refine⟨hn,by simp,λa ha c hc=>?_⟩;simp only[aV,fe,bC]at hc;subst hc;exactλe=>zQ h (e▸ha)
theorem Us(hS:nD l st)(hn:(st.map (·.1)).Nodup)(hi:i<l.length)(h:gE st (i:Int)=false):st.length+1<=l.length:=by
 have h1:(((st++[((i:Int),(0,0,()))]):List ax).map (·.1)).Nodup:=wD hn h;have:=zK l.length _ h1 λx hx=>by
  rw[dL]at hx;obtain⟨e,he,rfl⟩:=hx;rcases dX.1 he with he|he;· exact(hS e he).1
  rw[bC]at he;subst he;exact⟨by dsimp only;omega,by dsimp only;omega⟩
 simpa using this
theorem OW(hS:nD l st)(hn:(st.map (·.1)).Nodup):st.length<=l.length:=by
 have:=zK l.length _ hn λx hx=>by rw[dL]at hx;obtain⟨e,he,rfl⟩:=hx;exact(hS e he).1
 simpa using this
theorem P3:∀{a:Nat},(∀i,i<a->gE st (i:Int)=true)->kL l F st a=[]
 |0,_=>rfl
 |a+1,h=>by rw[qh,P3 λi hi=>h i (by omega),if_pos (h a (by omega)),cV]
theorem sA{m:Nat}(hb:b.length<=m)(hs:st.length<=m):(kF st b).length<=m:=by unfold kF;split<;>omega
theorem EJ:∀(r:Nat){m:Nat}{st b:List ax},b.length<=m->st.length+r<=m->(nX l F r st b).length<=m
 |0,m,st,b,hb,hs=>sA hb (by omega)
 |r+1,m,st,b,hb,hs=>by
  rw[nX];have h0:(kF st b).length<=m:=sA hb (by omega)
  revert h0
  generalize kF st b=c;generalize kL l F st l.length=ns;induction ns generalizing c with
  |nil=>exactλh=>h
  |cons p ns ih=>intro h;exact ih _ (EJ r h (by rw[cD,qV];omega))
theorem Hq{m:Nat}{ns:List (ax×List Int)}:∀{c:List ax},c.length<=m->st.length+1+(l.length-st.length-1)<=m->(gC l F st ns c).length<=m:=by
 induction ns with
 |nil=>exactλh _=>h
 |cons p ns ih=>intro c h hm;exact ih (EJ _ h (by rw[cD,qV];omega)) hm
theorem Hr{a c:List (ax×List Int)}{x:List ax}:gC l F st (a++c) x=gC l F st c (gC l F st a x):=by unfold gC;rw[mE]
end
def OT(tS:List TB)(k:List PD->(Nat->List Int)->List ax->List ax->LA):LA:=
 match tS with
 |.cells [.sl (.pair (.int .i64) (.pair (.int .i64) (.pair (.int .i64) .unit))) b _]::_::_::.cells (.sl (.pair (.sl (.int .i64)) (.pair (.sl (.int .i64)) (.pair (.int .i64) (.pair (.sl (.int .i64)) (.pair (.sl (.int .i64)) (.pair (.sl (.int .i64)) (.pair (.sl (.int .i64)) (.pair (.sl (.int .i64)) (.pair (.sl (.int .i64)) (.pair (.sl (.int .i64)) (.pair (.sl (.int .i64)) (.pair (.sl (.int .i64)) .unit)))))))))))) ws _::T)::.cells [.sl (.pair (.int .i64) (.pair (.int .i64) (.pair (.int .i64) .unit))) st _]::_=>k (lW ws) (bO T) st b
 |_=>.un 0
def afQ:List (Nat×LA):=
 [(1,.dep λ_ tS=>OT tS λl F st c=>.ex Nat λi=>.st {sl:=[(15,bI i)],pl:=[(0,[.sl bV (gC l F st (kL l F st i) c) .no])],en:=[i<=l.length],m:=l.length-i}),
  (9,.dep λte tS=>OT tS λl F st c=>nY te 15 λi=>.ex Nat λy=>.st {sl:=[(19,.unk),(25,.sl cn (qL l i) .no),(26,bI (qL l i).length),(27,bI y)],pl:=[(0,[.sl bV (gC l F st (qu l F st i y) c) .no]),(9,wkC (l.getD i dP))],en:=[y<=(qL l i).length],m:=(qL l i).length-y}),
  (15,.dep λte tS=>OT tS λl F st _=>nY te 15 λi=>nY te 27 λy=>.ex (List Int) λs=>.st {sl:=[(8,.sl cn s .no)],en:=[s=lqp F st i ((qL l i).getD y 0)]})]
def Rh(n:Nat):List TV->List (List TV)->Dn
 |[.sl (.pair (.int .i64) (.pair (.int .i64) (.pair (.int .i64) .unit))) st .no,.ptr 0 0,.ptr 1 0,.ptr 2 0],[[.sl (.pair (.int .i64) (.pair (.int .i64) (.pair (.int .i64) .unit))) b .no],[.ptr 3 0],[.fn 45 [] [.ptr 0 0,.ptr 1 0,.ptr 2 0]],.sl (.pair (.sl (.int .i64)) (.pair (.sl (.int .i64)) (.pair (.int .i64) (.pair (.sl (.int .i64)) (.pair (.sl (.int .i64)) (.pair (.sl (.int .i64)) (.pair (.sl (.int .i64)) (.pair (.sl (.int .i64)) (.pair (.sl (.int .i64)) (.pair (.sl (.int .i64)) (.pair (.sl (.int .i64)) (.pair (.sl (.int .i64)) .unit)))))))))))) ws (.stop false)::T]=>
  some ([T=aX 256 (bO T),ws=(lW ws).map aS,ws.length<=4,∀p∈lW ws,gX p,nD (lW ws) st,(st.map (·.1)).Nodup,ws.length<st.length+n,b.length<=1000],
   .res (.tup []) [.agg [.sl bV (nX (lW ws) (bO T) (ws.length-st.length) st b) .no],.agg [.ptr 3 0],.agg [.fn 45 [] [.ptr 0 0,.ptr 1 0,.ptr 2 0]],.agg (.sl rW ws (.stop false)::T)] [],
   [(1,.dep λ_ tS=>OT tS λ_ _ st b=>.ex (List ax) λc=>.st {sl:=[],pl:=[(0,[.sl bV c .no])],en:=[c=kF st b]})])
 |_,_=>none
noncomputable def G45 (n:Nat):fQ:=(((((K3.oz 69 λa c=>dS (D69 a c)).eV 46 λa=>dS (Zx a)).Dz 47 Try.f47 []).Dz 68 Try.f68 afQ).DC 45 λa t=>dS (Rh n a t)).own 45 Try.f45
def jw.q1 (p0:bH.den)(p1:Prop):Prop:=p0=p0/\p1
def jw.q2 (p0:Nat)(p1:List (bV).den)(p2:List PD)(p3:Nat)(p4:Nat->List Int)(p5 p6:List ax):Prop:=dQ ((↑p0:Int)+1)/\∃(a:Nat),p1=p1/\List.map aS p2=List.map aS p2/\(↑(List.map aS p2).length:Int)=(↑(List.map aS p2).length:Int)/\(↑p3:Int)=(↑p3:Int)/\true=true/\(↑p3:Int)=(↑p3:Int)/\List.map aS p2=List.map aS p2/\p3=p3/\0=0/\p1=p1/\false=false/\qL (lW (List.map aS p2)) p3=qL (lW (List.map aS p2)) p3/\(↑(qL (lW (List.map aS p2)) p3).length:Int)=(↑(qL (lW (List.map aS p2)) p3).length:Int)/\(↑p0:Int)+1=(↑a:Int)/\p6=gC (lW (List.map aS p2)) (bO (aX 256 p4)) p1 (qu (lW (List.map aS p2)) (bO (aX 256 p4)) p1 p3 a) (gC (lW (List.map aS p2)) (bO (aX 256 p4)) p1 (kL (lW (List.map aS p2)) (bO (aX 256 p4)) p1 p3) p5)/\List.map aS p2=List.map aS p2/\jW (aX 256 p4) (aX 256 p4)/\p1=p1/\p1=p1/\(↑p3:Int)=(↑p3:Int)/\jw.q1 ((lW (List.map aS p2)).getD p3 dP).1 (jw.q1 ((lW (List.map aS p2)).getD p3 dP).2.1 (((lW (List.map aS p2)).getD p3 dP).2.2.1=((lW (List.map aS p2)).getD p3 dP).2.2.1/\jw.q1 ((lW (List.map aS p2)).getD p3 dP).2.2.2.1 (jw.q1 ((lW (List.map aS p2)).getD p3 dP).1 (jw.q1 ((lW (List.map aS p2)).getD p3 dP).2.1 (List.reverse ((lW (List.map aS p2)).getD p3 dP).2.1=List.reverse ((lW (List.map aS p2)).getD p3 dP).2.1/\List.reverse ((lW (List.map aS p2)).getD p3 dP).1=List.reverse ((lW (List.map aS p2)).getD p3 dP).1/\List.reverse ((lW (List.map aS p2)).getD p3 dP).1=List.reverse ((lW (List.map aS p2)).getD p3 dP).1/\List.reverse ((lW (List.map aS p2)).getD p3 dP).2.1=List.reverse ((lW (List.map aS p2)).getD p3 dP).2.1/\jw.q1 ((lW (List.map aS p2)).getD p3 dP).2.1 (jw.q1 ((lW (List.map aS p2)).getD p3 dP).1 (a<=(qL (lW (List.map aS p2)) p3).length/\((qL (lW (List.map aS p2)) p3).length-a)<((qL (lW (List.map aS p2)) p3).length-p0))))))))
def jw.q3 (p0:bH.den)(p1:Prop):Prop:=p0=p0/\p1
def jw.q4 (p0:List (bV).den)(p1:List PD)(p2 p3:Nat)(p4:Nat->List Int)(p5:List ax)(p6:List cn.den):Prop:=∃(a:List Int),p0=p0/\(qL (lW (List.map aS p1)) p2).getD p3 0=(qL (lW (List.map aS p1)) p2).getD p3 0/\p6=a/\List.map aS p1=List.map aS p1/\(↑(List.map aS p1).length:Int)=(↑(List.map aS p1).length:Int)/\(↑p2:Int)=(↑p2:Int)/\true=true/\(↑p2:Int)=(↑p2:Int)/\List.map aS p1=List.map aS p1/\p2=p2/\0=0/\p0=p0/\false=false/\qL (lW (List.map aS p1)) p2=qL (lW (List.map aS p1)) p2/\(↑(qL (lW (List.map aS p1)) p2).length:Int)=(↑(qL (lW (List.map aS p1)) p2).length:Int)/\(↑p3:Int)=(↑p3:Int)/\true=true/\qL (lW (List.map aS p1)) p2=qL (lW (List.map aS p1)) p2/\p3=p3/\0=0/\(qL (lW (List.map aS p1)) p2).getD p3 0=(qL (lW (List.map aS p1)) p2).getD p3 0/\[(0:Int)]=[(0:Int)]/\gC (lW (List.map aS p1)) (bO (aX 256 p4)) p0 (qu (lW (List.map aS p1)) (bO (aX 256 p4)) p0 p2 p3) (gC (lW (List.map aS p1)) (bO (aX 256 p4)) p0 (kL (lW (List.map aS p1)) (bO (aX 256 p4)) p0 p2) p5)=gC (lW (List.map aS p1)) (bO (aX 256 p4)) p0 (qu (lW (List.map aS p1)) (bO (aX 256 p4)) p0 p2 p3) (gC (lW (List.map aS p1)) (bO (aX 256 p4)) p0 (kL (lW (List.map aS p1)) (bO (aX 256 p4)) p0 p2) p5)/\List.map aS p1=List.map aS p1/\jW (aX 256 p4) (aX 256 p4)/\p0=p0/\p0=p0/\(↑p2:Int)=(↑p2:Int)/\jw.q3 ((lW (List.map aS p1)).getD p2 dP).1 (jw.q3 ((lW (List.map aS p1)).getD p2 dP).2.1 (((lW (List.map aS p1)).getD p2 dP).2.2.1=((lW (List.map aS p1)).getD p2 dP).2.2.1/\jw.q3 ((lW (List.map aS p1)).getD p2 dP).2.2.2.1 (jw.q3 ((lW (List.map aS p1)).getD p2 dP).1 (jw.q3 ((lW (List.map aS p1)).getD p2 dP).2.1 (List.reverse ((lW (List.map aS p1)).getD p2 dP).2.1=List.reverse ((lW (List.map aS p1)).getD p2 dP).2.1/\List.reverse ((lW (List.map aS p1)).getD p2 dP).1=List.reverse ((lW (List.map aS p1)).getD p2 dP).1/\List.reverse ((lW (List.map aS p1)).getD p2 dP).1=List.reverse ((lW (List.map aS p1)).getD p2 dP).1/\List.reverse ((lW (List.map aS p1)).getD p2 dP).2.1=List.reverse ((lW (List.map aS p1)).getD p2 dP).2.1/\jw.q3 ((lW (List.map aS p1)).getD p2 dP).2.1 (jw.q3 ((lW (List.map aS p1)).getD p2 dP).1 (a=lqp (bO (aX 256 p4)) p0 p2 ((qL (lW (List.map aS p1)) p2).getD p3 0)/\True)))))))
def jw.q5 (p0:Nat)(p1:List (bV).den)(p2:List PD)(p3:Nat->List Int)(p4:List ax)(p5:List (ax×List Int))(p6:List ax):Prop:=dQ ((↑p0:Int)+1)/\∃(a:Nat),p1=p1/\List.map aS p2=List.map aS p2/\(↑(List.map aS p2).length:Int)=(↑(List.map aS p2).length:Int)/\(↑p0:Int)+1=(↑a:Int)/\gC (lW (List.map aS p2)) (bO (aX 256 p3)) p1 p5 p6=gC (lW (List.map aS p2)) (bO (aX 256 p3)) p1 (kL (lW (List.map aS p2)) (bO (aX 256 p3)) p1 a) p4/\List.map aS p2=List.map aS p2/\jW (aX 256 p3) (aX 256 p3)/\p1=p1/\p1=p1/\a<=(lW (List.map aS p2)).length/\((lW (List.map aS p2)).length-a)<((lW (List.map aS p2)).length-p0)
def jw.q6 (p0:cn.den)(p1:Prop):Prop:=(0<=p0/\p0<4)/\p1
theorem jw(n:Nat):VM (G45 n) Try.f45 [] (Rh (n+1)) 2:=by
 refine Uo λa t=>?_;unfold Rh;split
 rotate_left
 .trivial
 rename_i st b ws T;intro hp;obtain⟨h1,h2,hp⟩:=hp;obtain⟨F,rfl⟩:∃F,T=aX 256 F:=⟨_,h1⟩;obtain⟨l,rfl⟩:∃l,ws=List.map aS l:=⟨_,h2⟩;refine nS (A:=aO (decide ((↑st.length:Int)>(↑b.length:Int))) (st≠[]/\st.length<=1000/\∃(a:List ax),st=a/\List.map aS l=List.map aS l/\jW (aX 256 F) (aX 256 F)/\st=st/\a=kF st b/\True) (∃(a:List ax),b=a/\List.map aS l=List.map aS l/\jW (aX 256 F) (aX 256 F)/\st=st/\a=kF st b/\True)/\∀(a:List ax),a=kF st b->(∃(y:Nat),0=(↑y:Int)/\a=gC (lW (List.map aS l)) (bO (aX 256 F)) st (kL (lW (List.map aS l)) (bO (aX 256 F)) st y) a/\y<=(lW (List.map aS l)).length/\((lW (List.map aS l)).length-y)<1000000)/\∀(y:Nat),y<=(lW (List.map aS l)).length->aO (decide ((↑y:Int)<(↑(List.map aS l).length:Int))) ((0<=(↑y:Int)/\(↑y:Int)<(↑(List.map aS l).length:Int))/\st.length<=1000/\aO (gE st (↑y:Int)) (jw.q5 y st l F a (kL (lW (List.map aS l)) (bO (aX 256 F)) st y) a) ((∃(z:Nat),((List.map aS l).getD y ([],[],0,[],[],[],[],[],[],[],[],[],())).2.2.2.1=qL (lW (List.map aS l)) y/\(↑(List.length ((List.map aS l).getD y ([],[],0,[],[],[],[],[],[],[],[],[],())).2.2.2.1):Int)=(↑(qL (lW (List.map aS l)) y).length:Int)/\0=(↑z:Int)/\gC (lW (List.map aS l)) (bO (aX 256 F)) st (kL (lW (List.map aS l)) (bO (aX 256 F)) st y) a=gC (lW (List.map aS l)) (bO (aX 256 F)) st (qu (lW (List.map aS l)) (bO (aX 256 F)) st y z) (gC (lW (List.map aS l)) (bO (aX 256 F)) st (kL (lW (List.map aS l)) (bO (aX 256 F)) st y) a)/\((List.map aS l).getD y ([],[],0,[],[],[],[],[],[],[],[],[],())).1=((lW (List.map aS l)).getD y dP).1/\((List.map aS l).getD y ([],[],0,[],[],[],[],[],[],[],[],[],())).2.1=((lW (List.map aS l)).getD y dP).2.1/\((List.map aS l).getD y ([],[],0,[],[],[],[],[],[],[],[],[],())).2.2.1=((lW (List.map aS l)).getD y dP).2.2.1/\((List.map aS l).getD y ([],[],0,[],[],[],[],[],[],[],[],[],())).2.2.2.1=((lW (List.map aS l)).getD y dP).2.2.2.1/\((List.map aS l).getD y ([],[],0,[],[],[],[],[],[],[],[],[],())).2.2.2.2.1=((lW (List.map aS l)).getD y dP).1/\((List.map aS l).getD y ([],[],0,[],[],[],[],[],[],[],[],[],())).2.2.2.2.2.1=((lW (List.map aS l)).getD y dP).2.1/\((List.map aS l).getD y ([],[],0,[],[],[],[],[],[],[],[],[],())).2.2.2.2.2.2.1=List.reverse ((lW (List.map aS l)).getD y dP).2.1/\((List.map aS l).getD y ([],[],0,[],[],[],[],[],[],[],[],[],())).2.2.2.2.2.2.2.1=List.reverse ((lW (List.map aS l)).getD y dP).1/\((List.map aS l).getD y ([],[],0,[],[],[],[],[],[],[],[],[],())).2.2.2.2.2.2.2.2.1=List.reverse ((lW (List.map aS l)).getD y dP).1/\((List.map aS l).getD y ([],[],0,[],[],[],[],[],[],[],[],[],())).2.2.2.2.2.2.2.2.2.1=List.reverse ((lW (List.map aS l)).getD y dP).2.1/\((List.map aS l).getD y ([],[],0,[],[],[],[],[],[],[],[],[],())).2.2.2.2.2.2.2.2.2.2.1=((lW (List.map aS l)).getD y dP).2.1/\((List.map aS l).getD y ([],[],0,[],[],[],[],[],[],[],[],[],())).2.2.2.2.2.2.2.2.2.2.2.1=((lW (List.map aS l)).getD y dP).1/\z<=(qL (lW (List.map aS l)) y).length/\((qL (lW (List.map aS l)) y).length-z)<1000000)/\∀(z:Nat),z<=(qL (lW (List.map aS l)) y).length->aO (decide ((↑z:Int)<(↑(qL (lW (List.map aS l)) y).length:Int))) ((0<=(↑z:Int)/\(↑z:Int)<(↑(qL (lW (List.map aS l)) y).length:Int))/\aO (decide ((↑st.length:Int)>0)) (dQ ((↑st.length:Int)-1)/\(0<=(↑st.length:Int)-1/\(↑st.length:Int)-1<(↑st.length:Int))/\jw.q6 (st.getD ((↑st.length:Int)-1).toNat (0,0,0,())).1 (jw.q6 (st.getD ((↑st.length:Int)-1).toNat (0,0,0,())).2.1 ((0<=(↑y:Int)/\(↑y:Int)<4)/\(0<=(qL (lW (List.map aS l)) y).getD z 0/\(qL (lW (List.map aS l)) y).getD z 0<4)/\∃(te:List cn.den),(TV.sl (bH.pair (bH.pair (cn.pair (bH.pair (bH.pair (bH.pair (bH.pair (bH.pair (bH.pair (bH.pair (bH.pair (bH.pair TT.unit)))))))))))) (List.map aS l) (Ap.stop false)::aX 256 F)[Int.toNat ((qL (lW (List.map aS l)) y).getD z 0)*1+(y*4+(Int.toNat (st.getD ((↑st.length:Int)-1).toNat (0,0,0,())).2.1*16+(Int.toNat (st.getD ((↑st.length:Int)-1).toNat (0,0,0,())).1*64+1)))]? =some (TV.sl cn te Ap.no)/\jw.q4 st l y z F a te))) (jw.q4 st l y z F a [(0:Int)])/\∀(u:List Int),u=lqp (bO (aX 256 F)) st y ((qL (lW (List.map aS l)) y).getD z 0)->aO (decide ((↑u.length:Int)>0)) (((0:Int)<=0/\0<(↑u.length:Int))/\(0<=(↑st.length:Int)/\(↑st.length:Int)=(↑st.length:Int)/\(↑st.length:Int)<=(↑st.length:Int))/\((List.take st.length st).length+1<=1000000000/\((List.take st.length st).length=0\/1≠0))/\aX 256 F=aX 256 (bO (aX 256 F))/\List.map aS l=List.map aS (lW (List.map aS l))/\(List.map aS l).length<=4/\(∀(p:PD),p∈lW (List.map aS l)->gX p)/\nD (lW (List.map aS l)) (List.take st.length st++[((↑y:Int),(qL (lW (List.map aS l)) y).getD z 0,u.getD 0 0,())])/\(List.map (λ(x:(bV).den)=>x.1) (List.take st.length st++[((↑y:Int),(qL (lW (List.map aS l)) y).getD z 0,u.getD 0 0,())])).Nodup/\(List.map aS l).length<(List.take st.length st++[((↑y:Int),(qL (lW (List.map aS l)) y).getD z 0,u.getD 0 0,())]).length+n/\(gC (lW (List.map aS l)) (bO (aX 256 F)) st (qu (lW (List.map aS l)) (bO (aX 256 F)) st y z) (gC (lW (List.map aS l)) (bO (aX 256 F)) st (kL (lW (List.map aS l)) (bO (aX 256 F)) st y) a)).length<=1000/\jw.q2 z st l y F a (nX (lW (List.map aS l)) (bO (aX 256 F)) ((List.map aS l).length-(List.take st.length st++[((↑y:Int),(qL (lW (List.map aS l)) y).getD z 0,u.getD 0 0,())]).length) (List.take st.length st++[((↑y:Int),(qL (lW (List.map aS l)) y).getD z 0,u.getD 0 0,())]) (gC (lW (List.map aS l)) (bO (aX 256 F)) st (qu (lW (List.map aS l)) (bO (aX 256 F)) st y z) (gC (lW (List.map aS l)) (bO (aX 256 F)) st (kL (lW (List.map aS l)) (bO (aX 256 F)) st y) a)))) (jw.q2 z st l y F a (gC (lW (List.map aS l)) (bO (aX 256 F)) st (qu (lW (List.map aS l)) (bO (aX 256 F)) st y z) (gC (lW (List.map aS l)) (bO (aX 256 F)) st (kL (lW (List.map aS l)) (bO (aX 256 F)) st y) a)))) (jw.q5 y st l F a (qu (lW (List.map aS l)) (bO (aX 256 F)) st y z) (gC (lW (List.map aS l)) (bO (aX 256 F)) st (kL (lW (List.map aS l)) (bO (aX 256 F)) st y) a)))) (gC (lW (List.map aS l)) (bO (aX 256 F)) st (kL (lW (List.map aS l)) (bO (aX 256 F)) st y) a=nX (lW (List.map aS l)) (bO (aX 256 F)) ((List.map aS l).length-st.length) st b/\List.map aS l=List.map aS l/\aX 256 F=aX 256 F/\True)) (by kernel_rfl) ?_;unfold jw.q6 jw.q5 jw.q4 jw.q3 jw.q2 jw.q1;obtain⟨h4,hl,hS,hN,hlt,hb,-⟩:=hp;rw[List.length_map]at h4 hlt;change List PD at l;generalize hlw:lW (List.map aS l)=l' at*;obtain rfl:l=l':=by rw[<-hlw];exact O0.symm
 change List ax at st b;generalize hFF:bO (aX 256 F)=G at*;have hG:∀j,j<256->G j=F j:=λj hj=>by rw[<-hFF,rZ hj]
 have hle:=OW hS hN;simp only[dz,ek,eq_self,true_and,and_true,dQ,List.length_map,fW];refine⟨⟨λh=>⟨λe=>by rw[e]at h;simp at h;omega,by omega,_,rfl,jW.refl _,by unfold kF;rw[if_pos (by omega)]⟩,λh=>⟨_,rfl,jW.refl _,by unfold kF;rw[if_neg (by omega)]⟩⟩,λc hc=>⟨⟨0,by omega,rfl,by omega,by omega⟩,λa ha=>⟨λhal=>⟨⟨by omega,by omega⟩,by omega,lB.2 ⟨λhh=>?_,λhh=>?_⟩⟩,λhal=>?_⟩⟩⟩;· refine⟨⟨by omega,by omega⟩,a+1,by omega,?_,jW.refl _,by omega,by omega⟩;rw[qh,if_pos hh,cV]
 .have oa:gX (l.getD a dP):=bX (by omega) hl;have q4:(qL l a).length<=4:=Gk hl;have JN:=Us hS hN (by omega) hh;have tY:c.length<=1000:=hc▸sA hb (by omega);simp only[OS (l:=l) (k:=a) (by omega),aS,eq_self,true_and];refine⟨⟨0,by omega,rfl,by omega,by omega⟩,λy hy=>⟨λlX=>?_,λlX=>?_⟩⟩
  .have lX:y<(qL l a).length:=fK.1 lX;have hq:0<=(qL l a).getD y 0/\(qL l a).getD y 0<=3:=oa.yw _ (bX (P:=λx=>x∈qL l a) lX λ_ h=>h);have ys:=Lk (F:=G) (st:=st) lX
   revert ys hq
   generalize(qL l a).getD y 0=q;intro hq ys;refine⟨⟨by omega,fK.2 lX⟩,⟨λh0=>?_,λh0=>?_⟩,λs hs=>⟨λhsl=>?_,λhsl=>?_⟩⟩
   .have hst:0<st.length:=by omega
    have e3:((st.length:Int)-1).toNat=st.length-1:=by omega
    have hm:st.getD (st.length-1) gB∈st:=bX (P:=λx=>x∈st) (by omega) λ_ h=>h;simp only[e3];have ss:∀q,lqp G st a q=G (tW (st.getD (st.length-1) gB).1.toNat (st.getD (st.length-1) gB).2.1.toNat a q.toNat):=λq=>if_neg (by omega);rw[ss]
    revert hm
    generalize st.getD (st.length-1) gB=x;intro hm;obtain⟨⟨p0,p1⟩,x0,x3⟩:=hS _ hm;have hj:tW x.1.toNat x.2.1.toNat a q.toNat<256:=by unfold tW;omega
    refine⟨⟨by omega,by omega⟩,⟨by omega,by omega⟩,⟨p0,Int.lt_of_lt_of_le p1 (by omega)⟩,⟨x0,vX x3⟩,⟨by omega,by omega⟩,⟨hq.1,by omega⟩,F (tW x.1.toNat x.2.1.toNat a q.toNat),Jp (a:=λ_=>.no) (by unfold tW;omega) hj,_,rfl,jW.refl _,(hG _ hj).symm⟩
   .exact⟨_,rfl,jW.refl _,by unfold lqp;rw[if_pos (by omega)]⟩
   .subst hs;have hs0:¬(lqp G st a q).length=0:=by omega
    rw[if_neg hs0]at ys;have hlen:(st++[((a:Int),q,(lqp G st a q).getD 0 0,())]).length=st.length+1:=by simp
    have Dv:l.length-(st.length+1)=l.length-st.length-1:=by omega
    have mO:nD l (st++[((a:Int),q,(lqp G st a q).getD 0 0,())]):=λx hx=>by
     rcases dX.1 hx with hx|hx;· exact hS x hx
     rw[bC]at hx;subst hx;exact⟨⟨by dsimp only;omega,by dsimp only;omega⟩,by dsimp only;omega,by dsimp only;omega⟩
    have ev:∀x,gC l G st (qu l G st a (y+1)) x=nX l G (l.length-st.length-1) (st++[((a:Int),q,(lqp G st a q).getD 0 0,())]) (gC l G st (qu l G st a y) x):=λx=>by rw[ys,Hr];rfl
    simp only[hlen,Dv];exact⟨⟨by omega,by omega⟩,⟨by omega,by omega⟩,⟨by omega,.inr (by omega)⟩,h1,h4,hl,mO,wD hN hh,by omega,Hq (Hq tY (by omega)) (by omega),⟨by omega,by omega⟩,y+1,by omega,(ev _).symm,jW.refl _,by omega,by omega⟩
   subst hs;rw[if_pos (by omega),cV]at ys;exact⟨⟨by omega,by omega⟩,y+1,by omega,by rw[ys],jW.refl _,by omega,by omega⟩
  have lX:¬y<(qL l a).length:=λh=>lX (fK.2 h);refine⟨⟨by omega,by omega⟩,a+1,by omega,?_,jW.refl _,by omega,by omega⟩;rw[qh,if_neg (by rw[hh];decide),Hr,show y=(qL l a).length by omega]
 have ea:a=l.length:=by omega
 subst ea;by_cases e0:l.length-st.length=0
 .rw[e0,P3 λi hi=>?_];· exact hc
  cases hh:gE st (i:Int)with
  |true=>rfl
  |false=>have:=Us hS hN hi hh;omega
 have wM:l.length-st.length=(l.length-st.length-1)+1:=by omega
 rw[wM,nX,hc];unfold gC;rfl
end Go.Tv
namespace Go.Tv
open Go Go.Di Go.Proofs
theorem four{x:Int}(h:0<=x/\x<=3):x=0\/x=1\/x=2\/x=3:=by omega
structure Grp (g1 g2 g3:gY->gY) (Y0:gY->Prop):Prop where
 qv:∀w,Y0 w->Y0 (g1 w)/\Y0 (g2 w)/\Y0 (g3 w)
 nd:∀w,Y0 w->[w,g1 w,g2 w,g3 w].Nodup
 m1:∀w,Y0 w->g1 (g1 w)=w/\g2 (g1 w)=g3 w/\g3 (g1 w)=g2 w
 m2:∀w,Y0 w->g1 (g2 w)=g3 w/\g2 (g2 w)=w/\g3 (g2 w)=g1 w
 m3:∀w,Y0 w->g1 (g3 w)=g2 w/\g2 (g3 w)=g1 w/\g3 (g3 w)=w
def orb(g1 g2 g3:gY->gY)(w:gY):List gY:=[w,g1 w,g2 w,g3 w]
def stp(g1 g2 g3:gY->gY)(q:List gY×Int)(w:gY):List gY×Int:=
 (gb cv w q.1,bif iG cv (g1 w) (gb cv w q.1)then q.2 else bif (!TJ (g2 w) w&&iG cv (g2 w) (gb cv w q.1))then q.2 else bif iG cv (g3 w) (gb cv w q.1)then q.2 else q.2+1)
section
variable {g1 g2 g3:gY->gY} {Y0:gY->Prop}
end
end Go.Tv
namespace Go.Tv
open Go Go.Di Go.Proofs
abbrev SmW:=Int×Int×Int×Unit
def G1(na nb:Int)(w:gY):gY:=bif w.1 then o1 nb na w else o1 na nb w
def G2(na nb:Int)(w:gY):gY:=bif w.1 then o2 nb na w else o2 na nb w
def ai4(w:gY):Prop:=(0<=w.2.1.1/\w.2.1.1<=3)/\0<=w.2.1.2.1/\w.2.1.2.1<=3
def aiF(L M:List SmW):List gY:=L.map (λs=>(false,s,()))++M.map λs=>(true,s,())
section
variable {ua la qa ub lb qb:List Int} {w wa wb:Int}
def aiJ(x:Int)(v:gY):gY:=bif v.1 then(true,(v.2.1.1,jh v.2.1.2.1 x,v.2.1.2.2.1,()),())else(false,(jh v.2.1.1 x,v.2.1.2.1,v.2.1.2.2.1,()),())
end
end Go.Tv
namespace Go.Tv
open Go Go.Di Go.Proofs
def D42:List TV->Dn
 |[.sl (.pair (.sl (.int .i64)) (.pair (.sl (.int .i64)) (.pair (.int .i64) (.pair (.sl (.int .i64)) .unit)))) l .no]=>some ([l.length<=1000,∀p∈l,iA p],.res (bI (if 4<l.length then 6 else iK l)) [] [],[])
 |_=>none
theorem v42:VI T6 Try.f43 [some cn] D42:=by
 refine gz λa=>?_;unfold D42;split
 rotate_left
 .trivial
 rename_i l;intro hp;refine nS (A:=aO (decide ((↑l.length:Int)>4)) ((6=if 4<l.length then(6:Int)else iK l)/\True) (l.length<=1000/\(∀(p:(aW).den),p∈l->iA p)/\(iK l=if 4<l.length then(6:Int)else iK l)/\True)) (by kernel_rfl) ?_;obtain⟨h1,h2,-⟩:=hp;simp only[dz,and_true];exact⟨λh=>by rw[if_pos (by omega)],λh=>⟨by omega,h2,by rw[if_neg (by omega)]⟩⟩
def F0:fQ:=T6.eV 43 λa=>dS (D42 a)
def D48:List TV->Dn
 |[.sl (.pair (.sl (.int .i64)) (.pair (.sl (.int .i64)) (.pair (.int .i64) (.pair (.sl (.int .i64)) .unit)))) l .no,.val (.int .i64 a),.val (.int .i64 b)]=>some ([l.length<=4,∀p∈l,iA p,iK l=0,0<=a,a<l.length,0<=b,b<l.length,a≠b],.res (bI 0) [] [],[])
 |_=>none
theorem v48:VI F0 Try.f30 [some cn] D48:=by
 refine gz λa=>?_;unfold D48;split
 rotate_left
 .trivial
 rename_i l x y;intro hp;refine nS (A:=l.length<=1000/\(∀(p:(aW).den),p∈l->iA p)/\aO ((if 4<l.length then(6:Int)else iK l) !=0) ((if 4<l.length then(6:Int)else iK l)=0/\True) (aO (decide (x<0)) ((3:Int)=0/\True) (aO (decide (y<0)) ((3:Int)=0/\True) (aO (decide (x>=(↑l.length:Int))) ((3:Int)=0/\True) (aO (decide (y>=(↑l.length:Int))) ((3:Int)=0/\True) (aO (x==y) ((4:Int)=0/\True) ((0:Int)=0/\True))))))) (by kernel_rfl) ?_;obtain⟨h1,h2,h3,h4,h5,h6,h7,h8,-⟩:=hp;rw[if_neg (by omega),h3];simp only[dz,ek,fC,and_true];exact⟨by omega,h2,λ_=>⟨λh=>by omega,λ_=>⟨λh=>by omega,λ_=>⟨λh=>by omega,λ_=>⟨λh=>by omega,λ_=>⟨λh=>absurd h h8,λ_=>trivial⟩⟩⟩⟩⟩,λh=>absurd trivial h⟩
def F2:fQ:=(((F0.eV 32 λa=>dS (D50 a)).eV 30 λa=>dS (D48 a)).eV 33 S60).eV 31 λa=>dS (D31 a)
def E11:List TV->Dn
 |[.sl (.pair (.sl (.int .i64)) (.pair (.sl (.int .i64)) (.pair (.int .i64) (.pair (.sl (.int .i64)) .unit)))) [(ua,la,wa,qa,_),(ub,lb,wb,qb,_)] .no,.val (.int .i64 0),.val (.int .i64 1)]=>some ([Ok ua la wa qa,Ok ub lb wb qb],.res (.tup [.sl bV (aC ua la qa ub lb qb (wa+wb)) .no,bI 0]) [] [],[])
 |[.sl (.pair (.sl (.int .i64)) (.pair (.sl (.int .i64)) (.pair (.int .i64) (.pair (.sl (.int .i64)) .unit)))) [(ua,la,wa,qa,_),(ub,lb,wb,qb,_)] .no,.val (.int .i64 1),.val (.int .i64 0)]=>some ([Ok ua la wa qa,Ok ub lb wb qb],.res (.tup [.sl bV (aC ub lb qb ua la qa (wb+wa)) .no,bI 0]) [] [],[])
 |_=>none
def E10:List TV->Dn
 |[.sl (.pair (.sl (.int .i64)) (.pair (.sl (.int .i64)) (.pair (.int .i64) (.pair (.sl (.int .i64)) .unit)))) [(ua,la,wa,qa,_),(ub,lb,wb,qb,_)] .no,.val (.int .i64 0),.val (.int .i64 1)]=>some ([Ok ua la wa qa,Ok ub lb wb qb],.res (.tup [bI (Kc ua la qa ub lb qb wa wb),bI 0]) [] [],[])
 |[.sl (.pair (.sl (.int .i64)) (.pair (.sl (.int .i64)) (.pair (.int .i64) (.pair (.sl (.int .i64)) .unit)))) [(ua,la,wa,qa,_),(ub,lb,wb,qb,_)] .no,.val (.int .i64 1),.val (.int .i64 0)]=>some ([Ok ua la wa qa,Ok ub lb wb qb],.res (.tup [bI (Kc ub lb qb ua la qa wb wa),bI 0]) [] [],[])
 |_=>none
def F3:fQ:=((T6.eV 12 λa=>dS (D16 a)).eV 11 λa=>dS (E11 a)).eV 10 λa=>dS (E10 a)
def afT(te:List TV)(k:Int->List aW.den->LA):LA:=
 match te.getD 4 .unk with
 |.sl (.pair (.sl (.int .i64)) (.pair (.sl (.int .i64)) (.pair (.int .i64) (.pair (.sl (.int .i64)) .unit)))) [(ua,la,wa,qa,_),(ub,lb,wb,qb,_)] _=>k (Kc ua la qa ub lb qb wa wb) [(ua,la,wa,qa,()),(ub,lb,wb,qb,())]
 |_=>.un 0
def D3:List TV->Dn
 |[.sl (.int .i64) _ .no]=>some ([],.res (nW true) [] [],[(13,.dep λte _=>afT te λn P=>.ex Nat λx=>.st {sl:=[(4,.sl aW P .no),(5,bI n),(13,bI x)],en:=[x<=4],m:=4-x})])
 |_=>none
def v3.q1 (p0 p1:List Int)(p2:Int)(p3 p4 p5:List Int)(p6:Int)(p7:List Int)(p8 p9:Int)(p10 p11:Nat):Prop:=p8=p9/\p10<=4/\(4-p10)<p11
section
variable {bM:bS} (tk:AH bM) (tr:Uj bM) (ts:Zw bM)
theorem U6{T:fQ}{k:Nat}(ts:Zw bM)(hT:kK bM k T):kK bM k (T.eV 33 S60):=Uq hT λn a p s hs hp=>by
 unfold S60 at hs;split at hs;.cases hs;obtain⟨o1,o2,rfl,rfl,rfl,rfl,rfl,rfl,rfl,rfl,rfl,rfl,rfl,rfl,rfl,rfl,rfl,rfl,-⟩:=hp;intro bR hd;obtain⟨d1,_,rfl,h1,h2⟩:=ak hd;obtain⟨d2,_,rfl,h2,h3⟩:=ak h2;rw[aP h3];obtain⟨r,k1,k2,k3⟩:=ts.abw _ _ _ _ _ _ _ _ d1 d2 o1 o2 h1 h2;exact⟨r,_,by simp only[CG,mc,k1,k2,if_true],k2,k3,rfl,rfl,trivial⟩
 cases hs
include tk
theorem afM:kK bM 7 F0:=ug tk (TU tk) (by decide) Try.func43 rfl v42 (iz (TU tk))
include ts
theorem aik:kK bM 1 F1:=U6 ts (ug tk (gA tk) (by decide) Try.func56 rfl v56 (iz (gA tk)))
include tr
theorem aij:kK bM 8 F2:=ug tk (fD (aik tk ts) 6) (by decide) Try.func31 rfl v31 (U6 ts (ug tk (afM tk) (by decide) Try.func30 rfl v48 (ug tk (fD (Y1 tk tr) 5) (by decide) Try.func32 rfl v50 (iz (afM tk)))))
end
end Go.Tv
namespace Go.Tv
open Go Go.Di Go.Proofs
def sS(l:List PD):Int:=if 4<l.length then 6 else iK l
theorem QE{l:List PD}(hh:sS l=0):l.length<=4/\∀p∈l,gX p:=by
 have h:=hh;unfold sS at h;split at h;.cases h
 refine⟨by omega,?_⟩;clear hh;rename_i hl;clear hl;induction l with
 |nil=>intro p hp;cases hp
 |cons q l ih=>
  rw[iK]at h;split at h;.rename_i e;exact absurd h e
  rename_i e;intro p hp;rcases bz.1 hp with rfl|hp;.exact VY.1 (Decidable.not_not.1 e)
  exact ih h p hp
theorem xV:∀{n:Nat}{f g:Nat->List Int}{a:Nat->Ap},(∀j,j<n->f j=g j)->rM n f a=rM n g a
 |0,_,_,_,_=>rfl
 |n+1,f,g,a,h=>by show .sl cn (f 0) (a 0)::rM n (λj=>f (j+1)) (λj=>a (j+1))=.sl cn (g 0) (a 0)::rM n (λj=>g (j+1)) (λj=>a (j+1));rw[h 0 (by omega),xV (f:=λj=>f (j+1)) (g:=λj=>g (j+1)) λj hj=>h (j+1) (by omega)]
theorem ZX{f:Nat->List Int}{m:Nat}(h:∀j,(f j).length<=m)(j:Nat):(bO (aX 256 f) j).length<=m:=by
 by_cases hj:j<256;.rw[rZ hj];exact h j
 unfold bO;rw[fu (by rw[IP];omega)];simp
def oM(l:List PD):Nat->List Int:=bO (aX 256 (BD l l.length))
def rT(l:List PD):List ax:=if sS l=0/\l.length≠0 then nX l (oM l) l.length [] []else[]
def xb(l:List PD):Int:=if sS l=0 then(if l.length=0 then 7 else 0)else sS l
def rB(l:List PD):Int:=if sS l=0/\l.length≠0 then di l (oM l) l.length []else 0
noncomputable def G16:fQ:=((T0.eV 43 λa=>dS (D42 a)).M5 44 λa=>dS (Ul a)).DC 45 λa t=>dS (Rh 5 a t)
def adM:List TV->Dn
 |[.sl (.pair (.sl (.int .i64)) (.pair (.sl (.int .i64)) (.pair (.int .i64) (.pair (.sl (.int .i64)) .unit)))) l .no]=>some ([l.length<=1000,∀p∈l,iA p],.ex (List ax) λb=>.ex Int λe=>.res (.tup [.sl bV b .no,bI e]) [] [b=rT l,e=xb l],
  [(11,.st {sl:=[],pl:=[(2,[.sl bV [] .no]),(3,[.fn 45 [] [.ptr 2 0,.ptr 1 0,.ptr 3 0]])]})])
 |_=>none
theorem ahn:VI G16 Try.f16 [some (.sl bV),some cn] adM:=by
 refine gz λa=>?_;unfold adM;split
 rotate_left
 .trivial
 rename_i l;intro hp;change List PD at l;refine nS (A:=l.length<=1000/\(∀(p:(aW).den),p∈l->iA p)/\aO ((if 4<l.length then(6:Int)else iK l) !=0) (∃(a:List ax),∃(y:Int),[]=a/\(if 4<l.length then(6:Int)else iK l)=y/\a=rT l/\y=xb l/\True) (aO ((↑l.length:Int)==0) (∃(a:List ax),∃(y:Int),[]=a/\7=y/\a=rT l/\y=xb l/\True) (l.length<=4/\(∀(p:(aW).den),p∈l->gX p)/\∀(a:Nat->List Int),a=BD l l.length->(yE bV.den/\(0:Int)=0/\List.map aS l=List.map aS l/\jW (aX 256 a) (aX 256 a)/\yE bV.den/\True)/\aX 256 a=aX 256 (bO (aX 256 a))/\List.map aS l=List.map aS (lW (List.map aS l))/\(List.map aS l).length<=4/\(∀(p:PD),p∈lW (List.map aS l)->gX p)/\nD (lW (List.map aS l)) []/\(List.map (λ(x:(bV).den)=>x.1) []).Nodup/\(List.map aS l).length<5/\0<=1000/\∃(y:List ax),∃(z:Int),nX (lW (List.map aS l)) (bO (aX 256 a)) ((List.map aS l).length-0) [] []=y/\0=z/\y=rT l/\z=xb l/\True))) (by kernel_rfl) ?_;obtain⟨h1,h2,-⟩:=hp;simp only[fC,ek,eq_self,true_and,and_true,iX];refine⟨h1,h2,λe=>?_,λe=>?_⟩
 .have hc:sS l=0:=e;obtain⟨k1,k2⟩:=QE hc;refine⟨λe0=>⟨_,_,rfl,rfl,?_,?_⟩,λe0=>⟨k1,k2,λf hf=>⟨jW.refl _,?_,?_,by rw[List.length_map];exact k1,?_,?_,List.nodup_nil,by rw[List.length_map];omega,by omega,_,_,rfl,rfl,?_,?_⟩⟩⟩;.rw[rT,if_neg λh=>h.2 (by omega)]
  .rw[xb,if_pos hc,if_pos (by omega)]
  .exact xV λj hj=>(rZ hj).symm
  .exact congrArg (List.map aS) O0.symm
  .rw[O0];exact k2
  .exactλx hx=>nomatch hx
  .rw[rT,if_pos ⟨hc,by omega⟩,oM,<-hf,O0,List.length_map];rfl
  rw[xb,if_pos hc,if_neg (by omega)]
 have hc:¬sS l=0:=e;exact⟨_,_,rfl,rfl,by rw[rT,if_neg λh=>hc h.1],by rw[xb,if_neg hc];rfl⟩
noncomputable def G20:fQ:=((T0.eV 43 λa=>dS (D42 a)).M5 44 λa=>dS (Ul a)).DC 49 λa t=>dS (D49 4 a t)
def adL:List TV->Dn
 |[.sl (.pair (.sl (.int .i64)) (.pair (.sl (.int .i64)) (.pair (.int .i64) (.pair (.sl (.int .i64)) .unit)))) l .no]=>some ([l.length<=1000,∀p∈l,iA p,sS l=0->l.length<=3],.ex Int λn=>.ex Int λe=>.res (.tup [bI n,bI e]) [] [n=rB l,e=sS l],[])
 |_=>none
theorem ahm:VI G20 Try.f20 [some cn,some cn] adL:=by
 refine gz λa=>?_;unfold adL;split
 rotate_left
 .trivial
 rename_i l;intro hp;change List PD at l;refine nS (A:=l.length<=1000/\(∀(p:(aW).den),p∈l->iA p)/\aO ((if 4<l.length then(6:Int)else iK l) !=0) (∃(a:Int),∃(x:Int),0=a/\(if 4<l.length then(6:Int)else iK l)=x/\a=rB l/\x=sS l/\True) (aO ((↑l.length:Int)==0) (∃(a:Int),∃(x:Int),0=a/\0=x/\a=rB l/\x=sS l/\True) (l.length<=4/\(∀(p:(aW).den),p∈l->gX p)/\∀(a:Nat->List Int),a=BD l l.length->aX 256 a=aX 256 (bO (aX 256 a))/\List.map aS l=List.map aS l/\l.length<=3/\(∀(p:(aW).den),p∈l->gX p)/\(∀(j:Nat),(bO (aX 256 a) j).length<=4352)/\nD l []/\0<=l.length/\l.length<4/\∃(x:Int),∃(y:Int),di l (bO (aX 256 a)) (l.length-0) []=x/\0=y/\x=rB l/\y=sS l/\True))) (by kernel_rfl) ?_;obtain⟨h1,h2,h3,-⟩:=hp;simp only[fC,ek,eq_self,true_and,and_true,iX];refine⟨h1,h2,λe=>?_,λe=>?_⟩
 .have hc:sS l=0:=e;obtain⟨k1,k2⟩:=QE hc;refine⟨λe0=>⟨_,_,rfl,rfl,?_,hc.symm⟩,λe0=>⟨k1,k2,λf hf=>⟨?_,h3 hc,k2,?_,λx hx=>(nomatch hx),by omega,by have:=h3 hc;omega,_,_,rfl,rfl,?_,hc.symm⟩⟩⟩;.rw[rB,if_neg λh=>h.2 (by omega)]
  .exact xV λj hj=>(rZ hj).symm
  .refine ZX λj=>?_;have:=Jh k2 k1 l.length (aj _) j;rw[hf];omega
  rw[rB,if_pos ⟨hc,by omega⟩,oM,<-hf];rfl
 have hc:¬sS l=0:=e;exact⟨_,_,rfl,rfl,by rw[rB,if_neg λh=>hc h.1],rfl⟩
end Go.Tv
