import Derived.Test.YtedcgbkilmlbhaaPk14
import Derived.Test.YtedcgbkilmlbhaaPk13
set_option maxRecDepth 100000
namespace Go.Tv
open Go Go.Di Go.Proofs
def Zp:List TV->Dn
 |[.sl (.pair (.int .i64) (.pair (.int .i64) (.pair (.int .i64) .unit))) l .no]=>some ([l≠[],l.length<=1000],.res (.sl cz l .no) [] [],[])
 |_=>none
theorem ahk:VI T0 Try.f46 [some (.sl cz)] Zp:=by
 refine gT λa=>?_;unfold Zp;split
 rotate_left
 .trivial
 rename_i l;intro hp;change List aG at l;refine pE (A:=l≠[]/\0+l.length<=1000000000/\l=l/\True) (by kernel_rfl) ?_;exact⟨hp.1,by have:=hp.2.1;omega,rfl,trivial⟩
def lW(ws:List fB.den):List PD:=ws.map λw=>(w.1,w.2.1,w.2.2.1,w.2.2.2.1,())
theorem OH{l:List PD}:lW (l.map aV)=l:=by unfold lW;rw[qF];exact List.map_id'' (λp=>rfl) l
def nR(st b:List aG):List aG:=if b.length<st.length then st else b
def qq(l:List PD)(F:Nat->List Int):Nat->List aG->List aG->List aG
 |0,st,b=>nR st b
 |r+1,st,b=>(tw l F st l.length).foldl (λb p=>qq l F r (st++[p.1]) b) (nR st b)
def gr(l:List PD)(F:Nat->List Int)(st:List aG)(ns:List (aG×List Int))(c:List aG):List aG:=ns.foldl (λb p=>qq l F (l.length-st.length-1) (st++[p.1]) b) c
section
variable {l:List PD} {F:Nat->List Int} {st b:List aG} {i y:Nat}
theorem zB:∀(n:Nat)(L:List Int),L.Nodup->(∀x∈L,0<=x/\x<(n:Int))->L.length<=n
 |0,L,_,h=>by
  cases L with
  |nil=>simp
  |cons a L=>have:=h a (by simp);omega
 |n+1,L,hn,h=>by
  by_cases hm:(n:Int)∈L
  .have h1:=zB n (L.erase (n:Int)) (hn.erase _) λx hx=>by have:=(List.Nodup.mem_erase_iff hn).1 hx;have h2:=h x this.2;exact⟨h2.1,by have:=this.1;omega⟩
   rw[C2 hm]at h1;omega
  have h1:=zB n L hn λx hx=>by have h2:=h x hx;exact⟨h2.1,by have:x≠n:=λe=>hm (e▸hx);omega⟩
  omega
theorem XA{x:Int}(h:kG st x=false):x∉st.map (·.1):=by intro hm;rw[dM]at hm;obtain⟨e,he,rfl⟩:=hm;unfold kG at h;rw[List.any_eq_false]at h;exact h e he (by simp)
theorem GQ{x:aG}(hn:(st.map (·.1)).Nodup)(h:kG st x.1=false):((st++[x]).map (·.1)).Nodup:=by rw[dY,List.nodup_append];refine⟨hn,by simp,λa ha c hc=>?_⟩;simp only[bn,fG,bI]at hc;subst hc;exactλe=>XA h (e▸ha)
theorem abq(hS:tD l st)(hn:(st.map (·.1)).Nodup)(hi:i<l.length)(h:kG st (i:Int)=false):st.length+1<=l.length:=by
 have h1:(((st++[((i:Int),(0,0,()))]):List aG).map (·.1)).Nodup:=GQ hn h;have:=zB l.length _ h1 λx hx=>by
  rw[dM]at hx;obtain⟨e,he,rfl⟩:=hx;rcases eY.1 he with he|he;· exact(hS e he).1
  rw[bI]at he;subst he;exact⟨by dsimp only;omega,by dsimp only;omega⟩
 simpa using this
theorem abr(hS:tD l st)(hn:(st.map (·.1)).Nodup):st.length<=l.length:=by
 have:=zB l.length _ hn λx hx=>by rw[dM]at hx;obtain⟨e,he,rfl⟩:=hx;exact(hS e he).1
 simpa using this
theorem PF:∀{a:Nat},(∀i,i<a->kG st (i:Int)=true)->tw l F st a=[]
 |0,_=>rfl
 |a+1,h=>by rw[Eb,PF λi hi=>h i (by omega),if_pos (h a (by omega)),dZ]
theorem Ew{m:Nat}(hb:b.length<=m)(hs:st.length<=m):(nR st b).length<=m:=by unfold nR;split<;>omega
theorem Lx:∀(r:Nat){m:Nat}{st b:List aG},b.length<=m->st.length+r<=m->(qq l F r st b).length<=m
 |0,m,st,b,hb,hs=>Ew hb (by omega)
 |r+1,m,st,b,hb,hs=>by
  rw[qq];have h0:(nR st b).length<=m:=Ew hb (by omega)
  revert h0
  generalize nR st b=c;generalize tw l F st l.length=ns;induction ns generalizing c with
  |nil=>exactλh=>h
  |cons p ns ih=>intro h;exact ih _ (Lx r h (by rw[bU,nJ];omega))
theorem G6{m:Nat}{ns:List (aG×List Int)}:∀{c:List aG},c.length<=m->st.length+1+(l.length-st.length-1)<=m->(gr l F st ns c).length<=m:=by
 induction ns with
 |nil=>exactλh _=>h
 |cons p ns ih=>intro c h hm;exact ih (Lx _ h (by rw[bU,nJ];omega)) hm
theorem G7{a c:List (aG×List Int)}{x:List aG}:gr l F st (a++c) x=gr l F st c (gr l F st a x):=by unfold gr;rw[jY]
end
def OB(tS:List TB)(k:List PD->(Nat->List Int)->List aG->List aG->LA):LA:=
 match tS with
 |.cells [.sl (.pair (.int .i64) (.pair (.int .i64) (.pair (.int .i64) .unit))) b _]::_::_::.cells (.sl (.pair (.sl (.int .i64)) (.pair (.sl (.int .i64)) (.pair (.int .i64) (.pair (.sl (.int .i64)) (.pair (.sl (.int .i64)) (.pair (.sl (.int .i64)) (.pair (.sl (.int .i64)) (.pair (.sl (.int .i64)) (.pair (.sl (.int .i64)) (.pair (.sl (.int .i64)) (.pair (.sl (.int .i64)) (.pair (.sl (.int .i64)) .unit)))))))))))) ws _::T)::.cells [.sl (.pair (.int .i64) (.pair (.int .i64) (.pair (.int .i64) .unit))) st _]::_=>k (lW ws) (dn T) st b
 |_=>.un 0
def afM:List (Nat×LA):=
 [(1,.dep λ_ tS=>OB tS λl F st c=>.ex Nat λi=>.st {sl:=[(15,bp i)],pl:=[(0,[.sl cz (gr l F st (tw l F st i) c) .no])],cO:=[i<=l.length],m:=l.length-i}),
  (9,.dep λte tS=>OB tS λl F st c=>fZ te 15 λi=>.ex Nat λy=>.st {sl:=[(19,.unk),(25,.sl cS (qL l i) .no),(26,bp (qL l i).length),(27,bp y)],pl:=[(0,[.sl cz (gr l F st (CF l F st i y) c) .no]),(9,wkC (l.getD i dP))],cO:=[y<=(qL l i).length],m:=(qL l i).length-y}),
  (15,.dep λte tS=>OB tS λl F st _=>fZ te 15 λi=>fZ te 27 λy=>.ex (List Int) λs=>.st {sl:=[(8,.sl cS s .no)],cO:=[s=mL F st i ((qL l i).getD y 0)]})]
def Q0(n:Nat):List TV->List (List TV)->Dn
 |[.sl (.pair (.int .i64) (.pair (.int .i64) (.pair (.int .i64) .unit))) st .no,.ptr 0 0,.ptr 1 0,.ptr 2 0],[[.sl (.pair (.int .i64) (.pair (.int .i64) (.pair (.int .i64) .unit))) b .no],[.ptr 3 0],[.fn 45 [] [.ptr 0 0,.ptr 1 0,.ptr 2 0]],.sl (.pair (.sl (.int .i64)) (.pair (.sl (.int .i64)) (.pair (.int .i64) (.pair (.sl (.int .i64)) (.pair (.sl (.int .i64)) (.pair (.sl (.int .i64)) (.pair (.sl (.int .i64)) (.pair (.sl (.int .i64)) (.pair (.sl (.int .i64)) (.pair (.sl (.int .i64)) (.pair (.sl (.int .i64)) (.pair (.sl (.int .i64)) .unit)))))))))))) ws (.stop false)::T]=>
  some ([T=bZ 256 (dn T),ws=(lW ws).map aV,ws.length<=4,∀p∈lW ws,kP p,tD (lW ws) st,(st.map (·.1)).Nodup,ws.length<st.length+n,b.length<=1000],
   .res (.tup []) [.agg [.sl cz (qq (lW ws) (dn T) (ws.length-st.length) st b) .no],.agg [.ptr 3 0],.agg [.fn 45 [] [.ptr 0 0,.ptr 1 0,.ptr 2 0]],.agg (.sl fB ws (.stop false)::T)] [],
   [(1,.dep λ_ tS=>OB tS λ_ _ st b=>.ex (List aG) λc=>.st {sl:=[],pl:=[(0,[.sl cz c .no])],cO:=[c=nR st b]})])
 |_,_=>none
noncomputable def G45 (n:Nat):eZ:=(((((K3.oJ 69 λa c=>dS (D69 a c)).dQ 46 λa=>dS (Zp a)).H6 47 Try.f47 []).H6 68 Try.f68 afM).H7 45 λa t=>dS (Q0 n a t)).own 45 Try.f45
def jq.q1 (p0:bq.den)(p1:Prop):Prop:=p0=p0/\p1
def jq.q2 (p0:Nat)(p1:List (cz).den)(p2:List PD)(p3:Nat)(p4:Nat->List Int)(p5 p6:List aG):Prop:=dw ((↑p0:Int)+1)/\∃(a:Nat),p1=p1/\List.map aV p2=List.map aV p2/\(↑(List.map aV p2).length:Int)=(↑(List.map aV p2).length:Int)/\(↑p3:Int)=(↑p3:Int)/\true=true/\(↑p3:Int)=(↑p3:Int)/\List.map aV p2=List.map aV p2/\p3=p3/\0=0/\p1=p1/\false=false/\qL (lW (List.map aV p2)) p3=qL (lW (List.map aV p2)) p3/\(↑(qL (lW (List.map aV p2)) p3).length:Int)=(↑(qL (lW (List.map aV p2)) p3).length:Int)/\(↑p0:Int)+1=(↑a:Int)/\p6=gr (lW (List.map aV p2)) (dn (bZ 256 p4)) p1 (CF (lW (List.map aV p2)) (dn (bZ 256 p4)) p1 p3 a) (gr (lW (List.map aV p2)) (dn (bZ 256 p4)) p1 (tw (lW (List.map aV p2)) (dn (bZ 256 p4)) p1 p3) p5)/\List.map aV p2=List.map aV p2/\kF (bZ 256 p4) (bZ 256 p4)/\p1=p1/\p1=p1/\(↑p3:Int)=(↑p3:Int)/\jq.q1 ((lW (List.map aV p2)).getD p3 dP).1 (jq.q1 ((lW (List.map aV p2)).getD p3 dP).2.1 (((lW (List.map aV p2)).getD p3 dP).2.2.1=((lW (List.map aV p2)).getD p3 dP).2.2.1/\jq.q1 ((lW (List.map aV p2)).getD p3 dP).2.2.2.1 (jq.q1 ((lW (List.map aV p2)).getD p3 dP).1 (jq.q1 ((lW (List.map aV p2)).getD p3 dP).2.1 (List.reverse ((lW (List.map aV p2)).getD p3 dP).2.1=List.reverse ((lW (List.map aV p2)).getD p3 dP).2.1/\List.reverse ((lW (List.map aV p2)).getD p3 dP).1=List.reverse ((lW (List.map aV p2)).getD p3 dP).1/\List.reverse ((lW (List.map aV p2)).getD p3 dP).1=List.reverse ((lW (List.map aV p2)).getD p3 dP).1/\List.reverse ((lW (List.map aV p2)).getD p3 dP).2.1=List.reverse ((lW (List.map aV p2)).getD p3 dP).2.1/\jq.q1 ((lW (List.map aV p2)).getD p3 dP).2.1 (jq.q1 ((lW (List.map aV p2)).getD p3 dP).1 (a<=(qL (lW (List.map aV p2)) p3).length/\((qL (lW (List.map aV p2)) p3).length-a)<((qL (lW (List.map aV p2)) p3).length-p0))))))))
def jq.q3 (p0:bq.den)(p1:Prop):Prop:=p0=p0/\p1
def jq.q4 (p0:List (cz).den)(p1:List PD)(p2 p3:Nat)(p4:Nat->List Int)(p5:List aG)(p6:List cS.den):Prop:=∃(a:List Int),p0=p0/\(qL (lW (List.map aV p1)) p2).getD p3 0=(qL (lW (List.map aV p1)) p2).getD p3 0/\p6=a/\List.map aV p1=List.map aV p1/\(↑(List.map aV p1).length:Int)=(↑(List.map aV p1).length:Int)/\(↑p2:Int)=(↑p2:Int)/\true=true/\(↑p2:Int)=(↑p2:Int)/\List.map aV p1=List.map aV p1/\p2=p2/\0=0/\p0=p0/\false=false/\qL (lW (List.map aV p1)) p2=qL (lW (List.map aV p1)) p2/\(↑(qL (lW (List.map aV p1)) p2).length:Int)=(↑(qL (lW (List.map aV p1)) p2).length:Int)/\(↑p3:Int)=(↑p3:Int)/\true=true/\qL (lW (List.map aV p1)) p2=qL (lW (List.map aV p1)) p2/\p3=p3/\0=0/\(qL (lW (List.map aV p1)) p2).getD p3 0=(qL (lW (List.map aV p1)) p2).getD p3 0/\[(0:Int)]=[(0:Int)]/\gr (lW (List.map aV p1)) (dn (bZ 256 p4)) p0 (CF (lW (List.map aV p1)) (dn (bZ 256 p4)) p0 p2 p3) (gr (lW (List.map aV p1)) (dn (bZ 256 p4)) p0 (tw (lW (List.map aV p1)) (dn (bZ 256 p4)) p0 p2) p5)=gr (lW (List.map aV p1)) (dn (bZ 256 p4)) p0 (CF (lW (List.map aV p1)) (dn (bZ 256 p4)) p0 p2 p3) (gr (lW (List.map aV p1)) (dn (bZ 256 p4)) p0 (tw (lW (List.map aV p1)) (dn (bZ 256 p4)) p0 p2) p5)/\List.map aV p1=List.map aV p1/\kF (bZ 256 p4) (bZ 256 p4)/\p0=p0/\p0=p0/\(↑p2:Int)=(↑p2:Int)/\jq.q3 ((lW (List.map aV p1)).getD p2 dP).1 (jq.q3 ((lW (List.map aV p1)).getD p2 dP).2.1 (((lW (List.map aV p1)).getD p2 dP).2.2.1=((lW (List.map aV p1)).getD p2 dP).2.2.1/\jq.q3 ((lW (List.map aV p1)).getD p2 dP).2.2.2.1 (jq.q3 ((lW (List.map aV p1)).getD p2 dP).1 (jq.q3 ((lW (List.map aV p1)).getD p2 dP).2.1 (List.reverse ((lW (List.map aV p1)).getD p2 dP).2.1=List.reverse ((lW (List.map aV p1)).getD p2 dP).2.1/\List.reverse ((lW (List.map aV p1)).getD p2 dP).1=List.reverse ((lW (List.map aV p1)).getD p2 dP).1/\List.reverse ((lW (List.map aV p1)).getD p2 dP).1=List.reverse ((lW (List.map aV p1)).getD p2 dP).1/\List.reverse ((lW (List.map aV p1)).getD p2 dP).2.1=List.reverse ((lW (List.map aV p1)).getD p2 dP).2.1/\jq.q3 ((lW (List.map aV p1)).getD p2 dP).2.1 (jq.q3 ((lW (List.map aV p1)).getD p2 dP).1 (a=mL (dn (bZ 256 p4)) p0 p2 ((qL (lW (List.map aV p1)) p2).getD p3 0)/\True)))))))
def jq.q5 (p0:Nat)(p1:List (cz).den)(p2:List PD)(p3:Nat->List Int)(p4:List aG)(p5:List (aG×List Int))(p6:List aG):Prop:=dw ((↑p0:Int)+1)/\∃(a:Nat),p1=p1/\List.map aV p2=List.map aV p2/\(↑(List.map aV p2).length:Int)=(↑(List.map aV p2).length:Int)/\(↑p0:Int)+1=(↑a:Int)/\gr (lW (List.map aV p2)) (dn (bZ 256 p3)) p1 p5 p6=gr (lW (List.map aV p2)) (dn (bZ 256 p3)) p1 (tw (lW (List.map aV p2)) (dn (bZ 256 p3)) p1 a) p4/\List.map aV p2=List.map aV p2/\kF (bZ 256 p3) (bZ 256 p3)/\p1=p1/\p1=p1/\a<=(lW (List.map aV p2)).length/\((lW (List.map aV p2)).length-a)<((lW (List.map aV p2)).length-p0)
def jq.q6 (p0:cS.den)(p1:Prop):Prop:=(0<=p0/\p0<4)/\p1
theorem jq(n:Nat):VM (G45 n) Try.f45 [] (Q0 (n+1)) 2:=by
 refine afW λa t=>?_;unfold Q0;split
 rotate_left
 .trivial
 rename_i st b ws T;intro hp;obtain⟨h1,h2,hp⟩:=hp;obtain⟨F,rfl⟩:∃F,T=bZ 256 F:=⟨_,h1⟩;obtain⟨l,rfl⟩:∃l,ws=List.map aV l:=⟨_,h2⟩;refine pE (A:=aS (decide ((↑st.length:Int)>(↑b.length:Int))) (st≠[]/\st.length<=1000/\∃(a:List aG),st=a/\List.map aV l=List.map aV l/\kF (bZ 256 F) (bZ 256 F)/\st=st/\a=nR st b/\True) (∃(a:List aG),b=a/\List.map aV l=List.map aV l/\kF (bZ 256 F) (bZ 256 F)/\st=st/\a=nR st b/\True)/\∀(a:List aG),a=nR st b->(∃(y:Nat),0=(↑y:Int)/\a=gr (lW (List.map aV l)) (dn (bZ 256 F)) st (tw (lW (List.map aV l)) (dn (bZ 256 F)) st y) a/\y<=(lW (List.map aV l)).length/\((lW (List.map aV l)).length-y)<1000000)/\∀(y:Nat),y<=(lW (List.map aV l)).length->aS (decide ((↑y:Int)<(↑(List.map aV l).length:Int))) ((0<=(↑y:Int)/\(↑y:Int)<(↑(List.map aV l).length:Int))/\st.length<=1000/\aS (kG st (↑y:Int)) (jq.q5 y st l F a (tw (lW (List.map aV l)) (dn (bZ 256 F)) st y) a) ((∃(z:Nat),((List.map aV l).getD y ([],[],0,[],[],[],[],[],[],[],[],[],())).2.2.2.1=qL (lW (List.map aV l)) y/\(↑(List.length ((List.map aV l).getD y ([],[],0,[],[],[],[],[],[],[],[],[],())).2.2.2.1):Int)=(↑(qL (lW (List.map aV l)) y).length:Int)/\0=(↑z:Int)/\gr (lW (List.map aV l)) (dn (bZ 256 F)) st (tw (lW (List.map aV l)) (dn (bZ 256 F)) st y) a=gr (lW (List.map aV l)) (dn (bZ 256 F)) st (CF (lW (List.map aV l)) (dn (bZ 256 F)) st y z) (gr (lW (List.map aV l)) (dn (bZ 256 F)) st (tw (lW (List.map aV l)) (dn (bZ 256 F)) st y) a)/\((List.map aV l).getD y ([],[],0,[],[],[],[],[],[],[],[],[],())).1=((lW (List.map aV l)).getD y dP).1/\((List.map aV l).getD y ([],[],0,[],[],[],[],[],[],[],[],[],())).2.1=((lW (List.map aV l)).getD y dP).2.1/\((List.map aV l).getD y ([],[],0,[],[],[],[],[],[],[],[],[],())).2.2.1=((lW (List.map aV l)).getD y dP).2.2.1/\((List.map aV l).getD y ([],[],0,[],[],[],[],[],[],[],[],[],())).2.2.2.1=((lW (List.map aV l)).getD y dP).2.2.2.1/\((List.map aV l).getD y ([],[],0,[],[],[],[],[],[],[],[],[],())).2.2.2.2.1=((lW (List.map aV l)).getD y dP).1/\((List.map aV l).getD y ([],[],0,[],[],[],[],[],[],[],[],[],())).2.2.2.2.2.1=((lW (List.map aV l)).getD y dP).2.1/\((List.map aV l).getD y ([],[],0,[],[],[],[],[],[],[],[],[],())).2.2.2.2.2.2.1=List.reverse ((lW (List.map aV l)).getD y dP).2.1/\((List.map aV l).getD y ([],[],0,[],[],[],[],[],[],[],[],[],())).2.2.2.2.2.2.2.1=List.reverse ((lW (List.map aV l)).getD y dP).1/\((List.map aV l).getD y ([],[],0,[],[],[],[],[],[],[],[],[],())).2.2.2.2.2.2.2.2.1=List.reverse ((lW (List.map aV l)).getD y dP).1/\((List.map aV l).getD y ([],[],0,[],[],[],[],[],[],[],[],[],())).2.2.2.2.2.2.2.2.2.1=List.reverse ((lW (List.map aV l)).getD y dP).2.1/\((List.map aV l).getD y ([],[],0,[],[],[],[],[],[],[],[],[],())).2.2.2.2.2.2.2.2.2.2.1=((lW (List.map aV l)).getD y dP).2.1/\((List.map aV l).getD y ([],[],0,[],[],[],[],[],[],[],[],[],())).2.2.2.2.2.2.2.2.2.2.2.1=((lW (List.map aV l)).getD y dP).1/\z<=(qL (lW (List.map aV l)) y).length/\((qL (lW (List.map aV l)) y).length-z)<1000000)/\∀(z:Nat),z<=(qL (lW (List.map aV l)) y).length->aS (decide ((↑z:Int)<(↑(qL (lW (List.map aV l)) y).length:Int))) ((0<=(↑z:Int)/\(↑z:Int)<(↑(qL (lW (List.map aV l)) y).length:Int))/\aS (decide ((↑st.length:Int)>0)) (dw ((↑st.length:Int)-1)/\(0<=(↑st.length:Int)-1/\(↑st.length:Int)-1<(↑st.length:Int))/\jq.q6 (st.getD ((↑st.length:Int)-1).toNat (0,0,0,())).1 (jq.q6 (st.getD ((↑st.length:Int)-1).toNat (0,0,0,())).2.1 ((0<=(↑y:Int)/\(↑y:Int)<4)/\(0<=(qL (lW (List.map aV l)) y).getD z 0/\(qL (lW (List.map aV l)) y).getD z 0<4)/\∃(te:List cS.den),(TV.sl (bq.pair (bq.pair (cS.pair (bq.pair (bq.pair (bq.pair (bq.pair (bq.pair (bq.pair (bq.pair (bq.pair (bq.pair TT.unit)))))))))))) (List.map aV l) (Ap.stop false)::bZ 256 F)[Int.toNat ((qL (lW (List.map aV l)) y).getD z 0)*1+(y*4+(Int.toNat (st.getD ((↑st.length:Int)-1).toNat (0,0,0,())).2.1*16+(Int.toNat (st.getD ((↑st.length:Int)-1).toNat (0,0,0,())).1*64+1)))]? =some (TV.sl cS te Ap.no)/\jq.q4 st l y z F a te))) (jq.q4 st l y z F a [(0:Int)])/\∀(u:List Int),u=mL (dn (bZ 256 F)) st y ((qL (lW (List.map aV l)) y).getD z 0)->aS (decide ((↑u.length:Int)>0)) (((0:Int)<=0/\0<(↑u.length:Int))/\(0<=(↑st.length:Int)/\(↑st.length:Int)=(↑st.length:Int)/\(↑st.length:Int)<=(↑st.length:Int))/\((List.take st.length st).length+1<=1000000000/\((List.take st.length st).length=0\/1≠0))/\bZ 256 F=bZ 256 (dn (bZ 256 F))/\List.map aV l=List.map aV (lW (List.map aV l))/\(List.map aV l).length<=4/\(∀(p:PD),p∈lW (List.map aV l)->kP p)/\tD (lW (List.map aV l)) (List.take st.length st++[((↑y:Int),(qL (lW (List.map aV l)) y).getD z 0,u.getD 0 0,())])/\(List.map (λ(x:(cz).den)=>x.1) (List.take st.length st++[((↑y:Int),(qL (lW (List.map aV l)) y).getD z 0,u.getD 0 0,())])).Nodup/\(List.map aV l).length<(List.take st.length st++[((↑y:Int),(qL (lW (List.map aV l)) y).getD z 0,u.getD 0 0,())]).length+n/\(gr (lW (List.map aV l)) (dn (bZ 256 F)) st (CF (lW (List.map aV l)) (dn (bZ 256 F)) st y z) (gr (lW (List.map aV l)) (dn (bZ 256 F)) st (tw (lW (List.map aV l)) (dn (bZ 256 F)) st y) a)).length<=1000/\jq.q2 z st l y F a (qq (lW (List.map aV l)) (dn (bZ 256 F)) ((List.map aV l).length-(List.take st.length st++[((↑y:Int),(qL (lW (List.map aV l)) y).getD z 0,u.getD 0 0,())]).length) (List.take st.length st++[((↑y:Int),(qL (lW (List.map aV l)) y).getD z 0,u.getD 0 0,())]) (gr (lW (List.map aV l)) (dn (bZ 256 F)) st (CF (lW (List.map aV l)) (dn (bZ 256 F)) st y z) (gr (lW (List.map aV l)) (dn (bZ 256 F)) st (tw (lW (List.map aV l)) (dn (bZ 256 F)) st y) a)))) (jq.q2 z st l y F a (gr (lW (List.map aV l)) (dn (bZ 256 F)) st (CF (lW (List.map aV l)) (dn (bZ 256 F)) st y z) (gr (lW (List.map aV l)) (dn (bZ 256 F)) st (tw (lW (List.map aV l)) (dn (bZ 256 F)) st y) a)))) (jq.q5 y st l F a (CF (lW (List.map aV l)) (dn (bZ 256 F)) st y z) (gr (lW (List.map aV l)) (dn (bZ 256 F)) st (tw (lW (List.map aV l)) (dn (bZ 256 F)) st y) a)))) (gr (lW (List.map aV l)) (dn (bZ 256 F)) st (tw (lW (List.map aV l)) (dn (bZ 256 F)) st y) a=qq (lW (List.map aV l)) (dn (bZ 256 F)) ((List.map aV l).length-st.length) st b/\List.map aV l=List.map aV l/\bZ 256 F=bZ 256 F/\True)) (by kernel_rfl) ?_;unfold jq.q6 jq.q5 jq.q4 jq.q3 jq.q2 jq.q1;obtain⟨h4,hl,hS,hN,hlt,hb,-⟩:=hp;rw[List.length_map]at h4 hlt;change List PD at l;generalize hlw:lW (List.map aV l)=l' at*;obtain rfl:l=l':=by rw[<-hlw];exact OH.symm
 change List aG at st b;generalize hFF:dn (bZ 256 F)=G at*;have hG:∀j,j<256->G j=F j:=λj hj=>by rw[<-hFF,DU hj]
 have hle:=abr hS hN;simp only[ek,fe,eq_self,true_and,and_true,dw,List.length_map,iH];refine⟨⟨λh=>⟨λe=>by rw[e]at h;simp at h;omega,by omega,_,rfl,kF.refl _,by unfold nR;rw[if_pos (by omega)]⟩,λh=>⟨_,rfl,kF.refl _,by unfold nR;rw[if_neg (by omega)]⟩⟩,λc hc=>⟨⟨0,by omega,rfl,by omega,by omega⟩,λa ha=>⟨λhal=>⟨⟨by omega,by omega⟩,by omega,mc.2 ⟨λhh=>?_,λhh=>?_⟩⟩,λhal=>?_⟩⟩⟩;· refine⟨⟨by omega,by omega⟩,a+1,by omega,?_,kF.refl _,by omega,by omega⟩;rw[Eb,if_pos hh,dZ]
 .have oa:kP (l.getD a dP):=fF (by omega) hl;have q4:(qL l a).length<=4:=agl hl;have Me:=abq hS hN (by omega) hh;have ud:c.length<=1000:=hc▸Ew hb (by omega);simp only[Ub (l:=l) (k:=a) (by omega),aV,eq_self,true_and];refine⟨⟨0,by omega,rfl,by omega,by omega⟩,λy hy=>⟨λCI=>?_,λCI=>?_⟩⟩
  .have CI:y<(qL l a).length:=mq.1 CI;have hq:0<=(qL l a).getD y 0/\(qL l a).getD y 0<=3:=oa.Mc _ (fF (P:=λx=>x∈qL l a) CI λ_ h=>h);have ys:=Xb (F:=G) (st:=st) CI
   revert ys hq
   generalize(qL l a).getD y 0=q;intro hq ys;refine⟨⟨by omega,mq.2 CI⟩,⟨λh0=>?_,λh0=>?_⟩,λs hs=>⟨λhsl=>?_,λhsl=>?_⟩⟩
   .have hst:0<st.length:=by omega
    have e3:((st.length:Int)-1).toNat=st.length-1:=by omega
    have hm:st.getD (st.length-1) nV∈st:=fF (P:=λx=>x∈st) (by omega) λ_ h=>h;simp only[e3];have ss:∀q,mL G st a q=G (xd (st.getD (st.length-1) nV).1.toNat (st.getD (st.length-1) nV).2.1.toNat a q.toNat):=λq=>if_neg (by omega);rw[ss]
    revert hm
    generalize st.getD (st.length-1) nV=x;intro hm;obtain⟨⟨p0,p1⟩,x0,x3⟩:=hS _ hm;have hj:xd x.1.toNat x.2.1.toNat a q.toNat<256:=by unfold xd;omega
    refine⟨⟨by omega,by omega⟩,⟨by omega,by omega⟩,⟨p0,Int.lt_of_lt_of_le p1 (by omega)⟩,⟨x0,ze x3⟩,⟨by omega,by omega⟩,⟨hq.1,by omega⟩,F (xd x.1.toNat x.2.1.toNat a q.toNat),Ql (a:=λ_=>.no) (by unfold xd;omega) hj,_,rfl,kF.refl _,(hG _ hj).symm⟩
   .exact⟨_,rfl,kF.refl _,by unfold mL;rw[if_pos (by omega)]⟩
   .subst hs;have hs0:¬(mL G st a q).length=0:=by omega
    rw[if_neg hs0]at ys;have hlen:(st++[((a:Int),q,(mL G st a q).getD 0 0,())]).length=st.length+1:=by simp
    have MI:l.length-(st.length+1)=l.length-st.length-1:=by omega
    have nY:tD l (st++[((a:Int),q,(mL G st a q).getD 0 0,())]):=λx hx=>by
     rcases eY.1 hx with hx|hx;· exact hS x hx
     rw[bI]at hx;subst hx;exact⟨⟨by dsimp only;omega,by dsimp only;omega⟩,by dsimp only;omega,by dsimp only;omega⟩
    have ev:∀x,gr l G st (CF l G st a (y+1)) x=qq l G (l.length-st.length-1) (st++[((a:Int),q,(mL G st a q).getD 0 0,())]) (gr l G st (CF l G st a y) x):=λx=>by rw[ys,G7];rfl
    simp only[hlen,MI];exact⟨⟨by omega,by omega⟩,⟨by omega,by omega⟩,⟨by omega,.inr (by omega)⟩,h1,h4,hl,nY,GQ hN hh,by omega,G6 (G6 ud (by omega)) (by omega),⟨by omega,by omega⟩,y+1,by omega,(ev _).symm,kF.refl _,by omega,by omega⟩
   subst hs;rw[if_pos (by omega),dZ]at ys;exact⟨⟨by omega,by omega⟩,y+1,by omega,by rw[ys],kF.refl _,by omega,by omega⟩
  have CI:¬y<(qL l a).length:=λh=>CI (mq.2 h);refine⟨⟨by omega,by omega⟩,a+1,by omega,?_,kF.refl _,by omega,by omega⟩;rw[Eb,if_neg (by rw[hh];decide),G7,show y=(qL l a).length by omega]
 have ea:a=l.length:=by omega
 subst ea;by_cases e0:l.length-st.length=0
 .rw[e0,PF λi hi=>?_];· exact hc
  cases hh:kG st (i:Int)with
  |true=>rfl
  |false=>have:=abq hS hN hi hh;omega
 have ye:l.length-st.length=(l.length-st.length-1)+1:=by omega
 rw[ye,qq,hc];unfold gr;rfl
end Go.Tv
namespace Go.Tv
open Go Go.Di Go.Proofs
theorem four{x:Int}(h:0<=x/\x<=3):x=0\/x=1\/x=2\/x=3:=by omega
structure Grp (g1 g2 g3:gM->gM) (YO:gM->Prop):Prop where
 ql:∀w,YO w->YO (g1 w)/\YO (g2 w)/\YO (g3 w)
 nd:∀w,YO w->[w,g1 w,g2 w,g3 w].Nodup
 m1:∀w,YO w->g1 (g1 w)=w/\g2 (g1 w)=g3 w/\g3 (g1 w)=g2 w
 m2:∀w,YO w->g1 (g2 w)=g3 w/\g2 (g2 w)=w/\g3 (g2 w)=g1 w
 m3:∀w,YO w->g1 (g3 w)=g2 w/\g2 (g3 w)=g1 w/\g3 (g3 w)=w
def orb(g1 g2 g3:gM->gM)(w:gM):List gM:=[w,g1 w,g2 w,g3 w]
def stp(g1 g2 g3:gM->gM)(q:List gM×Int)(w:gM):List gM×Int:=
 (fW cv w q.1,bif iy cv (g1 w) (fW cv w q.1)then q.2 else bif (!Tw (g2 w) w&&iy cv (g2 w) (fW cv w q.1))then q.2 else bif iy cv (g3 w) (fW cv w q.1)then q.2 else q.2+1)
section
variable {g1 g2 g3:gM->gM} {YO:gM->Prop}
end
end Go.Tv
namespace Go.Tv
open Go Go.Di Go.Proofs
abbrev SmW:=Int×Int×Int×Unit
def G1(na nb:Int)(w:gM):gM:=bif w.1 then o1 nb na w else o1 na nb w
def G2(na nb:Int)(w:gM):gM:=bif w.1 then o2 nb na w else o2 na nb w
def ai3(w:gM):Prop:=(0<=w.2.1.1/\w.2.1.1<=3)/\0<=w.2.1.2.1/\w.2.1.2.1<=3
def aiE(L M:List SmW):List gM:=L.map (λs=>(false,s,()))++M.map λs=>(true,s,())
section
variable {ua la qa ub lb qb:List Int} {w wa wb:Int}
def aiK(x:Int)(v:gM):gM:=bif v.1 then(true,(v.2.1.1,iZ v.2.1.2.1 x,v.2.1.2.2.1,()),())else(false,(iZ v.2.1.1 x,v.2.1.2.1,v.2.1.2.2.1,()),())
end
end Go.Tv
namespace Go.Tv
open Go Go.Di Go.Proofs
def YP:List TV->Dn
 |[.sl (.pair (.sl (.int .i64)) (.pair (.sl (.int .i64)) (.pair (.int .i64) (.pair (.sl (.int .i64)) .unit)))) l .no]=>some ([l.length<=1000,∀p∈l,gv p],.res (bp (if 4<l.length then 6 else jT l)) [] [],[])
 |_=>none
theorem v42:VI T6 Try.f43 [some cS] YP:=by
 refine gT λa=>?_;unfold YP;split
 rotate_left
 .trivial
 rename_i l;intro hp;refine pE (A:=aS (decide ((↑l.length:Int)>4)) ((6=if 4<l.length then(6:Int)else jT l)/\True) (l.length<=1000/\(∀(p:(aU).den),p∈l->gv p)/\(jT l=if 4<l.length then(6:Int)else jT l)/\True)) (by kernel_rfl) ?_;obtain⟨h1,h2,-⟩:=hp;simp only[ek,and_true];exact⟨λh=>by rw[if_pos (by omega)],λh=>⟨by omega,h2,by rw[if_neg (by omega)]⟩⟩
def F0:eZ:=T6.dQ 43 λa=>dS (YP a)
def D48:List TV->Dn
 |[.sl (.pair (.sl (.int .i64)) (.pair (.sl (.int .i64)) (.pair (.int .i64) (.pair (.sl (.int .i64)) .unit)))) l .no,.val (.int .i64 a),.val (.int .i64 b)]=>some ([l.length<=4,∀p∈l,gv p,jT l=0,0<=a,a<l.length,0<=b,b<l.length,a≠b],.res (bp 0) [] [],[])
 |_=>none
def F2:eZ:=(((F0.dQ 32 λa=>dS (D50 a)).dQ 30 λa=>dS (D48 a)).dQ 33 S60).dQ 31 λa=>dS (D31 a)
def E11:List TV->Dn
 |[.sl (.pair (.sl (.int .i64)) (.pair (.sl (.int .i64)) (.pair (.int .i64) (.pair (.sl (.int .i64)) .unit)))) [(ua,la,wa,qa,_),(ub,lb,wb,qb,_)] .no,.val (.int .i64 0),.val (.int .i64 1)]=>some ([Ok ua la wa qa,Ok ub lb wb qb],.res (.tup [.sl cz (aD ua la qa ub lb qb (wa+wb)) .no,bp 0]) [] [],[])
 |[.sl (.pair (.sl (.int .i64)) (.pair (.sl (.int .i64)) (.pair (.int .i64) (.pair (.sl (.int .i64)) .unit)))) [(ua,la,wa,qa,_),(ub,lb,wb,qb,_)] .no,.val (.int .i64 1),.val (.int .i64 0)]=>some ([Ok ua la wa qa,Ok ub lb wb qb],.res (.tup [.sl cz (aD ub lb qb ua la qa (wb+wa)) .no,bp 0]) [] [],[])
 |_=>none
def E10:List TV->Dn
 |[.sl (.pair (.sl (.int .i64)) (.pair (.sl (.int .i64)) (.pair (.int .i64) (.pair (.sl (.int .i64)) .unit)))) [(ua,la,wa,qa,_),(ub,lb,wb,qb,_)] .no,.val (.int .i64 0),.val (.int .i64 1)]=>some ([Ok ua la wa qa,Ok ub lb wb qb],.res (.tup [bp (Dk ua la qa ub lb qb wa wb),bp 0]) [] [],[])
 |[.sl (.pair (.sl (.int .i64)) (.pair (.sl (.int .i64)) (.pair (.int .i64) (.pair (.sl (.int .i64)) .unit)))) [(ua,la,wa,qa,_),(ub,lb,wb,qb,_)] .no,.val (.int .i64 1),.val (.int .i64 0)]=>some ([Ok ua la wa qa,Ok ub lb wb qb],.res (.tup [bp (Dk ub lb qb ua la qa wb wa),bp 0]) [] [],[])
 |_=>none
def F3:eZ:=((T6.dQ 12 λa=>dS (D16 a)).dQ 11 λa=>dS (E11 a)).dQ 10 λa=>dS (E10 a)
def afQ(te:List TV)(k:Int->List aU.den->LA):LA:=
 match te.getD 4 .unk with
 |.sl (.pair (.sl (.int .i64)) (.pair (.sl (.int .i64)) (.pair (.int .i64) (.pair (.sl (.int .i64)) .unit)))) [(ua,la,wa,qa,_),(ub,lb,wb,qb,_)] _=>k (Dk ua la qa ub lb qb wa wb) [(ua,la,wa,qa,()),(ub,lb,wb,qb,())]
 |_=>.un 0
def D3:List TV->Dn
 |[.sl (.int .i64) _ .no]=>some ([],.res (iD true) [] [],[(13,.dep λte _=>afQ te λn P=>.ex Nat λx=>.st {sl:=[(4,.sl aU P .no),(5,bp n),(13,bp x)],cO:=[x<=4],m:=4-x})])
 |_=>none
def v3.q1 (p0 p1:List Int)(p2:Int)(p3 p4 p5:List Int)(p6:Int)(p7:List Int)(p8 p9:Int)(HA Qw:Nat):Prop:=p8=p9/\HA<=4/\(4-HA)<Qw
section
variable {bH:bR} (tk:yx bH) (tr:TY bH) (ts:Zo bH)
theorem UN{T:eZ}{k:Nat}(ts:Zo bH)(hT:ko bH k T):ko bH k (T.dQ 33 S60):=OD hT λn a p s hs hp=>by
 unfold S60 at hs;split at hs;.cases hs;obtain⟨o1,o2,rfl,rfl,rfl,rfl,rfl,rfl,rfl,rfl,rfl,rfl,rfl,rfl,rfl,rfl,rfl,rfl,-⟩:=hp;intro bJ hd;obtain⟨d1,_,rfl,h1,h2⟩:=aj hd;obtain⟨d2,_,rfl,h2,h3⟩:=aj h2;rw[aR h3];obtain⟨r,k1,k2,k3⟩:=ts.abv _ _ _ _ _ _ _ _ d1 d2 o1 o2 h1 h2;exact⟨r,_,by simp only[ym,kJ,k1,k2,if_true],k2,k3,rfl,rfl,trivial⟩
 cases hs
include tk
include ts
theorem aib:ko bH 1 F1:=UN ts (wu tk (ic tk) (by decide) Try.func56 rfl v56 (lp (ic tk)))
include tr
end
end Go.Tv
namespace Go.Tv
open Go Go.Di Go.Proofs
def jb(l:List PD):Int:=if 4<l.length then 6 else jT l
theorem yZ{l:List PD}(hh:jb l=0):l.length<=4/\∀p∈l,kP p:=by
 have h:=hh;unfold jb at h;split at h;.cases h
 refine⟨by omega,?_⟩;clear hh;rename_i hl;clear hl;induction l with
 |nil=>intro p hp;cases hp
 |cons q l ih=>
  rw[jT]at h;split at h;.rename_i e;exact absurd h e
  rename_i e;intro p hp;rcases bw.1 hp with rfl|hp;.exact VH.1 (Decidable.not_not.1 e)
  exact ih h p hp
theorem EB:∀{n:Nat}{f g:Nat->List Int}{a:Nat->Ap},(∀j,j<n->f j=g j)->rD n f a=rD n g a
 |0,_,_,_,_=>rfl
 |n+1,f,g,a,h=>by show .sl cS (f 0) (a 0)::rD n (λj=>f (j+1)) (λj=>a (j+1))=.sl cS (g 0) (a 0)::rD n (λj=>g (j+1)) (λj=>a (j+1));rw[h 0 (by omega),EB (f:=λj=>f (j+1)) (g:=λj=>g (j+1)) λj hj=>h (j+1) (by omega)]
def Ao(l:List PD):Nat->List Int:=dn (bZ 256 (Cg l l.length))
def rJ(l:List PD):List aG:=if jb l=0/\l.length≠0 then qq l (Ao l) l.length [] []else[]
def uv(l:List PD):Int:=if jb l=0 then(if l.length=0 then 7 else 0)else jb l
def ad5(l:List PD):Int:=if jb l=0/\l.length≠0 then wM l (Ao l) l.length []else 0
noncomputable def G16:eZ:=((T0.dQ 43 λa=>dS (YP a)).MQ 44 λa=>dS (Ua a)).H7 45 λa t=>dS (Q0 5 a t)
def adF:List TV->Dn
 |[.sl (.pair (.sl (.int .i64)) (.pair (.sl (.int .i64)) (.pair (.int .i64) (.pair (.sl (.int .i64)) .unit)))) l .no]=>some ([l.length<=1000,∀p∈l,gv p],.ex (List aG) λb=>.ex Int λe=>.res (.tup [.sl cz b .no,bp e]) [] [b=rJ l,e=uv l],
  [(11,.st {sl:=[],pl:=[(2,[.sl cz [] .no]),(3,[.fn 45 [] [.ptr 2 0,.ptr 1 0,.ptr 3 0]])]})])
 |_=>none
theorem ahm:VI G16 Try.f16 [some (.sl cz),some cS] adF:=by
 refine gT λa=>?_;unfold adF;split
 rotate_left
 .trivial
 rename_i l;intro hp;change List PD at l;refine pE (A:=l.length<=1000/\(∀(p:(aU).den),p∈l->gv p)/\aS ((if 4<l.length then(6:Int)else jT l) !=0) (∃(a:List aG),∃(y:Int),[]=a/\(if 4<l.length then(6:Int)else jT l)=y/\a=rJ l/\y=uv l/\True) (aS ((↑l.length:Int)==0) (∃(a:List aG),∃(y:Int),[]=a/\7=y/\a=rJ l/\y=uv l/\True) (l.length<=4/\(∀(p:(aU).den),p∈l->kP p)/\∀(a:Nat->List Int),a=Cg l l.length->(mU cz.den/\(0:Int)=0/\List.map aV l=List.map aV l/\kF (bZ 256 a) (bZ 256 a)/\mU cz.den/\True)/\bZ 256 a=bZ 256 (dn (bZ 256 a))/\List.map aV l=List.map aV (lW (List.map aV l))/\(List.map aV l).length<=4/\(∀(p:PD),p∈lW (List.map aV l)->kP p)/\tD (lW (List.map aV l)) []/\(List.map (λ(x:(cz).den)=>x.1) []).Nodup/\(List.map aV l).length<5/\0<=1000/\∃(y:List aG),∃(z:Int),qq (lW (List.map aV l)) (dn (bZ 256 a)) ((List.map aV l).length-0) [] []=y/\0=z/\y=rJ l/\z=uv l/\True))) (by kernel_rfl) ?_;obtain⟨h1,h2,-⟩:=hp;simp only[fS,fe,eq_self,true_and,and_true,iz];refine⟨h1,h2,λe=>?_,λe=>?_⟩
 .have hc:jb l=0:=e;obtain⟨k1,k2⟩:=yZ hc;refine⟨λe0=>⟨_,_,rfl,rfl,?_,?_⟩,λe0=>⟨k1,k2,λf hf=>⟨kF.refl _,?_,?_,by rw[List.length_map];exact k1,?_,?_,List.nodup_nil,by rw[List.length_map];omega,by omega,_,_,rfl,rfl,?_,?_⟩⟩⟩;.rw[rJ,if_neg λh=>h.2 (by omega)]
  .rw[uv,if_pos hc,if_pos (by omega)]
  .exact EB λj hj=>(DU hj).symm
  .exact congrArg (List.map aV) OH.symm
  .rw[OH];exact k2
  .exactλx hx=>nomatch hx
  .rw[rJ,if_pos ⟨hc,by omega⟩,Ao,<-hf,OH,List.length_map];rfl
  rw[uv,if_pos hc,if_neg (by omega)]
 have hc:¬jb l=0:=e;exact⟨_,_,rfl,rfl,by rw[rJ,if_neg λh=>hc h.1],by rw[uv,if_neg hc];rfl⟩
noncomputable def G20:eZ:=((T0.dQ 43 λa=>dS (YP a)).MQ 44 λa=>dS (Ua a)).H7 49 λa t=>dS (D49 4 a t)
def ai6:List TV->Dn
 |[.sl (.pair (.sl (.int .i64)) (.pair (.sl (.int .i64)) (.pair (.int .i64) (.pair (.sl (.int .i64)) .unit)))) l .no]=>some ([l.length<=1000,∀p∈l,gv p,jb l=0->l.length<=3],.ex Int λn=>.ex Int λe=>.res (.tup [bp n,bp e]) [] [n=ad5 l,e=jb l],[])
 |_=>none
end Go.Tv
