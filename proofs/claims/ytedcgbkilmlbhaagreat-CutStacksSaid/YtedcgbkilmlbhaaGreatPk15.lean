import Derived.Test.YtedcgbkilmlbhaaGreatPk14
import Derived.Test.YtedcgbkilmlbhaaGreatPk13
set_option maxRecDepth 100000
namespace Go.Tv
open Go Go.Di Go.Proofs
def aaL:cp->Dn
 |[.sl (.pair (.int .i64) (.pair (.int .i64) (.pair (.int .i64) .unit))) l .no]=>some ([l≠[],l.length<=1000],.res (.sl bn l .no) [] [],[])
 |_=>none
theorem aiQ:VI T0 Tryz.f76 [some (.sl bn)] aaL:=by
 refine dH λa=>?_;unfold aaL;split
 rotate_left
 trivial;rename_i l;intro hp;change dp at l;refine jx (A:=l≠[]/\0+l.length<=1000000000/\l=l/\True) (by kernel_rfl) ?_;exact⟨hp.1,by have:=hp.2.1;omega,rfl,trivial⟩
def lW(ws:List sj.den):cP:=ws.map λw=>(w.1,w.2.1,w.2.2.1,w.2.2.2.1,())
theorem PI{l:cP}:lW (l.map aT)=l:=by unfold lW;rw[jm];exact List.map_id'' (λp=>rfl) l
def mX(st b:dp):dp:=if b.length<st.length then st else b
def qI(l:cP)(F:Nat->br):Nat->dp->dp->dp
 |0,st,b=>mX st b
 |r+1,st,b=>(mo l F st l.length).foldl (λb p=>qI l F r (st++[p.1]) b) (mX st b)
def gD(l:cP)(F:Nat->br)(st:dp)(ns:List (ay×br))(c:dp):dp:=ns.foldl (λb p=>qI l F (l.length-st.length-1) (st++[p.1]) b) c
section
variable {l:cP} {F:Nat->br} {st b:dp} {i y:Nat}
theorem z7:∀(n:Nat)(L:br),L.Nodup->(∀x∈L,0<=x/\x<(n:Int))->L.length<=n
 |0,L,_,h=>by
  cases L with
  |nil=>simp
  |cons a L=>have:=h a ae;omega
 |n+1,L,hn,h=>by
  by_cases hm:(n:Int)∈L;have h1:=z7 n (L.erase (n:Int)) (hn.erase _) λx hx=>by have:=(List.Nodup.mem_erase_iff hn).1 hx;have h2:=h x this.2;exact⟨h2.1,by have:=this.1;omega⟩
  rw[JQ hm]at h1;omega;have h1:=z7 n L hn λx hx=>by have h2:=h x hx;exact⟨h2.1,by have:x≠n:=λe=>hm (e▸hx);omega⟩
  omega
theorem Mi{x:Int}(h:fA st x=false):x∉st.map (·.1):=by intro hm;rw[er]at hm;obtain⟨e,he,rfl⟩:=hm;unfold fA at h;rw[List.any_eq_false]at h;exact h e he ae
theorem Bu{x:ay}(hn:(st.map (·.1)).Nodup)(h:fA st x.1=false):((st++[x]).map (·.1)).Nodup:=by rw[fG,List.nodup_append];refine⟨hn,ae,λa ha c hc=>?_⟩;simp only[aY,eO,bV]at hc;subst hc;exactλe=>Mi h (e▸ha)
theorem PA(hS:rD l st)(hn:(st.map (·.1)).Nodup)(hi:i<l.length)(h:fA st (i:Int)=false):st.length+1<=l.length:=by
 have h1:(((st++[((i:Int),(0,0,()))]):dp).map (·.1)).Nodup:=Bu hn h;have:=z7 l.length _ h1 λx hx=>by rw[er]at hx;obtain⟨e,he,rfl⟩:=hx;rcases eG.1 he with he|he;exact(hS e he).1;rw[bV]at he;subst he;exact⟨by dsimp only;omega,by dsimp only;omega⟩
 simpa using this
theorem KP(hS:rD l st)(hn:(st.map (·.1)).Nodup):st.length<=l.length:=by
 have:=z7 l.length _ hn λx hx=>by rw[er]at hx;obtain⟨e,he,rfl⟩:=hx;exact(hS e he).1
 simpa using this
theorem QN:∀{a:Nat},(∀i,i<a->fA st (i:Int)=true)->mo l F st a=[]
 |0,_=>rfl
 |a+1,h=>by rw[qn,QN λi hi=>h i ab,if_pos (h a ab),dW]
theorem ES{m:Nat}(hb:b.length<=m)(hs:st.length<=m):(mX st b).length<=m:=by unfold mX;split<;>omega
theorem ER:∀(r:Nat){m:Nat}{st b:dp},b.length<=m->st.length+r<=m->(qI l F r st b).length<=m
 |0,m,st,b,hb,hs=>ES hb ab
 |r+1,m,st,b,hb,hs=>by
  rw[qI];have h0:(mX st b).length<=m:=ES hb ab
  revert h0
  generalize mX st b=c;generalize mo l F st l.length=ns;induction ns generalizing c with
  |nil=>exactλh=>h
  |cons p ns ih=>intro h;exact ih _ (ER r h (by rw[cn,pG];omega))
theorem HH{m:Nat}{ns:List (ay×br)}:∀{c:dp},c.length<=m->st.length+1+(l.length-st.length-1)<=m->(gD l F st ns c).length<=m:=by
 induction ns with
 |nil=>exactλh _=>h
 |cons p ns ih=>intro c h hm;exact ih (ER _ h (by rw[cn,pG];omega)) hm
theorem HI{a c:List (ay×br)}{x:dp}:gD l F st (a++c) x=gD l F st c (gD l F st a x):=by unfold gD;rw[nS]
end
def Py(tS:cx)(k:cP->(Nat->br)->dp->dp->LA):LA:=
 match tS with
 |.cells [.sl (.pair (.int .i64) (.pair (.int .i64) (.pair (.int .i64) .unit))) b _]::_::_::.cells (.sl (.pair (.sl (.int .i64)) (.pair (.sl (.int .i64)) (.pair (.int .i64) (.pair (.sl (.int .i64)) (.pair (.sl (.int .i64)) (.pair (.sl (.int .i64)) (.pair (.sl (.int .i64)) (.pair (.sl (.int .i64)) (.pair (.sl (.int .i64)) (.pair (.sl (.int .i64)) (.pair (.sl (.int .i64)) (.pair (.sl (.int .i64)) .unit)))))))))))) ws _::T)::.cells [.sl (.pair (.int .i64) (.pair (.int .i64) (.pair (.int .i64) .unit))) st _]::_=>k (lW ws) (bW T) st b
 |_=>.un 0
def ahd:List (Nat×LA):=
 [(1,.dep λ_ tS=>Py tS λl F st c=>.ex Nat λi=>.st {sl:=[(15,aV i)],pl:=[(0,[.sl bn (gD l F st (mo l F st i) c) .no])],cQ:=[i<=l.length],m:=l.length-i}),
  (9,.dep λte tS=>Py tS λl F st c=>od te 15 λi=>.ex Nat λy=>.st {sl:=[(19,.unk),(25,.sl bY (qL l i) .no),(26,aV (qL l i).length),(27,aV y)],pl:=[(0,[.sl bn (gD l F st (rQ l F st i y) c) .no]),(9,wkC (l.getD i dP))],cQ:=[y<=(qL l i).length],m:=(qL l i).length-y}),
  (15,.dep λte tS=>Py tS λl F st _=>od te 15 λi=>od te 27 λy=>.ex br λs=>.st {sl:=[(8,.sl bY s .no)],cQ:=[s=gE F st i ((qL l i).getD y 0)]})]
def Sk(n:Nat):cp->List cp->Dn
 |[.sl (.pair (.int .i64) (.pair (.int .i64) (.pair (.int .i64) .unit))) st .no,.ptr 0 0,.ptr 1 0,.ptr 2 0],[[.sl (.pair (.int .i64) (.pair (.int .i64) (.pair (.int .i64) .unit))) b .no],[.ptr 3 0],[.fn 75 [] [.ptr 0 0,.ptr 1 0,.ptr 2 0]],.sl (.pair (.sl (.int .i64)) (.pair (.sl (.int .i64)) (.pair (.int .i64) (.pair (.sl (.int .i64)) (.pair (.sl (.int .i64)) (.pair (.sl (.int .i64)) (.pair (.sl (.int .i64)) (.pair (.sl (.int .i64)) (.pair (.sl (.int .i64)) (.pair (.sl (.int .i64)) (.pair (.sl (.int .i64)) (.pair (.sl (.int .i64)) .unit)))))))))))) ws (.stop false)::T]=>
  some ([T=aZ 256 (bW T),ws=(lW ws).map aT,ws.length<=4,∀p∈lW ws,iA p,rD (lW ws) st,(st.map (·.1)).Nodup,ws.length<st.length+n,b.length<=1000],
   .res (.tup []) [.agg [.sl bn (qI (lW ws) (bW T) (ws.length-st.length) st b) .no],.agg [.ptr 3 0],.agg [.fn 75 [] [.ptr 0 0,.ptr 1 0,.ptr 2 0]],.agg (.sl sj ws (.stop false)::T)] [],
   [(1,.dep λ_ tS=>Py tS λ_ _ st b=>.ex dp λc=>.st {sl:=[],pl:=[(0,[.sl bn c .no])],cQ:=[c=mX st b]})])
 |_,_=>none
noncomputable def G45 (n:Nat):eM:=(((((K3.mB 113 λa c=>dS (D69 a c)).cG 76 λa=>dS (aaL a)).DN 73 Tryz.f73 []).DN 112 Tryz.f112 ahd).IC 75 λa t=>dS (Sk n a t)).own 75 Tryz.f75
def jw.q1 (p0:bC.den)(p1:Prop):Prop:=p0=p0/\p1
def jw.q2 (p0:Nat)(p1:List (bn).den)(p2:cP)(p3:Nat)(p4:Nat->br)(p5 p6:dp):Prop:=cR ((↑p0:Int)+1)/\∃(a:Nat),p1=p1/\List.map aT p2=List.map aT p2/\(↑(List.map aT p2).length:Int)=(↑(List.map aT p2).length:Int)/\(↑p3:Int)=(↑p3:Int)/\true=true/\(↑p3:Int)=(↑p3:Int)/\List.map aT p2=List.map aT p2/\p3=p3/\0=0/\p1=p1/\false=false/\qL (lW (List.map aT p2)) p3=qL (lW (List.map aT p2)) p3/\(↑(qL (lW (List.map aT p2)) p3).length:Int)=(↑(qL (lW (List.map aT p2)) p3).length:Int)/\(↑p0:Int)+1=(↑a:Int)/\p6=gD (lW (List.map aT p2)) (bW (aZ 256 p4)) p1 (rQ (lW (List.map aT p2)) (bW (aZ 256 p4)) p1 p3 a) (gD (lW (List.map aT p2)) (bW (aZ 256 p4)) p1 (mo (lW (List.map aT p2)) (bW (aZ 256 p4)) p1 p3) p5)/\List.map aT p2=List.map aT p2/\jY (aZ 256 p4) (aZ 256 p4)/\p1=p1/\p1=p1/\(↑p3:Int)=(↑p3:Int)/\jw.q1 ((lW (List.map aT p2)).getD p3 dP).1 (jw.q1 ((lW (List.map aT p2)).getD p3 dP).2.1 (((lW (List.map aT p2)).getD p3 dP).2.2.1=((lW (List.map aT p2)).getD p3 dP).2.2.1/\jw.q1 ((lW (List.map aT p2)).getD p3 dP).2.2.2.1 (jw.q1 ((lW (List.map aT p2)).getD p3 dP).1 (jw.q1 ((lW (List.map aT p2)).getD p3 dP).2.1 (List.reverse ((lW (List.map aT p2)).getD p3 dP).2.1=List.reverse ((lW (List.map aT p2)).getD p3 dP).2.1/\List.reverse ((lW (List.map aT p2)).getD p3 dP).1=List.reverse ((lW (List.map aT p2)).getD p3 dP).1/\List.reverse ((lW (List.map aT p2)).getD p3 dP).1=List.reverse ((lW (List.map aT p2)).getD p3 dP).1/\List.reverse ((lW (List.map aT p2)).getD p3 dP).2.1=List.reverse ((lW (List.map aT p2)).getD p3 dP).2.1/\jw.q1 ((lW (List.map aT p2)).getD p3 dP).2.1 (jw.q1 ((lW (List.map aT p2)).getD p3 dP).1 (a<=(qL (lW (List.map aT p2)) p3).length/\((qL (lW (List.map aT p2)) p3).length-a)<((qL (lW (List.map aT p2)) p3).length-p0))))))))
def jw.q3 (p0:bC.den)(p1:Prop):Prop:=p0=p0/\p1
def jw.q4 (p0:List (bn).den)(p1:cP)(p2 p3:Nat)(p4:Nat->br)(p5:dp)(p6:List bY.den):Prop:=∃(a:br),p0=p0/\(qL (lW (List.map aT p1)) p2).getD p3 0=(qL (lW (List.map aT p1)) p2).getD p3 0/\p6=a/\List.map aT p1=List.map aT p1/\(↑(List.map aT p1).length:Int)=(↑(List.map aT p1).length:Int)/\(↑p2:Int)=(↑p2:Int)/\true=true/\(↑p2:Int)=(↑p2:Int)/\List.map aT p1=List.map aT p1/\p2=p2/\0=0/\p0=p0/\false=false/\qL (lW (List.map aT p1)) p2=qL (lW (List.map aT p1)) p2/\(↑(qL (lW (List.map aT p1)) p2).length:Int)=(↑(qL (lW (List.map aT p1)) p2).length:Int)/\(↑p3:Int)=(↑p3:Int)/\true=true/\qL (lW (List.map aT p1)) p2=qL (lW (List.map aT p1)) p2/\p3=p3/\0=0/\(qL (lW (List.map aT p1)) p2).getD p3 0=(qL (lW (List.map aT p1)) p2).getD p3 0/\[(0:Int)]=[(0:Int)]/\gD (lW (List.map aT p1)) (bW (aZ 256 p4)) p0 (rQ (lW (List.map aT p1)) (bW (aZ 256 p4)) p0 p2 p3) (gD (lW (List.map aT p1)) (bW (aZ 256 p4)) p0 (mo (lW (List.map aT p1)) (bW (aZ 256 p4)) p0 p2) p5)=gD (lW (List.map aT p1)) (bW (aZ 256 p4)) p0 (rQ (lW (List.map aT p1)) (bW (aZ 256 p4)) p0 p2 p3) (gD (lW (List.map aT p1)) (bW (aZ 256 p4)) p0 (mo (lW (List.map aT p1)) (bW (aZ 256 p4)) p0 p2) p5)/\List.map aT p1=List.map aT p1/\jY (aZ 256 p4) (aZ 256 p4)/\p0=p0/\p0=p0/\(↑p2:Int)=(↑p2:Int)/\jw.q3 ((lW (List.map aT p1)).getD p2 dP).1 (jw.q3 ((lW (List.map aT p1)).getD p2 dP).2.1 (((lW (List.map aT p1)).getD p2 dP).2.2.1=((lW (List.map aT p1)).getD p2 dP).2.2.1/\jw.q3 ((lW (List.map aT p1)).getD p2 dP).2.2.2.1 (jw.q3 ((lW (List.map aT p1)).getD p2 dP).1 (jw.q3 ((lW (List.map aT p1)).getD p2 dP).2.1 (List.reverse ((lW (List.map aT p1)).getD p2 dP).2.1=List.reverse ((lW (List.map aT p1)).getD p2 dP).2.1/\List.reverse ((lW (List.map aT p1)).getD p2 dP).1=List.reverse ((lW (List.map aT p1)).getD p2 dP).1/\List.reverse ((lW (List.map aT p1)).getD p2 dP).1=List.reverse ((lW (List.map aT p1)).getD p2 dP).1/\List.reverse ((lW (List.map aT p1)).getD p2 dP).2.1=List.reverse ((lW (List.map aT p1)).getD p2 dP).2.1/\jw.q3 ((lW (List.map aT p1)).getD p2 dP).2.1 (jw.q3 ((lW (List.map aT p1)).getD p2 dP).1 (a=gE (bW (aZ 256 p4)) p0 p2 ((qL (lW (List.map aT p1)) p2).getD p3 0)/\True)))))))
def jw.q5 (p0:Nat)(p1:List (bn).den)(p2:cP)(p3:Nat->br)(p4:dp)(p5:List (ay×br))(p6:dp):Prop:=cR ((↑p0:Int)+1)/\∃(a:Nat),p1=p1/\List.map aT p2=List.map aT p2/\(↑(List.map aT p2).length:Int)=(↑(List.map aT p2).length:Int)/\(↑p0:Int)+1=(↑a:Int)/\gD (lW (List.map aT p2)) (bW (aZ 256 p3)) p1 p5 p6=gD (lW (List.map aT p2)) (bW (aZ 256 p3)) p1 (mo (lW (List.map aT p2)) (bW (aZ 256 p3)) p1 a) p4/\List.map aT p2=List.map aT p2/\jY (aZ 256 p3) (aZ 256 p3)/\p1=p1/\p1=p1/\a<=(lW (List.map aT p2)).length/\((lW (List.map aT p2)).length-a)<((lW (List.map aT p2)).length-p0)
def jw.q6 (p0:bY.den)(p1:Prop):Prop:=(0<=p0/\p0<4)/\p1
theorem jw(n:Nat):VM (G45 n) Tryz.f75 [] (Sk (n+1)) 2:=by
 refine acL λa t=>?_;unfold Sk;split
 rotate_left
 trivial;rename_i st b ws T;intro hp;obtain⟨h1,h2,hp⟩:=hp;obtain⟨F,rfl⟩:∃F,T=aZ 256 F:=⟨_,h1⟩;obtain⟨l,rfl⟩:∃l,ws=List.map aT l:=⟨_,h2⟩;refine jx (A:=aB (decide ((↑st.length:Int)>(↑b.length:Int))) (st≠[]/\st.length<=1000/\∃(a:dp),st=a/\List.map aT l=List.map aT l/\jY (aZ 256 F) (aZ 256 F)/\st=st/\a=mX st b/\True) (∃(a:dp),b=a/\List.map aT l=List.map aT l/\jY (aZ 256 F) (aZ 256 F)/\st=st/\a=mX st b/\True)/\∀(a:dp),a=mX st b->(∃(y:Nat),0=(↑y:Int)/\a=gD (lW (List.map aT l)) (bW (aZ 256 F)) st (mo (lW (List.map aT l)) (bW (aZ 256 F)) st y) a/\y<=(lW (List.map aT l)).length/\((lW (List.map aT l)).length-y)<1000000)/\∀(y:Nat),y<=(lW (List.map aT l)).length->aB (decide ((↑y:Int)<(↑(List.map aT l).length:Int))) ((0<=(↑y:Int)/\(↑y:Int)<(↑(List.map aT l).length:Int))/\st.length<=1000/\aB (fA st (↑y:Int)) (jw.q5 y st l F a (mo (lW (List.map aT l)) (bW (aZ 256 F)) st y) a) ((∃(z:Nat),((List.map aT l).getD y bj).2.2.2.1=qL (lW (List.map aT l)) y/\(↑(List.length ((List.map aT l).getD y bj).2.2.2.1):Int)=(↑(qL (lW (List.map aT l)) y).length:Int)/\0=(↑z:Int)/\gD (lW (List.map aT l)) (bW (aZ 256 F)) st (mo (lW (List.map aT l)) (bW (aZ 256 F)) st y) a=gD (lW (List.map aT l)) (bW (aZ 256 F)) st (rQ (lW (List.map aT l)) (bW (aZ 256 F)) st y z) (gD (lW (List.map aT l)) (bW (aZ 256 F)) st (mo (lW (List.map aT l)) (bW (aZ 256 F)) st y) a)/\((List.map aT l).getD y bj).1=((lW (List.map aT l)).getD y dP).1/\((List.map aT l).getD y bj).2.1=((lW (List.map aT l)).getD y dP).2.1/\((List.map aT l).getD y bj).2.2.1=((lW (List.map aT l)).getD y dP).2.2.1/\((List.map aT l).getD y bj).2.2.2.1=((lW (List.map aT l)).getD y dP).2.2.2.1/\((List.map aT l).getD y bj).2.2.2.2.1=((lW (List.map aT l)).getD y dP).1/\((List.map aT l).getD y bj).2.2.2.2.2.1=((lW (List.map aT l)).getD y dP).2.1/\((List.map aT l).getD y bj).2.2.2.2.2.2.1=List.reverse ((lW (List.map aT l)).getD y dP).2.1/\((List.map aT l).getD y bj).2.2.2.2.2.2.2.1=List.reverse ((lW (List.map aT l)).getD y dP).1/\((List.map aT l).getD y bj).2.2.2.2.2.2.2.2.1=List.reverse ((lW (List.map aT l)).getD y dP).1/\((List.map aT l).getD y bj).2.2.2.2.2.2.2.2.2.1=List.reverse ((lW (List.map aT l)).getD y dP).2.1/\((List.map aT l).getD y bj).2.2.2.2.2.2.2.2.2.2.1=((lW (List.map aT l)).getD y dP).2.1/\((List.map aT l).getD y bj).2.2.2.2.2.2.2.2.2.2.2.1=((lW (List.map aT l)).getD y dP).1/\z<=(qL (lW (List.map aT l)) y).length/\((qL (lW (List.map aT l)) y).length-z)<1000000)/\∀(z:Nat),z<=(qL (lW (List.map aT l)) y).length->aB (decide ((↑z:Int)<(↑(qL (lW (List.map aT l)) y).length:Int))) ((0<=(↑z:Int)/\(↑z:Int)<(↑(qL (lW (List.map aT l)) y).length:Int))/\aB (decide ((↑st.length:Int)>0)) (cR ((↑st.length:Int)-1)/\(0<=(↑st.length:Int)-1/\(↑st.length:Int)-1<(↑st.length:Int))/\jw.q6 (st.getD ((↑st.length:Int)-1).toNat bo).1 (jw.q6 (st.getD ((↑st.length:Int)-1).toNat bo).2.1 ((0<=(↑y:Int)/\(↑y:Int)<4)/\(0<=(qL (lW (List.map aT l)) y).getD z 0/\(qL (lW (List.map aT l)) y).getD z 0<4)/\∃(te:List bY.den),(TV.sl (bC.pair (bC.pair (bY.pair (bC.pair (bC.pair (bC.pair (bC.pair (bC.pair (bC.pair (bC.pair (bC.pair (bC.pair TT.unit)))))))))))) (List.map aT l) (Ap.stop false)::aZ 256 F)[Int.toNat ((qL (lW (List.map aT l)) y).getD z 0)*1+(y*4+(Int.toNat (st.getD ((↑st.length:Int)-1).toNat bo).2.1*16+(Int.toNat (st.getD ((↑st.length:Int)-1).toNat bo).1*64+1)))]? =some (TV.sl bY te Ap.no)/\jw.q4 st l y z F a te))) (jw.q4 st l y z F a [(0:Int)])/\∀(u:br),u=gE (bW (aZ 256 F)) st y ((qL (lW (List.map aT l)) y).getD z 0)->aB (decide ((↑u.length:Int)>0)) (((0:Int)<=0/\0<(↑u.length:Int))/\(0<=(↑st.length:Int)/\(↑st.length:Int)=(↑st.length:Int)/\(↑st.length:Int)<=(↑st.length:Int))/\((List.take st.length st).length+1<=1000000000/\((List.take st.length st).length=0\/1≠0))/\aZ 256 F=aZ 256 (bW (aZ 256 F))/\List.map aT l=List.map aT (lW (List.map aT l))/\(List.map aT l).length<=4/\(∀(p:PD),p∈lW (List.map aT l)->iA p)/\rD (lW (List.map aT l)) (List.take st.length st++[((↑y:Int),(qL (lW (List.map aT l)) y).getD z 0,u.getD 0 0,())])/\(List.map (λ(x:(bn).den)=>x.1) (List.take st.length st++[((↑y:Int),(qL (lW (List.map aT l)) y).getD z 0,u.getD 0 0,())])).Nodup/\(List.map aT l).length<(List.take st.length st++[((↑y:Int),(qL (lW (List.map aT l)) y).getD z 0,u.getD 0 0,())]).length+n/\(gD (lW (List.map aT l)) (bW (aZ 256 F)) st (rQ (lW (List.map aT l)) (bW (aZ 256 F)) st y z) (gD (lW (List.map aT l)) (bW (aZ 256 F)) st (mo (lW (List.map aT l)) (bW (aZ 256 F)) st y) a)).length<=1000/\jw.q2 z st l y F a (qI (lW (List.map aT l)) (bW (aZ 256 F)) ((List.map aT l).length-(List.take st.length st++[((↑y:Int),(qL (lW (List.map aT l)) y).getD z 0,u.getD 0 0,())]).length) (List.take st.length st++[((↑y:Int),(qL (lW (List.map aT l)) y).getD z 0,u.getD 0 0,())]) (gD (lW (List.map aT l)) (bW (aZ 256 F)) st (rQ (lW (List.map aT l)) (bW (aZ 256 F)) st y z) (gD (lW (List.map aT l)) (bW (aZ 256 F)) st (mo (lW (List.map aT l)) (bW (aZ 256 F)) st y) a)))) (jw.q2 z st l y F a (gD (lW (List.map aT l)) (bW (aZ 256 F)) st (rQ (lW (List.map aT l)) (bW (aZ 256 F)) st y z) (gD (lW (List.map aT l)) (bW (aZ 256 F)) st (mo (lW (List.map aT l)) (bW (aZ 256 F)) st y) a)))) (jw.q5 y st l F a (rQ (lW (List.map aT l)) (bW (aZ 256 F)) st y z) (gD (lW (List.map aT l)) (bW (aZ 256 F)) st (mo (lW (List.map aT l)) (bW (aZ 256 F)) st y) a)))) (gD (lW (List.map aT l)) (bW (aZ 256 F)) st (mo (lW (List.map aT l)) (bW (aZ 256 F)) st y) a=qI (lW (List.map aT l)) (bW (aZ 256 F)) ((List.map aT l).length-st.length) st b/\List.map aT l=List.map aT l/\aZ 256 F=aZ 256 F/\True)) (by kernel_rfl) ?_;unfold jw.q6 jw.q5 jw.q4 jw.q3 jw.q2 jw.q1;obtain⟨h4,hl,hS,hN,hlt,hb,-⟩:=hp;rw[List.length_map]at h4 hlt;change cP at l;generalize hlw:lW (List.map aT l)=l' at*;obtain rfl:l=l':=by rw[<-hlw];exact PI.symm
 change dp at st b;generalize hFF:bW (aZ 256 F)=G at*;have hG:∀j,j<256->G j=F j:=λj hj=>by rw[<-hFF,sw hj]
 have hle:=KP hS hN;simp only[bP,cH,eq_self,true_and,and_true,cR,List.length_map,fR];refine⟨⟨λh=>⟨λe=>by rw[e]at h;simp at h;omega,ab,_,rfl,jY.refl _,by unfold mX;rw[if_pos ab]⟩,λh=>⟨_,rfl,jY.refl _,by unfold mX;rw[if_neg ab]⟩⟩,λc hc=>⟨⟨0,ab,rfl,ab,ab⟩,λa ha=>⟨λhal=>⟨⟨ab,ab⟩,ab,gZ.2 ⟨λhh=>?_,λhh=>?_⟩⟩,λhal=>?_⟩⟩⟩;refine⟨⟨ab,ab⟩,a+1,ab,?_,jY.refl _,ab,ab⟩;rw[qn,if_pos hh,dW];have oa:iA (l.getD a dP):=dB ab hl;have q4:(qL l a).length<=4:=DO hl;have FK:=PA hS hN ab hh;have sV:c.length<=1000:=hc▸ES hb ab;simp only[Px (l:=l) (k:=a) ab,aT,eq_self,true_and];refine⟨⟨0,ab,rfl,ab,ab⟩,λy hy=>⟨λsY=>?_,λsY=>?_⟩⟩;have sY:y<(qL l a).length:=nP.1 sY;have hq:0<=(qL l a).getD y 0/\(qL l a).getD y 0<=3:=oa.CH _ (dB (P:=λx=>x∈qL l a) sY λ_ h=>h);have ys:=LW (F:=G) (st:=st) sY
 revert ys hq
 generalize(qL l a).getD y 0=q;intro hq ys;refine⟨⟨ab,nP.2 sY⟩,⟨λh0=>?_,λh0=>?_⟩,λs hs=>⟨λhsl=>?_,λhsl=>?_⟩⟩;have hst:0<st.length:=ab
 have e3:((st.length:Int)-1).toNat=st.length-1:=ab
 have hm:st.getD (st.length-1) kU∈st:=dB (P:=λx=>x∈st) ab λ_ h=>h;simp only[e3];have ss:∀q,gE G st a q=G (uE (st.getD (st.length-1) kU).1.toNat (st.getD (st.length-1) kU).2.1.toNat a q.toNat):=λq=>if_neg ab;rw[ss]
 revert hm
 generalize st.getD (st.length-1) kU=x;intro hm;obtain⟨⟨p0,p1⟩,x0,x3⟩:=hS _ hm;have hj:uE x.1.toNat x.2.1.toNat a q.toNat<256:=by unfold uE;omega
 refine⟨⟨ab,ab⟩,⟨ab,ab⟩,⟨p0,Int.lt_of_lt_of_le p1 ab⟩,⟨x0,wE x3⟩,⟨ab,ab⟩,⟨hq.1,ab⟩,F (uE x.1.toNat x.2.1.toNat a q.toNat),JK (a:=λ_=>.no) (by unfold uE;omega) hj,_,rfl,jY.refl _,(hG _ hj).symm⟩;exact⟨_,rfl,jY.refl _,by unfold gE;rw[if_pos ab]⟩;subst hs;have hs0:¬(gE G st a q).length=0:=ab
 rw[if_neg hs0]at ys;have hlen:(st++[((a:Int),q,(gE G st a q).getD 0 0,())]).length=st.length+1:=ae
 have Iu:l.length-(st.length+1)=l.length-st.length-1:=ab
 have kB:rD l (st++[((a:Int),q,(gE G st a q).getD 0 0,())]):=λx hx=>by rcases eG.1 hx with hx|hx;exact hS x hx;rw[bV]at hx;subst hx;exact⟨⟨by dsimp only;omega,by dsimp only;omega⟩,by dsimp only;omega,by dsimp only;omega⟩
 have ev:∀x,gD l G st (rQ l G st a (y+1)) x=qI l G (l.length-st.length-1) (st++[((a:Int),q,(gE G st a q).getD 0 0,())]) (gD l G st (rQ l G st a y) x):=λx=>by rw[ys,HI];rfl
 simp only[hlen,Iu];exact⟨⟨ab,ab⟩,⟨ab,ab⟩,⟨ab,.inr ab⟩,h1,h4,hl,kB,Bu hN hh,ab,HH (HH sV ab) ab,⟨ab,ab⟩,y+1,ab,(ev _).symm,jY.refl _,ab,ab⟩;subst hs;rw[if_pos ab,dW]at ys;exact⟨⟨ab,ab⟩,y+1,ab,by rw[ys],jY.refl _,ab,ab⟩;have sY:¬y<(qL l a).length:=λh=>sY (nP.2 h);refine⟨⟨ab,ab⟩,a+1,ab,?_,jY.refl _,ab,ab⟩;rw[qn,if_neg (by rw[hh];decide),HI,show y=(qL l a).length by omega];have ea:a=l.length:=by omega
 subst ea;by_cases e0:l.length-st.length=0;rw[e0,QN λi hi=>?_];exact hc;cases hh:fA st (i:Int)with
 |true=>rfl
 |false=>have:=PA hS hN hi hh;omega
 have xg:l.length-st.length=(l.length-st.length-1)+1:=ab
 rw[xg,qI,hc];unfold gD;rfl
end Go.Tv
namespace Go.Tv
open Go Go.Di Go.Proofs
def D42:cp->Dn
 |[.sl (.pair (.sl (.int .i64)) (.pair (.sl (.int .i64)) (.pair (.int .i64) (.pair (.sl (.int .i64)) .unit)))) l .no]=>some ([l.length<=1000,∀p∈l,cV p],.res (aV (if 4<l.length then 6 else gG l)) [] [],[])
 |_=>none
theorem v42:VI T6 Tryz.f50 [some bY] D42:=by
 refine dH λa=>?_;unfold D42;split
 rotate_left
 trivial;rename_i l;intro hp;refine jx (A:=aB (decide ((↑l.length:Int)>4)) ((6=if 4<l.length then(6:Int)else gG l)/\True) (l.length<=1000/\(∀(p:(aF).den),p∈l->cV p)/\(gG l=if 4<l.length then(6:Int)else gG l)/\True)) (by kernel_rfl) ?_;obtain⟨h1,h2,-⟩:=hp;simp only[bP,and_true];exact⟨λh=>by rw[if_pos ab],λh=>⟨ab,h2,by rw[if_neg ab]⟩⟩
section
variable {bI:b9}
theorem aiE{T:eM}{k:Nat}(ts:aeG bI)(hT:ic bI k T):ic bI k (T.cG 60 S60):=KN hT λn a p s hs hp=>by unfold S60 at hs;split at hs;cases hs;obtain⟨o1,o2,rfl,rfl,rfl,rfl,rfl,rfl,rfl,rfl,rfl,rfl,rfl,rfl,rfl,rfl,rfl,rfl,-⟩:=hp;intro bO hd;obtain⟨d1,_,rfl,h1,h2⟩:=aj hd;obtain⟨d2,_,rfl,h2,h3⟩:=aj h2;rw[aQ h3];obtain⟨r,k1,k2,k3⟩:=ts.acP _ _ _ _ _ _ _ _ d1 d2 o1 o2 h1 h2;exact⟨r,_,by simp only[yN,kV,k1,k2,if_true],k2,k3,rfl,rfl,trivial⟩;cases hs
end
end Go.Tv
namespace Go.Tv
open Go Go.Di Go.Proofs
def fC(l:cP):Int:=if 4<l.length then 6 else gG l
theorem nL{l:cP}(hh:fC l=0):l.length<=4/\∀p∈l,iA p:=by
 have h:=hh;unfold fC at h;split at h;cases h;refine⟨ab,?_⟩;clear hh;rename_i hl;clear hl;induction l with
 |nil=>intro p hp;cases hp
 |cons q l ih=>
  rw[gG]at h;split at h
  grind
  rename_i e;intro p hp;rcases bE.1 hp with rfl|hp;exact agi.1 (Decidable.not_not.1 e)
  grind
theorem yd:∀{n:Nat}{f g:Nat->br}{a:Nat->Ap},(∀j,j<n->f j=g j)->rT n f a=rT n g a
 |0,_,_,_,_=>rfl
 |n+1,f,g,a,h=>by show .sl bY (f 0) (a 0)::rT n (λj=>f (j+1)) (λj=>a (j+1))=.sl bY (g 0) (a 0)::rT n (λj=>g (j+1)) (λj=>a (j+1));rw[h 0 ab,yd (f:=λj=>f (j+1)) (g:=λj=>g (j+1)) λj hj=>h (j+1) ab]
theorem abb{f:Nat->br}{m:Nat}(h:∀j,(f j).length<=m)(j:Nat):(bW (aZ 256 f) j).length<=m:=by
 by_cases hj:j<256;rw[sw hj];exact h j
 unfold bW;rw[pH (by rw[Jf];omega)];simp
def uT(l:cP):Nat->br:=bW (aZ 256 (BQ l l.length))
def mZ(l:cP):dp:=if fC l=0/\l.length≠0 then qI l (uT l) l.length [] []else[]
def oN(l:cP):Int:=if fC l=0 then(if l.length=0 then 7 else 0)else fC l
def lH(l:cP):Int:=if fC l=0/\l.length≠0 then dw l (uT l) l.length []else 0
noncomputable def G16:eM:=((T0.cG 50 λa=>dS (D42 a)).NQ 71 λa=>dS (Vu a)).IC 75 λa t=>dS (Sk 5 a t)
def ae2:cp->Dn
 |[.sl (.pair (.sl (.int .i64)) (.pair (.sl (.int .i64)) (.pair (.int .i64) (.pair (.sl (.int .i64)) .unit)))) l .no]=>some ([l.length<=1000,∀p∈l,cV p],.ex dp λb=>.ex Int λe=>.res (.tup [.sl bn b .no,aV e]) [] [b=mZ l,e=oN l],
  [(11,.st {sl:=[],pl:=[(2,[.sl bn [] .no]),(3,[.fn 75 [] [.ptr 2 0,.ptr 1 0,.ptr 3 0]])]})])
 |_=>none
theorem aiV:VI G16 Tryz.f30 [some (.sl bn),some bY] ae2:=by
 refine dH λa=>?_;unfold ae2;split
 rotate_left
 trivial;rename_i l;intro hp;change cP at l;refine jx (A:=l.length<=1000/\(∀(p:(aF).den),p∈l->cV p)/\aB ((if 4<l.length then(6:Int)else gG l) !=0) (∃(a:dp),∃(y:Int),[]=a/\(if 4<l.length then(6:Int)else gG l)=y/\a=mZ l/\y=oN l/\True) (aB ((↑l.length:Int)==0) (∃(a:dp),∃(y:Int),[]=a/\7=y/\a=mZ l/\y=oN l/\True) (l.length<=4/\(∀(p:(aF).den),p∈l->iA p)/\∀(a:Nat->br),a=BQ l l.length->(ng bn.den/\(0:Int)=0/\List.map aT l=List.map aT l/\jY (aZ 256 a) (aZ 256 a)/\ng bn.den/\True)/\aZ 256 a=aZ 256 (bW (aZ 256 a))/\List.map aT l=List.map aT (lW (List.map aT l))/\(List.map aT l).length<=4/\(∀(p:PD),p∈lW (List.map aT l)->iA p)/\rD (lW (List.map aT l)) []/\(List.map (λ(x:(bn).den)=>x.1) []).Nodup/\(List.map aT l).length<5/\0<=1000/\∃(y:dp),∃(z:Int),qI (lW (List.map aT l)) (bW (aZ 256 a)) ((List.map aT l).length-0) [] []=y/\0=z/\y=mZ l/\z=oN l/\True))) (by kernel_rfl) ?_;obtain⟨h1,h2,-⟩:=hp;simp only[dg,cH,eq_self,true_and,and_true,eW];refine⟨h1,h2,λe=>?_,λe=>?_⟩;have hc:fC l=0:=e;obtain⟨k1,k2⟩:=nL hc;refine⟨λe0=>⟨_,_,rfl,rfl,?_,?_⟩,λe0=>⟨k1,k2,λf hf=>⟨jY.refl _,?_,?_,by rw[List.length_map];exact k1,?_,?_,List.nodup_nil,by rw[List.length_map];omega,ab,_,_,rfl,rfl,?_,?_⟩⟩⟩;rw[mZ,if_neg λh=>h.2 ab];rw[oN,if_pos hc,if_pos ab];exact yd λj hj=>(sw hj).symm;exact congrArg (List.map aT) PI.symm;rw[PI];exact k2
 exactλx hx=>nomatch hx;rw[mZ,if_pos ⟨hc,ab⟩,uT,<-hf,PI,List.length_map];rfl
 rw[oN,if_pos hc,if_neg ab];have hc:¬fC l=0:=e;exact⟨_,_,rfl,rfl,by rw[mZ,if_neg λh=>hc h.1],by rw[oN,if_neg hc];rfl⟩
noncomputable def G20:eM:=((T0.cG 50 λa=>dS (D42 a)).NQ 71 λa=>dS (Vu a)).IC 72 λa t=>dS (D49 4 a t)
def ae1:cp->Dn
 |[.sl (.pair (.sl (.int .i64)) (.pair (.sl (.int .i64)) (.pair (.int .i64) (.pair (.sl (.int .i64)) .unit)))) l .no]=>some ([l.length<=1000,∀p∈l,cV p,fC l=0->l.length<=3],.ex Int λn=>.ex Int λe=>.res (.tup [aV n,aV e]) [] [n=lH l,e=fC l],[])
 |_=>none
theorem aiT:VI G20 Tryz.f28 [some bY,some bY] ae1:=by
 refine dH λa=>?_;unfold ae1;split
 rotate_left
 trivial;rename_i l;intro hp;change cP at l;refine jx (A:=l.length<=1000/\(∀(p:(aF).den),p∈l->cV p)/\aB ((if 4<l.length then(6:Int)else gG l) !=0) (∃(a:Int),∃(x:Int),0=a/\(if 4<l.length then(6:Int)else gG l)=x/\a=lH l/\x=fC l/\True) (aB ((↑l.length:Int)==0) (∃(a:Int),∃(x:Int),0=a/\0=x/\a=lH l/\x=fC l/\True) (l.length<=4/\(∀(p:(aF).den),p∈l->iA p)/\∀(a:Nat->br),a=BQ l l.length->aZ 256 a=aZ 256 (bW (aZ 256 a))/\List.map aT l=List.map aT l/\l.length<=3/\(∀(p:(aF).den),p∈l->iA p)/\(∀(j:Nat),(bW (aZ 256 a) j).length<=4352)/\rD l []/\0<=l.length/\l.length<4/\∃(x:Int),∃(y:Int),dw l (bW (aZ 256 a)) (l.length-0) []=x/\0=y/\x=lH l/\y=fC l/\True))) (by kernel_rfl) ?_;obtain⟨h1,h2,h3,-⟩:=hp;simp only[dg,cH,eq_self,true_and,and_true,eW];refine⟨h1,h2,λe=>?_,λe=>?_⟩;have hc:fC l=0:=e;obtain⟨k1,k2⟩:=nL hc;refine⟨λe0=>⟨_,_,rfl,rfl,?_,hc.symm⟩,λe0=>⟨k1,k2,λf hf=>⟨?_,h3 hc,k2,?_,λx hx=>(nomatch hx),ab,by have:=h3 hc;omega,_,_,rfl,rfl,?_,hc.symm⟩⟩⟩;rw[lH,if_neg λh=>h.2 ab];exact yd λj hj=>(sw hj).symm;refine abb λj=>?_;have:=JC k2 k1 l.length (ak _) j;rw[hf];omega
 rw[lH,if_pos ⟨hc,ab⟩,uT,<-hf];rfl
 have hc:¬fC l=0:=e;exact⟨_,_,rfl,rfl,by rw[lH,if_neg λh=>hc h.1],rfl⟩
end Go.Tv
namespace Go.Tv
open Go Go.Di Go.Proofs
def Gn(te:cp)(i:Nat)(k:Int->LA):LA:=
 match te.getD i .unk with
 |.val (.int .i64 n)=>k n
 |_=>.un 0
structure Stk (ps:List aF.den) (o:br) (s:List bn.den):Prop where
 nd:(s.map (·.1)).Nodup
 fr:∀x∈s,x.1∈o
 ix:∀x∈s,0<=x.1/\x.1<(ps.length:Int)
 CH:∀x∈s,x.2.1∈(ps.getD x.1.toNat bm).2.2.2.1
 z:(s.getD 0 bo).2.2.1=0
def aeT:cp->cp->Dn
 |[.agg [.val (.int .i64 a),.val (.int .i64 _),.val (.int .i64 _)],.ptr 0 0],[.val (.int .i64 x),.val (.int .i64 y),.val (.int .i64 z)]=>some ([],.res (kR (a==x)) [aV x,aV y,aV z] [],[])
 |_,_=>none
theorem aiP:VC T0 Tryz.f116 [some .bool] [some bY,some bY,some bY] aeT:=by
 refine lN λa cs=>?_;unfold aeT;split
 rotate_left
 trivial;rename_i a b c x y z;intro hp;refine jx (A:=(a==x)=(a==x)/\x=x/\y=y/\z=z/\True) (by kernel_rfl) ?_;exact⟨rfl,rfl,rfl,rfl,trivial⟩
def K2s:eM:=T0.mB 116 λa c=>dS (aeT a c)
def aj5:cp->cp->Dn
 |[.sl (.pair (.int .i64) (.pair (.int .i64) (.pair (.int .i64) .unit))) l .no,.fn 116 [] [.ptr 0 0]],[.val (.int .i64 x),.val (.int .i64 y),.val (.int .i64 z)]=>some ([l.length<=1000,∀e∈l,e.1≠x],.res (aV (-1)) [aV x,aV y,aV z] [],[(3,.ex Nat λi=>.st {sl:=[(8,aV i)],cQ:=[i<=l.length],m:=l.length-i})])
 |_,_=>none
def K3s:eM:=K2s.mB 131 λa c=>dS (aj5 a c)
def aj6:cp->cp->Dn
 |[.sl (.pair (.int .i64) (.pair (.int .i64) (.pair (.int .i64) .unit))) l .no,.fn 116 [] [.ptr 0 0]],[.val (.int .i64 x),.val (.int .i64 y),.val (.int .i64 z)]=>some ([l.length<=1000,∀e∈l,e.1≠x],.res (kR false) [aV x,aV y,aV z] [],[])
 |_,_=>none
def K4s:eM:=(T0.mB 113 λa c=>dS (aj6 a c)).cG 95 λa=>dS (D80 a)
def aj7:cp->Dn
 |[.sl (.pair (.sl (.int .i64)) (.pair (.sl (.int .i64)) (.pair (.int .i64) (.pair (.sl (.int .i64)) .unit)))) ps .no,.sl (.pair (.int .i64) (.pair (.int .i64) (.pair (.int .i64) .unit))) s .no]=>some ([1<=s.length,s.length<=4,∀p∈ps,iA p,Stk ps (s.map (·.1)) s],.res (aV 0) [] [],
  [(8,.ex Nat λi=>.st {sl:=[(17,aV i)],cQ:=[i<=s.length],m:=s.length-i})])
 |_=>none
def akr.q1 (p0:Nat)(p1:List (aF).den)(p2:List (bn).den):Prop:=cR ((↑p0:Int)+1)/\∃(a:Nat),p1=p1/\p2=p2/\p2=p2/\(↑p2.length:Int)=(↑p2.length:Int)/\(↑p0:Int)+1=(↑a:Int)/\a<=p2.length/\(p2.length-a)<(p2.length-p0)
abbrev qC(ps:List aF.den)(x:bn.den):aF.den:=ps.getD x.1.toNat ([],[],0,[],())
def oQ(ps:List aF.den)(x y:bn.den):Int×Int×Int:=stA (fL x.2.1 (qC ps x).1 (qC ps x).2.1) (fK y.2.1 (qC ps y).1 (qC ps y).2.1) y.2.2.1
def Na(ps:List aF.den)(x y:bn.den):Prop:=3<=(oQ ps x y).2.2/\(oQ ps x y).2.1-(oQ ps x y).1<=((qC ps x).2.2.1:Int)+((qC ps y).2.2.1:Int)
def eT(s:List bn.den)(i:Nat):bn.den:=s.getD i bo
def Z9(ps:List aF.den)(s:List bn.den)(k:Int):Prop:=
 (k=-1/\∀j,j+1<s.length->Na ps (eT s j) (eT s (j+1)))\/
 ∃n:Nat,k=(n:Int)+1/\n+1<s.length/\(∀j,j<n->Na ps (eT s j) (eT s (j+1)))/\¬Na ps (eT s n) (eT s (n+1))
def akP:cp->Dn
 |[.sl (.pair (.sl (.int .i64)) (.pair (.sl (.int .i64)) (.pair (.int .i64) (.pair (.sl (.int .i64)) .unit)))) ps .no,.sl (.pair (.int .i64) (.pair (.int .i64) (.pair (.int .i64) .unit))) s .no]=>some ([ps.length<=4,1<=s.length,s.length<=4,∀p∈ps,iA p,Stk ps (s.map (·.1)) s],.ex Int λk=>.res (.tup [aV k,aV 0]) [] [Z9 ps s k],
  [(9,.ex Nat λn=>.st {sl:=[(7,aV ((n:Int)+1))],cQ:=[n+1<=s.length,∀j,j<n->Na ps (eT s j) (eT s (j+1))],m:=s.length-n}),
   (15,.dep λte _=>Gn te 7 λi=>.st {sl:=[(12,aV (oQ ps (eT s (i-1).toNat) (eT s i.toNat)).1),(13,aV (oQ ps (eT s (i-1).toNat) (eT s i.toNat)).2.1),(14,aV (oQ ps (eT s (i-1).toNat) (eT s i.toNat)).2.2)]})])
 |_=>none
def K5s:eM:=(((T0.cG 50 λa=>dS (D42 a)).cG 77 λa=>dS (aj7 a)).cG 61 λa=>dS (D50 a)).cG 78 λa=>dS (D60 a)
theorem adz{n:Int}(h:0<=n/\n<=3):n=0\/n=1\/n=2\/n=3:=ab
def rE.q1 (p0:List (bn).den)(p1:Nat)(p2:List (aF).den)(p3 p4:bC.den)(p5:Prop):Prop:=True/\(List.reverse p3).length<=1000/\(List.reverse p4).length<=1000/\lg (List.reverse p3)/\lg (List.reverse p4)/\(stA (List.reverse p3) (List.reverse p4) (p0.getD ((↑p1:Int)+1).toNat bo).2.2.1).1=(oQ p2 (eT p0 ((↑p1:Int)+1-1).toNat) (eT p0 ((↑p1:Int)+1).toNat)).1/\(stA (List.reverse p3) (List.reverse p4) (p0.getD ((↑p1:Int)+1).toNat bo).2.2.1).2.1=(oQ p2 (eT p0 ((↑p1:Int)+1-1).toNat) (eT p0 ((↑p1:Int)+1).toNat)).2.1/\(stA (List.reverse p3) (List.reverse p4) (p0.getD ((↑p1:Int)+1).toNat bo).2.2.1).2.2=(oQ p2 (eT p0 ((↑p1:Int)+1-1).toNat) (eT p0 ((↑p1:Int)+1).toNat)).2.2/\p5
def rE.q2 (p0:bC.den)(p1:List (bn).den)(p2:Nat)(p3:List (aF).den)(p4:bC.den)(p5:Prop):Prop:=True/\List.length p0<=1000/\(List.reverse p4).length<=1000/\lg p0/\lg (List.reverse p4)/\(stA p0 (List.reverse p4) (p1.getD ((↑p2:Int)+1).toNat bo).2.2.1).1=(oQ p3 (eT p1 ((↑p2:Int)+1-1).toNat) (eT p1 ((↑p2:Int)+1).toNat)).1/\(stA p0 (List.reverse p4) (p1.getD ((↑p2:Int)+1).toNat bo).2.2.1).2.1=(oQ p3 (eT p1 ((↑p2:Int)+1-1).toNat) (eT p1 ((↑p2:Int)+1).toNat)).2.1/\(stA p0 (List.reverse p4) (p1.getD ((↑p2:Int)+1).toNat bo).2.2.1).2.2=(oQ p3 (eT p1 ((↑p2:Int)+1-1).toNat) (eT p1 ((↑p2:Int)+1).toNat)).2.2/\p5
def rE.q3 (p0:bC.den)(p1:List (bn).den)(p2:Nat)(p3:List (aF).den)(p4:bC.den):Prop:=True/\List.length p0<=1000/\List.length p4<=1000/\lg p0/\lg p4/\(stA p0 p4 (p1.getD ((↑p2:Int)+1).toNat bo).2.2.1).1=(oQ p3 (eT p1 ((↑p2:Int)+1-1).toNat) (eT p1 ((↑p2:Int)+1).toNat)).1/\(stA p0 p4 (p1.getD ((↑p2:Int)+1).toNat bo).2.2.1).2.1=(oQ p3 (eT p1 ((↑p2:Int)+1-1).toNat) (eT p1 ((↑p2:Int)+1).toNat)).2.1/\(stA p0 p4 (p1.getD ((↑p2:Int)+1).toNat bo).2.2.1).2.2=(oQ p3 (eT p1 ((↑p2:Int)+1-1).toNat) (eT p1 ((↑p2:Int)+1).toNat)).2.2/\True
def rE.q4 (p0:List (bn).den)(p1:Nat)(p2:List (aF).den)(p3:bC.den):Prop:=True/\aB (decide ((p0.getD ((↑p1:Int)+1).toNat bo).2.1=0)) (rE.q3 p3 p0 p1 p2 (p2.getD (Int.toNat (p0.getD ((↑p1:Int)+1).toNat bo).1) bm).1) (aB (decide ((p0.getD ((↑p1:Int)+1).toNat bo).2.1=1)) (rE.q2 p3 p0 p1 p2 (p2.getD (Int.toNat (p0.getD ((↑p1:Int)+1).toNat bo).1) bm).2.1 True) (aB (decide ((p0.getD ((↑p1:Int)+1).toNat bo).2.1=2)) (rE.q2 p3 p0 p1 p2 (p2.getD (Int.toNat (p0.getD ((↑p1:Int)+1).toNat bo).1) bm).1 True) (aB (decide ((p0.getD ((↑p1:Int)+1).toNat bo).2.1=3)) (rE.q3 p3 p0 p1 p2 (p2.getD (Int.toNat (p0.getD ((↑p1:Int)+1).toNat bo).1) bm).2.1) False)))
def rE.q5 (p0:List (bn).den)(p1:Nat)(p2:List (aF).den)(p3 p4:bC.den):Prop:=True/\(List.reverse p3).length<=1000/\List.length p4<=1000/\lg (List.reverse p3)/\lg p4/\(stA (List.reverse p3) p4 (p0.getD ((↑p1:Int)+1).toNat bo).2.2.1).1=(oQ p2 (eT p0 ((↑p1:Int)+1-1).toNat) (eT p0 ((↑p1:Int)+1).toNat)).1/\(stA (List.reverse p3) p4 (p0.getD ((↑p1:Int)+1).toNat bo).2.2.1).2.1=(oQ p2 (eT p0 ((↑p1:Int)+1-1).toNat) (eT p0 ((↑p1:Int)+1).toNat)).2.1/\(stA (List.reverse p3) p4 (p0.getD ((↑p1:Int)+1).toNat bo).2.2.1).2.2=(oQ p2 (eT p0 ((↑p1:Int)+1-1).toNat) (eT p0 ((↑p1:Int)+1).toNat)).2.2/\True
def rE.q6 (p0:List (bn).den)(p1:Nat)(p2:List (aF).den)(p3:bC.den):Prop:=True/\aB (decide ((p0.getD ((↑p1:Int)+1).toNat bo).2.1=0)) (rE.q5 p0 p1 p2 p3 (p2.getD (Int.toNat (p0.getD ((↑p1:Int)+1).toNat bo).1) bm).1) (aB (decide ((p0.getD ((↑p1:Int)+1).toNat bo).2.1=1)) (rE.q1 p0 p1 p2 p3 (p2.getD (Int.toNat (p0.getD ((↑p1:Int)+1).toNat bo).1) bm).2.1 True) (aB (decide ((p0.getD ((↑p1:Int)+1).toNat bo).2.1=2)) (rE.q1 p0 p1 p2 p3 (p2.getD (Int.toNat (p0.getD ((↑p1:Int)+1).toNat bo).1) bm).1 True) (aB (decide ((p0.getD ((↑p1:Int)+1).toNat bo).2.1=3)) (rE.q5 p0 p1 p2 p3 (p2.getD (Int.toNat (p0.getD ((↑p1:Int)+1).toNat bo).1) bm).2.1) False)))
def rE.q7 (p0:List (bn).den)(p1:List (aF).den)(p2:Int)(p3:Prop):Prop:=(0<=(p0.getD p2.toNat bo).1/\(p0.getD p2.toNat bo).1<(↑p1.length:Int))/\List.length (p1.getD (Int.toNat (p0.getD p2.toNat bo).1) bm).1<=1000/\List.length (p1.getD (Int.toNat (p0.getD p2.toNat bo).1) bm).2.1<=1000/\p3
def rE.q8 (p0:List (bn).den)(p1:List (aF).den):Prop:=(∃(a:Nat),1=(↑a:Int)+1/\a+1<=p0.length/\(∀(j:Nat),j<a->Na p1 (eT p0 j) (eT p0 (j+1)))/\(p0.length-a)<1000000)/\∀(a:Nat),a+1<=p0.length->(∀(j:Nat),j<a->Na p1 (eT p0 j) (eT p0 (j+1)))->aB (decide ((↑a:Int)+1<(↑p0.length:Int))) (cR ((↑a:Int)+1-1)/\(0<=(↑a:Int)+1-1/\(↑a:Int)+1-1<(↑p0.length:Int))/\(0<=(↑a:Int)+1/\(↑a:Int)+1<(↑p0.length:Int))/\rE.q7 p0 p1 ((↑a:Int)+1-1) (rE.q7 p0 p1 ((↑a:Int)+1) (aB (decide ((p0.getD ((↑a:Int)+1-1).toNat bo).2.1=0)) (rE.q4 p0 a p1 (p1.getD (Int.toNat (p0.getD ((↑a:Int)+1-1).toNat bo).1) bm).2.1) (aB (decide ((p0.getD ((↑a:Int)+1-1).toNat bo).2.1=1)) (rE.q6 p0 a p1 (p1.getD (Int.toNat (p0.getD ((↑a:Int)+1-1).toNat bo).1) bm).1) (aB (decide ((p0.getD ((↑a:Int)+1-1).toNat bo).2.1=2)) (rE.q6 p0 a p1 (p1.getD (Int.toNat (p0.getD ((↑a:Int)+1-1).toNat bo).1) bm).2.1) (aB (decide ((p0.getD ((↑a:Int)+1-1).toNat bo).2.1=3)) (rE.q4 p0 a p1 (p1.getD (Int.toNat (p0.getD ((↑a:Int)+1-1).toNat bo).1) bm).1) False)))/\aB (decide ((oQ p1 (eT p0 ((↑a:Int)+1-1).toNat) (eT p0 ((↑a:Int)+1).toNat)).2.2<3)) (∃(x:Int),(↑a:Int)+1=x/\(0:Int)=0/\Z9 p1 p0 x/\True) (cR ((oQ p1 (eT p0 ((↑a:Int)+1-1).toNat) (eT p0 ((↑a:Int)+1).toNat)).2.1-(oQ p1 (eT p0 ((↑a:Int)+1-1).toNat) (eT p0 ((↑a:Int)+1).toNat)).1)/\cR ((p1.getD (Int.toNat (p0.getD ((↑a:Int)+1-1).toNat bo).1) bm).2.2.1+(p1.getD (Int.toNat (p0.getD ((↑a:Int)+1).toNat bo).1) bm).2.2.1)/\aB (decide ((oQ p1 (eT p0 ((↑a:Int)+1-1).toNat) (eT p0 ((↑a:Int)+1).toNat)).2.1-(oQ p1 (eT p0 ((↑a:Int)+1-1).toNat) (eT p0 ((↑a:Int)+1).toNat)).1>(p1.getD (Int.toNat (p0.getD ((↑a:Int)+1-1).toNat bo).1) bm).2.2.1+(p1.getD (Int.toNat (p0.getD ((↑a:Int)+1).toNat bo).1) bm).2.2.1)) (∃(x:Int),(↑a:Int)+1=x/\(0:Int)=0/\Z9 p1 p0 x/\True) (cR ((↑a:Int)+1+1)/\∃(x:Nat),p1=p1/\p0=p0/\(↑a:Int)+1+1=(↑x:Int)+1/\x+1<=p0.length/\(∀(j:Nat),j<x->Na p1 (eT p0 j) (eT p0 (j+1)))/\(p0.length-x)<(p0.length-a)))))) (∃(a:Int),(-1:Int)=a/\(0:Int)=0/\Z9 p1 p0 a/\True)
end Go.Tv
namespace Go.Tv
open Go Go.Di Go.Proofs
theorem ach{x y:ay}:(x.1==y.1&&(x.2.1==y.2.1&&(x.2.2.1==y.2.2.1&&true)))=true↔x=y:=by grind
def ae0:cp->Dn
 |[.sl (.pair (.int .i64) (.pair (.int .i64) (.pair (.int .i64) .unit))) l .no,.sl (.pair (.int .i64) (.pair (.int .i64) (.pair (.int .i64) .unit))) m .no]=>some ([l.length<=1000,m.length<=1000],.ex Bool λb=>.res (kR b) [] [b=true↔l=m],
  [(4,.ex Nat λi=>.ex Bool λb=>.st {sl:=[(5,kR b),(6,aV i)],cQ:=[i<=l.length,b=true↔(l.length=m.length/\l.take i=m.take i)],m:=l.length-i})])
 |_=>none
def U9.q1 (p0 p1:dp)(p2 p3:Bool)(p4:Int)(p5 p6:Nat):Prop:=p2=p3/\p4=(↑p5:Int)/\p5<=p0.length/\(p3=true↔p0.length=p1.length/\List.take p5 p0=List.take p5 p1)/\(p0.length-p5)<p6
theorem U9:VI T0 Tryz.f32 [some .bool] ae0:=by
 refine dH λa=>?_;unfold ae0;split
 rotate_left
 trivial;rename_i l m;intro hp;change dp at l m;refine jx (A:=(∃(a:Nat),∃(x:Bool),U9.q1 l m ((↑l.length:Int)==(↑m.length:Int)) x (0:Int) a 1000000)/\∀(a:Nat)(x:Bool),a<=l.length->(x=true↔l.length=m.length/\List.take a l=List.take a m)->aB x (aB (decide ((↑a:Int)<(↑l.length:Int))) ((0<=(↑a:Int)/\(↑a:Int)<(↑l.length:Int))/\(0<=(↑a:Int)/\(↑a:Int)<(↑m.length:Int))/\cR ((↑a:Int)+1)/\∃(y:Nat),∃(z:Bool),l=l/\m=m/\false=false/\U9.q1 l m ((l.getD a bo).1==(m.getD a bo).1&&((l.getD a bo).2.1==(m.getD a bo).2.1&&((l.getD a bo).2.2.1==(m.getD a bo).2.2.1&&true))) z ((↑a:Int)+1) y (l.length-a)) (∃(a:Bool),x=a/\(a=true↔l=m)/\True)) (∃(a:Bool),x=a/\(a=true↔l=m)/\True)) (by kernel_rfl) ?_;unfold U9.q1;obtain⟨h1,h2,-⟩:=hp;refine⟨⟨0,_,rfl,rfl,ab,by simp;omega,by first|omega|(dsimp only;omega)⟩,λi b h3 h4=>gZ.2 ⟨λh5=>bP.2 ⟨λh6=>?_,λh6=>⟨_,rfl,?_,trivial⟩⟩,λh5=>⟨_,rfl,?_,trivial⟩⟩⟩;.have h5:=h4.1 h5;refine⟨⟨ab,ab⟩,⟨ab,ab⟩,⟨ab,ab⟩,i+1,_,rfl,rfl,rfl,rfl,ab,ab,?_,by first|omega|(dsimp only;omega)⟩;rw[ach,jZ kU ab,jZ kU ab];refine⟨λh=>⟨h5.1,by rw[h5.2,h]⟩,λh=>?_⟩;have:=List.append_inj_right' h.2 rfl;simpa using this
 grind
 grind
abbrev lR(st:dp):ay:=st.getD (st.length-1) kU
def Gx(l:cP)(st:dp)(i:Nat):dp:=if st.length=0 then(qL l i).map λn=>((i:Int),n,0,())else((fB (l.getD (lR st).1.toNat dP) (l.getD i dP)).filter λs=>s.1==(lR st).2.1).map λs=>((i:Int),s.2.1,s.2.2.1,())
def allI(l:cP)(st:dp)(i:Nat):dp:=(List.range i).flatMap λ(i:Nat)=>if fA st (i:Int)then[]else Gx l st i
def FZ(l:cP):Nat->dp->Int
 |0,_=>1
 |r+1,st=>((allI l st l.length).map λx=>FZ l r (st++[x])).sum
def FU(l:cP):Nat->dp->dp->dp
 |0,st,b=>mX st b
 |r+1,st,b=>(allI l st l.length).foldl (λb x=>FU l r (st++[x]) b) (mX st b)
def akt(l:cP)(st:dp)(ns:dp):Int:=(ns.map λx=>FZ l (l.length-st.length-1) (st++[x])).sum
def akk(l:cP)(st:dp)(ns:dp)(c:dp):dp:=ns.foldl (λb x=>FU l (l.length-st.length-1) (st++[x]) b) c
section
variable {l:cP} {st b:dp} {i y:Nat}
theorem Ul:allI l st (i+1)=allI l st i++(if fA st (i:Int)then[]else Gx l st i):=by unfold allI;rw[iy,List.flatMap_append];simp
end
end Go.Tv
namespace Go.Tv
open Go Go.Di Go.Proofs
section
variable {l:cP} {F:Nat->br} {st AD b:dp} {i k n r:Nat}
def pick(ss:dp)(o u:Int):br:=(ss.filter λs=>s.1==o&&s.2.1==u).map λs=>s.2.2.1
theorem ab4{i o k u i' o' k' u':Nat}(h:uE i o k u=uE i' o' k' u')(ho:o<4)(hk:k<4)(hu:u<4)(ow:o'<4)(rC:k'<4)(hu':u'<4):i=i'/\o=o'/\k=k'/\u=u':=by unfold uE at h;omega
theorem Ub{ss:dp}{a c o k u:Nat}(hs:∀s∈ss,(0<=s.1/\s.1<=3)/\0<=s.2.1/\s.2.1<=3)(hc:c<4)(ho:o<4)(hk:k<4)(hu:u<4):∀{f:Nat->br},(ss.foldl (NP a c) f) (uE i o k u)=f (uE i o k u)++(if i=a/\k=c then pick ss (o:Int) (u:Int)else[]):=by
 induction ss with
 |nil=>intro f;simp[pick]
 |cons s ss ih=>
  intro f;have h1:=hs s ae;rw[gh,ih λs Kp=>hs s (by simp[Kp])];have e:NP a c f s (uE i o k u)=f (uE i o k u)++(if i=a/\k=c then(if s.1=(o:Int)/\s.2.1=(u:Int)then[s.2.2.1]else[])else[]):=by
   unfold NP RP;split;rename_i he;obtain⟨rfl,h2,rfl,h3⟩:=ab4 he ho hk hu ab hc ab;rw[if_pos ⟨rfl,rfl⟩,if_pos ⟨ab,ab⟩,he]
   grind
  rw[e,iO];congr 1;split;unfold pick;rw[List.filter_cons];by_cases h2:s.1=(o:Int)/\s.2.1=(u:Int)
  grind
  grind
  rfl
theorem abS{f:Nat->br}{a c o k u:Nat}(hl:∀p∈l,iA p)(ha:a<l.length)(hc:c<l.length)(hc4:c<4)(ho:o<4)(hk:k<4)(hu:u<4):Pm l f a c (fB (l.getD a dP) (l.getD c dP)).length (uE i o k u)=f (uE i o k u)++(if i=a/\k=c then pick (fB (l.getD a dP) (l.getD c dP)) (o:Int) (u:Int)else[]):=by unfold Pm;rw[fR];exact Ub (λs hs=>GX (dB ha hl) (dB hc hl) hs) hc4 ho hk hu
theorem QY{f:Nat->br}{a o k u:Nat}(hl:∀p∈l,iA p)(h4:l.length<=4)(ha:a<l.length)(ho:o<4)(hk:k<4)(hu:u<4):∀c,c<=l.length->Dv l f a c (uE i o k u)=f (uE i o k u)++(if i=a/\k<c/\a≠k then pick (fB (l.getD a dP) (l.getD k dP)) (o:Int) (u:Int)else[])
 |0,_=>by simp[Dv]
 |c+1,hc=>by
  have ih:=QY (f:=f) hl h4 ha ho hk hu c ab;by_cases e:a=c;rw[JA e,ih];congr 1;by_cases h1:i=a/\k<c/\a≠k
  grind
  grind
  rw[Oa e,abS hl ha ab ab ho hk hu,ih,iO];congr 1;by_cases h1:i=a
  grind
  grind
theorem QZ{o k u:Nat}(hl:∀p∈l,iA p)(h4:l.length<=4)(ho:o<4)(hk:k<4)(hu:u<4):∀a,a<=l.length->BQ l a (uE i o k u)=if i<a/\k<l.length/\i≠k then pick (fB (l.getD i dP) (l.getD k dP)) (o:Int) (u:Int)else[]
 |0,_=>by simp[BQ]
 |a+1,ha=>by
  rw[EA,QY hl h4 ab ho hk hu l.length (ak _),QZ hl h4 ho hk hu a ab];by_cases h1:i=a
  grind
  grind
theorem agb{x:ay}(hl:∀p∈l,iA p)(h4:l.length<=4)(hx:(0<=x.1/\x.1<(l.length:Int))/\0<=x.2.1/\x.2.1<=3)(hk:k<l.length)(hne:x.1≠(k:Int)){u:Int}(hu:0<=u/\u<=3):uT l (uE x.1.toNat x.2.1.toNat k u.toNat)=pick (fB (l.getD x.1.toNat dP) (l.getD k dP)) x.2.1 u:=by unfold uT;rw[sw (by unfold uE;omega),QZ hl h4 ab ab ab l.length (ak _),if_pos ⟨ab,hk,ab⟩];congr 1<;>omega
end
end Go.Tv
