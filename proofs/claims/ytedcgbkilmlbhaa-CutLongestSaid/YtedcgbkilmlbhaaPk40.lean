/- ae9 -/
import Derived.Test.YtedcgbkilmlbhaaPk39
import Derived.Test.YtedcgbkilmlbhaaPk06
import Derived.Test.YtedcgbkilmlbhaaRows
import Derived.Conc.LeavingOf
import Derived.ProofKit
import Derived.Test.YtedcgbkilmlbhaaPk15
import Derived.Test.YtedcgbkilmlbhaaPk18
set_option maxRecDepth 100000
namespace Go.Tv
open Go Go.Di Go.Conc Go.Co Go.Proofs
theorem IL:AH J3 where
 other:=λf a h1 h2 h3 h4=>by
  have:qw f a=none:=by
   unfold qw;split;.exact absurd rfl h1
   .exact absurd rfl h2
   .exact absurd rfl h4
   rfl
  simp[J3,more,Ne.symm h3,this]
 fit:=by simp[J3,more,DV.J9,bb]
def rowsOf(ji:List Int):List DV:=ji.map λn=>.val (.int .i64 n)
theorem Ej:∀ji:List Int,fS (CR cn) cn.agg ji (rowsOf ji)
 |[]=>trivial
 |n::l=>⟨⟨rfl,λl h=>by cases h⟩,Ej l⟩
theorem Cn:∀ji:List Int,flat (rowsOf ji)=rowsOf ji
 |[]=>rfl
 |n::l=>by have:=Cn l;simp only[flat,rowsOf,aV,cM]at this⊢;rw[this];rfl
def Ih(W:World)(b o n:Nat):Cx:={w:=W,μ:=λ_=>0,κ:=λ_=>0,Fz:=λb' j=>b'=b/\o<=j/\j<o+n,S:=[]}
theorem WZ{W:World}{b o n:Nat}(h:∀j,j<n->∃v,W.cell? ⟨b,o+j,none⟩=some v):Rel (Ih W b o n) where
 cells:=λid l hl=>by simp[Ih]at hl
 dZ:=λid e s n hl=>by simp[Ih]at hl
 eF:=λid b hl=>by simp[Ih]at hl
 inj:=λi j hi=>absurd hi (gU i)
 As:=λb' j ⟨h1,h2,h3⟩=>by subst h1;obtain⟨v,hv⟩:=h (j-o) (by omega);exact⟨v,by rw[<-hv];congr 2;omega⟩
 sep:=λid ⟨l,hl⟩=>by simp[Ih]at hl
 pL:=λid e s n hl=>by simp[Ih]at hl
 ops:=λid e s l z hl=>by simp[Ih]at hl
theorem WM{W:World}{b o cap:Nat}{a0:Option Addr}{ji:List Int}(hb:ji≠[]->a0=some ⟨b,o,none⟩)(hs:∀ad,a0=some ad->ad.spot=none)(hn:a0=none->cap=0)(hc:ji.length<=cap)
  (h:∀j,j<ji.length->W.cell? ⟨b,o+j,none⟩=some (.int .i64 (ji.getD j 0))):
  RV (Ih W b o ji.length) (.sl (rowsOf ji) none ⟨false,none⟩) (.slice a0 ji.length cap):=by
 have hl:(rowsOf ji).length=ji.length:=by simp[rowsOf]
 have bh:∀j c,(flat (rowsOf ji))[j]? =some c->j<ji.length/\c=.val (.int .i64 (ji.getD j 0)):=by intro j c hj;rw[Cn]at hj;simp only[rowsOf,cR,af]at hj;obtain⟨n,hn,rfl⟩:=hj;have hlt:=(az.1 hn).1;exact⟨hlt,by rw[aR,hn];rfl⟩
 rw[<-hl];refine .sl (s:=1) (vs:=λj=>.int .i64 (ji.getD j 0)) ⟨λr hr=>?_,λj c hj=>?_⟩ (λj c hj=>?_) (by rw[hl];exact hc) ⟨λh=>(nomatch h),λb h=>(nomatch h)⟩ hn (λad h _=>hs ad h) (λt h=>(nomatch h));.simp only[rowsOf,dL]at hr;obtain⟨n,-,rfl⟩:=hr;rfl
 .obtain⟨h1,rfl⟩:=bh j c hj;refine⟨rfl,b,o,hb (λe=>by subst e;simp at h1),⟨rfl,by omega,by rw[hl]at*;omega⟩,h j h1⟩
 obtain⟨h1,rfl⟩:=bh j c hj;exact .val rfl
theorem XH{bM:bS}(acW:∀aa,uJ Try.prog aa bM)(tkt:AH bM){f:FuncId}{n:Nat}(hf:f≠33/\f≠83/\f≠13/\f≠67/\f≠0)(hi:Try.prog.inits.idxOf? f=none){ji:List Int}(hs:uM (J6 bM (n+1)) f [.sl cn ji .no] (λv=>v=nW true))
  {W:World} {b o cap:Nat} {a0:Option Addr} (hb:ji≠[]->a0=some ⟨b,o,none⟩) (hsp:∀ad,a0=some ad->ad.spot=none) (hn:a0=none->cap=0) (hc:ji.length<=cap)
  (h:∀j,j<ji.length->W.cell? ⟨b,o+j,none⟩=some (.int .i64 (ji.getD j 0))):
  ∃N last o w' t',runNT Try.prog (N+1) (solo (G (Frame.enter Try.prog f #[.slice a0 ji.length cap] .normal) []) W) #[]=(.ended o w',t')/\runN Try.prog N (solo (G (Frame.enter Try.prog f #[.slice a0 ji.length cap] .normal) []) W)=.next last/\
   step Try.prog last=.ended o w'/\Conc.Good Try.prog (λv w=>v=.bool true/\uK W w) last o w' t':=by
 obtain⟨d,v,h1,h2,h3,h4,rfl⟩:=hs [.sl (rowsOf ji) none ⟨false,none⟩] ⟨⟨Ej ji,trivial⟩,trivial⟩;have hd:d=.val (.bool true):=by cases d<;>simp[RT]at h3;rw[h3]
 subst hd;refine Og ?_ ?_;.exact⟨nt _ _ _ _,λf hf=>(nomatch hf),λh=>h.elim,λd h=>(nomatch h)⟩
 refine Wd (x:=Ih W b o ji.length) lP G7 abt acW (tkt.other f _ hf.1 hf.2.1 hf.2.2.1 hf.2.2.2.1 hf.2.2.2.2) hi h1 (WZ λj hj=>⟨_,h j hj⟩) rfl ⟨rfl,λj c hj=>?_⟩;cases j with
 |zero=>cases hj;exact WM hb hsp hn hc h
 |succ j=>simp at hj
end Go.Tv
namespace Go.Tv
open Go Go.Di Go.Conc Go.Co Go.Proofs
open Go.ChangeShapes Go.WideShapes Go.ChangeAt Go.RowKit
theorem Try.own:ownKnob Try.prog.godebug=none:=by kernel_rfl
theorem Try.laidOut:laidOutB Try.prog=true:=by kernel_rfl
theorem Try.aeW:Try.prog.cellsOf 3=1:=by kernel_rfl
theorem Try.IJ:Try.prog.underlying 22=some (.slice 3):=by kernel_rfl
theorem Try.ad3:Try.prog.underlying 3=some (.int .i64):=by kernel_rfl
theorem Try.ad1:Try.prog.underlying 4=some .bool:=by kernel_rfl
theorem L9{W w':World}(h:uK W w')(may:MemPlace->Prop):W.keptBut w' may:=by refine⟨h.os,h.output,λi hi=>?_⟩;rw[h.block i hi];split<;>simp_all
theorem NR{W w':World}(h:uK W w'){p:MemPlace}(hp:p.block<W.heap.size):W.sameAt w' p:=by
 cases p with
 |cell b o=>exact World.cell?_of_block (w:=W) (h.block b hp)
 |map b=>exact h.block b hp
theorem aaJ{bM:bS}(acW:∀aa,uJ Try.prog aa bM)(tkt:AH bM){f:FuncId}{fn:Func}(Tw:Try.prog.funcs[f]? =some fn)(afs:fn.params=#[22])(ac1:fn.resultTypes=#[4]){s:ChangeSpec}(abS:s.vars=[])
  (ags:∀(H:Type)(d:DataW H),s.fn H [d]={results:=[.lit (.bool true)],args:=[d]}) {conds:List PathCond} {fresh handsOn:Bool}
  (hf:f≠33/\f≠83/\f≠13/\f≠67/\f≠0) (hi:Try.prog.inits.idxOf? f=none) {n:Nat} (hs:∀ji,uM (J6 bM (n+1)) f [.sl cn ji .no] (λv=>v=nW true))
  {os:Os} (started:os.Started) {H:Type} {enc:TypeId×Value->H}
  (witness:∃(w:World)(tape:Tape)(i:Input),w.os=os/\(w.forCall tape i).Shaped Try.checked.prog/\i.vars=[]/\Input.okWide Try.checked.prog (w.forCall tape i) .any w.heap.size f i/\
   s.pre6 enc Try.checked.prog fn conds false (w.forCall tape i).memory i.args/\({}:Assume).holds Try.checked.prog (lone (Frame.enter Try.checked.prog f i.args .normal) [] (w.forCall tape i))):
  ReturnsInLeavingWide {} Try.checked os f .any (s.pre6 enc Try.prog fn conds false) (s.post enc Try.prog fn false fresh handsOn false):=by
 refine returnsInLeavingWide_of_change_sized (C:=Try.checked) Try.own started Tw witness ?_;intro W base args ds gs before abT hW _ _ _;have acV:∀(j:Nat) t v,fn.params[j]? =some t->args[j]? =some v->Value.okWide Try.prog W .any base t v:=abT;have hW':=hW;obtain⟨p,q,hA0,hV,rfl,_,_⟩:=hW;have hA:DataW.TrodAll enc Try.prog W 0 (λ_=>true) true fn.params.toList args.toList ds p:=hA0;rw[afs]at hA acV;obtain⟨v0,d0,rfl,rfl,h0⟩:=trodAll_one hA;rw[abS]at hV;obtain⟨rfl,rfl⟩:=trodVars_none hV;obtain⟨a0,len,cap,rfl⟩:=okWide_slice Try.IJ (acV 0 22 v0 rfl rfl);have mO:=acV 0 22 _ rfl rfl;have abU:∀ad,a0=some ad->ad.spot=none:=by intro ad e;subst e;simp only[Value.okWide,Try.IJ,Cell.okWide,Cell.ok,World.has]at mO;exact mO.2.2.2.1
 have h0k:=h0;obtain⟨fuel,hfu⟩:=h0;clear hA0 abT;simp only[cV]at hW';have hlt:∀x∈p,x.block<W.heap.size:=λx hx=>by simpa using hW'.lt x hx
 have mY:∀(W':World),uK W W'->DataW.Trod enc Try.prog W' 0 (λb=>decide (b<W.heap.size)) true 22 (.slice a0 len cap) d0 p:=
  λW' hn=>WideElems.Trod_stays Try.laidOut (by kernel_rfl) (of_decide_eq_true (by kernel_rfl)) h0k (λx hx=>NR hn (hlt x hx)) λx hx=>by simpa using hlt x hx
 have close:∀(zs:List Int)(b o:Nat),zs.length=len->len<=cap->(a0=none->cap=0)->(zs≠[]->a0=some ⟨b,o,none⟩)->
   (∀j,j<zs.length->W.cell? ⟨b,o+j,none⟩=some (.int .i64 (zs.getD j 0)))->
   ∃M last o w' t',runNT Try.checked.prog (M+1) (solo (G (Frame.enter Try.checked.prog f #[.slice a0 len cap] .normal) []) W) #[]=(.ended o w',t')/\
    runN Try.checked.prog M (solo (G (Frame.enter Try.checked.prog f #[.slice a0 len cap] .normal) []) W)=.next last/\step Try.checked.prog last=.ended o w'/\
    Conc.Good Try.checked.prog (λv W'=>s.post enc Try.checked.prog fn false fresh handsOn false W #[.slice a0 len cap] v W') last o w' t':=by
  intro zs b o hz hc hn hb hel;subst hz;obtain⟨M,last,o,w',t',h1,h2,h3,h4⟩:=XH acW tkt hf hi (hs zs) hb abU hn hc hel;refine⟨M,last,o,w',t',h1,h2,h3,h4.mono λv hF=>?_⟩;obtain⟨rfl,hst⟩:=hF;have es:s.fn H ([d0]++[])={results:=[.lit (.bool true)],args:=[d0]}:=ags H d0;refine⟨_,_,_,[],p,[],hW',?_,?_,by rw[es,abS];rfl,L9 hst _,λh=>by cases h⟩;.rw[es,ac1];exact trodAll_mk1 (shut_bool Try.ad1 _)
  rw[es,afs];exact trodAll_mk1 (mY _ hst)
 rcases open_ints Try.IJ Try.ad3 Try.aeW hfu with ⟨ov,hx⟩|⟨a,len',cap',zs,ov,_,hl,hm,hz,hx,jm,hwz⟩;.simp[Value.cells]at ov;obtain⟨rfl,rfl,rfl⟩:=ov;exact close [] 0 0 rfl (aj _) (λ_=>rfl) (λh=>absurd rfl h) (λj hj=>absurd hj (by simp))
 simp[Value.cells]at ov;obtain⟨rfl,rfl,rfl⟩:=ov;simp only[if_true]at hz;have hsp:=abU a rfl;obtain⟨b,o,sp⟩:=a;simp only at hsp;subst hsp;have hlen:(zs.take len).length=len:=by simp;omega
 refine close (zs.take len) b o hlen hl (λh=>by cases h) (λ_=>rfl) λj hj=>?_;rw[hlen]at hj;have h1:=jm j (by omega);have h2:(⟨b,o,none⟩:Addr).add j=⟨b,o+j,none⟩:=by
  unfold Addr.add;split;.rename_i e;subst e;rfl
  rfl
 rw[h2]at h1;rw[h1];simp[aR,hj]
end Go.Tv
namespace Go.Tv
open Go Go.Di Go.Conc Go.Co Go.Proofs
variable {aa:Machine->Trace->Prop} {x:Cx}
theorem Bs:∀{l:List Int}{rows:List DV},fS (CR cn) cn.agg l rows->rows=Go.Tv.rowsOf l
 |[],[],_=>rfl
 |[],_::_,h=>h.elim
 |_::_,[],h=>h.elim
 |n::l,r::rows,h=>by
  obtain⟨⟨h1,h2⟩,h3⟩:=h;rw[Bs h3];have h1:r.cells=[.val (.int .i64 n)]:=h1;have:r=.val (.int .i64 n):=by
   cases r<;>simp only[DV.cells]at h1<;>first|(cases h1;rfl)|(cases h1;done)|exact(h2 rfl _ rfl).elim|skip
   all_goals exact(h2 _ rfl).elim
  rw[this];rfl
theorem af3{ι:lq}{S:ai}{t:TT}{l:List t.den}{ap:Ap}{d:DV}(h:RT ι S (.sl t l ap) d):∃rows tok f,d=.sl rows tok f/\fS (CR t) t.agg l rows/\pQ ι S rows.length tok f ap:=by cases d<;>simp only[RT]at h;exact⟨_,_,_,rfl,h⟩
theorem af2{ι:lq}{S:ai}{v:Value}{d:DV}(h:RT ι S (.val v) d):d=.val v:=by cases d<;>simp only[RT]at h;rw[h]
theorem Jk:∀l:List Int,BR (Go.Tv.rowsOf l)=some l
 |[]=>rfl
 |n::l=>by have:=Jk l;simp only[Go.Tv.rowsOf,aV,BR]at this⊢;rw[this];rfl
theorem ZR:Uj J3 where
 rev:=λl d hl h=>by
  cases d<;>simp only[RT]at h;rename_i rows tok f;rw[Bs h.1];refine⟨.sl (Go.Tv.rowsOf l.reverse) none ⟨false,none⟩,?_,rfl,by simp only[RT];exact⟨Ej _,trivial⟩⟩;have e:qw 83 [.sl (Go.Tv.rowsOf l) tok f]=some (.sl (Go.Tv.rowsOf l.reverse) none ⟨false,none⟩):=by simp only[qw,Y7,Jk,if_pos hl];rfl
  simp[J3,more,e]
theorem Pp(la ub:List Int)(s:Int):∀k,Dj la ub s k=xB (lY la ub s k)
 |0=>rfl
 |k+1=>by
  have ih:=Pp la ub s k;rw[uU,ih,lY,Mz];by_cases h:0<=(k:Int)+s/\(k:Int)+s<la.length
  .rw[if_pos h,if_neg (by omega)];have e:xB (lY la ub s k++[ub.getD k 0+la.getD ((k:Int)+s).toNat 0])=Yg (xB (lY la ub s k)) (ub.getD k 0+la.getD ((k:Int)+s).toNat 0):=by simp[xB,mE]
   rw[e];generalize xB (lY la ub s k)=st;generalize ub.getD k 0+la.getD ((k:Int)+s).toNat 0=v;obtain⟨lo,hi,m⟩:=st;simp only[Yg];by_cases h0:m=0;.simp[h0]
   simp only[h0,if_false]
  rw[if_neg h,if_pos (by omega)]
theorem XT(la ub:List Int)(w:Int):Go.Co.Ug la ub w=AW la ub w:=by funext s;simp only[Go.Co.Ug,AW,wW,Pp,Bool.decide_and]
theorem Ma(la ub:List Int)(w:Int):oO la ub w=Aq la ub w (ub.length+la.length+1):=by rw[oO,lp,Aq,XT]
def F7(u l:List Int)(w:Int)(q:List Int):Wk:=⟨q,w,λi=>([u,l.reverse,u.reverse,l]:List (List Int)).getD i [],λi=>([l,u.reverse,l.reverse,u]:List (List Int)).getD i []⟩
theorem abp{u l q:List Int}{w:Int}{d:DV}(h:RT gd [] (wkV u l w q) d):YD d=some (F7 u l w q):=by
 cases d<;>simp only[wkV,RT]at h;obtain⟨a0,m,rfl,k0,h⟩:=ak h;obtain⟨a1,m,rfl,k1,h⟩:=ak h;obtain⟨a2,m,rfl,k2,h⟩:=ak h;obtain⟨a3,m,rfl,k3,h⟩:=ak h;obtain⟨a4,m,rfl,k4,h⟩:=ak h;obtain⟨a5,m,rfl,k5,h⟩:=ak h;obtain⟨a6,m,rfl,k6,h⟩:=ak h;obtain⟨a7,m,rfl,k7,h⟩:=ak h;obtain⟨a8,m,rfl,k8,h⟩:=ak h;obtain⟨a9,m,rfl,k9,h⟩:=ak h;obtain⟨a10,m,rfl,k10,h⟩:=ak h;obtain⟨a11,m,rfl,k11,h⟩:=ak h;cases aP h;cases af2 k2;have key:∀{l:List Int}{d:DV},RT gd [] (.sl cn l .no) d->Q2 d=some l:=λ{l d} hd=>by obtain⟨r,t,f,rfl,hr,-⟩:=af3 hd;rw[Bs hr];exact Jk l
 simp only[YD,Gj,key k3,key k4,key k5,key k6,key k7,key k8,key k9,key k10,key k11];rfl
theorem IA{l:List Int}(h:l.length<=1000)(h1:∀x∈l,0<=x/\x<=9):FM l=true:=by simp only[FM,aA,cC,aT];exact⟨h,h1⟩
theorem QH:∀{l:List Int},l.Pairwise (·<·)->M3 l=true
 |[],_=>rfl
 |a::l,h=>by rw[List.pairwise_cons]at h;simp only[M3,aA,aT,cC];exact⟨h.1,QH h.2⟩
theorem Ve{u l q:List Int}{w:Int}(h:Ok u l w q):wkB (F7 u l w q)=true:=by
 have h1:=h.n8;have h2:=h.len;have sp:=Kg h;have hu:=IA sp.1 h.hu;have hl:=IA sp.2.1 h.hl;have hur:FM u.reverse=true:=IA (by simp;omega) λx hx=>h.hu x (by simpa using hx);have hlr:FM l.reverse=true:=IA (by simp;omega) λx hx=>h.hl x (by simpa using hx);have h4:(List.range 4).all (λi=>FM ((F7 u l w q).up i)&&FM ((F7 u l w q).lo i))=true:=by simp[j4,F7,hu,hl,hur,hlr]
 have hw0:=h.w0;have hw2:=h.w2;have e1:(F7 u l w q).bw.all (λx=>decide (0<=x)&&decide (x<=3))=true:=by simp only[aT,aA,cC];exact h.yw
 unfold wkB;rw[h4,e1,show M3 (F7 u l w q).bw=true from QH h.Yv,js (show(F7 u l w q).bw.length<=1000 from sp.2.2),js (show 0<=(F7 u l w q).cH from hw0),js (show(F7 u l w q).cH<=1000 by show w<=1000;omega)];rfl
theorem NW{ua la qa ub lb qb:List Int}{wa wb:Int}(ha:Ok ua la wa qa)(hb:Ok ub lb wb qb):ez (F7 ua la wa qa) (F7 ub lb wb qb)=(aC ua la qa ub lb qb (wa+wb)).map λx=>(x.1,x.2.1,x.2.2.1):=by
 have h3:=ha.len;have h3':=hb.len;unfold ez aC;rw[zk];have VW:∀{α β:Type}{l:List α}{f g:α->List β},(∀x∈l,f x=g x)->l.flatMap f=l.flatMap g:=λ{α β l f g} h=>by
  induction l with
  |nil=>rfl
  |cons x l ih=>rw[cM,cM,h x (by simp),ih λy hy=>h y (by simp[hy])]
 refine VW λx hx=>?_;rw[zk];refine VW λy hy=>?_;rw[kW];have ex:(F7 ua la wa qa).lo x.toNat=iW x ua la/\(iW x ua la).length=ua.length:=by rcases four (ha.yw x hx)with rfl|rfl|rfl|rfl<;>simp[F7,iW,h3]
 have ey:(F7 ub lb wb qb).up y.toNat=iV y ub lb/\(iV y ub lb).length=ub.length:=by rcases four (hb.yw y hy)with rfl|rfl|rfl|rfl<;>simp[F7,iV,h3']
 rw[gL,ex.1,ey.1,Ma,ex.2,ey.2];rfl
theorem PC:∀l:List (Int×Int×Int×Unit),fS (CR bV) bV.agg l ((l.map λx=>(x.1,x.2.1,x.2.2.1)).map smD)
 |[]=>trivial
 |(x,y,s,_)::l=>⟨⟨⟨_,_,rfl,rfl,_,_,rfl,rfl,_,_,rfl,rfl,rfl⟩,⟨_,rfl⟩⟩,PC l⟩
theorem ZQ:Zw J3 where
 abw:=λua la qa ub lb qb wa wb d1 d2 ha hb h1 h2=>by
  refine⟨.sl ((ez (F7 ua la wa qa) (F7 ub lb wb qb)).map smD) none ⟨false,none⟩,?_,rfl,?_⟩
  .have e:qw 33 [d1,d2]=some (.sl ((ez (F7 ua la wa qa) (F7 ub lb wb qb)).map smD) none ⟨false,none⟩):=by simp only[qw,Il,abp h1,abp h2,Ve ha,Ve hb,fV,if_true]
   simp[J3,more,e]
  simp only[RT];rw[NW ha hb];exact⟨PC _,trivial⟩
end Go.Tv
section
namespace Go.Tv
open Go Go.Di Go.Proofs
theorem Sy{bM:bS}(tk:AH bM){f:FuncId}{fn:Func}{D:List TV->Dn}{k d:Nat}{T:fQ}(hT:kK bM k T)(hne:f≠33/\f≠83/\f≠13/\f≠67/\f≠0)(hf:Tp.funcs[f]? =some fn)(hb:fn.body.isSome=true){gW:List (Option TT)}(h:VI T fn gW D d){a:List TV}{j:List (Nat×LA)}(hD:D a=some ([],.res (nW true) [] [],j))(n:Nat)(tX:T.HZ f fn:=by exact trivial):uM (J6 bM (n+(k+d+1))) f a (λv=>v=nW true):=
 (((ug tk hT hne hf hb h (T':=T) (by have:=fD hT (d+1);rwa [mz,<-fo]at this) tX).2 n).I f a [] (.res (nW true) [] []) (by simp only[fQ.eV,if_true,hD];rfl) trivial).mono λv hv=>hv.1
end Go.Tv
namespace Go.Proofs.Ytedcgbkilmlbhaa
open Go Go.Di Go.Tv Go.Conc Go.Co Go.Proofs
open Go.ChangeShapes Go.WideShapes Go.ChangeAt Go.RowKit
theorem Ak(os:Os)(started:os.Started)(H:Type)(enc:TypeId×Value->H):
  ReturnsInLeavingWide {} Try.checked os 5 .any (Rows.cutLongestSpec.pre6 enc Try.prog Try.f5 Rows.cutLongestRow.domain false) (Rows.cutLongestSpec.post enc Try.prog Try.f5 false true false false):=
 aaJ (λ_=>ZY) IL Try.func5 Try.params5 (by kernel_rfl) rfl (λ_ _=>rfl) (by decide) (by kernel_rfl) (n:=20) (λji=>Sy IL (aif IL ZR ZQ) (by decide) Try.func5 rfl v5l (a:=[.sl cn ji .no]) rfl 0) started
  (ChangeSpec.witness6 (enc:=enc) (C:=Try.checked) false ⟨#[],#[.slice none 0 0],[]⟩ 9 (by kernel_rfl) (by kernel_rfl) (by kernel_rfl) (by kernel_rfl))
theorem cutLongest_holds:Rows.CutLongestSaid:=
 OpenClaim.holds_of_wide_leaving 5 Try.f5 rfl rfl rfl rfl rfl rfl rfl ⟨rfl,rfl,rfl,rfl,rfl⟩ rfl rfl rfl rfl rfl (by kernel_rfl) Try.func5 (by kernel_rfl)
  (of_decide_eq_true (by kernel_rfl)) (by unfold Func.isWrapper;first|(rw[if_pos (by decide+kernel)];kernel_rfl)|(rw[if_neg (by decide+kernel)];exact⟨rfl,rfl⟩))
  (λos started H enc _=>Ak os started H enc)
#print axioms cutLongest_holds
end Go.Proofs.Ytedcgbkilmlbhaa
end
