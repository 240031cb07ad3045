/- ahi ais what ahh where one piece more is given; no ae7. -/
import Derived.Test.YtedcgbkilmlbhaaPk38
import Derived.Test.YtedcgbkilmlbhaaPk06
import Derived.Test.YtedcgbkilmlbhaaRows
import Derived.Conc.LeavingOf
import Derived.ProofKit
import Derived.Test.YtedcgbkilmlbhaaPk15
import Derived.Test.YtedcgbkilmlbhaaPk16
import Derived.Test.YtedcgbkilmlbhaaPk17
set_option maxRecDepth 100000
namespace Go.Tv
open Go Go.Di Go.Conc Go.Co Go.Proofs
theorem IC:yx Fy where
 other:=λf a h1 h2 h3 h4=>by
  have:oF f a=none:=by
   unfold oF;split;.exact absurd rfl h1
   .exact absurd rfl h2
   .exact absurd rfl h4
   rfl
  simp[Fy,more,Ne.symm h3,this]
 fit:=by simp[Fy,more,DV.JU,bb]
def rowsOf(ja:List Int):List DV:=ja.map λn=>.val (.int .i64 n)
theorem zo:∀ja:List Int,fC (CR cS) cS.agg ja (rowsOf ja)
 |[]=>trivial
 |n::l=>⟨⟨rfl,λl h=>by cases h⟩,zo l⟩
theorem B5:∀ja:List Int,flat (rowsOf ja)=rowsOf ja
 |[]=>rfl
 |n::l=>by have:=B5 l;simp only[flat,rowsOf,bn,cT]at this⊢;rw[this];rfl
def HX(W:World)(b o n:Nat):Cx:={w:=W,μ:=λ_=>0,κ:=λ_=>0,Fz:=λb' j=>b'=b/\o<=j/\j<o+n,S:=[]}
theorem WB{W:World}{b o n:Nat}(h:∀j,j<n->∃v,W.cell? ⟨b,o+j,none⟩=some v):Rel (HX W b o n) where
 cells:=λid l hl=>by simp[HX]at hl
 dR:=λid e s n hl=>by simp[HX]at hl
 eC:=λid b hl=>by simp[HX]at hl
 inj:=λi j hi=>absurd hi (gK i)
 Ae:=λb' j ⟨h1,h2,h3⟩=>by subst h1;obtain⟨v,hv⟩:=h (j-o) (by omega);exact⟨v,by rw[<-hv];congr 2;omega⟩
 sep:=λid ⟨l,hl⟩=>by simp[HX]at hl
 oH:=λid e s n hl=>by simp[HX]at hl
 ops:=λid e s l z hl=>by simp[HX]at hl
theorem Wq{W:World}{b o cap:Nat}{a0:Option Addr}{ja:List Int}(hb:ja≠[]->a0=some ⟨b,o,none⟩)(hs:∀ad,a0=some ad->ad.spot=none)(hn:a0=none->cap=0)(hc:ja.length<=cap)
  (h:∀j,j<ja.length->W.cell? ⟨b,o+j,none⟩=some (.int .i64 (ja.getD j 0))):
  RV (HX W b o ja.length) (.sl (rowsOf ja) none ⟨false,none⟩) (.slice a0 ja.length cap):=by
 have hl:(rowsOf ja).length=ja.length:=by simp[rowsOf]
 have bg:∀j c,(flat (rowsOf ja))[j]? =some c->j<ja.length/\c=.val (.int .i64 (ja.getD j 0)):=by intro j c hj;rw[B5]at hj;simp only[rowsOf,cM,af]at hj;obtain⟨n,hn,rfl⟩:=hj;have hlt:=(aA.1 hn).1;exact⟨hlt,by rw[aP,hn];rfl⟩
 rw[<-hl];refine .sl (s:=1) (vs:=λj=>.int .i64 (ja.getD j 0)) ⟨λr hr=>?_,λj c hj=>?_⟩ (λj c hj=>?_) (by rw[hl];exact hc) ⟨λh=>(nomatch h),λb h=>(nomatch h)⟩ hn (λad h _=>hs ad h) (λt h=>(nomatch h));.simp only[rowsOf,dM]at hr;obtain⟨n,-,rfl⟩:=hr;rfl
 .obtain⟨h1,rfl⟩:=bg j c hj;refine⟨rfl,b,o,hb (λe=>by subst e;simp at h1),⟨rfl,by omega,by rw[hl]at*;omega⟩,h j h1⟩
 obtain⟨h1,rfl⟩:=bg j c hj;exact .val rfl
theorem Xu{bH:bR}(acS:∀aa,uD Try.prog aa bH)(tkt:yx bH){f:FuncId}{n:Nat}(hf:f≠33/\f≠83/\f≠13/\f≠67/\f≠0)(hi:Try.prog.inits.idxOf? f=none){ja:List Int}(hs:uG (JQ bH (n+1)) f [.sl cS ja .no] (λv=>v=iD true))
  {W:World} {b o cap:Nat} {a0:Option Addr} (hb:ja≠[]->a0=some ⟨b,o,none⟩) (hsp:∀ad,a0=some ad->ad.spot=none) (hn:a0=none->cap=0) (hc:ja.length<=cap)
  (h:∀j,j<ja.length->W.cell? ⟨b,o+j,none⟩=some (.int .i64 (ja.getD j 0))):
  ∃N last o w' t',runNT Try.prog (N+1) (solo (G (Frame.enter Try.prog f #[.slice a0 ja.length cap] .normal) []) W) #[]=(.ended o w',t')/\runN Try.prog N (solo (G (Frame.enter Try.prog f #[.slice a0 ja.length cap] .normal) []) W)=.next last/\
   step Try.prog last=.ended o w'/\Conc.Good Try.prog (λv w=>v=.bool true/\uE W w) last o w' t':=by
 obtain⟨d,v,h1,h2,h3,h4,rfl⟩:=hs [.sl (rowsOf ja) none ⟨false,none⟩] ⟨⟨zo ja,trivial⟩,trivial⟩;have hd:d=.val (.bool true):=by cases d<;>simp[RT]at h3;rw[h3]
 subst hd;refine N2 ?_ ?_;.exact⟨ng _ _ _ _,λf hf=>(nomatch hf),λh=>h.elim,λd h=>(nomatch h)⟩
 refine V0 (x:=HX W b o ja.length) lK GW abn acS (tkt.other f _ hf.1 hf.2.1 hf.2.2.1 hf.2.2.2.1 hf.2.2.2.2) hi h1 (WB λj hj=>⟨_,h j hj⟩) rfl ⟨rfl,λj c hj=>?_⟩;cases j with
 |zero=>cases hj;exact Wq hb hsp hn hc h
 |succ j=>simp at hj
end Go.Tv
namespace Go.Tv
open Go Go.Di Go.Conc Go.Co Go.Proofs
open Go.ChangeShapes Go.WideShapes Go.ChangeAt Go.RowKit
theorem Try.own:ownKnob Try.prog.godebug=none:=by kernel_rfl
theorem Try.laidOut:laidOutB Try.prog=true:=by kernel_rfl
theorem Try.aeR:Try.prog.cellsOf 3=1:=by kernel_rfl
theorem Try.IA:Try.prog.underlying 22=some (.slice 3):=by kernel_rfl
theorem Try.adV:Try.prog.underlying 3=some (.int .i64):=by kernel_rfl
theorem Try.adU:Try.prog.underlying 4=some .bool:=by kernel_rfl
theorem LK{W w':World}(h:uE W w')(may:MemPlace->Prop):W.keptBut w' may:=by refine⟨h.os,h.output,λi hi=>?_⟩;rw[h.block i hi];split<;>simp_all
theorem NB{W w':World}(h:uE W w'){p:MemPlace}(hp:p.block<W.heap.size):W.sameAt w' p:=by
 cases p with
 |cell b o=>exact World.cell?_of_block (w:=W) (h.block b hp)
 |map b=>exact h.block b hp
theorem aaE{bH:bR}(acS:∀aa,uD Try.prog aa bH)(tkt:yx bH){f:FuncId}{fn:Func}(Tj:Try.prog.funcs[f]? =some fn)(afq:fn.params=#[22])(acX:fn.resultTypes=#[4]){s:ChangeSpec}(abR:s.vars=[])
  (ags:∀(H:Type)(d:DataW H),s.fn H [d]={results:=[.lit (.bool true)],args:=[d]}) {conds:List PathCond} {fresh handsOn:Bool}
  (hf:f≠33/\f≠83/\f≠13/\f≠67/\f≠0) (hi:Try.prog.inits.idxOf? f=none) {n:Nat} (hs:∀ja,uG (JQ bH (n+1)) f [.sl cS ja .no] (λv=>v=iD true))
  {os:Os} (started:os.Started) {H:Type} {enc:TypeId×Value->H}
  (witness:∃(w:World)(tape:Tape)(i:Input),w.os=os/\(w.forCall tape i).Shaped Try.checked.prog/\i.vars=[]/\Input.okWide Try.checked.prog (w.forCall tape i) .any w.heap.size f i/\
   s.pre6 enc Try.checked.prog fn conds false (w.forCall tape i).memory i.args/\({}:Assume).holds Try.checked.prog (lone (Frame.enter Try.checked.prog f i.args .normal) [] (w.forCall tape i))):
  ReturnsInLeavingWide {} Try.checked os f .any (s.pre6 enc Try.prog fn conds false) (s.post enc Try.prog fn false fresh handsOn false):=by
 refine returnsInLeavingWide_of_change_sized (C:=Try.checked) Try.own started Tj witness ?_;intro W base args ds gs before abS hW _ _ _;have acR:∀(j:Nat) t v,fn.params[j]? =some t->args[j]? =some v->Value.okWide Try.prog W .any base t v:=abS;have hW':=hW;obtain⟨p,q,hA0,hV,rfl,_,_⟩:=hW;have hA:DataW.TrodAll enc Try.prog W 0 (λ_=>true) true fn.params.toList args.toList ds p:=hA0;rw[afq]at hA acR;obtain⟨v0,d0,rfl,rfl,h0⟩:=trodAll_one hA;rw[abR]at hV;obtain⟨rfl,rfl⟩:=trodVars_none hV;obtain⟨a0,len,cap,rfl⟩:=okWide_slice Try.IA (acR 0 22 v0 rfl rfl);have nY:=acR 0 22 _ rfl rfl;have abT:∀ad,a0=some ad->ad.spot=none:=by intro ad e;subst e;simp only[Value.okWide,Try.IA,Cell.okWide,Cell.ok,World.has]at nY;exact nY.2.2.2.1
 have h0k:=h0;obtain⟨fuel,hfu⟩:=h0;clear hA0 abS;simp only[dZ]at hW';have hlt:∀x∈p,x.block<W.heap.size:=λx hx=>by simpa using hW'.lt x hx
 have mS:∀(W':World),uE W W'->DataW.Trod enc Try.prog W' 0 (λb=>decide (b<W.heap.size)) true 22 (.slice a0 len cap) d0 p:=
  λW' hn=>WideElems.Trod_stays Try.laidOut (by kernel_rfl) (of_decide_eq_true (by kernel_rfl)) h0k (λx hx=>NB hn (hlt x hx)) λx hx=>by simpa using hlt x hx
 have close:∀(zs:List Int)(b o:Nat),zs.length=len->len<=cap->(a0=none->cap=0)->(zs≠[]->a0=some ⟨b,o,none⟩)->
   (∀j,j<zs.length->W.cell? ⟨b,o+j,none⟩=some (.int .i64 (zs.getD j 0)))->
   ∃M last o w' t',runNT Try.checked.prog (M+1) (solo (G (Frame.enter Try.checked.prog f #[.slice a0 len cap] .normal) []) W) #[]=(.ended o w',t')/\
    runN Try.checked.prog M (solo (G (Frame.enter Try.checked.prog f #[.slice a0 len cap] .normal) []) W)=.next last/\step Try.checked.prog last=.ended o w'/\
    Conc.Good Try.checked.prog (λv W'=>s.post enc Try.checked.prog fn false fresh handsOn false W #[.slice a0 len cap] v W') last o w' t':=by
  intro zs b o hz hc hn hb hel;subst hz;obtain⟨M,last,o,w',t',h1,h2,h3,h4⟩:=Xu acS tkt hf hi (hs zs) hb abT hn hc hel;refine⟨M,last,o,w',t',h1,h2,h3,h4.mono λv hF=>?_⟩;obtain⟨rfl,hst⟩:=hF;have es:s.fn H ([d0]++[])={results:=[.lit (.bool true)],args:=[d0]}:=ags H d0;refine⟨_,_,_,[],p,[],hW',?_,?_,by rw[es,abR];rfl,LK hst _,λh=>by cases h⟩;.rw[es,acX];exact trodAll_mk1 (shut_bool Try.adU _)
  rw[es,afq];exact trodAll_mk1 (mS _ hst)
 rcases open_ints Try.IA Try.adV Try.aeR hfu with ⟨om,hx⟩|⟨a,len',cap',zs,om,_,hl,hm,hz,hx,jh,hwz⟩;.simp[Value.cells]at om;obtain⟨rfl,rfl,rfl⟩:=om;exact close [] 0 0 rfl (ak _) (λ_=>rfl) (λh=>absurd rfl h) (λj hj=>absurd hj (by simp))
 simp[Value.cells]at om;obtain⟨rfl,rfl,rfl⟩:=om;simp only[if_true]at hz;have hsp:=abT a rfl;obtain⟨b,o,sp⟩:=a;simp only at hsp;subst hsp;have hlen:(zs.take len).length=len:=by simp;omega
 refine close (zs.take len) b o hlen hl (λh=>by cases h) (λ_=>rfl) λj hj=>?_;rw[hlen]at hj;have h1:=jh j (by omega);have h2:(⟨b,o,none⟩:Addr).add j=⟨b,o+j,none⟩:=by
  unfold Addr.add;split;.rename_i e;subst e;rfl
  rfl
 rw[h2]at h1;rw[h1];simp[aP,hj]
end Go.Tv
namespace Go.Tv
open Go Go.Di Go.Conc Go.Co Go.Proofs
variable {aa:Machine->Trace->Prop} {x:Cx}
theorem vZ:∀{l:List Int}{rows:List DV},fC (CR cS) cS.agg l rows->rows=Go.Tv.rowsOf l
 |[],[],_=>rfl
 |[],_::_,h=>h.elim
 |_::_,[],h=>h.elim
 |n::l,r::rows,h=>by
  obtain⟨⟨h1,h2⟩,h3⟩:=h;rw[vZ h3];have h1:r.cells=[.val (.int .i64 n)]:=h1;have:r=.val (.int .i64 n):=by
   cases r<;>simp only[DV.cells]at h1<;>first|(cases h1;rfl)|(cases h1;done)|exact(h2 rfl _ rfl).elim|skip
   all_goals exact(h2 _ rfl).elim
  rw[this];rfl
theorem af5{ι:kY}{S:ai}{t:TT}{l:List t.den}{ap:Ap}{d:DV}(h:RT ι S (.sl t l ap) d):∃rows tok f,d=.sl rows tok f/\fC (CR t) t.agg l rows/\pL ι S rows.length tok f ap:=by cases d<;>simp only[RT]at h;exact⟨_,_,_,rfl,h⟩
theorem af4{ι:kY}{S:ai}{v:Value}{d:DV}(h:RT ι S (.val v) d):d=.val v:=by cases d<;>simp only[RT]at h;rw[h]
theorem CV:∀l:List Int,Bx (Go.Tv.rowsOf l)=some l
 |[]=>rfl
 |n::l=>by have:=CV l;simp only[Go.Tv.rowsOf,bn,Bx]at this⊢;rw[this];rfl
theorem ZJ:TY Fy where
 rev:=λl d hl h=>by
  cases d<;>simp only[RT]at h;rename_i rows tok f;rw[vZ h.1];refine⟨.sl (Go.Tv.rowsOf l.reverse) none ⟨false,none⟩,?_,rfl,by simp only[RT];exact⟨zo _,trivial⟩⟩;have e:oF 83 [.sl (Go.Tv.rowsOf l) tok f]=some (.sl (Go.Tv.rowsOf l.reverse) none ⟨false,none⟩):=by simp only[oF,YW,CV,if_pos hl];rfl
  simp[Fy,more,e]
theorem O5(la ub:List Int)(s:Int):∀k,C4 la ub s k=xb (lT la ub s k)
 |0=>rfl
 |k+1=>by
  have ih:=O5 la ub s k;rw[uN,ih,lT,Mk];by_cases h:0<=(k:Int)+s/\(k:Int)+s<la.length
  .rw[if_pos h,if_neg (by omega)];have e:xb (lT la ub s k++[ub.getD k 0+la.getD ((k:Int)+s).toNat 0])=X4 (xb (lT la ub s k)) (ub.getD k 0+la.getD ((k:Int)+s).toNat 0):=by simp[xb,jY]
   rw[e];generalize xb (lT la ub s k)=st;generalize ub.getD k 0+la.getD ((k:Int)+s).toNat 0=v;obtain⟨lo,hi,m⟩:=st;simp only[X4];by_cases h0:m=0;.simp[h0]
   simp only[h0,if_false]
  rw[if_neg h,if_pos (by omega)]
theorem XG(la ub:List Int)(w:Int):Go.Co.TS la ub w=DF la ub w:=by funext s;simp only[Go.Co.TS,DF,wG,O5,Bool.decide_and]
theorem LM(la ub:List Int)(w:Int):oK la ub w=Bj la ub w (ub.length+la.length+1):=by rw[oK,Sz,Bj,XG]
def FU(u l:List Int)(w:Int)(q:List Int):Wk:=⟨q,w,λi=>([u,l.reverse,u.reverse,l]:List (List Int)).getD i [],λi=>([l,u.reverse,l.reverse,u]:List (List Int)).getD i []⟩
theorem abl{u l q:List Int}{w:Int}{d:DV}(h:RT fA [] (wkV u l w q) d):Ys d=some (FU u l w q):=by
 cases d<;>simp only[wkV,RT]at h;obtain⟨a0,m,rfl,k0,h⟩:=aj h;obtain⟨a1,m,rfl,k1,h⟩:=aj h;obtain⟨a2,m,rfl,k2,h⟩:=aj h;obtain⟨a3,m,rfl,k3,h⟩:=aj h;obtain⟨a4,m,rfl,k4,h⟩:=aj h;obtain⟨a5,m,rfl,k5,h⟩:=aj h;obtain⟨a6,m,rfl,k6,h⟩:=aj h;obtain⟨a7,m,rfl,k7,h⟩:=aj h;obtain⟨a8,m,rfl,k8,h⟩:=aj h;obtain⟨a9,m,rfl,k9,h⟩:=aj h;obtain⟨a10,m,rfl,k10,h⟩:=aj h;obtain⟨a11,m,rfl,k11,h⟩:=aj h;cases aR h;cases af4 k2;have key:∀{l:List Int}{d:DV},RT fA [] (.sl cS l .no) d->QJ d=some l:=λ{l d} hd=>by obtain⟨r,t,f,rfl,hr,-⟩:=af5 hd;rw[vZ hr];exact CV l
 simp only[Ys,F9,key k3,key k4,key k5,key k6,key k7,key k8,key k9,key k10,key k11];rfl
theorem Is{l:List Int}(h:l.length<=1000)(h1:∀x∈l,0<=x/\x<=9):FD l=true:=by simp only[FD,aC,cq,aX];exact⟨h,h1⟩
theorem Qp:∀{l:List Int},l.Pairwise (·<·)->MO l=true
 |[],_=>rfl
 |a::l,h=>by rw[List.pairwise_cons]at h;simp only[MO,aC,aX,cq];exact⟨h.1,Qp h.2⟩
theorem UZ{u l q:List Int}{w:Int}(h:Ok u l w q):wkB (FU u l w q)=true:=by
 have h1:=h.n8;have h2:=h.len;have sp:=abu h;have hu:=Is sp.1 h.hu;have hl:=Is sp.2.1 h.hl;have hur:FD u.reverse=true:=Is (by simp;omega) λx hx=>h.hu x (by simpa using hx);have hlr:FD l.reverse=true:=Is (by simp;omega) λx hx=>h.hl x (by simpa using hx);have h4:(List.range 4).all (λi=>FD ((FU u l w q).up i)&&FD ((FU u l w q).lo i))=true:=by simp[eR,FU,hu,hl,hur,hlr]
 have hw0:=h.w0;have hw2:=h.w2;have e1:(FU u l w q).bC.all (λx=>decide (0<=x)&&decide (x<=3))=true:=by simp only[aX,aC,cq];exact h.Mc
 unfold wkB;rw[h4,e1,show MO (FU u l w q).bC=true from Qp h.asc,eF (show(FU u l w q).bC.length<=1000 from sp.2.2),eF (show 0<=(FU u l w q).cL from hw0),eF (show(FU u l w q).cL<=1000 by show w<=1000;omega)];rfl
theorem NG{ua la qa ub lb qb:List Int}{wa wb:Int}(ha:Ok ua la wa qa)(hb:Ok ub lb wb qb):en (FU ua la wa qa) (FU ub lb wb qb)=(aD ua la qa ub lb qb (wa+wb)).map λx=>(x.1,x.2.1,x.2.2.1):=by
 have h3:=ha.len;have h3':=hb.len;unfold en aD;rw[Qt];have VG:∀{α β:Type}{l:List α}{f g:α->List β},(∀x∈l,f x=g x)->l.flatMap f=l.flatMap g:=λ{α β l f g} h=>by
  induction l with
  |nil=>rfl
  |cons x l ih=>rw[cT,cT,h x (by simp),ih λy hy=>h y (by simp[hy])]
 refine VG λx hx=>?_;rw[Qt];refine VG λy hy=>?_;rw[qF];have ex:(FU ua la wa qa).lo x.toNat=jv x ua la/\(jv x ua la).length=ua.length:=by rcases four (ha.Mc x hx)with rfl|rfl|rfl|rfl<;>simp[FU,jv,h3]
 have ey:(FU ub lb wb qb).up y.toNat=js y ub lb/\(js y ub lb).length=ub.length:=by rcases four (hb.Mc y hy)with rfl|rfl|rfl|rfl<;>simp[FU,js,h3']
 rw[gD,ex.1,ey.1,LM,ex.2,ey.2];rfl
theorem Pj:∀l:List (Int×Int×Int×Unit),fC (CR cz) cz.agg l ((l.map λx=>(x.1,x.2.1,x.2.2.1)).map smD)
 |[]=>trivial
 |(x,y,s,_)::l=>⟨⟨⟨_,_,rfl,rfl,_,_,rfl,rfl,_,_,rfl,rfl,rfl⟩,⟨_,rfl⟩⟩,Pj l⟩
theorem ZI:Zo Fy where
 abv:=λua la qa ub lb qb wa wb d1 d2 ha hb h1 h2=>by
  refine⟨.sl ((en (FU ua la wa qa) (FU ub lb wb qb)).map smD) none ⟨false,none⟩,?_,rfl,?_⟩
  .have e:oF 33 [d1,d2]=some (.sl ((en (FU ua la wa qa) (FU ub lb wb qb)).map smD) none ⟨false,none⟩):=by simp only[oF,Ib,abl h1,abl h2,UZ ha,UZ hb,fT,if_true]
   simp[Fy,more,e]
  simp only[RT];rw[NG ha hb];exact⟨Pj _,trivial⟩
end Go.Tv
namespace Go.Tv
open Go Go.Di Go.Conc Go.Co Go.Proofs
theorem ZH:TX Fy where
 dup:=λl d hl h=>by
  cases d<;>simp only[RT]at h;rename_i rows tok f;rw[vZ h.1];refine⟨.sl (Go.Tv.rowsOf l) none ⟨false,none⟩,?_,rfl,by simp only[RT];exact⟨zo _,trivial⟩⟩;have e:oF 67 [.sl (Go.Tv.rowsOf l) tok f]=some (.sl (Go.Tv.rowsOf l) none ⟨false,none⟩):=by simp only[oF,Zh,CV,if_pos hl];rfl
  simp[Fy,more,e]
end Go.Tv
section
namespace Go.Tv
open Go Go.Di Go.Proofs
theorem Sd{bH:bR}(tk:yx bH){f:FuncId}{fn:Func}{D:List TV->Dn}{k d:Nat}{T:eZ}(hT:ko bH k T)(hne:f≠33/\f≠83/\f≠13/\f≠67/\f≠0)(hf:Tp.funcs[f]? =some fn)(hb:fn.body.isSome=true){iY:List (Option TT)}(h:VI T fn iY D d){a:List TV}{j:List (Nat×LA)}(hD:D a=some ([],.res (iD true) [] [],j))(n:Nat)(rA:T.FC f fn:=by exact trivial):uG (JQ bH (n+(k+d+1))) f a (λv=>v=iD true):=
 (((wu tk hT hne hf hb h (T':=T) (by have:=gN hT (d+1);rwa [nF,<-eE]at this) rA).2 n).I f a [] (.res (iD true) [] []) (by simp only[eZ.dQ,if_true,hD];rfl) trivial).mono λv hv=>hv.1
end Go.Tv
namespace Go.Proofs.Ytedcgbkilmlbhaa
open Go Go.Di Go.Tv Go.Conc Go.Co Go.Proofs
open Go.ChangeShapes Go.WideShapes Go.ChangeAt Go.RowKit
theorem Fb(os:Os)(started:os.Started)(H:Type)(enc:TypeId×Value->H):
  ReturnsInLeavingWide {} Try.checked os 4 .any (Rows.cutMoreSpec.pre6 enc Try.prog Try.f4 Rows.cutMoreRow.domain false) (Rows.cutMoreSpec.post enc Try.prog Try.f4 false true false false):=
 aaE (λ_=>ZO) IC Try.func4 Try.params4 (by kernel_rfl) rfl (λ_ _=>rfl) (by decide) (by kernel_rfl) (n:=20) (λja=>Sd IC (ah8 IC ZJ ZI ZH) (by decide) Try.func4 rfl sx (a:=[.sl cS ja .no]) rfl 0) started
  (ChangeSpec.witness6 (enc:=enc) (C:=Try.checked) false ⟨#[],#[.slice none 0 0],[]⟩ 9 (by kernel_rfl) (by kernel_rfl) (by kernel_rfl) (by kernel_rfl))
theorem cutMore_holds:Rows.CutMoreSaid:=
 OpenClaim.holds_of_wide_leaving 4 Try.f4 rfl rfl rfl rfl rfl rfl rfl ⟨rfl,rfl,rfl,rfl,rfl⟩ rfl rfl rfl rfl rfl (by kernel_rfl) Try.func4 (by kernel_rfl)
  (of_decide_eq_true (by kernel_rfl)) (by unfold Func.isWrapper;first|(rw[if_pos (by decide+kernel)];kernel_rfl)|(rw[if_neg (by decide+kernel)];exact⟨rfl,rfl⟩))
  (λos started H enc _=>Fb os started H enc)
#print axioms cutMore_holds
end Go.Proofs.Ytedcgbkilmlbhaa
end
