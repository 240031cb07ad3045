import Derived.Test.YtedcgbkilmlbhaaPk28
import Derived.Test.YtedcgbkilmlbhaaChecked
import Derived.Conc.AppendEvents3
import Derived.OwnWalk
set_option maxHeartbeats 2000000
set_option maxRecDepth 100000
namespace Go.Co
open Go Go.Conc Go.Proofs
variable {aa:Machine->Trace->Prop} {main:Bool} {K:Gm->Goroutine->World->Prop} {p:Pc} {γ:So} {w:World}
def Mk(low up:List Int)(s:Int)(st:Int×Int×Int)(i:Nat):Int×Int×Int:=
 if(i:Int)+s<0\/(low.length:Int)<=i+s then st
 else if st.2.2=0 then(up.getD i 0+low.getD (i+s).toNat 0,up.getD i 0+low.getD (i+s).toNat 0,1)
 else(if up.getD i 0+low.getD (i+s).toNat 0<st.1 then up.getD i 0+low.getD (i+s).toNat 0 else st.1,if st.2.1<up.getD i 0+low.getD (i+s).toNat 0 then up.getD i 0+low.getD (i+s).toNat 0 else st.2.1,st.2.2+1)
def C4(low up:List Int)(s:Int)(k:Nat):Int×Int×Int:=(List.range k).foldl (Mk low up s) (0,0,0)
def wG(low up:List Int)(s:Int):Int×Int×Int:=C4 low up s up.length
theorem uN(low up:List Int)(s:Int)(k:Nat):C4 low up s (k+1)=Mk low up s (C4 low up s k) k:=by simp[C4,eR]
def Yn(l:List Int):Prop:=l.length<=1000/\∀(i:Nat)(x:Int),l[i]? =some x->0<=x/\x<=9
theorem O7(low up:List Int)(s:Int)(k:Nat):0<=(C4 low up s k).2.2/\(C4 low up s k).2.2<=k:=by
 induction k with
 |zero=>simp[C4]
 |succ k ih=>
  rw[uN];unfold Mk;split;.omega
  split<;>simp<;>omega
theorem O6(low up:List Int)(s:Int)(h:s<=-(up.length:Int)\/(low.length:Int)<=s):∀k,k<=up.length->C4 low up s k=(0,0,0):=by
 intro k;induction k with
 |zero=>intro _;rfl
 |succ k ih=>intro hk;rw[uN,ih (by omega)];unfold Mk;rw[if_pos (by omega)]
theorem xm{n:Int}(h:-9223372036854775808<=n)(h':n<=9223372036854775807):IntKind.i64.wrap n=n:=by rw[IntKind.wrap_i64];omega
def afJ(ua lb:Value)(A B:Option Addr)(ca cb:Nat)(low up:List Int)(s:Int)(bA bB:Nat)(st:Int×Int×Int)(k:Nat)(u:Nat->Value):Act:=
 ⟨#[.agg #[ua,.slice A low.length ca],.agg #[.slice B up.length cb,lb],.int .i64 s,.pointer (some ⟨bA,0,none⟩),.pointer (some ⟨bB,0,none⟩),u 5,.int .i64 st.1,.int .i64 st.2.1,.int .i64 st.2.2,u 9,u 10,u 11,u 12,u 13,u 14,u 15,u 16,u 17,u 18,u 19,u 20,u 21,u 22,u 23,u 24,u 25,u 26,.slice B up.length cb,.int .i64 up.length,.int .i64 k,u 30,u 31,u 32,u 33,u 34,u 35,u 36,u 37,u 38,u 39,u 40,u 41,u 42,u 43,u 44,u 45,u 46,u 47,u 48,u 49,u 50,u 51,u 52,u 53,u 54,u 55,u 56,u 57,u 58,u 59,u 60,u 61,u 62,u 63,u 64,u 65,u 66,u 67,u 68],[]⟩
def Tri(r:Int×Int×Int):Value:=.tuple #[.int .i64 r.1,.int .i64 r.2.1,.int .i64 r.2.2]
theorem ad3(C:KC Try.prog main K CM HL)(hp:p≠.ret){ua ub la lb:Value}{low up:List Int}(s:Int)(hl:Af γ w la low)(hu:Af γ w ub up)(SI:Yn low)(X7:Yn up):
  yK K Try.prog (p,γ) 51 #[.agg #[ua,la],.agg #[ub,lb],.int .i64 s] w λγ' v w'=>γ'.1=p/\v=Tri (wG low up s)/\Kept γ w γ'.2 w':=by
 refine Ej Try.func51 (by rfl) rfl ?_;simp only[Try.ntmps51,mB,dN,mz,Nat.reduceAdd,Nat.reduceSub,Array.replicate_succ,Array.replicate_zero,List.push_toArray,List.append_toArray,gZ,nH];refine bh C (cC C ?_);refine qY C hp (ob:=?ob1) rfl (by rfl) (λw=>run_eq_of λK hK=>?r1) (λw=>?e1) ?h1
 case r1=>go_simp;exact hK
 case e1=>simp[go_sem]
 intro w1 S3;try walk_nrm
 have Ff:=(hl.rely S3).alloc w1.heap.size (.cells #[ua,la] 67);have hu1:=(hu.rely S3).alloc w1.heap.size (.cells #[ua,la] 67);have Yd:bK _ _ ⟨w1.heap.size,1,none⟩ la:=bK.fresh (γ:=γ) (w:=w1) (cs:=#[ua,la]) (t:=67) rfl rfl;have tZ:=(Kept.rely S3).trans (Kept.alloc γ w1 w1.heap.size (.cells #[ua,la] 67));refine qY C hp (ob:=?ob2) rfl (by rfl) (λw=>run_eq_of λK hK=>?r2) (λw=>?e2) ?h2
 case r2=>go_simp;exact hK
 case e2=>simp[go_sem]
 intro w2 SA;try walk_nrm
 have qS:=(Ff.rely SA).alloc w2.heap.size (.cells #[ub,lb] 67);have hu2:=(hu1.rely SA).alloc w2.heap.size (.cells #[ub,lb] 67);have Ox:=(Yd.rely SA).alloc w2.heap.size (.cells #[ub,lb] 67);have Mv:bK _ _ ⟨w2.heap.size,0,none⟩ ub:=bK.fresh (γ:=γ.more w1.heap.size) (w:=w2) (cs:=#[ub,lb]) (t:=67) rfl rfl;have JB:=tZ.trans ((Kept.rely SA).trans (Kept.alloc _ w2 w2.heap.size (.cells #[ub,lb] 67)));iterate 3 (refine av C ?_;try walk_nrm)
 refine aW C ?_;refine bh C ?_;clear hl hu Ff hu1 Yd tZ SA S3;generalize(γ.more w1.heap.size).more w2.heap.size=γ2 at*;generalize w2.alloc (.cells #[ub,lb] 67)=W at*;generalize w2.heap.size=bB at*;generalize w1.heap.size=bA at*;obtain⟨A,ca,rfl,hA⟩:=qS;obtain⟨B,cb,rfl,hB⟩:=hu2;have OJ:=SI.1;have UA:=X7.1;have hwa:IntKind.i64.wrap (0-(up.length:Int))=-(up.length:Int):=by rw[xm]<;>omega
 have hwb:IntKind.i64.wrap (-(up.length:Int))=-(up.length:Int):=by rw[xm]<;>omega
 have J5:∀(a:Act)(st:Int×Int×Int),a.defers=[]->a.tmps.getD 6 undef=.int .i64 st.1->a.tmps.getD 7 undef=.int .i64 st.2.1->a.tmps.getD 8 undef=.int .i64 st.2.2->st=wG low up s->OT Try.prog Try.f51 (λ(γ':Gm)(v:Value)(w':World)=>γ'.1=p/\v=Tri (wG low up s)/\Kept γ w γ'.2 w') (p,γ2) .ret a W:=by
  intro a st hd h6 h7 h8 hst;refine⟨hd,Tri st,?_,rfl,by rw[hst],JB⟩;intro w';constructor;.simp at h6 h7 h8;simp[results,Try.results51,h6,h7,h8,Tri,go_sem]
  simp[results,Try.results51,go_sem]
 by_cases Me:s<=-(up.length:Int)
 .have YI:decide (s<=-(up.length:Int))=true:=by simpa using Me
  refine bh C (cC C ?_);iterate 2 (refine av C ?_;try walk_nrm)
  refine jx C hp Mv ?_;try walk_nrm
  refine av C ?_;try walk_nrm
  refine eA C (v:=?v10) rfl (by rfl) (λw=>run_eq_of λK hK=>?r10) (λw=>?e10) ?ue
  case r10=>go_simp;exact hK
  case e10=>simp[go_sem,Op.unary]
  iterate 2 (try walk_nrm;refine av C ?_)
  iterate 5 (try walk_nrm;refine dB C rfl (by rfl) ?_)
  try walk_nrm
  refine av C ?_;try walk_nrm
  refine aW C ?_;co_then;refine dW C (t:=true) rfl ?_;simp only[if_true];refine bh C (cC C ?_);iterate 3 (refine av C ?_;try walk_nrm)
  refine aW C ?_;co_then;refine DC C ?_;co_then;exact J5 _ (0,0,0) rfl rfl rfl rfl (O6 low up s (by omega) _ (ak _)).symm
 have YI:decide (s<=-(up.length:Int))=false:=by simpa using Me
 by_cases hs2:(low.length:Int)<=s
 .have hd2:decide ((low.length:Int)<=s)=true:=by simpa using hs2
  refine bh C (cC C ?_);iterate 2 (refine av C ?_;try walk_nrm)
  refine jx C hp Mv ?_;try walk_nrm
  refine av C ?_;try walk_nrm
  refine eA C (v:=?v21) rfl (by rfl) (λw=>run_eq_of λK hK=>?r21) (λw=>?e21) ?h21
  case r21=>go_simp;exact hK
  case e21=>simp[go_sem,Op.unary]
  iterate 4 (try walk_nrm;refine av C ?_)
  try walk_nrm
  refine jx C hp Ox ?_;iterate 3 (try walk_nrm;refine av C ?_)
  try walk_nrm
  refine aW C ?_;co_then;refine dW C (t:=true) rfl ?_;simp only[if_true];refine bh C (cC C ?_);iterate 3 (refine av C ?_;try walk_nrm)
  refine aW C ?_;co_then;refine DC C ?_;co_then;exact J5 _ (0,0,0) rfl rfl rfl rfl (O6 low up s (by omega) _ (ak _)).symm
 have hd2:decide ((low.length:Int)<=s)=false:=by simpa using hs2
 refine bh C (cC C ?_);iterate 2 (refine av C ?_;try walk_nrm)
 refine jx C hp Mv ?_;try walk_nrm
 refine av C ?_;try walk_nrm
 refine eA C (v:=?v37) rfl (by rfl) (λw=>run_eq_of λK hK=>?r37) (λw=>?e37) ?h37
 case r37=>go_simp;exact hK
 case e37=>simp[go_sem,Op.unary]
 iterate 4 (try walk_nrm;refine av C ?_)
 try walk_nrm
 refine jx C hp Ox ?_;iterate 3 (try walk_nrm;refine av C ?_)
 try walk_nrm
 refine aW C ?_;co_then;refine dW C (t:=false) rfl ?_;simp only[aI,if_false];refine kR C ?_;co_then;refine bh C (bh C (cC C ?_));refine av C ?_;try walk_nrm
 refine jx C hp Mv ?_;iterate 2 (try walk_nrm;refine av C ?_)
 try walk_nrm
 refine aW C ?_;co_then;refine gI C ?_;refine qg C (λn γ' a w'=>γ'=(p,γ2)/\w'=W/\∃k,k<=up.length/\n=up.length-k/\∃u,a=afJ ua lb A B ca cb low up s bA bB (C4 low up s k) k u) (n:=up.length) ⟨rfl,rfl,0,by omega,by omega,qn rfl⟩ ?_;rintro n γ' a w' ⟨hγ,hw',k,hk,hn,u,ha⟩;subst hγ hw';have hN:=O7 low up s k;have hS:=uN low up s k;have hSk:∀r,Mk low up s (C4 low up s k) k=r->C4 low up s (k+1)=r:=λr h=>hS.trans h;clear hS;have afl:k=up.length->wG low up s=C4 low up s k:=λh=>by rw[h];rfl
 generalize C4 low up s k=st at*;unfold afJ at ha;subst ha;refine bh C (cC C ?_);by_cases hlt:k<up.length
 .have hd3:decide ((k:Int)<(up.length:Int))=true:=by simpa using hlt
  obtain⟨x,hx⟩:∃x,up[k]? =some x:=⟨_,bP hlt⟩;obtain⟨bd,hBe,hsB⟩:=hB k x hx;subst hBe;have hxb:=X7.2 k x hx;have hw3:IntKind.i64.wrap ((k:Int)+s)=(k:Int)+s:=by rw[xm]<;>omega
  have hw5:IntKind.i64.wrap ((k:Int)+1)=(k:Int)+1:=by rw[xm]<;>omega
  have hgx:up.getD k 0=x:=by simp[List.getD,hx]
  refine av C ?_;try walk_nrm
  refine aW C ?_;co_then;refine bh C (dW C (t:=true) rfl ?_);simp only[if_true];refine kR C ?_;co_then;refine bh C (gI C (bh C (cC C ?_)));iterate 2 (refine av C ?_;try walk_nrm)
  refine jx C hp hsB ?_;iterate 2 (try walk_nrm;refine av C ?_)
  try walk_nrm
  refine aW C ?_;co_then;refine bh C (cC C ?_);iterate 4 (refine av C ?_;try walk_nrm)
  refine aW C ?_;co_then;refine bh C (bh C (cC C ?_));by_cases Da:(k:Int)+s<0
  .have YH:decide ((k:Int)+s<0)=true:=by simpa using Da
   iterate 3 (refine av C ?_;try walk_nrm)
   iterate 5 (refine dB C rfl (by rfl) ?_;try walk_nrm)
   refine av C ?_;try walk_nrm
   refine aW C ?_;co_then;refine dW C (t:=true) rfl ?_;simp only[if_true];refine oO C ?_;co_then;have hst:Mk low up s st k=st:=by unfold Mk;rw[if_pos (.inl Da)]
   refine cC C ?_;iterate 2 (refine av C ?_;try walk_nrm)
   refine aW C (eN ?_);refine⟨up.length-(k+1),by omega,rfl,rfl,k+1,by omega,rfl,qn ?_⟩;rw[hSk _ hst];rfl
  have YH:decide ((k:Int)+s<0)=false:=by simpa using Da
  by_cases Ah:(low.length:Int)<=(k:Int)+s
  .have hd5:decide ((low.length:Int)<=(k:Int)+s)=true:=by simpa using Ah
   iterate 5 (refine av C ?_;try walk_nrm)
   refine jx C hp Ox ?_;iterate 3 (try walk_nrm;refine av C ?_)
   try walk_nrm
   refine aW C ?_;co_then;refine dW C (t:=true) rfl ?_;simp only[if_true];refine oO C ?_;co_then;have hst:Mk low up s st k=st:=by unfold Mk;rw[if_pos (.inr Ah)]
   refine cC C ?_;iterate 2 (refine av C ?_;try walk_nrm)
   refine aW C (eN ?_);refine⟨up.length-(k+1),by omega,rfl,rfl,k+1,by omega,rfl,qn ?_⟩;rw[hSk _ hst];rfl
  have hd5:decide ((low.length:Int)<=(k:Int)+s)=false:=by simpa using Ah
  iterate 5 (refine av C ?_;try walk_nrm)
  refine jx C hp Ox ?_;iterate 3 (try walk_nrm;refine av C ?_)
  try walk_nrm
  refine aW C ?_;co_then;refine dW C (t:=false) rfl ?_;simp only[aI,if_false];refine kR C ?_;co_then;obtain⟨y,hy⟩:∃y,low[((k:Int)+s).toNat]? =some y:=⟨_,bP (by omega)⟩;obtain⟨al,hAe,hsA⟩:=hA _ y hy;subst hAe;have hyb:=SI.2 _ y hy;have hw4:IntKind.i64.wrap (x+y)=x+y:=by rw[xm]<;>omega
  have hw6:IntKind.i64.wrap (st.2.2+1)=st.2.2+1:=by rw[xm]<;>omega
  have hgy:low.getD ((k:Int)+s).toNat 0=y:=by simp[List.getD,hy]
  have C9:0<=(k:Int)+s:=by omega
  have hi1:(k:Int)+s<(low.length:Int):=by omega
  refine bh C (cC C ?_);iterate 2 (refine av C ?_;try walk_nrm)
  refine jx C hp Ox ?_;iterate 2 (try walk_nrm;refine av C ?_)
  try walk_nrm
  refine jx C hp hsA ?_;iterate 2 (try walk_nrm;refine av C ?_)
  try walk_nrm
  refine aW C ?_;co_then;refine bh C (bh C (cC C ?_));have acU:st.2.2=0->Mk low up s st k=(x+y,x+y,1):=by intro h0;unfold Mk;rw[if_neg (by omega),if_pos h0,hgx,hgy]
  have acT:st.2.2≠0->Mk low up s st k=(if x+y<st.1 then x+y else st.1,if st.2.1<x+y then x+y else st.2.1,st.2.2+1):=by intro h0;unfold Mk;rw[if_neg (by omega),if_neg h0,hgx,hgy]
  clear afl;obtain⟨s1,s2,s3⟩:=st;simp only at*;by_cases YJ:s3=0
  .subst YJ;have hst:=acU rfl;clear acU acT;iterate 2 (refine av C ?_;try walk_nrm)
   refine aW C ?_;co_then;refine dW C (t:=true) rfl ?_;simp only[if_true];refine cC C ?_;iterate 4 (refine av C ?_;try walk_nrm)
   refine aW C ?_;co_then;refine cC C ?_;iterate 2 (refine av C ?_;try walk_nrm)
   refine eA C (v:=?afb) rfl (by rfl) (λw=>run_eq_of λK hK=>?r102) (λw=>?e102) ?aiW
   case r102=>go_simp;exact hK
   case e102=>simp[go_sem,tO]
   iterate 2 (try walk_nrm;refine av C ?_)
   try walk_nrm
   refine eA C (v:=?v105) rfl (by rfl) (λw=>run_eq_of λK hK=>?r105) (λw=>?e105) ?aiV
   case r105=>go_simp;exact hK
   case e105=>simp[go_sem,tQ]
   iterate 5 (try walk_nrm;refine av C ?_)
   try walk_nrm
   refine aW C ?_;co_then;refine cC C ?_;iterate 2 (refine av C ?_;try walk_nrm)
   refine aW C (eN ?_);refine⟨up.length-(k+1),by omega,rfl,rfl,k+1,by omega,rfl,qn ?_⟩;rw[hSk _ hst];rfl
  have hd6:decide (s3=0)=false:=by simpa using YJ
  have aiR:(s3==0)=false:=by simpa using YJ
  have hst:=acT YJ;clear acU acT;iterate 2 (refine av C ?_;try walk_nrm)
  refine aW C ?_;co_then;refine dW C (t:=false) rfl ?_;simp only[aI,if_false];refine kR C ?_;co_then;refine cC C ?_;iterate 2 (refine av C ?_;try walk_nrm)
  refine eA C (v:=?v117) rfl (by rfl) (λw=>run_eq_of λK hK=>?r117) (λw=>?e117) ?aiU
  case r117=>go_simp;exact hK
  case e117=>simp[go_sem,tO]
  iterate 2 (try walk_nrm;refine av C ?_)
  try walk_nrm
  refine eA C (v:=?aiH) rfl (by rfl) (λw=>run_eq_of λK hK=>?r120) (λw=>?e120) ?aiT
  case r120=>go_simp;exact hK
  case e120=>simp[go_sem,tQ]
  iterate 5 (try walk_nrm;refine av C ?_)
  try walk_nrm
  refine aW C ?_;co_then;refine cC C ?_;iterate 2 (refine av C ?_;try walk_nrm)
  refine aW C (eN ?_);refine⟨up.length-(k+1),by omega,rfl,rfl,k+1,by omega,rfl,qn ?_⟩;rw[hSk _ hst];rfl
 have Oq:k=up.length:=by omega
 subst Oq;have hd3:decide ((up.length:Int)<(up.length:Int))=false:=by simp
 refine av C ?_;try walk_nrm
 refine aW C ?_;co_then;refine bh C (dW C (t:=false) rfl ?_);simp only[aI,if_false];refine oO C ?_;co_then;refine bh C (cC C ?_);iterate 6 (refine av C ?_;try walk_nrm)
 refine aW C ?_;co_then;refine DC C ?_;exact J5 _ st rfl rfl rfl rfl (afl rfl).symm
end Go.Co
namespace Go.Co
open Go Go.Conc
variable {P:Program} {main:Bool} {K:Gm->Goroutine->World->Prop} {fn:FuncId} {p:Pc} {γ:So} {Q:Gm->Exit->Act->World->Prop} {a:Act} {w:World} {ops:Array Oper} {i:Nat} {rest:List Nat} {o:Oper}
def lU(γ:So)(w:World)(B:Nat)(e:TypeId)(size:Nat)(v:Value)(n:Nat)(xs:List Value):Prop:=w.ownsRow B e size v n xs/\∀b,v.ownBlock=some b->γ.2 b
theorem lU.nil (B:Nat)(e:TypeId)(size:Nat):lU γ w B e size (.slice none 0 0) 0 []:=⟨World.ownsRow_nil _ _ _ _,λb h=>by simp[Value.ownBlock]at h⟩
theorem EO{w w1:World}{B:Nat}{e:TypeId}{size:Nat}{v:Value}{n:Nat}{xs:List Value}(h:w.ownsRow B e size v n xs)(hb:∀b,v.ownBlock=some b->w1.heap[b]? =w.heap[b]?):w1.ownsRow B e size v n xs:=by refine⟨h.1,h.2.imp id λ⟨g,cap,cur,hv,h0,hg,hr⟩=>⟨g,cap,cur,hv,h0,?_,hr⟩⟩;rw[hb g (by rw[hv];rfl)];exact hg
theorem lU.rely {B:Nat}{e:TypeId}{size:Nat}{v:Value}{n:Nat}{xs:List Value}{w1:World}(h:lU γ w B e size v n xs)(r:jo γ w w1):lU γ w1 B e size v n xs:=
 ⟨EO h.1 λb hb=>r.2.1 b (.inr (h.2 b hb)),h.2⟩
theorem lU.kept {B:Nat}{e:TypeId}{size:Nat}{v:Value}{n:Nat}{xs:List Value}{γ':So}{w':World}(h:lU γ w B e size v n xs)(k:Kept γ w γ' w'):lU γ' w' B e size v n xs:=
 ⟨EO h.1 λb hb=>k.blk b (.inr (h.2 b hb)) (h.1.lt b hb).2,λb hb=>k.own b (h.2 b hb)⟩
theorem lU.sees {B:Nat}{e:TypeId}{size:Nat}{g n cap:Nat}{xs:List Value}(h:lU γ w B e size (.slice (some ⟨g,0,none⟩) n cap) n xs){j:Nat}{u:Value}(hu:xs[j]? =some u):bK γ w ((⟨g,0,none⟩:Addr).add j) u:=
 ⟨.inr (by rw[addBlock];exact h.2 g rfl),h.1.cells (g:=g) rfl j u hu⟩
theorem lU.more {B B':Nat}{e:TypeId}{size:Nat}{v:Value}{n:Nat}{xs:List Value}(h:lU γ w B e size v n xs)(hB:B'<=B):lU γ w B' e size v n xs:=
 ⟨⟨h.1.1,h.1.2.imp id λ⟨g,cap,cur,hv,h0,hg⟩=>⟨g,cap,cur,hv,bD hB h0,hg⟩⟩,h.2⟩
theorem lU.HB {B:Nat}{v:Value}{l:List Int}(h:lU γ w B 3 1 v l.length (l.map λx=>.int .i64 x)):Af γ w v l:=by
 rcases h.1.2 with ⟨rfl,h0⟩|⟨g,cap,cur,rfl,-,-,-⟩;.have:l=[]:=eS h0;subst this;exact⟨none,0,rfl,λi x hx=>by simp at hx⟩
 exact⟨some ⟨g,0,none⟩,cap,rfl,λi x hx=>⟨_,rfl,h.sees (by simp[hx])⟩⟩
theorem Kept.append {γ0 γ':So}{w0 w':World}{v:Value}(k:Kept γ0 w0 γ w)(h1:γ'.1=γ.1)(h2:∀b,γ.2 b->γ'.2 b)(h3:w.heap.size<=w'.heap.size)
  (h4:∀b,γ.all b->b<w.heap.size->some b≠v.ownBlock->w'.heap[b]? =w.heap[b]?) (h5:w'.os=w.os/\w'.output=w.output) (hb:∀b,v.ownBlock=some b->w0.heap.size<=b):Kept γ0 w0 γ' w':=
 ⟨h1.trans k.shr,λb hb=>h2 b (k.own b hb),λb fL hlt=>(h4 b (k.all fL) (dH hlt k.size) λe=>by have:=hb b e.symm;omega).trans (k.blk b fL hlt),bD k.size h3,h5.1.trans k.env.1,h5.2.trans k.env.2⟩
theorem G3(C:KC P main K CM HL)(hp:p≠.ret){s x:Operand}{t e:TypeId}{info:TypeInfo}{z:Value}{size bytes:Nat}{v:Value}{n:Nat}{xs:List Value}{ad:Addr}{m c:Nat}{news:List Value}
  (ho:ops[i]? =some o) (hw:Region.wanted o (yielded ops a.tmps)=true) (hop:o.op=.call {callee:=.builtin .append,args:=#[s,x],argTypes:=#[t,t]})
  (ht:P.underlying t=some (.slice e)) (hi:P.info? e=some info) (hz:info.zero=some z) (Bz:info.size=size) (hby:info.bytes=bytes) (SD:z.cells.size=size) (hsz:0<size)
  (hs:a.eval s=v) (hx:a.eval x=.slice (some ad) m c) {B:Nat} (hB:B<=w.heap.size) (fN:lU γ w B e size v n xs) (hl:news.length=m*size) (mR:∀(j:Nat)(u:Value),news[j]? =some u->bK γ w (ad.add j) u) (had:γ.all ad.block) (h1:∀u∈news,u.oneCell'=true)
  (h63:n+m<=maxLen) (mX:(n+m)*bytes<=140737488355328)
  (h:∀v' w' s',s'.1=γ.1->(∀b,γ.2 b->s'.2 b)->w.heap.size<=w'.heap.size->(∀b,γ.all b->b<w.heap.size->some b≠v.ownBlock->w'.heap[b]? =w.heap[b]?)->(w'.os=w.os/\w'.output=w.output)->lU s' w' B e size v' (n+m) (xs++news)->KO K fn (p,s') ops rest Q (a.put o.dst v') w'):KO K fn (p,γ) ops (i::rest) Q a w:=by
 refine Ng C hp ho hw λw₁ r=>?_;have Gi:=fN.rely r;have DD:∀(j:Nat)(u:Value),news[j]? =some u->w₁.cell? (ad.add j)=some u:=λj u hu=>((mR j u hu).rely r).2;obtain⟨v',w',hrun,Uz,hg,-⟩:=run_append_own (P:=P) (w:=w₁) B t o.type e info z size bytes ht hi hz Bz hby SD hsz v n xs Gi.1 ad m c news hl DD h1 h63 mX (bD hB r.1);have wE:=events_append_where (P:=P) w₁ B t o.type e info z size bytes ht hi hz Bz hby v n xs Gi.1 ad m c news hl DD h1 h63 mX;have hO:∀b,some b=v.ownBlock->γ.2 b:=λb hb=>fN.2 b hb.symm;have hblk:∀b,γ.all b->b<w.heap.size->some b≠v.ownBlock->w'.heap[b]? =w.heap[b]? :=λb hb hlt hne=>(hg.block b (dH hlt r.1) hne).trans (r.2.1 b hb);have UG:∀b,v'.ownBlock=some b->γ.2 b\/(w₁.heap.size<=b/\b<w'.heap.size):=by
  intro b hb;by_cases hlt:b<w₁.heap.size
  .by_cases hv:some b=v.ownBlock;.exact .inl (hO b hv)
   left;subst Bz;subst hby
   have ait:n+m<=9223372036854775807:=by simp only[maxLen]at h63;omega
   rcases Gi.1.2 with ⟨rfl,rfl⟩|⟨g,cap,cur,rfl,hbg,hgg,hnc,hcm,om,OI⟩
   .by_cases hm:m=0
    .subst hm;have JI:xs=[]:=eS (by simpa using Gi.1.1);have yb:news=[]:=eS (by simpa using hl);subst JI;subst yb;rcases Uz.2 with ⟨rfl,_⟩|⟨g,cap,cur,rfl,-,-,-⟩;.simp[Value.ownBlock]at hb
     have:(Builtin.append_ #[t,t] o.type #[.slice none 0 0,.slice (some ad) 0 c]).run P w₁=.ok (.slice none 0 0) w₁:=by simp[Builtin.append_,run_underlying ht,sizeOf,typeInfo,hi,Builtin.lenOf,Builtin.firstCells,loadCells,loadCellsFrom]
     rw[this]at hrun;cases hrun
    have hr:=run_append_nil (P:=P) w₁ t o.type e info z ht hi hz ad m c news hl DD (by omega) (by omega) (by have hb:=mX;simp only[jk]at hb;omega);rw[hr]at hrun;cases hrun;simp[Value.ownBlock]at hb;omega
   by_cases hroom:n+m<=cap
   .have HV:n*info.size+news.length<=cur.size:=by rw[hl,om,<-jX];exact fU _ hroom
    have hr:=run_append_room (P:=P) w₁ t o.type e info ht hi g n cap cur hgg ad m c news hl DD h1 hroom HV;rw[hr]at hrun;cases hrun;exact absurd hb.symm hv
   have holds:∀(j:Nat)(u:Value),xs[j]? =some u->w₁.cell? ((⟨g,0,none⟩:Addr).add j)=some u:=Gi.1.cells (g:=g) rfl;have hr:=run_append_grow (P:=P) w₁ t o.type e info z ht hi hz ⟨g,0,none⟩ n cap xs Gi.1.1 holds ad m c news hl DD (by omega) (by omega) (growslice_fits (by omega) mX);rw[hr]at hrun;cases hrun;simp[Value.ownBlock]at hb;omega
  exact .inr ⟨by omega,(Uz.lt b hb).2⟩
 refine⟨v',w',(γ.1,λb=>γ.2 b\/(w₁.heap.size<=b/\b<w'.heap.size)),?_,⟨rfl,λb=>Iff.rfl,hg.size,λb hb hn=>hg.block b hb λe=>hn (hO b e),hg.tape,hg.os,hg.output,λe he=>?_⟩,h v' w' _ rfl (λb hb=>.inl hb) (bD r.1 hg.size) hblk ⟨hg.os.trans r.2.2.2.1,hg.output.trans r.2.2.2.2⟩ ⟨Uz,UG⟩⟩;.unfold execOp;simp only[hop,resolve,invoke,builtin,Sem.run_bind,Sem.run_pure,Result.andThen_ok,List.map_toArray,bn,fG,hs,hx,hrun]
 have he':=mem_listed he;rw[events_append_op s x t hop hs hx]at he';rcases wE e he' with ⟨b,hb,hr⟩|hm
 .obtain⟨l,wr,sy⟩:=e;simp only at hb hr;subst hb;refine .inl ⟨b,wr,sy,rfl,λhwr=>?_,?_⟩
  .rcases hr with ⟨h2,-⟩|h2;.rw[hwr]at h2;cases h2
   exact .inl (hO _ h2)
  rcases hr with ⟨-,h2⟩|h2;.rw[h2];exact had.imp id .inl
  exact .inr (.inl (hO _ h2))
 exact .inr hm
open Go.ConcN (sumTo sumTo_upd sumTo_congr le_sumTo upd upd_same upd_ne)
theorem V5(γ:So)(w:World)(d:Nat):JF γ w γ (w.at d) #[]:=⟨rfl,λb=>⟨.inl,λh=>h.elim id λh=>absurd h.2 (by have:(w.at d).heap.size=w.heap.size:=rfl;omega)⟩,ak _,λ_ _ _=>rfl,rfl,rfl,rfl,by simp⟩
def afe(ops:Array Oper):Bool:=(List.range ops.size).all λi=>match ops[i]? with|some o=>o.after.all λe=>decide (e.on<i)|none=>true
theorem aeo(h:afe ops=true)(i:Nat)(o:Oper)(ho:ops[i]? =some o):∀e∈o.after,e.on<i:=by intro e he;have h1:=aX.1 h i (by rw[iG];exact(aN.1 ho).1);rw[ho]at h1;simp only at h1;obtain⟨j,hj,rfl⟩:=Array.mem_iff_getElem.1 he;simpa using Array.all_eq_true.1 h1 j hj
theorem aaI(C:KC P main K CM HL)(hp:p≠.ret)(hm:P.follows .mixedOrders=true){id:Nat}(J:(Nat->Bool)->So->Act->World->Prop)
  (abX:afe ops=true)
  (h0:∀w₁,jo γ w w₁->J (λ_=>false) γ a (w₁.at (w₁.drawn+1)))
  (hop:∀L γ a w i o,J L γ a w->ops[i]? =some o->L i=false->(∀e∈o.after,Region.binds .any e=true->L e.on=true)->
   ∀rest,(∀γ' a' w',J (upd L i true) γ' a' w'->KO K fn (p,γ') ops rest Q a' w')->KO K fn (p,γ) ops (i::rest) Q a w)
  (uq:∀L γ a w,J L γ a w->(∀i,i<ops.size->L i=true)->Q (p,γ) .normal a w):KJ K fn (p,γ) (.region id ops true) Q a w:=by
 have rE:=aeo abX;have key:∀(fuel t:Nat)(listed:Array Bool)(γ:So)(a:Act)(w:World),listed.size=ops.size->sumTo ops.size (λj=>if listed.getD j true then 0 else 1)=fuel->J (λj=>listed.getD j false) γ a w->
   KO K fn (p,γ) ops (Region.linearise.go .any ops fuel t listed []) Q a w:=by
  intro fuel;induction fuel with
  |zero=>
   intro t listed γ a w hsz MH hJ;refine aW C (uq _ γ a w hJ λi hi=>?_);have h1:=le_sumTo (f:=λj=>if listed.getD j true then 0 else 1) hi;rw[MH]at h1;have h2:listed.getD i true=true:=by
    cases h:listed.getD i true with
    |true=>rfl
    |false=>simp[h]at h1
   simpa [ct (show i<listed.size by omega)]using h2
  |succ fuel ih=>
   intro t listed γ a w hsz MH hJ;simp only[Region.linearise.go];change KO K fn (p,γ) ops (match(Region.ready .any ops listed)[t % (Region.ready .any ops listed).length]? with
    |some i=>Region.linearise.go .any ops fuel (t/(Region.ready .any ops listed).length) (listed.setIfInBounds i true) [i]
    |none=>[].reverse) Q a w
   cases hi:(Region.ready .any ops listed)[t % (Region.ready .any ops listed).length]? with
   |none=>
    have MJ:Region.ready .any ops listed=[]:=by
     cases hr:Region.ready .any ops listed with
     |nil=>rfl
     |cons x xs=>rw[hr]at hi;have hlt:t % (x::xs).length<(x::xs).length:=Nat.mod_lt _ (by simp);simp at hi;simp at hlt;omega
    refine aW C (uq _ γ a w hJ λi hi=>?_);induction i using Nat.strongRecOn with
    |ind i ihi=>
     have Tg:i<listed.size:=by omega
     cases hb:listed.getD i false with
     |true=>rfl
     |false=>
      have mO:i∈Region.ready .any ops listed:=by refine mem_ready.2 ⟨by simpa [ct Tg]using hb,ops[i],ct hi,λe he _=>?_⟩;have hlt:=rE i _ (ct hi) e he;exact ihi e.on hlt (by omega)
      rw[MJ]at mO;cases mO
   |some i=>
    simp only[];rw[linearise_go_acc,List.reverse_singleton,List.singleton_append];have mO:=cr hi;obtain⟨hun,o,ho,fL⟩:=mem_ready.1 mO;have hio:i<ops.size:=(aN.1 ho).1;have Tg:i<listed.size:=by omega
    refine hop _ γ a w i o hJ ho (by simpa [ct Tg]using hun) (λe he hb=>fL e he hb) _ λγ' a' w' hJ'=>ih _ _ γ' a' w' (by simpa using hsz) ?_ ?_
    .have h1:=sumTo_upd (λj=>listed.getD j true) true (λb=>if b then 0 else 1) hio;rw[hun]at h1;simp only[if_true,aI,if_false]at h1;have h2:sumTo ops.size (λj=>if(listed.setIfInBounds i true).getD j true then 0 else 1)=sumTo ops.size λj=>if upd (λj=>listed.getD j true) i true j then 0 else 1:=by
      refine sumTo_congr λj _=>?_;by_cases gR:j=i;.subst gR;rw[upd_same];simp[kW Tg]
      rw[upd_ne _ _ gR,getD_set_ne true (Ne.symm gR)]
     rw[h2];omega
    have h2:(λj=>(listed.setIfInBounds i true).getD j false)=upd (λj=>listed.getD j false) i true:=by
     funext j;by_cases gR:j=i;.subst gR;rw[upd_same];simp[kW Tg]
     rw[upd_ne _ _ gR,getD_set_ne false (Ne.symm gR)]
    rw[h2];exact hJ'
 intro b k cs hb hk hc;refine C.step _ _ _ _ λw1 r=>?_;have hgo:=stepG_region_draw (P:=P) (main:=main) (b:=b) (a:=a) (k:=k) (cs:=cs) (w:=w1) (id:=id) (ops:=ops);simp only[Region.schedule,hm,Bool.true_or,if_true]at hgo;refine⟨_,_,_,_,(p,γ),hgo,stg hp (V5 γ w1 _),?_⟩;refine key ops.size _ _ γ a _ (by simp) ?_ ?_ b k cs hb hk hc
 .clear key h0 hop uq rE abX;have:∀n,n<=ops.size->sumTo n (λj=>if(Array.replicate ops.size false).getD j true then 0 else 1)=n:=by
   intro n;induction n with
   |zero=>intro _;rfl
   |succ n ih=>
    intro hn;simp only[sumTo];rw[ih (by omega)];have hlt:n<ops.size:=by omega
    simp[hlt]
  exact this _ (ak _)
 have h3:(λj=>(Array.replicate ops.size false).getD j false)=λ_=>false:=by
  funext j;by_cases hj:j<ops.size;.simp[hj]
  simp[hj]
 rw[h3];exact h0 w1 (Yw hp r)
end Go.Co
namespace Go.Co
open Go Go.Conc Go.Proofs
variable {aa:Machine->Trace->Prop} {main:Bool} {K:Gm->Goroutine->World->Prop} {p:Pc} {γ:So} {w:World}
def TS(low up:List Int)(cL:Int)(s:Int):Bool:=decide (3<=(wG low up s).2.2)&&decide ((wG low up s).2.1-(wG low up s).1<=cL)
def Sz(low up:List Int)(cL:Int)(k:Nat):List Int:=((List.range k).map λ(j:Nat)=>(j:Int)-up.length).filter (TS low up cL)
def oK(low up:List Int)(cL:Int):List Int:=Sz low up cL (up.length+low.length+1)
theorem Wo(low up:List Int)(cL:Int)(k:Nat):Sz low up cL (k+1)=Sz low up cL k++if TS low up cL ((k:Int)-up.length)then[(k:Int)-up.length]else[]:=by unfold Sz;rw[eR,dY,mC];congr 1;simp only[bn,fG,List.filter_cons,List.filter_nil]
theorem II(low up:List Int)(cL:Int)(k:Nat):(Sz low up cL k).length<=k:=by unfold Sz;exact bD (vP _ _) (by simp)
theorem aea{low up:List Int}(SI:Yn low)(X7:Yn up)(s:Int)(k:Nat):0<=(C4 low up s k).1/\(C4 low up s k).1<=18/\0<=(C4 low up s k).2.1/\(C4 low up s k).2.1<=18:=by
 have hg:∀(l:List Int),Yn l->∀i,0<=l.getD i 0/\l.getD i 0<=9:=by
  intro l h i;cases hi:l[i]? with
  |none=>simp[List.getD,hi]
  |some x=>have:=h.2 i x hi;simpa [List.getD,hi]using this
 induction k with
 |zero=>simp[C4]
 |succ k ih=>
  rw[uN];have h1:=hg up X7 k;have h2:=hg low SI ((k:Int)+s).toNat;unfold Mk;split;.exact ih
  split;.simp only;omega
  simp only;refine⟨?_,?_,?_,?_⟩<;>split<;>omega
def afI(ua lb:Value)(A B:Option Addr)(ca cb:Nat)(low up:List Int)(cL:Int)(bA bB:Nat)(out:Value)(s:Int)(u:Nat->Value):Act:=
 ⟨#[.agg #[ua,.slice A low.length ca],.agg #[.slice B up.length cb,lb],.int .i64 cL,.pointer (some ⟨bA,0,none⟩),.pointer (some ⟨bB,0,none⟩),u 5,u 6,out,.int .i64 s,u 9,u 10,u 11,u 12,u 13,u 14,u 15,u 16,u 17,u 18,u 19,u 20,u 21,u 22,u 23,u 24,u 25,u 26,u 27,u 28,u 29,u 30,u 31,u 32,u 33,u 34,u 35,u 36,u 37,u 38,u 39,u 40,u 41,u 42,u 43,u 44],[]⟩
theorem Uw:(Try.prog.info? 3).map (λi=>(i.zero,i.size,i.bytes))=some (some (.int .i64 0),1,8):=by kernel_rfl
theorem mixed:Try.prog.follows .mixedOrders=true:=by kernel_rfl
abbrev ivs(l:List Int):List Value:=l.map λx=>.int .i64 x
theorem Wn(C:KC Try.prog main K CM HL)(hp:p≠.ret){ua ub la lb:Value}{low up:List Int}(cL:Int)(hl:Af γ w la low)(hu:Af γ w ub up)(SI:Yn low)(X7:Yn up):
  yK K Try.prog (p,γ) 59 #[.agg #[ua,la],.agg #[ub,lb],.int .i64 cL] w λγ' v w'=>γ'.1=p/\lU γ'.2 w' w.heap.size 3 1 v (oK low up cL).length (ivs (oK low up cL))/\Kept γ w γ'.2 w':=by
 obtain⟨i0,hi,JG,SE,hz2⟩:=info_parts Uw;have OJ:=SI.1;have UA:=X7.1;refine Ej Try.func59 (by rfl) rfl ?_;simp only[Try.ntmps59,mB,dN,mz,Nat.reduceAdd,Nat.reduceSub,Array.replicate_succ,Array.replicate_zero,List.push_toArray,List.append_toArray,gZ,nH];refine bh C (cC C ?_);refine qY C hp (ob:=?ob1) rfl (by rfl) (λw=>run_eq_of λK hK=>?r1) (λw=>?e1) ?h1
 case r1=>go_simp;exact hK
 case e1=>simp[go_sem]
 intro w1 S3;try walk_nrm
 have tZ:=(Kept.rely S3).trans (Kept.alloc γ w1 w1.heap.size (.cells #[ua,la] 67));have Yd:bK _ _ ⟨w1.heap.size,0,none⟩ ua:=bK.fresh (γ:=γ) (w:=w1) (cs:=#[ua,la]) (t:=67) rfl rfl;have Tn:bK _ _ ⟨w1.heap.size,1,none⟩ la:=bK.fresh (γ:=γ) (w:=w1) (cs:=#[ua,la]) (t:=67) rfl rfl;refine qY C hp (ob:=?ob2) rfl (by rfl) (λw=>run_eq_of λK hK=>?r2) (λw=>?e2) ?h2
 case r2=>go_simp;exact hK
 case e2=>simp[go_sem]
 intro w2 SA;try walk_nrm
 have JR:=(Kept.rely SA).trans (Kept.alloc _ w2 w2.heap.size (.cells #[ub,lb] 67));have JB:=tZ.trans JR;have Ox:=JR.sees Yd;have Mv:=JR.sees Tn;have Ah:bK _ _ ⟨w2.heap.size,0,none⟩ ub:=bK.fresh (γ:=γ.more w1.heap.size) (w:=w2) (cs:=#[ub,lb]) (t:=67) rfl rfl;have hd2:bK _ _ ⟨w2.heap.size,1,none⟩ lb:=bK.fresh (γ:=γ.more w1.heap.size) (w:=w2) (cs:=#[ub,lb]) (t:=67) rfl rfl;have qS:=JB.HB hl;have hu2:=JB.HB hu;refine av C ?_;try walk_nrm
 refine aW C ?_;co_then;clear hl hu tZ JR Yd Tn SA S3;generalize(γ.more w1.heap.size).more w2.heap.size=γ2 at*;generalize w2.alloc (.cells #[ub,lb] 67)=W at*;generalize w2.heap.size=bB at*;generalize w1.heap.size=bA at*;refine bh C (cC C ?_);refine av C ?_;try walk_nrm
 refine aW C ?_;co_then;obtain⟨A,ca,rfl,hA⟩:=qS;obtain⟨B,cb,rfl,hB⟩:=hu2;have hwa:IntKind.i64.wrap (0-(up.length:Int))=-(up.length:Int):=by rw[xm]<;>omega
 have hwb:IntKind.i64.wrap (-(up.length:Int))=-(up.length:Int):=by rw[xm]<;>omega
 refine bh C (bh C (cC C ?_));refine av C ?_;try walk_nrm
 refine jx C hp Ah ?_;try walk_nrm
 refine av C ?_;try walk_nrm
 refine eA C (v:=?v8) rfl (by rfl) (λw=>run_eq_of λK hK=>?r8) (λw=>?e8) ?h8
 case r8=>go_simp;exact hK
 case e8=>simp[go_sem,Op.unary]
 try walk_nrm
 refine av C ?_;try walk_nrm
 refine aW C ?_;co_then;refine gI C ?_;clear hwa hwb;refine qg C (λn γ' a w'=>∃γ3,γ'=(p,γ3)/\Kept γ2 W γ3 w'/\∃k out,k<=up.length+low.length+1/\n=up.length+low.length+1-k/\lU γ3 w' W.heap.size 3 1 out (Sz low up cL k).length (ivs (Sz low up cL k))/\∃u,a=afI ua lb A B ca cb low up cL bA bB out ((k:Int)-up.length) u) (n:=up.length+low.length+1) ⟨γ2,rfl,Kept.refl _ _,0,.slice none 0 0,by omega,by omega,lU.nil _ _ _,qn (by
  have:((0:Nat):Int)-(up.length:Int)=-(up.length:Int):=by omega
  rw[this];rfl)⟩ ?_
 rintro n γ' a w' ⟨γ3,hγ,C8,k,out,hk,hn,fN,u,ha⟩;subst hγ;unfold afI at ha;subst ha;have uz:W.heap.size<=w'.heap.size:=C8.size;have hb3:=C8.sees Mv;have ha3:=C8.sees Ox;have YJ:=C8.sees Ah;have hd3:=C8.sees hd2;refine bh C (bh C (cC C ?_));by_cases hlt:k<up.length+low.length+1
 .have afy:decide ((k:Int)-(up.length:Int)<=(low.length:Int))=true:=by simp;omega
  iterate 2 (refine av C ?_;try walk_nrm)
  refine jx C hp hb3 ?_;iterate 2 (try walk_nrm;refine av C ?_)
  try walk_nrm
  refine aW C ?_;co_then;refine dW C (t:=true) rfl ?_;simp only[if_true];refine kR C ?_;co_then;refine bh C (gI C (bh C (cC C ?_)));refine qX C hp (v:=?v15) rfl (by rfl) (λw₁ h₁=>⟨run_eq_of λK hK=>?r15,?e15⟩) ?h15
  case r15=>have hc:=(bK.rely ha3 h₁).2;have hd:=(bK.rely hb3 h₁).2;go_simp;exact hK
  case e15=>
   have hc:=(bK.rely ha3 h₁).2;have hd:=(bK.rely hb3 h₁).2;intro e he;simp[go_sem,hc,hd]at he;rcases he with rfl|rfl;.exact(bK.rely ha3 h₁).JD
   exact(bK.rely hb3 h₁).JD
  try walk_nrm
  refine qX C hp (v:=?v16) rfl (by rfl) (λw₁ h₁=>⟨run_eq_of λK hK=>?r16,?e16⟩) ?h16
  case r16=>have hc:=(bK.rely YJ h₁).2;have hd:=(bK.rely hd3 h₁).2;go_simp;exact hK
  case e16=>
   have hc:=(bK.rely YJ h₁).2;have hd:=(bK.rely hd3 h₁).2;intro e he;simp[go_sem,hc,hd]at he;rcases he with rfl|rfl;.exact(bK.rely YJ h₁).JD
   exact(bK.rely hd3 h₁).JD
  try walk_nrm
  refine av C ?_;try walk_nrm
  refine PY C rfl (by rfl) rfl (Post:=λγ' v SY=>γ'.1=p/\v=Tri (wG low up ((k:Int)-up.length))/\Kept γ3 w' γ'.2 SY) ?_ ?_;.simp only[List.map_toArray,bn,fG];exact ad3 C hp ((k:Int)-up.length) ⟨A,ca,rfl,λi x hx=>by obtain⟨ad,h1,h2⟩:=hA i x hx;exact⟨ad,h1,C8.sees h2⟩⟩ ⟨B,cb,rfl,λi x hx=>by obtain⟨ad,h1,h2⟩:=hB i x hx;exact⟨ad,h1,C8.sees h2⟩⟩ SI X7
  rintro⟨p',γ4⟩ v4 w4 ⟨hp4,hv4,X9⟩;simp only at hp4 X9;subst p';have ac2:=O7 low up ((k:Int)-up.length) up.length;have hbd:=aea SI X7 ((k:Int)-up.length) up.length;have HV:=Wo low up cL k;have hlen:=II low up cL k;have hfb:TS low up cL ((k:Int)-up.length)=(decide (3<=(C4 low up ((k:Int)-up.length) up.length).2.2)&&decide ((C4 low up ((k:Int)-up.length) up.length).2.1-(C4 low up ((k:Int)-up.length) up.length).1<=cL)):=rfl;unfold wG Tri at hv4;generalize C4 low up ((k:Int)-up.length) up.length=st at*;obtain⟨r1,r2,r3⟩:=st;simp only at hv4 ac2 hbd hfb;subst hv4;have hw4:IntKind.i64.wrap (r2-r1)=r2-r1:=by rw[xm]<;>omega
  have hw5:IntKind.i64.wrap ((k:Int)-(up.length:Int)+1)=(k:Int)-(up.length:Int)+1:=by rw[xm]<;>omega
  have UF:((k+1:Nat):Int)-(up.length:Int)=(k:Int)-(up.length:Int)+1:=by omega
  have Ot:=C8.trans X9;have Gh:=fN.kept X9;have aeI:W.heap.size<=w4.heap.size:=bD uz X9.size;try walk_nrm
  clear hb3 ha3 YJ hd3 afy X9 fN C8 uz;iterate 7 (refine av C ?_;try walk_nrm)
  refine aW C ?_;co_then;refine bh C (cC C ?_);by_cases c1:3<=r3
  .have YH:decide (3<=r3)=true:=by simpa using c1
   by_cases c2:r2-r1<=cL
   .have hd5:decide (r2-r1<=cL)=true:=by simpa using c2
    iterate 9 (refine av C ?_;try walk_nrm)
    refine aW C ?_;co_then;refine dW C (t:=true) rfl ?_;simp only[if_true];refine cC C ?_;iterate 2 (refine av C ?_;try walk_nrm)
    refine Vm C hp (ob:=?aiJ) (n:=1) rfl (by rfl) (λw=>run_eq_of λK hK=>?r36) (λw=>?e36) ?h36
    case r36=>go_simp;exact hK
    case e36=>simp[go_sem]
    intro w5 Yv;try walk_nrm
    have hk6:=(Kept.rely Yv).trans (Kept.alloc γ4 w5 w5.heap.size (.cells #[.int .i64 ((k:Int)-up.length)] 3));have hs6:bK _ _ ⟨w5.heap.size,0,none⟩ (.int .i64 ((k:Int)-up.length)):=bK.fresh (γ:=γ4) (w:=w5) (cs:=#[.int .i64 ((k:Int)-up.length)]) (t:=3) rfl rfl;have abW:=Gh.kept hk6;have X8:=Ot.trans hk6;have hB6:W.heap.size<=(w5.alloc (.cells #[.int .i64 ((k:Int)-up.length)] 3)).heap.size:=bD aeI hk6.size;generalize w5.alloc (.cells #[.int .i64 ((k:Int)-up.length)] 3)=w6 at*;generalize γ4.more w5.heap.size=γ6 at*;generalize w5.heap.size=b6 at*;refine G3 C hp (B:=W.heap.size) (news:=[.int .i64 ((k:Int)-up.length)]) (m:=1) (c:=1) (ad:=⟨b6,0,none⟩) (n:=(Sz low up cL k).length) (xs:=ivs (Sz low up cL k)) (v:=out) rfl (by rfl) rfl Try.underlying22 hi JG SE hz2 rfl (by decide) rfl rfl hB6 abW rfl (λj u hu=>?_) hs6.1 (by simp[Value.oneCell']) (by simp only[maxLen];omega) (by omega) ?_
    .cases j with
     |zero=>simp at hu;subst hu;exact hs6
     |succ j=>simp at hu
    intro v7 w7 γ7 YF Mf hg3 hg4 hg5 Gg;have hk8:=X8.append YF Mf hg3 hg4 hg5 (v:=out) (λb hb=>(abW.1.lt b hb).1);try walk_nrm
    refine av C ?_;try walk_nrm
    refine aW C ?_;co_then;refine cC C ?_;iterate 3 (refine av C ?_;try walk_nrm)
    refine aW C (eN ?_);refine⟨up.length+low.length+1-(k+1),by omega,γ7,rfl,hk8,k+1,v7,by omega,rfl,(by rw[HV,hfb,YH,hd5];simpa using Gg),qn ?_⟩;rw[UF];rfl
   have hd5:decide (r2-r1<=cL)=false:=by simpa using c2
   iterate 9 (refine av C ?_;try walk_nrm)
   refine aW C ?_;co_then;refine dW C (t:=false) rfl ?_;simp only[aI,if_false];refine kR C ?_;co_then;refine cC C ?_;iterate 3 (refine av C ?_;try walk_nrm)
   refine aW C (eN ?_);refine⟨up.length+low.length+1-(k+1),by omega,γ4,rfl,Ot,k+1,out,by omega,rfl,(by rw[HV,hfb,YH,hd5];simpa using Gh),qn ?_⟩;rw[UF];rfl
  have YH:decide (3<=r3)=false:=by simpa using c1
  iterate 3 (refine av C ?_;try walk_nrm)
  iterate 5 (refine dB C rfl (by rfl) ?_;try walk_nrm)
  refine av C ?_;try walk_nrm
  refine aW C ?_;co_then;refine dW C (t:=false) rfl ?_;simp only[aI,if_false];refine kR C ?_;co_then;refine cC C ?_;iterate 3 (refine av C ?_;try walk_nrm)
  refine aW C (eN ?_);refine⟨up.length+low.length+1-(k+1),by omega,γ4,rfl,Ot,k+1,out,by omega,rfl,(by rw[HV,hfb,YH];simpa using Gh),qn ?_⟩;rw[UF];rfl
 have Oq:k=up.length+low.length+1:=by omega
 subst Oq;have afy:decide (((up.length+low.length+1:Nat):Int)-(up.length:Int)<=(low.length:Int))=false:=by simp;omega
 generalize hsv:((up.length+low.length+1:Nat):Int)-(up.length:Int)=sv at*;iterate 2 (refine av C ?_;try walk_nrm)
 refine jx C hp hb3 ?_;iterate 2 (try walk_nrm;refine av C ?_)
 try walk_nrm
 refine aW C ?_;co_then;refine dW C (t:=false) rfl ?_;simp only[aI,if_false];refine oO C ?_;co_then;refine bh C (cC C ?_);iterate 2 (refine av C ?_;try walk_nrm)
 refine aW C ?_;co_then;refine DC C ?_;have xx:lU γ3 w' w.heap.size 3 1 out (oK low up cL).length (ivs (oK low up cL)):=fN.more JB.size;exact⟨rfl,out,resultsC_tmp Try.results59 _,rfl,xx,JB.trans C8⟩
end Go.Co
