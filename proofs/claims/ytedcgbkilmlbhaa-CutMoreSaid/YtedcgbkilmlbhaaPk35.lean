import Derived.Test.YtedcgbkilmlbhaaPk34
import Derived.Conc.SmallLaws
set_option maxHeartbeats 2000000
set_option maxRecDepth 100000
namespace Go.Co
open Go Go.Conc Go.Proofs
open Classical
variable {P:Program} {aa:Machine->Trace->Prop} {γ:So} {w:World}
theorem LD{b:Nat}:γ.give.all b↔γ.all b:=⟨λh=>h.elim id λh=>h.elim,.inl⟩
theorem bK.give {ad:Addr}{v:Value}(h:bK γ w ad v):bK γ.give w ad v:=⟨LD.2 h.1,h.2⟩
theorem Af.give {v:Value}{l:List Int}(h:Af γ w v l):Af γ.give w v l:=by obtain⟨A,cap,rfl,h⟩:=h;exact⟨A,cap,rfl,λi x hx=>by obtain⟨ad,h1,h2⟩:=h i x hx;exact⟨ad,h1,h2.give⟩⟩
theorem gA.give {b:Nat}{d:Wk}(h:gA γ w b d):gA γ.give w b d:=
 ⟨h.cL.give,h.bC.imp λ_ ⟨h1,h2⟩=>⟨h1.give,h2.give⟩,λi hi=>(h.up i hi).imp λ_ ⟨h1,h2⟩=>⟨h1.give,h2.give⟩,λi hi=>(h.lo i hi).imp λ_ ⟨h1,h2⟩=>⟨h1.give,h2.give⟩⟩
theorem Kept.put {γ0:So}{w0:World}{ad:Addr}{v:Value}(k:Kept γ0 w0 γ w)(h:w0.heap.size<=ad.block):Kept γ0 w0 γ (w.setCell ad v):=
 ⟨k.shr,k.own,λb hb hlt=>(heap_setCell_other _ _ _ _ (by omega)).trans (k.blk b hb hlt),by rw[World.size_setCell];exact k.size,k.env⟩
structure JN (A:Nat->Prop) (B0:Nat) (w0:World) (γ:So) (w:World):Prop where
 lt:∀b,A b->b<B0
 all:∀b,A b->γ.all b
 blk:∀b,A b->w.heap[b]? =w0.heap[b]?
 size:B0<=w.heap.size
 env:w.os=w0.os/\w.output=w0.output
theorem JN.kept {A:Nat->Prop}{B0:Nat}{w0 w':World}{γ':So}(h:JN A B0 w0 γ w)(k:Kept γ w γ' w'):JN A B0 w0 γ' w':=
 ⟨h.lt,λb hb=>k.all (h.all b hb),λb hb=>(k.blk b (h.all b hb) (dH (h.lt b hb) h.size)).trans (h.blk b hb),bD h.size k.size,k.env.1.trans h.env.1,k.env.2.trans h.env.2⟩
theorem JN.give {A:Nat->Prop}{B0:Nat}{w0:World}(h:JN A B0 w0 γ w):JN A B0 w0 γ.give w:=⟨h.lt,λb hb=>LD.2 (h.all b hb),h.blk,h.size,h.env⟩
structure Fx (da db:Wk) (b2 b3 b5 b6 cf cl:Nat) (γ:So) (w:World):Prop where
 wa:gA γ w b2 da
 wb:gA γ w b3 db
 f:bK γ w ⟨b5,0,none⟩ (.chan (some cf))
 l:bK γ w ⟨b6,0,none⟩ (.chan (some cl))
theorem Fx.kept {da db:Wk}{b2 b3 b5 b6 cf cl:Nat}{γ':So}{w':World}(h:Fx da db b2 b3 b5 b6 cf cl γ w)(k:Kept γ w γ' w'):Fx da db b2 b3 b5 b6 cf cl γ' w':=⟨h.wa.kept k,h.wb.kept k,k.sees h.f,k.sees h.l⟩
theorem Fx.give {da db:Wk}{b2 b3 b5 b6 cf cl:Nat}(h:Fx da db b2 b3 b5 b6 cf cl γ w):Fx da db b2 b3 b5 b6 cf cl γ.give w:=⟨h.wa.give,h.wb.give,h.f.give,h.l.give⟩
def OM(b2 b3 b5 b6:Nat)(u:Nat->Value):Act:=
 ⟨#[u 0,u 1,.pointer (some ⟨b2,0,none⟩),.pointer (some ⟨b3,0,none⟩),u 4,.pointer (some ⟨b5,0,none⟩),.pointer (some ⟨b6,0,none⟩),u 7,u 8,u 9,u 10,u 11,u 12,u 13,u 14,u 15,u 16,u 17,u 18,u 19,u 20,u 21,u 22,u 23,u 24,u 25,u 26,u 27,u 28,u 29,u 30,u 31,u 32,u 33,u 34],[]⟩
def J9(b2 b3 b5 b6:Nat)(vl:Value)(nl k:Nat)(u:Nat->Value):Act:=
 ⟨#[u 0,u 1,.pointer (some ⟨b2,0,none⟩),.pointer (some ⟨b3,0,none⟩),u 4,.pointer (some ⟨b5,0,none⟩),.pointer (some ⟨b6,0,none⟩),u 7,u 8,u 9,u 10,u 11,u 12,u 13,u 14,vl,.int .i64 nl,.int .i64 k,u 18,u 19,u 20,u 21,u 22,u 23,u 24,u 25,u 26,u 27,u 28,u 29,u 30,u 31,u 32,u 33,u 34],[]⟩
def aiy(b2 b3 b5 b6 cf:Nat)(out:Value)(u:Nat->Value):Act:=
 ⟨#[u 0,u 1,.pointer (some ⟨b2,0,none⟩),.pointer (some ⟨b3,0,none⟩),u 4,.pointer (some ⟨b5,0,none⟩),.pointer (some ⟨b6,0,none⟩),u 7,u 8,out,u 10,u 11,u 12,u 13,u 14,u 15,u 16,u 17,u 18,u 19,u 20,u 21,u 22,u 23,.chan (some cf),u 25,u 26,u 27,u 28,u 29,u 30,u 31,u 32,u 33,u 34],[]⟩
noncomputable def aeY:Code:=Try.f33.body.getD .skip
noncomputable def sK:Code:=match aeY with|.seq _ (.seq _ (.seq _ x))=>x|_=>.skip
noncomputable def afL:Code:=match sK with|.seq x _=>x|_=>.skip
theorem Lp{cf cl:Nat}{tv z2:Value}{rB:Bool}{K:Nat}{p:Pc}(todo:List (List Value)):chain cf cl tv z2 rB K p todo≠.ret/\chain cf cl tv z2 rB K p todo≠.stop:=by cases todo<;>simp[chain]
def aij(da db:Wk)(b2 b3 b5 b6 cf cl:Nat)(K:Nat)(p:Pc)(A:Nat->Prop)(B0:Nat)(w0:World)(γ':Gm)(e:Exit)(a':Act)(w':World):Prop:=
 e=.normal/\γ'.1=chain cf cl (.bool true) (.bool false) false K p []/\JN A B0 w0 γ'.2 w'/\Fx da db b2 b3 b5 b6 cf cl γ'.2 w'/\(∀b,A b->γ'.2.1 b\/γ'.2.2 b)/\∃vl nl k u,a'=J9 b2 b3 b5 b6 vl nl k u
theorem ad4(hP:Plain Try.prog){b2 b3 b5 b6 cf cl:Nat}{da db:Wk}(wz:da.ok)(Bo:db.ok){K:Nat}{p:Pc}{A:Nat->Prop}{B0:Nat}{w0:World}(hS:JN A B0 w0 γ w)(hF:Fx da db b2 b3 b5 b6 cf cl γ w)(u:Nat->Value):
  KJ (KG Try.prog aa true) 33 (chain cf cl (.bool true) (.bool false) false K p (da.bC.map λx=>msgs da db x db.bC),γ) afL (aij da db b2 b3 b5 b6 cf cl K p A B0 w0) (OM b2 b3 b5 b6 u) w:=by
 have C:=Bw (aa:=aa) (main:=true) hP;have hp:∀todo,chain cf cl (.bool true) (.bool false) false K p todo≠.ret:=λtodo=>(Lp todo).1;obtain⟨v0,YB,AA,cap,rfl,hA⟩:=hF.wa.bC;have hI:Af γ w (.slice AA da.bC.length cap) da.bC:=⟨AA,cap,rfl,hA⟩;have afx:=wz.few;unfold OM;refine bh C (cC C ?_);iterate 2 (refine av C ?_;try walk_nrm)
 refine jx C (hp _) YB ?_;iterate 2 (try walk_nrm;refine av C ?_)
 try walk_nrm
 refine aW C ?_;co_then;refine gI C ?_;clear YB hA;refine qg C (λn γ' a w'=>∃γ3 k,γ'=(chain cf cl (.bool true) (.bool false) false K p ((da.bC.drop k).map λx=>msgs da db x db.bC),γ3)/\JN A B0 w0 γ3 w'/\Fx da db b2 b3 b5 b6 cf cl γ3 w'/\Af γ3 w' (.slice AA da.bC.length cap) da.bC/\k<=da.bC.length/\n=da.bC.length-k/\∃u,a=J9 b2 b3 b5 b6 (.slice AA da.bC.length cap) da.bC.length k u) (n:=da.bC.length) ⟨γ,0,rfl,hS,hF,hI,by omega,by omega,qn rfl⟩ ?_;clear hS hF hI;rintro n γ' a w' ⟨γ3,k,hγ,hS,hF,hI,hk,hn,u,Fs⟩;subst hγ;unfold J9 at Fs;subst Fs;refine bh C (cC C ?_);by_cases hlt:k<da.bC.length
 .have YI:decide ((k:Int)<(da.bC.length:Int))=true:=by simpa using hlt
  obtain⟨x,hx⟩:∃x,da.bC[k]? =some x:=⟨_,bP hlt⟩;have hxb:=wz.bC k x hx;obtain⟨ad,rfl,hsA⟩:∃ad,AA=some ad/\bK γ3 w' (ad.add k) (.int .i64 x):=by obtain⟨A2,tW,he,h2⟩:=hI;cases he;exact h2 k x hx
  have UD:da.bC.drop k=x::da.bC.drop (k+1):=by rw[qP hlt];congr 1;exact cA ((bP hlt).symm.trans hx)
  have hw5:IntKind.i64.wrap ((k:Int)+1)=(k:Int)+1:=by rw[xm]<;>omega
  refine av C ?_;try walk_nrm
  refine aW C ?_;co_then;refine bh C (dW C (t:=true) rfl ?_);simp only[if_true];refine kR C ?_;co_then;refine bh C (gI C (bh C (cC C ?_)));refine av C ?_;try walk_nrm
  refine jx C (hp _) hsA ?_;try walk_nrm
  refine qY C (hp _) (ob:=?ob9) rfl (by rfl) (λw=>run_eq_of λK hK=>?r9) (λw=>?e9) ?h9
  case r9=>go_simp;exact hK
  case e9=>simp[go_sem]
  intro w5 Yv;try walk_nrm
  have Ot:=(Kept.rely Yv).trans (Kept.alloc γ3 w5 w5.heap.size (.cells #[.int .i64 0] 3));have hz5:(w5.alloc (.cells #[.int .i64 0] 3)).frozen? ⟨w5.heap.size,0,none⟩=false:=World.frozen?_alloc_new _ _ _ _;have hs5:bK _ _ ⟨w5.heap.size,0,none⟩ (.int .i64 0):=bK.fresh (γ:=γ3) (w:=w5) (cs:=#[.int .i64 0]) (t:=3) rfl rfl;have SO:(γ3.more w5.heap.size).2 w5.heap.size:=.inr rfl;have ML:w'.heap.size<=w5.heap.size:=Yv.1;generalize w5.alloc (.cells #[.int .i64 0] 3)=w6 at*;generalize γ3.more w5.heap.size=γ6 at*;generalize w5.heap.size=b8 at*;clear hsA Yv;refine Nf C (hp _) (ad:=⟨b8,0,none⟩) (v:=.int .i64 x) rfl (by rfl) SO (λw₁ h₁=>⟨?_,?_⟩) ?_
  .have hc:=(hs5.rely h₁).2;have hz:w₁.frozen? ⟨b8,0,none⟩=false:=(World.frozen?_of_block (h₁.2.1 b8 (.inr SO))).trans hz5;refine(?_:∀K:Result Next->Prop,K (.ok .skip (w₁.setCell ⟨b8,0,none⟩ (.int .i64 x)))->K _) (·=_) rfl;intro K hK
   go_simp
   try(unfold stored;go_simp)
   exact hK
  .have hc:=(hs5.rely h₁).2;have hz:w₁.frozen? ⟨b8,0,none⟩=false:=(World.frozen?_of_block (h₁.2.1 b8 (.inr SO))).trans hz5;intro e he;simp[go_sem,hc,hz]at he;exact he
  intro w7 r7;try walk_nrm
  have X8:=(Ot.trans (Kept.rely r7)).put (ad:=⟨b8,0,none⟩) (v:=.int .i64 x) ML;have hx7:bK γ6 (w7.setCell ⟨b8,0,none⟩ (.int .i64 x)) ⟨b8,0,none⟩ (.int .i64 x):=⟨.inr SO,World.cell?_setCell_same _ _ _ (hs5.rely r7).2⟩;generalize w7.setCell ⟨b8,0,none⟩ (.int .i64 x)=w8 at*;clear hs5 hz5 r7 Ot ML;have hF8:=hF.kept X8;have hS8:=hS.kept X8;have hI8:=X8.HB hI;clear hF hS hI X8;refine aW C ?_;co_then;refine cC C ?_;refine eA C (v:=?v10) rfl (by rfl) (λw=>run_eq_of λK hK=>?r10) (λw=>?e10) ?ue
  case r10=>go_simp;exact hK
  case e10=>simp[go_sem,Instr.makeFunc]
  try walk_nrm
  rw[UD,bn];show KO _ _ (Pc.go (wk cf cl (.bool true) (msgs da db x db.bC)) (chain cf cl (.bool true) (.bool false) false K p ((da.bC.drop (k+1)).map λx=>msgs da db x db.bC)),γ6) _ _ _ _ _;refine abP (d:=call84 b3 b2 b8 b5 b6) (f:=.func 58) (cap:=#[.pointer (some ⟨b3,0,none⟩),.pointer (some ⟨b2,0,none⟩),.pointer (some ⟨b8,0,none⟩),.pointer (some ⟨b5,0,none⟩),.pointer (some ⟨b6,0,none⟩)]) rfl (by rfl) (λw=>?_) (λw=>?_) rfl (Lp _).2 (λ_=>hp _) (λw9 r9 w10 r10=>?_) (λw9 r9 w10 r10=>?_);.simp[execOp,resolve,Act.eval,call84,Deferred.ofValue]
  .simp[execOp,resolve,Act.eval,Deferred.ofValue]
  .have hk:=(Kept.rely r9);have pG:=(Kept.rely r10);have QD:=((hF8.kept hk).give).kept pG;exact Q3 hP wz Bo hxb.1 (by omega) QD.wa QD.wb (pG.sees (hk.sees hx7).give) QD.f QD.l
  have QD:=((hF8.kept (Kept.rely r9)).give).kept (Kept.rely r10);have hS9:=((hS8.kept (Kept.rely r9)).give).kept (Kept.rely r10);have hI9:=(Kept.rely r10).HB ((Kept.rely r9).HB hI8).give;clear hF8 hS8 hI8 hx7;try walk_nrm
  refine aW C ?_;co_then;refine cC C ?_;iterate 2 (refine av C ?_;try walk_nrm)
  refine aW C (eN ?_);exact⟨da.bC.length-(k+1),by omega,_,k+1,rfl,hS9,QD,hI9,by omega,rfl,qn rfl⟩
 have Oq:k=da.bC.length:=by omega
 subst Oq;have YI:decide ((da.bC.length:Int)<(da.bC.length:Int))=false:=by simp
 simp only[List.drop_length,fG];refine av C ?_;try walk_nrm
 refine aW C ?_;co_then;refine bh C (dW C (t:=false) rfl ?_);simp only[aI,if_false];refine oO C ?_;co_then;exact⟨rfl,rfl,hS,hF,hS.all,_,_,_,qn (F:=λu=>J9 b2 b3 b5 b6 (.slice AA da.bC.length cap) da.bC.length da.bC.length u) rfl⟩
end Go.Co
namespace Go.Co
open Go Go.Conc Go.Proofs
open Classical
variable {P:Program} {aa:Machine->Trace->Prop} {main:Bool} {K:Gm->Goroutine->World->Prop} {fn:FuncId} {p:Pc} {γ:So} {Q:Gm->Exit->Act->World->Prop} {a:Act} {w:World} {ops:Array Oper} {i:Nat} {rest:List Nat} {o:Oper}
theorem aaG(C:KC P main K CM HL)(hp:p≠.ret){b:Nat}{x y z:Value}(ho:ops[i]? =some o)(hw:Region.wanted o (yielded ops a.tmps)=true)(hO:γ.2 b)
  (hrun:∀w₁,jo γ w w₁->(execOp a.eval o).run P w₁=.ok .skip (((w₁.setCell ⟨b,0,none⟩ x).setCell ⟨b,1,none⟩ y).setCell ⟨b,2,none⟩ z)/\∀e∈(execOp a.eval o).events P w₁ #[],∃j,e=⟨.cell ⟨b,j,none⟩,true,false⟩)
  (h:∀w₁,jo γ w w₁->KO K fn (p,γ) ops rest Q (a.put o.dst undef) (((w₁.setCell ⟨b,0,none⟩ x).setCell ⟨b,1,none⟩ y).setCell ⟨b,2,none⟩ z)):KO K fn (p,γ) ops (i::rest) Q a w:=
 yS C ho hw λw₁ r=>by
  obtain⟨h1,h2⟩:=hrun w₁ (Yw hp r);rw[h1];have hsz:(((w₁.setCell ⟨b,0,none⟩ x).setCell ⟨b,1,none⟩ y).setCell ⟨b,2,none⟩ z).heap.size=w₁.heap.size:=by rw[World.size_setCell,World.size_setCell,World.size_setCell]
  refine⟨(p,γ),stg hp ⟨rfl,λc=>⟨.inl,λh=>h.elim id λh=>absurd h.2 (by omega)⟩,by omega,λc _ hn=>?_,rfl,rfl,rfl,λe he=>?_⟩,h w₁ (Yw hp r)⟩;.have hne:c≠b:=λe=>hn (e▸hO);rw[heap_setCell_other _ _ _ _ hne,heap_setCell_other _ _ _ _ hne,heap_setCell_other _ _ _ _ hne]
  obtain⟨j,rfl⟩:=h2 e (mem_listed he);exact .inl ⟨_,true,false,rfl,λ_=>hO,.inr hO⟩
theorem JN.append {A:Nat->Prop}{B0:Nat}{w0 w':World}{γ':So}{v:Value}(h:JN A B0 w0 γ w)(h1:γ'.1=γ.1)(h2:∀b,γ.2 b->γ'.2 b)(h3:w.heap.size<=w'.heap.size)
  (h4:∀b,γ.all b->b<w.heap.size->some b≠v.ownBlock->w'.heap[b]? =w.heap[b]?) (h5:w'.os=w.os/\w'.output=w.output) (hb:∀b,v.ownBlock=some b->B0<=b):JN A B0 w0 γ' w':=
 ⟨h.lt,λb hlt=>(h.all b hlt).imp (by rw[h1];exact id) (h2 b),λb hlt=>(h4 b (h.all b hlt) (dH (h.lt b hlt) h.size) λe=>by have:=hb b e.symm;have:=h.lt b hlt;omega).trans (h.blk b hlt),bD h.size h3,h5.1.trans h.env.1,h5.2.trans h.env.2⟩
abbrev Sm:=Int×Int×Int
def wq(m:Sm):Value:=Bs m.1 m.2.1 m.2.2
def sA(m:Sm):List Value:=[.int .i64 m.1,.int .i64 m.2.1,.int .i64 m.2.2]
theorem Jy{id:Nat}{R:Exit->Act->World->Prop}(h:R .normal a w):Exit.inBlock id R .normal a w:=h
theorem IF(l:List Sm):(l.flatMap sA).length=l.length*3:=by
 induction l with
 |nil=>rfl
 |cons m l ih=>simp only[cT,bU,ih,sA,dN,mz];omega
theorem ZU{m m':Sm}(h:wq m=wq m'):m=m':=by obtain⟨a,b,c⟩:=m;obtain⟨a',b',c'⟩:=m';simp[wq,Bs]at h;obtain⟨rfl,rfl,rfl⟩:=h;rfl
theorem Ho(m:Sm):∀l:List Sm,(l.map wq).erase (wq m)=(l.erase m).map wq
 |[]=>rfl
 |a::l=>by
  rw[bn,List.erase_cons,List.erase_cons];by_cases h:a=m;.subst h;simp
  have h2:¬wq a=wq m:=λe=>h (ZU e);simp[h,h2,Ho m l]
theorem aa5(cf:Nat)(z:Value):CL cf z []=.recv cf true z λx=>match x with|some _=>.bad|none=>.ret:=rfl
theorem XQ(cf:Nat)(z v0:Value)(vs:List Value):CL cf z (v0::vs)=.recv cf true z λx=>match x with|some v=>if v∈v0::vs then CL cf z ((v0::vs).erase v)else .bad|none=>.bad:=by
 unfold CL;show Pc.recv cf true z (λx=>match x with|some v=>if v∈v0::vs then Zi cf z vs.length ((v0::vs).erase v)else .bad|none=>.bad)=_;congr 1;funext x;cases x with
 |none=>rfl
 |some v=>
  simp only;split;.rename_i h;rw[C2 h];rfl
  rfl
def UJ(out:Value)(u:Nat->Value):Act:=
 ⟨#[u 0,u 1,u 2,u 3,u 4,u 5,u 6,u 7,u 8,out,u 10,u 11,u 12,u 13,u 14,u 15,u 16,u 17,u 18,u 19,u 20,u 21,u 22,u 23,u 24,u 25,u 26,u 27,u 28,u 29,u 30,u 31,u 32,u 33,u 34],[]⟩
def OO(cf:Nat)(out:Value)(u:Nat->Value):Act:=
 ⟨#[u 0,u 1,u 2,u 3,u 4,u 5,u 6,u 7,u 8,out,u 10,u 11,u 12,u 13,u 14,u 15,u 16,u 17,u 18,u 19,u 20,u 21,u 22,u 23,.chan (some cf),u 25,u 26,u 27,u 28,u 29,u 30,u 31,u 32,u 33,u 34],[]⟩
def adw(A:Nat->Prop)(B0:Nat)(w0:World)(R:List Sm)(γ':Gm)(e:Exit)(a':Act)(w':World):Prop:=
 e=.normal/\γ'.1=.ret/\JN A B0 w0 γ'.2 w'/\∃(got:List Sm)(out:Value),got.Perm R/\w'.ownsRow B0 56 3 out got.length (got.flatMap sA)/\∃u,a'=UJ out u
noncomputable def UT:Code:=match sK with|.seq _ (.seq _ (.seq _ (.seq (.seq _ x) _)))=>x|_=>.skip
theorem XP(hP:Plain Try.prog){cf:Nat}{A:Nat->Prop}{B0:Nat}{w0:World}{R:List Sm}(hR:R.length<=4294967296)(hS:JN A B0 w0 γ w)(u:Nat->Value):
  KJ (KG Try.prog aa true) 33 (CL cf (.agg #[.int .i64 0,.int .i64 0,.int .i64 0]) (R.map wq),γ) UT (adw A B0 w0 R) (OO cf (.slice none 0 0) u) w:=by
 have C:=Bw (aa:=aa) (main:=true) hP;obtain⟨i0,C9,JG,SE,hz2⟩:=info_parts Ni;have hzv:∀w,(zeroValue 56).run Try.prog w=.ok (.agg #[.int .i64 0,.int .i64 0,.int .i64 0]) w:=λw=>by simp[zeroValue,typeInfo,C9,JG]
 have hze:∀w es,(zeroValue 56).events Try.prog w es=es:=λw es=>by simp[zeroValue,typeInfo,C9,JG]
 have hrun:∀(T:Act)(o:Oper)(w:World),o.op=.recv 115 (.tmp 24) true->T.eval (.tmp 24)=.chan (some cf)->(execOp T.eval o).run Try.prog w=.ok (.comm #[rcase cf (.agg #[.int .i64 0,.int .i64 0,.int .i64 0])] true (.recv true)) w:=by intro T o w ho hT;simp[execOp,ho,run_underlying Try.underlying115,hzv,rcase,hT]
 have wE:∀(T:Act)(o:Oper)(w:World),o.op=.recv 115 (.tmp 24) true->(execOp T.eval o).events Try.prog w #[]=#[]:=by intro T o w ho;simp[execOp,ho,run_underlying Try.underlying115,hze]
 refine gI C ?_;refine qg C (λn γ' a w'=>∃(γ3:So)(rem got:List Sm)(out:Value),γ'=(CL cf (.agg #[.int .i64 0,.int .i64 0,.int .i64 0]) (rem.map wq),γ3)/\JN A B0 w0 γ3 w'/\lU γ3 w' B0 56 3 out got.length (got.flatMap sA)/\(got++rem).Perm R/\n=rem.length/\∃u,a=OO cf out u) (n:=R.length) ⟨γ,R,[],.slice none 0 0,rfl,hS,lU.nil _ _ _,by simp,rfl,u,rfl⟩ ?_;clear hS;rintro n γ' a w' ⟨γ3,rem,got,out,hγ,hS,fN,Uy,hn,u,Fs⟩;subst hγ;unfold OO at Fs;subst Fs;have hlen:got.length+rem.length<=4294967296:=by have h1:=Uy.length_eq;rw[bU]at h1;omega
 refine bh C (cC C ?_);cases rem with
 |nil=>
  simp only[fG];rw[aa5];refine I7 rfl (by rfl) (λw=>hrun _ _ w rfl rfl) (λw=>wE _ _ w rfl) (λx=>by cases x<;>simp) (λh=>by cases h) (λx w7 r7=>?_);cases x with
  |some v=>exact Io
  |none=>
   have hS7:=hS.kept (Kept.rely r7);have Gg:=fN.rely r7;simp only[Option.getD_none,Option.isSome_none,recvd];try walk_nrm
   refine av C ?_;try walk_nrm
   refine aW C ?_;co_then;refine bh C (dW C (t:=false) rfl ?_);simp only[aI,if_false];refine oO C ?_;co_then;exact⟨rfl,rfl,hS7,got,out,by simpa using Uy,Gg.1,qn (F:=λu=>UJ out u) rfl⟩
 |cons m0 ms=>
  simp only[bn];rw[XQ];refine I7 rfl (by rfl) (λw=>hrun _ _ w rfl rfl) (λw=>wE _ _ w rfl) (λx=>?_) (λh=>by cases h) (λx w7 r7=>?_)
  .cases x with
   |none=>simp
   |some v=>
    simp only;split;.obtain⟨q,hq⟩:=wj (cf:=cf) (z:=.agg #[.int .i64 0,.int .i64 0,.int .i64 0]) ((wq m0::ms.map wq).erase v);rw[hq];simp
    simp
  cases x with
  |none=>exact Io
  |some v=>
   simp only;by_cases hv:v∈wq m0::ms.map wq
   .rw[if_pos hv];obtain⟨m,hm,rfl⟩:∃m,m∈m0::ms/\wq m=v:=by have:v∈(m0::ms).map wq:=hv;exact dM.1 this
    have ahF:(wq m0::ms.map wq).erase (wq m)=((m0::ms).erase m).map wq:=Ho m (m0::ms);rw[ahF];have hp2:=List.perm_cons_erase hm;have UA:=C2 hm;generalize(m0::ms).erase m=YX at*;obtain⟨x,y,s⟩:=m;have hp:CL cf (.agg #[.int .i64 0,.int .i64 0,.int .i64 0]) (YX.map wq)≠.ret:=by obtain⟨q,hq⟩:=wj (cf:=cf) (z:=.agg #[.int .i64 0,.int .i64 0,.int .i64 0]) (YX.map wq);rw[hq];simp
    have hS7:=hS.kept (Kept.rely r7);have Gg:=fN.rely r7;clear hS fN;simp only[kU,Option.isSome_some,recvd,wq,Bs];try walk_nrm
    refine av C ?_;try walk_nrm
    refine aW C ?_;co_then;refine bh C (dW C (t:=true) rfl ?_);simp only[if_true];refine kR C ?_;co_then;refine gI C (bh C (cC C ?_));refine av C ?_;try walk_nrm
    refine qY C hp (ob:=?ob4) rfl (by rfl) (λw=>run_eq_of λK hK=>?r4) (λw=>?e4) ?h4
    case r4=>go_simp;exact hK
    case e4=>simp[go_sem]
    intro w5 Yv;try walk_nrm
    have Ot:=(Kept.rely Yv).trans (Kept.alloc γ3 w5 w5.heap.size (.cells #[.int .i64 0,.int .i64 0,.int .i64 0] 56));have hz5:∀j,(w5.alloc (.cells #[.int .i64 0,.int .i64 0,.int .i64 0] 56)).frozen? ⟨w5.heap.size,j,none⟩=false:=λj=>World.frozen?_alloc_new _ _ _ _;have h50:bK _ _ ⟨w5.heap.size,0,none⟩ (.int .i64 0):=bK.fresh (γ:=γ3) (w:=w5) (cs:=#[.int .i64 0,.int .i64 0,.int .i64 0]) (t:=56) rfl rfl;have h51:bK _ _ ⟨w5.heap.size,1,none⟩ (.int .i64 0):=bK.fresh (γ:=γ3) (w:=w5) (cs:=#[.int .i64 0,.int .i64 0,.int .i64 0]) (t:=56) rfl rfl;have h52:bK _ _ ⟨w5.heap.size,2,none⟩ (.int .i64 0):=bK.fresh (γ:=γ3) (w:=w5) (cs:=#[.int .i64 0,.int .i64 0,.int .i64 0]) (t:=56) rfl rfl;have SO:(γ3.more w5.heap.size).2 w5.heap.size:=.inr rfl;have ML:w7.heap.size<=w5.heap.size:=Yv.1;generalize w5.alloc (.cells #[.int .i64 0,.int .i64 0,.int .i64 0] 56)=w6 at*;generalize γ3.more w5.heap.size=γ6 at*;generalize w5.heap.size=b8 at*;clear Yv;refine aaG C hp (b:=b8) (x:=.int .i64 x) (y:=.int .i64 y) (z:=.int .i64 s) rfl (by rfl) SO (λw₁ h₁=>⟨?_,?_⟩) ?_
    .have hc0:=(h50.rely h₁).2;have Da:=(h51.rely h₁).2;have Ah:=(h52.rely h₁).2;have hz:∀j,w₁.frozen? ⟨b8,j,none⟩=false:=λj=>(World.frozen?_of_block (h₁.2.1 b8 (.inr SO))).trans (hz5 j);refine(?_:∀K:Result Next->Prop,K (.ok .skip (((w₁.setCell ⟨b8,0,none⟩ (.int .i64 x)).setCell ⟨b8,1,none⟩ (.int .i64 y)).setCell ⟨b8,2,none⟩ (.int .i64 s)))->K _) (·=_) rfl;intro K hK
     go_simp
     try(unfold stored;go_simp)
     exact hK
    .have hc0:=(h50.rely h₁).2;have Da:=(h51.rely h₁).2;have Ah:=(h52.rely h₁).2;have hz:∀j,w₁.frozen? ⟨b8,j,none⟩=false:=λj=>(World.frozen?_of_block (h₁.2.1 b8 (.inr SO))).trans (hz5 j);intro e he;simp[go_sem,hc0,Da,Ah,hz]at he;rcases he with rfl|rfl|rfl;.exact⟨0,rfl⟩
     .exact⟨1,rfl⟩
     exact⟨2,rfl⟩
    intro w9 r9;try walk_nrm
    have hk9:=(((Ot.trans (Kept.rely r9)).put (ad:=⟨b8,0,none⟩) (v:=.int .i64 x) ML).put (ad:=⟨b8,1,none⟩) (v:=.int .i64 y) ML).put (ad:=⟨b8,2,none⟩) (v:=.int .i64 s) ML;have s0:bK γ6 (((w9.setCell ⟨b8,0,none⟩ (.int .i64 x)).setCell ⟨b8,1,none⟩ (.int .i64 y)).setCell ⟨b8,2,none⟩ (.int .i64 s)) ⟨b8,0,none⟩ (.int .i64 x):=
     bK.put (bK.put ⟨.inr SO,World.cell?_setCell_same _ _ _ (h50.rely r9).2⟩ (by simp)) (by simp)
    have s1:bK γ6 (((w9.setCell ⟨b8,0,none⟩ (.int .i64 x)).setCell ⟨b8,1,none⟩ (.int .i64 y)).setCell ⟨b8,2,none⟩ (.int .i64 s)) ⟨b8,1,none⟩ (.int .i64 y):=
     bK.put ⟨.inr SO,World.cell?_setCell_same _ _ _ ((h51.rely r9).put (by simp)).2⟩ (by simp)
    have s2:bK γ6 (((w9.setCell ⟨b8,0,none⟩ (.int .i64 x)).setCell ⟨b8,1,none⟩ (.int .i64 y)).setCell ⟨b8,2,none⟩ (.int .i64 s)) ⟨b8,2,none⟩ (.int .i64 s):=
     ⟨.inr SO,World.cell?_setCell_same _ _ _ (((h52.rely r9).put (by simp)).put (by simp)).2⟩
    generalize((w9.setCell ⟨b8,0,none⟩ (.int .i64 x)).setCell ⟨b8,1,none⟩ (.int .i64 y)).setCell ⟨b8,2,none⟩ (.int .i64 s)=w10 at*;have afD:=hS7.kept hk9;have Vt:=Gg.kept hk9;clear hk9 Ot h50 h51 h52 hz5 r9 ML hS7 Gg SO;refine aW C ?_;co_then;refine cC C ?_;refine av C ?_;try walk_nrm
    refine qX C hp (v:=?v6) rfl (by rfl) (λw₁ h₁=>⟨run_eq_of λK hK=>?r6,?e6⟩) ?h6
    case r6=>have hc0:=(bK.rely s0 h₁).2;have Da:=(bK.rely s1 h₁).2;have Ah:=(bK.rely s2 h₁).2;go_simp;exact hK
    case e6=>
     have hc0:=(bK.rely s0 h₁).2;have Da:=(bK.rely s1 h₁).2;have Ah:=(bK.rely s2 h₁).2;intro e he;simp[go_sem,hc0,Da,Ah]at he;rcases he with rfl|rfl|rfl;.exact(bK.rely s0 h₁).JD
     .exact(bK.rely s1 h₁).JD
     exact(bK.rely s2 h₁).JD
    try walk_nrm
    refine Vm C hp (ob:=?ob7) (n:=1) rfl (by rfl) (λw=>run_eq_of λK hK=>?r7) (λw=>?e7) ?h7
    case r7=>go_simp;exact hK
    case e7=>simp[go_sem]
    intro SX ahr;try walk_nrm
    have ac4:=(Kept.rely ahr).trans (Kept.alloc γ6 SX SX.heap.size (.cells #[.int .i64 x,.int .i64 y,.int .i64 s] 56));have ahH:∀(j:Nat)(u:Value),(sA (x,y,s))[j]? =some u->bK (γ6.more SX.heap.size) (SX.alloc (.cells #[.int .i64 x,.int .i64 y,.int .i64 s] 56)) ((⟨SX.heap.size,0,none⟩:Addr).add j) u:=by intro j u hu;rw[Addr.add_lit];simp only[jk];refine bK.fresh (γ:=γ6) (w:=SX) rfl ?_;simpa [sA]using hu
    have afC:=afD.kept ac4;have Vs:=Vt.kept ac4;have aeK:(γ6.more SX.heap.size).all SX.heap.size:=.inr (.inr rfl);generalize SX.alloc (.cells #[.int .i64 x,.int .i64 y,.int .i64 s] 56)=w12 at*;generalize γ6.more SX.heap.size=γ12 at*;generalize SX.heap.size=b12 at*;clear afD Vt s0 s1 s2 ac4;have Ff:=IF got;refine G3 C hp (B:=B0) (news:=sA (x,y,s)) (m:=1) (c:=1) (ad:=⟨b12,0,none⟩) (n:=got.length) (xs:=got.flatMap sA) (v:=out) rfl (by rfl) rfl Try.underlying33 C9 JG SE hz2 rfl (by decide) rfl rfl afC.size Vs rfl ahH aeK (by simp[sA,Value.oneCell']) (by simp only[maxLen];omega) (by omega) ?_;intro v13 w13 γ13 YF Mf hg3 hg4 hg5 aeE;have ah6:=afC.append YF Mf hg3 hg4 hg5 (v:=out) (λb hb=>(Vs.1.lt b hb).1);try walk_nrm
    refine av C ?_;try walk_nrm
    refine aW C (Jy (eN ?_));refine⟨YX.length,by simp only[dN]at UA hn;omega,γ13,YX,got++[(x,y,s)],v13,rfl,ah6,?_,?_,rfl,qn rfl⟩;.rw[bU,List.flatMap_append];simpa using aeE
    rw[jm];exact(List.Perm.append_left got hp2.symm).trans Uy
   rw[if_neg hv];exact Io
end Go.Co
namespace Go.Co
open Go Go.Conc Go.Proofs
open Classical
variable {P:Program} {aa:Machine->Trace->Prop} {γ:So} {w:World}
noncomputable def Iv:Code:=match sK with|.seq _ (.seq _ (.seq _ (.seq _ x)))=>x|_=>.skip
noncomputable def ahc:Code:=match sK with|.seq _ (.seq x _)=>x|_=>.skip
noncomputable def ahb:Code:=match sK with|.seq _ (.seq _ (.seq x _))=>x|_=>.skip
noncomputable def ae5:Code:=match sK with|.seq _ (.seq _ (.seq _ (.seq (.seq x _) _)))=>x|_=>.skip
def en(da db:Wk):List Sm:=da.bC.flatMap λx=>db.bC.flatMap λy=>(gD da db x y).map λs=>(x,y,s)
theorem PK(da db:Wk)(x:Int):∀ys:List Int,msgs da db x ys=(ys.flatMap λy=>(gD da db x y).map λs=>(x,y,s)).map wq
 |[]=>rfl
 |y::ys=>by rw[GR,PK da db x ys,cT,dY,qF];rfl
theorem aaQ(da db:Wk):(da.bC.map λx=>msgs da db x db.bC).flatten=(en da db).map wq:=by
 unfold en;induction da.bC with
 |nil=>rfl
 |cons x l ih=>rw[bn,List.flatten_cons,ih,cT,dY,PK]
theorem ve{α β:Type}(f:α->List β)(c:Nat):∀l:List α,(∀x∈l,(f x).length<=c)->(l.flatMap f).length<=l.length*c
 |[],_=>by simp
 |a::l,h=>by have h1:=h a (by simp);have h2:=ve f c l λx hx=>h x (by simp[hx]);rw[cT,bU,dN,jX];omega
theorem EE{da db:Wk}(wz:da.ok)(Bo:db.ok):(en da db).length<=4294967296:=by
 have h1:∀x∈da.bC,(db.bC.flatMap λy=>(gD da db x y).map λs=>(x,y,s)).length<=1000*2001:=by intro x _;refine bD (ve _ 2001 _ λy _=>?_) (fU _ Bo.few);rw[List.length_map];have h2:=(Bo.up y.toNat).1;have h3:=(wz.lo x.toNat).1;exact bD (II _ _ _ _) (by omega)
 have h4:=ve _ _ _ h1;have h5:=fU (1000*2001) wz.few;unfold en;omega
theorem aag(hP:Plain Try.prog){b2 b3 b5 b6 cf cl:Nat}{da db:Wk}(wz:da.ok)(Bo:db.ok){A:Nat->Prop}{B0:Nat}{w0:World}(hS:JN A B0 w0 γ w)(hF:Fx da db b2 b3 b5 b6 cf cl γ w)(u:Nat->Value){Qf:Exit->Act->World->Prop}
  (hT:∀γ' a' w',adw A B0 w0 (en da db) (.ret,γ') .normal a' w'->KJ (jf Try.prog aa) 33 () Iv (λ_=>Qf) a' w'):
  KJ (KG Try.prog aa true) 33 (chain cf cl (.bool true) (.bool false) false da.bC.length (CL cf (.agg #[.int .i64 0,.int .i64 0,.int .i64 0]) ((en da db).map wq)) (da.bC.map λx=>msgs da db x db.bC),γ) sK (λγ' e a' w'=>γ'.1=.ret/\Qf e a' w') (OM b2 b3 b5 b6 u) w:=by
 have C:=Bw (aa:=aa) (main:=true) hP;have ac6:CL cf (.agg #[.int .i64 0,.int .i64 0,.int .i64 0]) ((en da db).map wq)≠.ret/\CL cf (.agg #[.int .i64 0,.int .i64 0,.int .i64 0]) ((en da db).map wq)≠.stop:=by obtain⟨q,hq⟩:=wj (cf:=cf) (z:=.agg #[.int .i64 0,.int .i64 0,.int .i64 0]) ((en da db).map wq);rw[hq];simp
 generalize QB:CL cf (.agg #[.int .i64 0,.int .i64 0,.int .i64 0]) ((en da db).map wq)=pc at*;show KJ _ _ _ (.seq afL (.seq ahc (.seq ahb (.seq (.seq ae5 UT) Iv)))) _ _ _;refine bh C (yT (ad4 hP wz Bo hS hF u) ?_);rintro⟨p',γ'⟩ e a' w' ⟨rfl,tA,CJ,hF',-,vl,nl,k,u',rfl⟩;simp only at tA CJ hF';subst tA;unfold J9;refine bh C (cC C ?_);refine eA C (v:=?v1) rfl (by rfl) (λw=>run_eq_of λK hK=>?r1) (λw=>?e1) ?h1
 case r1=>go_simp;exact hK
 case e1=>simp[go_sem,Instr.makeFunc]
 try walk_nrm
 show KO _ _ (Pc.go (JE cf cl (.bool false) false da.bC.length) pc,γ') _ _ _ _ _;refine abP (d:=call85 b2 b6 b5) (f:=.func 60) (cap:=#[.pointer (some ⟨b2,0,none⟩),.pointer (some ⟨b6,0,none⟩),.pointer (some ⟨b5,0,none⟩)]) rfl (by rfl) (λw=>?_) (λw=>?_) rfl ac6.2 (λ_=>ac6.1) (λw9 r9 w10 r10=>?_) (λw9 r9 w10 r10=>?_);.simp[execOp,resolve,Act.eval,call85,Deferred.ofValue]
 .simp[execOp,resolve,Act.eval,Deferred.ofValue]
 .have QD:=((hF'.kept (Kept.rely r9)).give).kept (Kept.rely r10);exact Sv hP wz QD.wa QD.f QD.l
 have QD:=((hF'.kept (Kept.rely r9)).give).kept (Kept.rely r10);have hS9:=((CJ.kept (Kept.rely r9)).give).kept (Kept.rely r10);have hf9:=QD.f;clear hF' CJ QD;try walk_nrm
 refine aW C ?_;co_then;refine bh C (cC C ?_);refine av C ?_;try walk_nrm
 refine aW C ?_;co_then;refine bh C (bh C (cC C ?_));refine qX C ac6.1 (v:=?v21) rfl (by rfl) (λw₁ h₁=>⟨run_eq_of λK hK=>?r21,?e21⟩) ?h21
 case r21=>have hc:=(bK.rely hf9 h₁).2;go_simp;exact hK
 case e21=>have hc:=(bK.rely hf9 h₁).2;intro e he;simp[go_sem,hc]at he;subst he;exact(bK.rely hf9 h₁).JD
 try walk_nrm
 refine aW C ?_;co_then;subst QB;refine(?_:∀a',(∃u,a'=OO cf (.slice none 0 0) u)->KJ _ _ _ UT _ a' _) _ (qn rfl);rintro a' ⟨u2,rfl⟩;refine yT (XP hP (EE wz Bo) hS9 u2) ?_;rintro⟨p3,γ3⟩ e a3 w3 hE;have he:=hE.1;have hp3:=hE.2.1;simp only at hp3;subst he;subst hp3;refine(?_:KJ (KG Try.prog aa true) 33 (.ret,γ3) Iv (λγ' e a' w'=>γ'.1=.ret/\Qf e a' w') a3 w3);exact Xx (yT (hT γ3 a3 w3 hE) λ_ e a w q=>⟨rfl,q⟩)
end Go.Co
namespace Go.Co
open Go Go.Conc Go.Proofs
open Classical
variable {P:Program} {aa:Machine->Trace->Prop} {γ:So} {w:World}
theorem agq{fn:FuncId}{c:Code}{a:Act}{Q:Gm->Exit->Act->World->Prop}(h:∀w1,jo γ w w1->KJ (jf P aa) fn () c (λ_ e a w'=>∃γ',Q (.bad,γ') e a w') a w1):KJ (QZ P aa) fn (.bad,γ) c Q a w:=by
 intro b k cs hb hk hc _ w1 r;refine h w1 r b k cs hb hk λ_ e a' w' q=>?_;obtain⟨γ',q⟩:=q;have h:=hc _ _ _ _ q;cases e with
 |normal=>exact h rfl w' (iP _ _)
 |exit id=>obtain⟨k',h1,h2⟩:=h;exact⟨k',h1,h2 rfl w' (iP _ _)⟩
 |ret=>exactλtodo=>h todo rfl w' (iP _ _)
 |goto l=>exact h
 |panic ch=>exact h
 |outgrown=>exact h
structure wQ (γ:So) (w:World) (cs:Array Value) (d:Wk):Prop where
 cL:cs[2]? =some (.int .i64 d.cL)
 bC:∃v,cs[3]? =some v/\Af γ w v d.bC
 up:∀i,i<4->∃v,cs[4+i*2]? =some v/\Af γ w v (d.up i)
 lo:∀i,i<4->∃v,cs[4+i*2+1]? =some v/\Af γ w v (d.lo i)
theorem wQ.kept {cs:Array Value}{d:Wk}{γ':So}{w':World}(h:wQ γ w cs d)(k:Kept γ w γ' w'):wQ γ' w' cs d:=
 ⟨h.cL,h.bC.imp λ_ ⟨h1,h2⟩=>⟨h1,k.HB h2⟩,λi hi=>(h.up i hi).imp λ_ ⟨h1,h2⟩=>⟨h1,k.HB h2⟩,λi hi=>(h.lo i hi).imp λ_ ⟨h1,h2⟩=>⟨h1,k.HB h2⟩⟩
theorem wQ.boxed {cs:Array Value}{d:Wk}{t:TypeId}(h:wQ γ w cs d):gA (γ.more w.heap.size) (w.alloc (.cells cs t)) w.heap.size d:=by have k:=Kept.alloc γ w w.heap.size (.cells cs t);exact⟨bK.fresh rfl h.cL,h.bC.imp λ_ ⟨h1,h2⟩=>⟨bK.fresh rfl h1,k.HB h2⟩,λi hi=>(h.up i hi).imp λ_ ⟨h1,h2⟩=>⟨bK.fresh rfl h1,k.HB h2⟩,λi hi=>(h.lo i hi).imp λ_ ⟨h1,h2⟩=>⟨bK.fresh rfl h1,k.HB h2⟩⟩
def Ch(γ:So)(w:World)(c:Nat):Prop:=γ.all c/\w.heap[c]? =some (.chan 0 #[] false 0 0 false)
theorem Ch.lt {c:Nat}(h:Ch γ w c):c<w.heap.size:=(aN.1 h.2).1
theorem Ch.kept {c:Nat}{γ':So}{w':World}(h:Ch γ w c)(k:Kept γ w γ' w'):Ch γ' w' c:=⟨k.all h.1,(k.blk c h.1 h.lt).trans h.2⟩
def Shr(w:World)(cf cl:Nat):So:=(λb=>b<w.heap.size/\b≠cf/\b≠cl,λ_=>False)
theorem bK.shr {cf cl:Nat}{ad:Addr}{v:Value}(hf:Ch γ w cf)(hl:Ch γ w cl)(h:bK γ w ad v):bK (Shr w cf cl) w ad v:=by
 refine⟨.inl ⟨h.lt,λe=>?_,λe=>?_⟩,h.2⟩;.have:=h.2;simp[World.cell?,e,hf.2]at this
 have:=h.2;simp[World.cell?,e,hl.2]at this
theorem Af.shr {cf cl:Nat}{v:Value}{l:List Int}(hf:Ch γ w cf)(hl:Ch γ w cl)(h:Af γ w v l):Af (Shr w cf cl) w v l:=by obtain⟨A,cap,rfl,h⟩:=h;exact⟨A,cap,rfl,λi x hx=>by obtain⟨ad,h1,h2⟩:=h i x hx;exact⟨ad,h1,h2.shr hf hl⟩⟩
theorem gA.shr {cf cl b:Nat}{d:Wk}(hf:Ch γ w cf)(hl:Ch γ w cl)(h:gA γ w b d):gA (Shr w cf cl) w b d:=
 ⟨h.cL.shr hf hl,h.bC.imp λ_ ⟨h1,h2⟩=>⟨h1.shr hf hl,h2.shr hf hl⟩,λi hi=>(h.up i hi).imp λ_ ⟨h1,h2⟩=>⟨h1.shr hf hl,h2.shr hf hl⟩,λi hi=>(h.lo i hi).imp λ_ ⟨h1,h2⟩=>⟨h1.shr hf hl,h2.shr hf hl⟩⟩
def Old(A:Nat->Prop)(B0:Nat)(w0 w:World):Prop:=(∀b,A b->w.heap[b]? =w0.heap[b]?)/\B0<=w.heap.size/\w.os=w0.os/\w.output=w0.output
def VK(aa:Machine->Trace->Prop)(R:List Sm):Prop:=∀A B0 w0 γ' a' w',adw A B0 w0 R (.ret,γ') .normal a' w'->
 KJ (jf Try.prog aa) 33 () Iv (λ_ e a w=>e=.ret/\a.defers=[]/\Old A B0 w0 w/\w.ownsRow B0 56 3 (a.tmps.getD 4 undef) R.length (R.flatMap sA)) a' w'
theorem aaN:(Try.prog.info? 115).map (λi=>(i.zero,i.size,i.bytes))=some (some (.chan none),1,8):=by kernel_rfl
theorem aaM:(Try.prog.info? 116).map (λi=>(i.zero,i.size,i.bytes))=some (some (.chan none),1,8):=by kernel_rfl
theorem LO(hP:Plain Try.prog){ca cb:Array Value}{da db:Wk}(wz:da.ok)(Bo:db.ok)(hva:wQ γ w ca da)(hvb:wQ γ w cb db)(hT:VK aa (en da db)):
  yK (QZ Try.prog aa) Try.prog (.bad,γ) 33 #[.agg ca,.agg cb] w λγ' v w'=>γ'.1=.bad/\Kept γ w γ'.2 w'/\lU γ'.2 w' w.heap.size 56 3 v (en da db).length ((en da db).flatMap sA):=by
 have C:=aaJ (aa:=aa) hP;have hp:Pc.bad≠Pc.ret:=by simp
 obtain⟨i71,h71,-,-,b71⟩:=info_parts Ni;obtain⟨i4,h4,-,-,b4⟩:=info_parts abQ;obtain⟨i138,aia,z138,-,-⟩:=info_parts aaN;obtain⟨i139,ah9,z139,-,-⟩:=info_parts aaM;refine Ej Try.func33 (by rfl) rfl ?_;simp only[Try.ntmps33,mB,dN,mz,Nat.reduceAdd,Nat.reduceSub,Array.replicate_succ,Array.replicate_zero,List.push_toArray,List.append_toArray,gZ,nH];show KJ _ _ _ (.seq (.region _ _ false) (.seq (.region _ _ false) (.seq (.region _ _ false) sK))) _ _ _;refine bh C (cC C ?_);refine qY C hp (ob:=?ob1) rfl (by rfl) (λw=>run_eq_of λK hK=>?r1) (λw=>?e1) ?h1
 case r1=>go_simp;exact hK
 case e1=>simp[go_sem]
 intro w1 S3;try walk_nrm
 have tZ:=(Kept.rely S3).trans (Kept.alloc γ w1 w1.heap.size (.cells ca 70));have Yd:gA (γ.more w1.heap.size) (w1.alloc (.cells ca 70)) w1.heap.size da:=(hva.kept (Kept.rely S3)).boxed;have afi:=hvb.kept tZ;generalize w1.alloc (.cells ca 70)=W1 at*;generalize γ.more w1.heap.size=γ1 at*;generalize w1.heap.size=b2 at*;clear S3;refine qY C hp (ob:=?ob2) rfl (by rfl) (λw=>run_eq_of λK hK=>?r2) (λw=>?e2) ?h2
 case r2=>go_simp;exact hK
 case e2=>simp[go_sem]
 intro w2 SA;try walk_nrm
 have JR:=(Kept.rely SA).trans (Kept.alloc γ1 w2 w2.heap.size (.cells cb 70));have Mv:gA (γ1.more w2.heap.size) (w2.alloc (.cells cb 70)) w2.heap.size db:=(afi.kept (Kept.rely SA)).boxed;have Ox:=Yd.kept JR;have JB:=tZ.trans JR;generalize w2.alloc (.cells cb 70)=W2 at*;generalize γ1.more w2.heap.size=γ2 at*;generalize w2.heap.size=b3 at*;clear SA JR tZ Yd afi;refine av C ?_;try walk_nrm
 refine aW C ?_;co_then;have hk:=JB;have ha:=Ox;have hb:=Mv;clear JB Ox Mv;refine bh C (cC C ?_);refine Im C hp (f:=λn=>.chan (some n)) (ob:=.chan 0 #[] false 0 0 false) rfl (by rfl) (λw=>?_) (λw=>?_) ?_;.have h:(Instr.makeChan 115 (.int .i64 0)).run Try.prog w=_:=run_makeChan (P:=Try.prog) (w:=w) Try.underlying115 h71 .i64 0 (by omega) (by rw[b71];omega);simp[execOp,Act.eval,h]
 .have h:(Instr.makeChan 115 (.int .i64 0)).events Try.prog w #[]=_:=events_makeChan (P:=Try.prog) (w:=w) Try.underlying115 h71 .i64 0 (by omega) (by rw[b71];omega) #[];simp[execOp,Act.eval,h]
 intro Yr acG;try walk_nrm
 have yh:=(Kept.rely acG).trans (Kept.alloc _ Yr Yr.heap.size (.chan 0 #[] false 0 0 false));have hcf:Ch (So.more γ2 Yr.heap.size) (Yr.alloc (.chan 0 #[] false 0 0 false)) Yr.heap.size:=⟨.inr (.inr rfl),heap_alloc_new Yr _⟩;have aix:w.heap.size<=Yr.heap.size:=bD hk.size acG.1
 replace hk:=hk.trans yh
 replace ha:=ha.kept yh
 replace hb:=hb.kept yh
 generalize Yr.alloc (.chan 0 #[] false 0 0 false)=Wpa at*;generalize Yr.heap.size=cf at*;generalize So.more γ2 cf=γpa at*;clear yh acG;refine qY C hp (ob:=.cells #[.chan none] 115) rfl (by rfl) (λw=>run_eq_of λK hK=>?r4) (λw=>?e4) ?h4
 case r4=>go_simp;exact hK
 case e4=>simp[execOp,Instr.alloc,zeroValue,typeInfo,aia,z138,newVar,newRow]
 intro SV acF;try walk_nrm
 have yh:=(Kept.rely acF).trans (Kept.alloc _ SV SV.heap.size (.cells #[.chan none] 115));have hz:(SV.alloc (.cells #[.chan none] 115)).frozen? ⟨SV.heap.size,0,none⟩=false:=World.frozen?_alloc_new _ _ _ _;have hs:bK _ _ ⟨SV.heap.size,0,none⟩ (.chan none):=bK.fresh (γ:=γpa) (w:=SV) (cs:=#[.chan none]) (t:=115) rfl rfl;have hO:(So.more γpa SV.heap.size).2 SV.heap.size:=.inr rfl;have JK:Wpa.heap.size<=SV.heap.size:=acF.1;generalize SV.alloc (.cells #[.chan none] 115)=Wpb at*;generalize SV.heap.size=b5 at*;generalize So.more γpa b5=γpb at*;clear acF;refine Nf C hp (ad:=⟨b5,0,none⟩) (v:=.chan (some cf)) rfl (by rfl) hO (λw₁ h₁=>⟨?_,?_⟩) ?_
 .have hc:=(hs.rely h₁).2;have SE:w₁.frozen? ⟨b5,0,none⟩=false:=(World.frozen?_of_block (h₁.2.1 b5 (.inr hO))).trans hz;refine(?_:∀K:Result Next->Prop,K (.ok .skip (w₁.setCell ⟨b5,0,none⟩ (.chan (some cf))))->K _) (·=_) rfl;intro K hK
  go_simp
  try(unfold stored;go_simp)
  exact hK
 .have hc:=(hs.rely h₁).2;have SE:w₁.frozen? ⟨b5,0,none⟩=false:=(World.frozen?_of_block (h₁.2.1 b5 (.inr hO))).trans hz;intro e he;simp[go_sem,hc,SE]at he;exact he
 intro wpc acE;try walk_nrm
 replace yh:=(yh.trans (Kept.rely acE)).put (ad:=⟨b5,0,none⟩) (v:=.chan (some cf)) JK
 have hb5:bK γpb (wpc.setCell ⟨b5,0,none⟩ (.chan (some cf))) ⟨b5,0,none⟩ (.chan (some cf)):=⟨.inr hO,World.cell?_setCell_same _ _ _ (hs.rely acE).2⟩;generalize wpc.setCell ⟨b5,0,none⟩ (.chan (some cf))=Wpc at*
 replace hk:=hk.trans yh
 replace hcf:=hcf.kept yh
 replace ha:=ha.kept yh
 replace hb:=hb.kept yh
 clear yh hs hz JK hO acE;refine aW C ?_;co_then;refine bh C (cC C ?_);refine Im C hp (f:=λn=>.chan (some n)) (ob:=.chan 0 #[] false 0 0 false) rfl (by rfl) (λw=>?_) (λw=>?_) ?_;.have h:(Instr.makeChan 116 (.int .i64 0)).run Try.prog w=_:=run_makeChan (P:=Try.prog) (w:=w) Try.underlying116 h4 .i64 0 (by omega) (by rw[b4];omega);simp[execOp,Act.eval,h]
 .have h:(Instr.makeChan 116 (.int .i64 0)).events Try.prog w #[]=_:=events_makeChan (P:=Try.prog) (w:=w) Try.underlying116 h4 .i64 0 (by omega) (by rw[b4];omega) #[];simp[execOp,Act.eval,h]
 intro X2 YV;try walk_nrm
 have hne:cf≠X2.heap.size:=Nat.ne_of_lt (hcf.kept (Kept.rely YV)).lt;have yh:=(Kept.rely YV).trans (Kept.alloc _ X2 X2.heap.size (.chan 0 #[] false 0 0 false));have ud:Ch (So.more γpb X2.heap.size) (X2.alloc (.chan 0 #[] false 0 0 false)) X2.heap.size:=⟨.inr (.inr rfl),heap_alloc_new X2 _⟩;have aiw:w.heap.size<=X2.heap.size:=bD hk.size YV.1
 replace hk:=hk.trans yh
 replace ha:=ha.kept yh
 replace hb:=hb.kept yh
 replace hcf:=hcf.kept yh
 replace hb5:=(yh.sees hb5)
 generalize X2.alloc (.chan 0 #[] false 0 0 false)=Wqa at*;generalize X2.heap.size=cl at*;generalize So.more γpb cl=γqa at*;clear yh YV;refine qY C hp (ob:=.cells #[.chan none] 116) rfl (by rfl) (λw=>run_eq_of λK hK=>?r5) (λw=>?e5) ?h5
 case r5=>go_simp;exact hK
 case e5=>simp[execOp,Instr.alloc,zeroValue,typeInfo,ah9,z139,newVar,newRow]
 intro SU acD;try walk_nrm
 have yh:=(Kept.rely acD).trans (Kept.alloc _ SU SU.heap.size (.cells #[.chan none] 116));have hz:(SU.alloc (.cells #[.chan none] 116)).frozen? ⟨SU.heap.size,0,none⟩=false:=World.frozen?_alloc_new _ _ _ _;have hs:bK _ _ ⟨SU.heap.size,0,none⟩ (.chan none):=bK.fresh (γ:=γqa) (w:=SU) (cs:=#[.chan none]) (t:=116) rfl rfl;have hO:(So.more γqa SU.heap.size).2 SU.heap.size:=.inr rfl;have JK:Wqa.heap.size<=SU.heap.size:=acD.1;generalize SU.alloc (.cells #[.chan none] 116)=Wqb at*;generalize SU.heap.size=b6 at*;generalize So.more γqa b6=γqb at*;clear acD;refine Nf C hp (ad:=⟨b6,0,none⟩) (v:=.chan (some cl)) rfl (by rfl) hO (λw₁ h₁=>⟨?_,?_⟩) ?_
 .have hc:=(hs.rely h₁).2;have SE:w₁.frozen? ⟨b6,0,none⟩=false:=(World.frozen?_of_block (h₁.2.1 b6 (.inr hO))).trans hz;refine(?_:∀K:Result Next->Prop,K (.ok .skip (w₁.setCell ⟨b6,0,none⟩ (.chan (some cl))))->K _) (·=_) rfl;intro K hK
  go_simp
  try(unfold stored;go_simp)
  exact hK
 .have hc:=(hs.rely h₁).2;have SE:w₁.frozen? ⟨b6,0,none⟩=false:=(World.frozen?_of_block (h₁.2.1 b6 (.inr hO))).trans hz;intro e he;simp[go_sem,hc,SE]at he;exact he
 intro wqc acC;try walk_nrm
 replace yh:=(yh.trans (Kept.rely acC)).put (ad:=⟨b6,0,none⟩) (v:=.chan (some cl)) JK
 have hb6:bK γqb (wqc.setCell ⟨b6,0,none⟩ (.chan (some cl))) ⟨b6,0,none⟩ (.chan (some cl)):=⟨.inr hO,World.cell?_setCell_same _ _ _ (hs.rely acC).2⟩;generalize wqc.setCell ⟨b6,0,none⟩ (.chan (some cl))=Wqc at*
 replace hk:=hk.trans yh
 replace ud:=ud.kept yh
 replace ha:=ha.kept yh
 replace hb:=hb.kept yh
 replace hcf:=hcf.kept yh
 replace hb5:=(yh.sees hb5)
 clear yh hs hz JK hO acC;refine aW C ?_;co_then;refine agq λw1 r1=>?_;have hkr:=Kept.rely r1;have TM:=hcf.kept hkr;have TL:=ud.kept hkr;have tZ:=hk.trans hkr;have hS:JN (λb=>γ.all b/\b<w.heap.size) w.heap.size w (Shr w1 cf cl) w1:=
  ⟨λb h=>h.2,λb h=>.inl ⟨dH h.2 tZ.size,by have:=h.2;omega,by have:=h.2;omega⟩,λb h=>tZ.blk b h.1 h.2,tZ.size,tZ.env⟩
 refine(?_:∀a',(∃u,a'=OM b2 b3 b5 b6 u)->KJ _ _ _ sK _ a' _) _ (qn rfl);rintro a' ⟨u,rfl⟩;have hW:∀n,0<n->Dd (λc=>c=cf\/c=cl) (entry n (chain cf cl (.bool true) (.bool false) false da.bC.length (CL cf (.agg #[.int .i64 0,.int .i64 0,.int .i64 0]) ((en da db).map wq)) (da.bC.map λx=>msgs da db x db.bC))):=by
  intro n hn;have h:=LH (tv:=.bool true) (z:=.agg #[.int .i64 0,.int .i64 0,.int .i64 0]) (z2:=.bool false) (rB:=false) hne (da.bC.map λx=>msgs da db x db.bC) hn
  rwa [List.length_map,aaQ]at h
 have kK:(chain cf cl (.bool true) (.bool false) false da.bC.length (CL cf (.agg #[.int .i64 0,.int .i64 0,.int .i64 0]) ((en da db).map wq)) (da.bC.map λx=>msgs da db x db.bC)).live:=by obtain⟨x,y,h⟩:=L6 (cf:=cf) (cl:=cl) (tv:=.bool true) (z2:=.bool false) (rB:=false) da.bC.length (CL cf (.agg #[.int .i64 0,.int .i64 0,.int .i64 0]) ((en da db).map wq)) (da.bC.map λx=>msgs da db x db.bC);rw[h];exact⟨by simp,by simp,by simp⟩
 refine Xw hP (Cs:=λc=>c=cf\/c=cl) (S:=(Shr w1 cf cl).1) (O:=(Shr w1 cf cl).2) kK (λb h=>h.elim) (λb h=>h.elim (·.1) (·.elim)) (λc hc=>?_) hW
  (aag hP wz Bo hS ⟨(ha.kept hkr).shr TM TL,(hb.kept hkr).shr TM TL,(hkr.sees hb5).shr TM TL,(hkr.sees hb6).shr TM TL⟩ u (λγ' a' w' hE=>yT (hT _ _ _ γ' a' w' hE) ?_))
 .rcases hc with rfl|rfl;.exact⟨⟨0,false,TM.2⟩,λh=>h.2.1 rfl,λh=>h⟩
  exact⟨⟨0,false,TL.2⟩,λh=>h.2.2 rfl,λh=>h⟩
 rintro _ e a3 w3 ⟨rfl,hd,hold,fN⟩;exact⟨(γ.1,λb=>γ.2 b\/(w.heap.size<=b/\b<w3.heap.size)),hd,a3.tmps.getD 4 undef,resultsC_tmp Try.results33 _,rfl,
  ⟨rfl,λ_ h=>.inl h,λb hb hlt=>hold.1 b ⟨hb,hlt⟩,hold.2.1,hold.2.2⟩,⟨fN,λb hb=>.inr (fN.lt b hb)⟩⟩
end Go.Co
