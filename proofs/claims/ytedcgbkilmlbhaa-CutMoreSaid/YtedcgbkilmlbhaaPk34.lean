import Derived.Test.YtedcgbkilmlbhaaPk32
import Derived.Test.YtedcgbkilmlbhaaPk33
set_option maxHeartbeats 2000000
set_option maxRecDepth 100000
namespace Go.Co
open Go Go.Conc Go.Proofs
open Go.ConcN (upd upd_same upd_ne)
variable {aa:Machine->Trace->Prop} {main:Bool} {K:Gm->Goroutine->World->Prop} {p:Pc} {γ:So} {w:World}
structure Wk where
 bC:List Int
 cL:Int
 up:Nat->List Int
 lo:Nat->List Int
structure Wk.ok (d:Wk):Prop where
 few:d.bC.length<=1000
 bC:∀(i:Nat)(x:Int),d.bC[i]? =some x->0<=x/\x<=3
 cL:0<=d.cL/\d.cL<=1000
 up:∀i,Yn (d.up i)
 lo:∀i,Yn (d.lo i)
structure gA (γ:So) (w:World) (b:Nat) (d:Wk):Prop where
 cL:bK γ w ⟨b,2,none⟩ (.int .i64 d.cL)
 bC:∃v,bK γ w ⟨b,3,none⟩ v/\Af γ w v d.bC
 up:∀i,i<4->∃v,bK γ w ⟨b,4+i*2,none⟩ v/\Af γ w v (d.up i)
 lo:∀i,i<4->∃v,bK γ w ⟨b,4+i*2+1,none⟩ v/\Af γ w v (d.lo i)
theorem gA.kept {b:Nat}{d:Wk}{γ':So}{w':World}(h:gA γ w b d)(k:Kept γ w γ' w'):gA γ' w' b d:=
 ⟨k.sees h.cL,h.bC.imp λ_ ⟨h1,h2⟩=>⟨k.sees h1,k.HB h2⟩,λi hi=>(h.up i hi).imp λ_ ⟨h1,h2⟩=>⟨k.sees h1,k.HB h2⟩,λi hi=>(h.lo i hi).imp λ_ ⟨h1,h2⟩=>⟨k.sees h1,k.HB h2⟩⟩
def Bs(x y s:Int):Value:=.agg #[.int .i64 x,.int .i64 y,.int .i64 s]
def gD(a b:Wk)(x y:Int):List Int:=oK (a.lo x.toNat) (b.up y.toNat) (a.cL+b.cL)
def msgs(a b:Wk)(x:Int)(ys:List Int):List Value:=ys.flatMap λy=>(gD a b x y).map λs=>Bs x y s
theorem OA{cf cl:Nat}{tv:Value}(vs:List Value):wk cf cl tv vs≠.ret/\wk cf cl tv vs≠.stop:=by cases vs<;>simp[wk]
theorem abg(T:Array Value)(h:T.size=46):∃v0 v1 v2 v3 v4 v5 v6 v7 v8 v9 v10 v11 v12 v13 v14 v15 v16 v17 v18 v19 v20 v21 v22 v23 v24 v25 v26 v27 v28 v29 v30 v31 v32 v33 v34 v35 v36 v37 v38 v39 v40 v41 v42 v43 v44 v45:Value,T=#[v0,v1,v2,v3,v4,v5,v6,v7,v8,v9,v10,v11,v12,v13,v14,v15,v16,v17,v18,v19,v20,v21,v22,v23,v24,v25,v26,v27,v28,v29,v30,v31,v32,v33,v34,v35,v36,v37,v38,v39,v40,v41,v42,v43,v44,v45]:=by
 obtain⟨l⟩:=T;simp only[mB]at h;rcases l with _|⟨v0,l⟩;.simp at h
 rcases l with _|⟨v1,l⟩;.simp at h
 rcases l with _|⟨v2,l⟩;.simp at h
 rcases l with _|⟨v3,l⟩;.simp at h
 rcases l with _|⟨v4,l⟩;.simp at h
 rcases l with _|⟨v5,l⟩;.simp at h
 rcases l with _|⟨v6,l⟩;.simp at h
 rcases l with _|⟨v7,l⟩;.simp at h
 rcases l with _|⟨v8,l⟩;.simp at h
 rcases l with _|⟨v9,l⟩;.simp at h
 rcases l with _|⟨v10,l⟩;.simp at h
 rcases l with _|⟨v11,l⟩;.simp at h
 rcases l with _|⟨v12,l⟩;.simp at h
 rcases l with _|⟨v13,l⟩;.simp at h
 rcases l with _|⟨v14,l⟩;.simp at h
 rcases l with _|⟨v15,l⟩;.simp at h
 rcases l with _|⟨v16,l⟩;.simp at h
 rcases l with _|⟨v17,l⟩;.simp at h
 rcases l with _|⟨v18,l⟩;.simp at h
 rcases l with _|⟨v19,l⟩;.simp at h
 rcases l with _|⟨v20,l⟩;.simp at h
 rcases l with _|⟨v21,l⟩;.simp at h
 rcases l with _|⟨v22,l⟩;.simp at h
 rcases l with _|⟨v23,l⟩;.simp at h
 rcases l with _|⟨v24,l⟩;.simp at h
 rcases l with _|⟨v25,l⟩;.simp at h
 rcases l with _|⟨v26,l⟩;.simp at h
 rcases l with _|⟨v27,l⟩;.simp at h
 rcases l with _|⟨v28,l⟩;.simp at h
 rcases l with _|⟨v29,l⟩;.simp at h
 rcases l with _|⟨v30,l⟩;.simp at h
 rcases l with _|⟨v31,l⟩;.simp at h
 rcases l with _|⟨v32,l⟩;.simp at h
 rcases l with _|⟨v33,l⟩;.simp at h
 rcases l with _|⟨v34,l⟩;.simp at h
 rcases l with _|⟨v35,l⟩;.simp at h
 rcases l with _|⟨v36,l⟩;.simp at h
 rcases l with _|⟨v37,l⟩;.simp at h
 rcases l with _|⟨v38,l⟩;.simp at h
 rcases l with _|⟨v39,l⟩;.simp at h
 rcases l with _|⟨v40,l⟩;.simp at h
 rcases l with _|⟨v41,l⟩;.simp at h
 rcases l with _|⟨v42,l⟩;.simp at h
 rcases l with _|⟨v43,l⟩;.simp at h
 rcases l with _|⟨v44,l⟩;.simp at h
 rcases l with _|⟨v45,l⟩;.simp at h
 rcases l with _|⟨x,l⟩;.exact⟨v0,v1,v2,v3,v4,v5,v6,v7,v8,v9,v10,v11,v12,v13,v14,v15,v16,v17,v18,v19,v20,v21,v22,v23,v24,v25,v26,v27,v28,v29,v30,v31,v32,v33,v34,v35,v36,v37,v38,v39,v40,v41,v42,v43,v44,v45,rfl⟩
 simp at h
def ug(ba bb:Nat)(x y:Int)(ua la ub lb:Value)(wa wb:Int)(m:Nat)(v:Value):Nat->Value
 |0=>.int .i64 x
 |1=>.pointer (some ⟨ba,4,none⟩)
 |2=>.pointer (some ⟨ba,4+x.toNat*2,none⟩)
 |3=>.agg #[ua,la]
 |4=>.int .i64 y
 |5=>.pointer (some ⟨bb,4,none⟩)
 |6=>.pointer (some ⟨bb,4+y.toNat*2,none⟩)
 |7=>.agg #[ub,lb]
 |8=>.pointer (some ⟨ba,0,none⟩)
 |9=>.pointer (some ⟨ba,2,none⟩)
 |10=>.int .i64 wa
 |11=>.pointer (some ⟨bb,0,none⟩)
 |12=>.pointer (some ⟨bb,2,none⟩)
 |13=>.int .i64 wb
 |14=>.int .i64 (wa+wb)
 |15=>v
 |16=>.int .i64 m
 |17=>.int .i64 0
 |_=>undef
structure St3 (F:Value->Nat->Value) (a0:Act) (v:Value) (L:Nat->Bool) (a:Act):Prop where
 defers:a.defers=[]
 size:a.tmps.size=46
 vals:∀i,i<18->L i=true->a.tmps[17+i]? =some (F v i)
 old:∀s,s<17->a.tmps[s]? =a0.tmps[s]?
 len:L 16=true->L 15=true
theorem St3.put {F:Value->Nat->Value}{a0 a:Act}{v:Value}{L:Nat->Bool}(h:St3 F a0 v L a){i:Nat}(hi:i<18)(h16:i=16->L 15=true){u:Value}(hu:u=F v i):St3 F a0 v (upd L i true) (a.put (some (17+i)) u):=by
 subst hu;refine⟨h.defers,by simp[Act.put,h.size],λj hj hL=>?_,λs hs=>?_,λhL=>?_⟩
 .by_cases gR:j=i;.subst gR;simp only[Act.put];rw[kW (by rw[h.size];omega)]
  rw[upd_ne _ _ gR]at hL;simp only[Act.put];rw[eT (by omega)];exact h.vals j hj hL
 .simp only[Act.put];rw[eT (by omega)];exact h.old s hs
 by_cases h1:i=16;.rw[upd_ne _ _ (by omega)];exact h16 h1
 rw[upd_ne _ _ (by omega)]at hL;by_cases h2:15=i;.rw[h2,upd_same]
 rw[upd_ne _ _ h2];exact h.len hL
theorem St3.val {F:Value->Nat->Value}{a0 a:Act}{v v':Value}{L:Nat->Bool}(h:St3 F a0 v L a)(h15:L 15=false)(hF:∀i,i≠15->F v i=F v' i):St3 F a0 v' L a:=
 ⟨h.defers,h.size,λi hi hL=>by
  have h1:i≠15:=λe=>by rw[e,h15]at hL;cases hL
  rw[<-hF i h1];exact h.vals i hi hL,h.old,h.len⟩
def ace(bb ba bx bf bl:Nat)(vl:Value)(nl k:Nat)(u:Nat->Value):Act:=
 ⟨#[.pointer (some ⟨bb,0,none⟩),.pointer (some ⟨ba,0,none⟩),.pointer (some ⟨bx,0,none⟩),.pointer (some ⟨bf,0,none⟩),.pointer (some ⟨bl,0,none⟩),u 5,u 6,u 7,u 8,u 9,u 10,vl,.int .i64 nl,.int .i64 k,u 14,u 15,u 16,u 17,u 18,u 19,u 20,u 21,u 22,u 23,u 24,u 25,u 26,u 27,u 28,u 29,u 30,u 31,u 32,u 33,u 34,u 35,u 36,u 37,u 38,u 39,u 40,u 41,u 42,u 43,u 44,u 45],[]⟩
def UI(bb ba bx bf bl:Nat)(vl:Value)(nl k:Nat)(y:Int)(v:Value)(m j:Nat)(u:Nat->Value):Act:=
 ⟨#[.pointer (some ⟨bb,0,none⟩),.pointer (some ⟨ba,0,none⟩),.pointer (some ⟨bx,0,none⟩),.pointer (some ⟨bf,0,none⟩),.pointer (some ⟨bl,0,none⟩),u 5,.int .i64 y,u 7,u 8,u 9,u 10,vl,.int .i64 nl,.int .i64 k,u 14,u 15,u 16,u 17,u 18,u 19,u 20,u 21,u 22,u 23,u 24,u 25,u 26,u 27,u 28,u 29,u 30,u 31,v,.int .i64 m,.int .i64 j,u 35,u 36,u 37,u 38,u 39,u 40,u 41,u 42,u 43,u 44,u 45],[]⟩
end Go.Co
namespace Go.Co
open Go Go.Conc Go.Proofs
open Go.ConcN (upd upd_same upd_ne)
variable {aa:Machine->Trace->Prop} {main:Bool} {K:Gm->Goroutine->World->Prop} {p:Pc} {γ:So} {w:World}
theorem events_indexAt_array{P:Program}{w:World}{es:Array Event}{t e:TypeId}{n:Nat}(h:P.underlying t=some (.array n e))(a:Addr)(k:IntKind)(i:Int)(hi:0<=i/\i<n):
  (Instr.indexAt t (.pointer (some a)) (.int k i)).events P w es=es:=by
 simp only[Instr.indexAt,asIntOf,Instr.sureAddr,Sem.events_bind,Sem.run_pure,Sem.events_pure,Result.evThen_ok,run_underlying h,events_underlying,hi,and_self,if_true,events_sizeOf];cases(sizeOf e).run P w<;>rfl
noncomputable def aha:Code:=match Try.f58.body with
 |some (.seq (.seq _ (.block _ (.loop (.seq _ (.seq _ (.seq (.block _ (.seq _ (.seq r _))) _)))))) _)=>r
 |_=>.skip
theorem Z7(C:KC Try.prog main K CM HL)(hp:p≠.ret){bb ba bx:Nat}{da db:Wk}{x y:Int}(ha:gA γ w ba da)(hb:gA γ w bb db)(hx:bK γ w ⟨bx,0,none⟩ (.int .i64 x))(JI:0<=x)(hx3:x<4)(hy0:0<=y)(hy3:y<4)(wz:da.ok)(Bo:db.ok)
  {a0:Act} (Mu:a0.defers=[]) (hsz:a0.tmps.size=46) (t0:a0.tmps[0]? =some (.pointer (some ⟨bb,0,none⟩))) (t1:a0.tmps[1]? =some (.pointer (some ⟨ba,0,none⟩))) (t2:a0.tmps[2]? =some (.pointer (some ⟨bx,0,none⟩))) (t6:a0.tmps[6]? =some (.int .i64 y))
  {Q:Gm->Exit->Act->World->Prop} (hQ:∀v γ' a' w',a'.defers=[]->a'.tmps.size=46->(∀s,s<17->a'.tmps[s]? =a0.tmps[s]?)->a'.tmps[32]? =some v->a'.tmps[33]? =some (.int .i64 (gD da db x y).length)->a'.tmps[34]? =some (.int .i64 0)->
   lU γ' w' w.heap.size 3 1 v (gD da db x y).length (ivs (gD da db x y))->Kept γ w γ' w'->Q (p,γ') .normal a' w'):KJ K 58 (p,γ) aha Q a0 w:=by
 obtain⟨la,hla,SI⟩:=ha.lo x.toNat (by omega);obtain⟨ua,hua,-⟩:=ha.up x.toNat (by omega);obtain⟨ub,hub,X7⟩:=hb.up y.toNat (by omega);obtain⟨lb,hlb,-⟩:=hb.lo y.toNat (by omega);have hwa:=wz.cL;have hwb:=Bo.cL;have Oo:IntKind.i64.wrap (da.cL+db.cL)=da.cL+db.cL:=by rw[xm]<;>omega
 refine aaI C hp mixed (λL γ' a' w'=>Kept γ w γ' w'/\∃v,(L 15=true->lU γ' w' w.heap.size 3 1 v (gD da db x y).length (ivs (gD da db x y)))/\St3 (λv=>ug ba bb x y ua la ub lb da.cL db.cL (gD da db x y).length v) a0 v L a')
  (by kernel_rfl) (λw₁ r=>?_) ?_ (λL γ' a' w' hJ fL=>?_)
 .exact⟨(Kept.rely r).trans (Kept.rely (As γ w₁ _)),undef,λh=>(nomatch h),Mu,hsz,λi _ h=>(nomatch h),λ_ _=>rfl,λh=>(nomatch h)⟩
 .rintro L γ' a' w' i o ⟨hk,v,hv,hs⟩ ho hL wD rest eX;have hi:i<18:=(aN.1 ho).1;have hv':∀j,j≠15->upd L j true 15=true->lU γ' w' w.heap.size 3 1 v (gD da db x y).length (ivs (gD da db x y)):=λj hj h=>hv (by rwa [upd_ne _ _ (Ne.symm hj)]at h);rcases i with _|_|_|_|_|_|_|_|_|_|_|_|_|_|_|_|_|_|i;all_goals first|(exfalso;omega)|skip
  .have mK:=cA ho;subst mK;have f2:a'.tmps[2]? =some _:=(hs.old 2 (by omega)).trans t2;refine qX C hp (v:=?v0) ho (by rfl) (λw₁ h₁=>⟨run_eq_of λK hK=>?r0,?e0⟩) ?h0
   case r0=>have hc:=((hk.sees hx).rely h₁).2;go_simp;exact hK
   case e0=>have hc:=((hk.sees hx).rely h₁).2;intro e he;simp[go_sem, *]at he;subst he;exact((hk.sees hx).rely h₁).JD
   exact eX _ _ _ ⟨hk,v,hv' 0 (by omega),hs.put (i:=0) (by omega) (λh=>by omega) rfl⟩
  .have mK:=cA ho;subst mK;have f1:a'.tmps[1]? =some _:=(hs.old 1 (by omega)).trans t1;refine eA C (v:=?v1) ho (by rfl) (λw=>run_eq_of λK hK=>?r1) (λw=>?e1) ?h1
   case r1=>go_simp;exact hK
   case e1=>simp[go_sem, *]
   exact eX _ _ _ ⟨hk,v,hv' 1 (by omega),hs.put (i:=1) (by omega) (λh=>by omega) rfl⟩
  .have mK:=cA ho;subst mK;have d1:L 1=true:=wD {on:=1,ground:=Ground.data} (by simp) rfl;have e1:a'.tmps[18]? =some _:=hs.vals 1 (by omega) d1;simp only[ug]at e1;have d0:L 0=true:=wD {on:=0,ground:=Ground.data} (by simp) rfl;have e0:a'.tmps[17]? =some _:=hs.vals 0 (by omega) d0;simp only[ug]at e0;refine eA C (v:=?v2) ho (by rfl) (λw=>run_eq_of λK hK=>?r2) (λw=>?e2) ?h2
   case r2=>have Tn:x.toNat<4:=(by omega);go_simp;exact hK
   case e2=>simp[go_sem,e1,e0,events_indexAt_array Try.underlying68 _ _ x ⟨(by omega),(by omega)⟩]
   exact eX _ _ _ ⟨hk,v,hv' 2 (by omega),hs.put (i:=2) (by omega) (λh=>by omega) rfl⟩
  .have mK:=cA ho;subst mK;have d2:L 2=true:=wD {on:=2,ground:=Ground.data} (by simp) rfl;have e2:a'.tmps[19]? =some _:=hs.vals 2 (by omega) d2;simp only[ug]at e2;refine qX C hp (v:=?v3) ho (by rfl) (λw₁ h₁=>⟨run_eq_of λK hK=>?r3,?e3⟩) ?h3
   case r3=>have hc:=((hk.sees hua).rely h₁).2;have hd:=((hk.sees hla).rely h₁).2;go_simp;exact hK
   case e3=>
    have hc:=((hk.sees hua).rely h₁).2;have hd:=((hk.sees hla).rely h₁).2;intro e he;simp[go_sem, *]at he;rcases he with rfl|rfl;.exact((hk.sees hua).rely h₁).JD
    exact((hk.sees hla).rely h₁).JD
   exact eX _ _ _ ⟨hk,v,hv' 3 (by omega),hs.put (i:=3) (by omega) (λh=>by omega) rfl⟩
  .have mK:=cA ho;subst mK;have f6:a'.tmps[6]? =some _:=(hs.old 6 (by omega)).trans t6;refine eA C (v:=?v4) ho (by rfl) (λw=>run_eq_of λK hK=>?r4) (λw=>?e4) ?h4
   case r4=>go_simp;exact hK
   case e4=>simp[go_sem, *]
   exact eX _ _ _ ⟨hk,v,hv' 4 (by omega),hs.put (i:=4) (by omega) (λh=>by omega) rfl⟩
  .have mK:=cA ho;subst mK;have f0:a'.tmps[0]? =some _:=(hs.old 0 (by omega)).trans t0;refine eA C (v:=?v5) ho (by rfl) (λw=>run_eq_of λK hK=>?r5) (λw=>?e5) ?h5
   case r5=>go_simp;exact hK
   case e5=>simp[go_sem, *]
   exact eX _ _ _ ⟨hk,v,hv' 5 (by omega),hs.put (i:=5) (by omega) (λh=>by omega) rfl⟩
  .have mK:=cA ho;subst mK;have d5:L 5=true:=wD {on:=5,ground:=Ground.data} (by simp) rfl;have e5:a'.tmps[22]? =some _:=hs.vals 5 (by omega) d5;simp only[ug]at e5;have d4:L 4=true:=wD {on:=4,ground:=Ground.data} (by simp) rfl;have e4:a'.tmps[21]? =some _:=hs.vals 4 (by omega) d4;simp only[ug]at e4;refine eA C (v:=?v6) ho (by rfl) (λw=>run_eq_of λK hK=>?r6) (λw=>?e6) ?h6
   case r6=>have Tn:y.toNat<4:=(by omega);go_simp;exact hK
   case e6=>simp[go_sem,e5,e4,events_indexAt_array Try.underlying68 _ _ y ⟨(by omega),(by omega)⟩]
   exact eX _ _ _ ⟨hk,v,hv' 6 (by omega),hs.put (i:=6) (by omega) (λh=>by omega) rfl⟩
  .have mK:=cA ho;subst mK;have d6:L 6=true:=wD {on:=6,ground:=Ground.data} (by simp) rfl;have e6:a'.tmps[23]? =some _:=hs.vals 6 (by omega) d6;simp only[ug]at e6;refine qX C hp (v:=?v7) ho (by rfl) (λw₁ h₁=>⟨run_eq_of λK hK=>?r7,?e7⟩) ?h7
   case r7=>have hc:=((hk.sees hub).rely h₁).2;have hd:=((hk.sees hlb).rely h₁).2;go_simp;exact hK
   case e7=>
    have hc:=((hk.sees hub).rely h₁).2;have hd:=((hk.sees hlb).rely h₁).2;intro e he;simp[go_sem, *]at he;rcases he with rfl|rfl;.exact((hk.sees hub).rely h₁).JD
    exact((hk.sees hlb).rely h₁).JD
   exact eX _ _ _ ⟨hk,v,hv' 7 (by omega),hs.put (i:=7) (by omega) (λh=>by omega) rfl⟩
  .have mK:=cA ho;subst mK;have f1:a'.tmps[1]? =some _:=(hs.old 1 (by omega)).trans t1;refine eA C (v:=?v8) ho (by rfl) (λw=>run_eq_of λK hK=>?r8) (λw=>?e8) ?h8
   case r8=>go_simp;exact hK
   case e8=>simp[go_sem, *]
   exact eX _ _ _ ⟨hk,v,hv' 8 (by omega),hs.put (i:=8) (by omega) (λh=>by omega) rfl⟩
  .have mK:=cA ho;subst mK;have d8:L 8=true:=wD {on:=8,ground:=Ground.data} (by simp) rfl;have e8:a'.tmps[25]? =some _:=hs.vals 8 (by omega) d8;simp only[ug]at e8;refine eA C (v:=?v9) ho (by rfl) (λw=>run_eq_of λK hK=>?r9) (λw=>?e9) ?h9
   case r9=>go_simp;exact hK
   case e9=>simp[go_sem, *]
   exact eX _ _ _ ⟨hk,v,hv' 9 (by omega),hs.put (i:=9) (by omega) (λh=>by omega) rfl⟩
  .have mK:=cA ho;subst mK;have d9:L 9=true:=wD {on:=9,ground:=Ground.data} (by simp) rfl;have e9:a'.tmps[26]? =some _:=hs.vals 9 (by omega) d9;simp only[ug]at e9;refine qX C hp (v:=?v10) ho (by rfl) (λw₁ h₁=>⟨run_eq_of λK hK=>?r10,?e10⟩) ?ue
   case r10=>have hc:=((hk.sees (ha.cL)).rely h₁).2;go_simp;exact hK
   case e10=>have hc:=((hk.sees (ha.cL)).rely h₁).2;intro e he;simp[go_sem, *]at he;subst he;exact((hk.sees (ha.cL)).rely h₁).JD
   exact eX _ _ _ ⟨hk,v,hv' 10 (by omega),hs.put (i:=10) (by omega) (λh=>by omega) rfl⟩
  .have mK:=cA ho;subst mK;have f0:a'.tmps[0]? =some _:=(hs.old 0 (by omega)).trans t0;refine eA C (v:=?v11) ho (by rfl) (λw=>run_eq_of λK hK=>?r11) (λw=>?e11) ?HI
   case r11=>go_simp;exact hK
   case e11=>simp[go_sem, *]
   exact eX _ _ _ ⟨hk,v,hv' 11 (by omega),hs.put (i:=11) (by omega) (λh=>by omega) rfl⟩
  .have mK:=cA ho;subst mK;have d11:L 11=true:=wD {on:=11,ground:=Ground.data} (by simp) rfl;have e11:a'.tmps[28]? =some _:=hs.vals 11 (by omega) d11;simp only[ug]at e11;refine eA C (v:=?v12) ho (by rfl) (λw=>run_eq_of λK hK=>?r12) (λw=>?e12) ?Yf
   case r12=>go_simp;exact hK
   case e12=>simp[go_sem, *]
   exact eX _ _ _ ⟨hk,v,hv' 12 (by omega),hs.put (i:=12) (by omega) (λh=>by omega) rfl⟩
  .have mK:=cA ho;subst mK;have d12:L 12=true:=wD {on:=12,ground:=Ground.data} (by simp) rfl;have e12:a'.tmps[29]? =some _:=hs.vals 12 (by omega) d12;simp only[ug]at e12;refine qX C hp (v:=?v13) ho (by rfl) (λw₁ h₁=>⟨run_eq_of λK hK=>?r13,?e13⟩) ?h13
   case r13=>have hc:=((hk.sees (hb.cL)).rely h₁).2;go_simp;exact hK
   case e13=>have hc:=((hk.sees (hb.cL)).rely h₁).2;intro e he;simp[go_sem, *]at he;subst he;exact((hk.sees (hb.cL)).rely h₁).JD
   exact eX _ _ _ ⟨hk,v,hv' 13 (by omega),hs.put (i:=13) (by omega) (λh=>by omega) rfl⟩
  .have mK:=cA ho;subst mK;have d10:L 10=true:=wD {on:=10,ground:=Ground.data} (by simp) rfl;have e10:a'.tmps[27]? =some _:=hs.vals 10 (by omega) d10;simp only[ug]at e10;have d13:L 13=true:=wD {on:=13,ground:=Ground.data} (by simp) rfl;have e13:a'.tmps[30]? =some _:=hs.vals 13 (by omega) d13;simp only[ug]at e13;refine eA C (v:=?v14) ho (by rfl) (λw=>run_eq_of λK hK=>?r14) (λw=>?e14) ?h14
   case r14=>go_simp;exact hK
   case e14=>simp[go_sem, *]
   exact eX _ _ _ ⟨hk,v,hv' 14 (by omega),hs.put (i:=14) (by omega) (λh=>by omega) rfl⟩
  .have mK:=cA ho;subst mK;have d3:L 3=true:=wD {on:=3,ground:=Ground.data} (by simp) rfl;have e3:a'.tmps[20]? =some _:=hs.vals 3 (by omega) d3;simp only[ug]at e3;have d7:L 7=true:=wD {on:=7,ground:=Ground.data} (by simp) rfl;have e7:a'.tmps[24]? =some _:=hs.vals 7 (by omega) d7;simp only[ug]at e7;have d14:L 14=true:=wD {on:=14,ground:=Ground.data} (by simp) rfl;have e14:a'.tmps[31]? =some _:=hs.vals 14 (by omega) d14;simp only[ug]at e14;refine PY C ho (by rfl) rfl (Post:=λγ'' v SY=>γ''.1=p/\lU γ''.2 SY w'.heap.size 3 1 v (gD da db x y).length (ivs (gD da db x y))/\Kept γ' w' γ''.2 SY) ?_ ?_;.simp only[List.map_toArray,bn,fG,Act.eval,bz,e3,e7,e14,kU];exact Wn C hp _ (hk.HB SI) (hk.HB X7) (wz.lo _) (Bo.up _)
   rintro⟨p',γ4⟩ v4 w4 ⟨hp4,Gh,X9⟩;simp only at hp4 X9 Gh;subst p';exact eX _ _ _ ⟨hk.trans X9,v4,λ_=>Gh.more hk.size,(hs.val hL (λj hj=>by match j,hj with|15,hj=>exact absurd rfl hj|0,_|1,_|2,_|3,_|4,_|5,_|6,_|7,_|8,_|9,_|10,_|11,_|12,_|13,_|14,_|16,_|17,_|_+18,_=>rfl)).put (i:=15) (by omega) (λh=>by omega) rfl⟩
  .have mK:=cA ho;subst mK;have d15:L 15=true:=wD {on:=15,ground:=Ground.data} (by simp) rfl;have e15:a'.tmps[32]? =some _:=hs.vals 15 (by omega) d15;simp only[ug]at e15;have fN:=hv d15;obtain⟨A,cap,rfl,-⟩:=fN.HB;refine eA C (v:=?v16) ho (by rfl) (λw=>run_eq_of λK hK=>?r16) (λw=>?e16) ?h16
   case r16=>go_simp;exact hK
   case e16=>simp[go_sem, *]
   exact eX _ _ _ ⟨hk,_,hv' 16 (by omega),hs.put (i:=16) (by omega) (λ_=>d15) rfl⟩
  have mK:=cA ho;subst mK;refine eA C (v:=?v17) ho (by rfl) (λw=>run_eq_of λK hK=>?r17) (λw=>?e17) ?h17
  case r17=>go_simp;exact hK
  case e17=>simp[go_sem, *]
  exact eX _ _ _ ⟨hk,v,hv' 17 (by omega),hs.put (i:=17) (by omega) (λh=>by omega) rfl⟩
 obtain⟨hk,v,hv,hs⟩:=hJ;have hA:∀i,i<18->L i=true:=λi hi=>fL i hi;have h15:=hs.vals 15 (by omega) (hA 15 (by omega));have h16:=hs.vals 16 (by omega) (hA 16 (by omega));have h17:=hs.vals 17 (by omega) (hA 17 (by omega));exact hQ v γ' a' w' hs.defers hs.size hs.old h15 h16 h17 (hv (hA 15 (by omega))) hk
end Go.Co
namespace Go.Co
open Go Go.Conc Go.Proofs
variable {aa:Machine->Trace->Prop} {γ:So} {w:World}
theorem Pp{P:Program}{main:Bool}{K:Gm->Goroutine->World->Prop}{p:Pc}{a:Act}{ops:Array Oper}{i:Nat}{rest:List Nat}{o:Oper}(C:KC P main K CM HL)(hp:p≠.ret){v:Value}{b:Frame}{k:List Item}{cs:List Frame}(ho:ops[i]? =some o)(hw:Region.wanted o (yielded ops a.tmps)=true)(hk:b.kind≠.early)
  (hrun:∀w₁,jo γ w w₁->(execOp a.eval o).run P w₁=.ok (.value v) w₁/\∀e∈(execOp a.eval o).events P w₁ #[],YN γ.1 γ.2 e) (h:K (p,γ) (G (b.at (a.put o.dst v) (.inRegion ops rest::k)) cs) w):K (p,γ) (G (b.at a (.inRegion ops (i::rest)::k)) cs) w:=
 C.step _ _ _ _ λw₁ r=>⟨_,_,_,_,(p,γ),stepG_value ho hw hk (hrun w₁ (Yw hp r)).1,stg hp ⟨rfl,Ky λe he=>(hrun w₁ (Yw hp r)).2 e (mem_listed he)⟩,C.rely _ _ _ _ r h⟩
theorem Ni:(Try.prog.info? 56).map (λi=>(i.zero,i.size,i.bytes))=some (some (.agg #[.int .i64 0,.int .i64 0,.int .i64 0]),3,24):=by kernel_rfl
theorem LP(w:World)(x y s:Int):(Instr.build 56 #[(0,.int .i64 x),(1,.int .i64 y),(2,.int .i64 s)]).run Try.prog w=.ok (.agg #[.int .i64 x,.int .i64 y,.int .i64 s]) w:=
 run_build w 56 _ _ (by kernel_rfl)
theorem Fa(w:World)(es:Array Event)(x y s:Int):(Instr.build 56 #[(0,.int .i64 x),(1,.int .i64 y),(2,.int .i64 s)]).events Try.prog w es=es:=by obtain⟨i0,hi,JG,SE,hz2⟩:=info_parts Ni;obtain⟨i3,hi3,hy0,hy1,hy2⟩:=info_parts Uw;simp[Instr.build,run_underlying Try.underlying56,sizeOf,typeInfo,zeroValue,hi,JG,hi3,hy1];split<;>simp
noncomputable def Iu:Code:=Try.f58.body.getD .skip
noncomputable def X84:Code:=match Iu with|.seq x _=>x|_=>.skip
noncomputable def acn:Code:=match Iu with|.seq _ r=>r|_=>.skip
theorem GR(a b:Wk)(x y:Int)(ys:List Int):msgs a b x (y::ys)=(gD a b x y).map (Bs x y)++msgs a b x ys:=by simp[msgs]
def aii(cf cl bl:Nat)(tv:Value)(γ':Gm)(e:Exit)(a':Act)(w':World):Prop:=e=.normal/\γ'.1=wk cf cl tv []/\bK γ'.2 w' ⟨bl,0,none⟩ (.chan (some cl))/\a'.defers=[]/\a'.tmps.size=46/\a'.tmps[4]? =some (.pointer (some ⟨bl,0,none⟩))
theorem XE{bb ba bx bf bl:Nat}{vl:Value}{nl k:Nat}{y:Int}{v:Value}{m:Nat}{a:Act}(hd:a.defers=[])(hsz:a.tmps.size=46)(t0:a.tmps[0]? =some (.pointer (some ⟨bb,0,none⟩)))(t1:a.tmps[1]? =some (.pointer (some ⟨ba,0,none⟩)))(t2:a.tmps[2]? =some (.pointer (some ⟨bx,0,none⟩)))(t3:a.tmps[3]? =some (.pointer (some ⟨bf,0,none⟩)))(t4:a.tmps[4]? =some (.pointer (some ⟨bl,0,none⟩)))
  (t6:a.tmps[6]? =some (.int .i64 y)) (t11:a.tmps[11]? =some vl) (t12:a.tmps[12]? =some (.int .i64 nl)) (t13:a.tmps[13]? =some (.int .i64 k)) (t32:a.tmps[32]? =some v) (t33:a.tmps[33]? =some (.int .i64 m)) (t34:a.tmps[34]? =some (.int .i64 0)):∃u,a=UI bb ba bx bf bl vl nl k y v m 0 u:=by
 obtain⟨T,df⟩:=a;simp only at hd hsz;subst hd;obtain⟨v0,v1,v2,v3,v4,v5,v6,v7,v8,v9,v10,v11,v12,v13,v14,v15,v16,v17,v18,v19,v20,v21,v22,v23,v24,v25,v26,v27,v28,v29,v30,v31,v32,v33,v34,v35,v36,v37,v38,v39,v40,v41,v42,v43,v44,v45,rfl⟩:=abg T hsz;simp at t0 t1 t2 t3 t4 t6 t11 t12 t13 t32 t33 t34;subst t0 t1 t2 t3 t4 t6 t11 t12 t13 t32 t33 t34;exact qn rfl
theorem LG(hP:Plain Try.prog){bb ba bx bf bl cf cl:Nat}{tv:Value}{da db:Wk}{x:Int}(wz:da.ok)(Bo:db.ok)(JI:0<=x)(hx3:x<4)
  (ha:gA γ w ba da) (hb:gA γ w bb db) (hx:bK γ w ⟨bx,0,none⟩ (.int .i64 x)) (hf:bK γ w ⟨bf,0,none⟩ (.chan (some cf))) (hl:bK γ w ⟨bl,0,none⟩ (.chan (some cl))):
  KJ (KG Try.prog aa false) 58 (wk cf cl tv (msgs da db x db.bC),γ) X84 (aii cf cl bl tv)
   ⟨#[.pointer (some ⟨bb,0,none⟩),.pointer (some ⟨ba,0,none⟩),.pointer (some ⟨bx,0,none⟩),.pointer (some ⟨bf,0,none⟩),.pointer (some ⟨bl,0,none⟩),undef,undef,undef,undef,undef,undef,undef,undef,undef,undef,undef,undef,undef,undef,undef,undef,undef,undef,undef,undef,undef,undef,undef,undef,undef,undef,undef,undef,undef,undef,undef,undef,undef,undef,undef,undef,undef,undef,undef,undef,undef],[]⟩ w:=by
 have C:=Bw (aa:=aa) (main:=false) hP;have hp:∀vs,wk cf cl tv vs≠.ret:=λvs=>(OA vs).1;obtain⟨vl,hvl,A,cap,rfl,hA⟩:=hb.bC;have afx:=Bo.few;refine bh C (cC C ?_);iterate 2 (refine av C ?_;try walk_nrm)
 refine jx C (hp _) hvl ?_;iterate 2 (try walk_nrm;refine av C ?_)
 try walk_nrm
 refine aW C ?_;co_then;refine gI C ?_;refine qg C (λn γ' a w'=>∃γ3 k,γ'=(wk cf cl tv (msgs da db x (db.bC.drop k)),γ3)/\Kept γ w γ3 w'/\k<=db.bC.length/\n=db.bC.length-k/\∃u,a=ace bb ba bx bf bl (.slice A db.bC.length cap) db.bC.length k u) (n:=db.bC.length) ⟨γ,0,rfl,Kept.refl _ _,by omega,by omega,qn rfl⟩ ?_;rintro n γ' a w' ⟨γ3,k,hγ,C8,hk,hn,u,Fs⟩;subst hγ;unfold ace at Fs;subst Fs;refine bh C (cC C ?_);by_cases hlt:k<db.bC.length
 .have YI:decide ((k:Int)<(db.bC.length:Int))=true:=by simpa using hlt
  obtain⟨y,hy⟩:∃y,db.bC[k]? =some y:=⟨_,bP hlt⟩;obtain⟨ad,hAe,hsA⟩:=hA k y hy;subst hAe;have hyb:=Bo.bC k y hy;have UD:db.bC.drop k=y::db.bC.drop (k+1):=by rw[qP hlt];congr 1;exact cA ((bP hlt).symm.trans hy)
  have hs3:=C8.sees hsA;have hw5:IntKind.i64.wrap ((k:Int)+1)=(k:Int)+1:=by rw[xm]<;>omega
  refine av C ?_;try walk_nrm
  refine aW C ?_;co_then;refine bh C (dW C (t:=true) rfl ?_);simp only[if_true];refine kR C ?_;co_then;refine bh C (gI C (bh C (cC C ?_)));refine av C ?_;try walk_nrm
  refine jx C (hp _) hs3 ?_;try walk_nrm
  refine av C ?_;try walk_nrm
  refine aW C ?_;co_then;rw[UD,GR];clear hs3 hA;refine bh C (Z7 C (hp _) (ha.kept C8) (hb.kept C8) (C8.sees hx) JI hx3 hyb.1 (by omega) wz Bo rfl rfl rfl rfl rfl rfl ?_);intro v γ4 a4 w4 YH afj hold h32 h33 h34 fN X9;co_then;obtain⟨A2,tW,rfl,hA2⟩:=fN.HB;obtain⟨u4,ha4⟩:=XE (bb:=bb) (ba:=ba) (bx:=bx) (bf:=bf) (bl:=bl) (vl:=.slice (some ad) db.bC.length cap) (nl:=db.bC.length) (k:=k) YH afj (hold 0 (by omega)) (hold 1 (by omega)) (hold 2 (by omega)) (hold 3 (by omega)) (hold 4 (by omega)) (hold 6 (by omega)) (hold 11 (by omega)) (hold 12 (by omega)) (hold 13 (by omega)) h32 h33 h34;clear hold h32 h33 h34 YH afj fN;have ahK:=C8.trans X9;generalize hl0:gD da db x y=l at*;refine gI C ?_;refine qg C (λn γ' a w'=>∃γ5 j,γ'=(wk cf cl tv ((l.drop j).map (Bs x y)++msgs da db x (db.bC.drop (k+1))),γ5)/\Kept γ4 w4 γ5 w'/\j<=l.length/\n=l.length-j/\∃u,a=UI bb ba bx bf bl (.slice (some ad) db.bC.length cap) db.bC.length k y (.slice A2 l.length tW) l.length j u) (n:=l.length) ⟨γ4,0,rfl,Kept.refl _ _,by omega,by omega,u4,ha4⟩ ?_;clear ha4 C8;rintro n2 γ' a w6 ⟨γ5,j,hγ,Ot,hj,hn2,u,ha5⟩;subst hγ;unfold UI at ha5;subst ha5;have hk6:=ahK.trans Ot;refine bh C (cC C ?_);by_cases Y8:j<l.length
  .have hd2:decide ((j:Int)<(l.length:Int))=true:=by simpa using Y8
   obtain⟨s,hs⟩:∃s,l[j]? =some s:=⟨_,bP Y8⟩;obtain⟨ad2,ah7,ahB⟩:=hA2 j s hs;subst ah7;have aeF:l.drop j=s::l.drop (j+1):=by rw[qP Y8];congr 1;exact cA ((bP Y8).symm.trans hs)
   have hs5:=Ot.sees ahB;have hf5:=hk6.sees hf;have hx5:=hk6.sees hx;have hw6:IntKind.i64.wrap ((j:Int)+1)=(j:Int)+1:=by
    have h1:=(Bo.up y.toNat).1;have h2:=(wz.lo x.toNat).1;have h3:l.length<=2001:=by rw[<-hl0];exact bD (II _ _ _ _) (by omega)
    rw[xm]<;>omega
   refine av C ?_;try walk_nrm
   refine aW C ?_;co_then;refine bh C (dW C (t:=true) rfl ?_);simp only[if_true];refine kR C ?_;co_then;refine bh C (gI C (bh C (cC C ?_)));refine av C ?_;try walk_nrm
   refine jx C (hp _) hs5 ?_;try walk_nrm
   refine av C ?_;try walk_nrm
   refine aW C ?_;co_then;refine cC C ?_;refine jx C (hp _) hf5 ?_;try walk_nrm
   refine jx C (hp _) hx5 ?_;iterate 2 (try walk_nrm;refine av C ?_)
   try walk_nrm
   have hbr:=λw=>LP w x y s;have Fh:=λw=>Fa w #[] x y s;refine eA C (v:=?v18) rfl (by rfl) (λw=>run_eq_of λK hK=>?r18) (λw=>?e18) ?h18
   case r18=>go_simp;exact hK
   case e18=>simp[go_sem,Fh]
   try walk_nrm
   clear hbr Fh;rw[aeF];show KO _ _ (Pc.send cf (Bs x y s) (wk cf cl tv ((l.drop (j+1)).map (Bs x y)++msgs da db x (db.bC.drop (k+1)))),γ5) _ _ _ _ _;refine aaF rfl (by rfl) rfl rfl rfl (OA _).2 (hp _) (λw7 r7=>?_);have X8:=Ot.trans (Kept.rely r7);clear hs5 hf5 hx5 hk6 Ot;try walk_nrm
   refine aW C ?_;co_then;refine cC C ?_;iterate 2 (refine av C ?_;try walk_nrm)
   refine aW C (eN ?_);exact⟨l.length-(j+1),by omega,γ5,j+1,rfl,X8,by omega,rfl,qn rfl⟩
  have hje:j=l.length:=by omega
  subst hje;have hd2:decide ((l.length:Int)<(l.length:Int))=false:=by simp
  simp only[List.drop_length,fG,gZ];refine av C ?_;try walk_nrm
  refine aW C ?_;co_then;refine bh C (dW C (t:=false) rfl ?_);simp only[aI,if_false];refine oO C ?_;co_then;refine cC C ?_;iterate 2 (refine av C ?_;try walk_nrm)
  refine aW C (eN ?_);exact⟨db.bC.length-(k+1),by omega,γ5,k+1,rfl,hk6,by omega,rfl,qn rfl⟩
 have Oq:k=db.bC.length:=by omega
 subst Oq;have YI:decide ((db.bC.length:Int)<(db.bC.length:Int))=false:=by simp
 simp only[List.drop_length];refine av C ?_;try walk_nrm
 refine aW C ?_;co_then;refine bh C (dW C (t:=false) rfl ?_);simp only[aI,if_false];refine oO C ?_;co_then;exact⟨rfl,rfl,C8.sees hl,rfl,rfl,rfl⟩
noncomputable def bot:Frame:={(default:Frame)with fn:=Try.prog.funcs.size,defers:=[],mode:=.panicking [goexitEntry]}
def Yj:Frame:={(default:Frame)with fn:=58,kind:=.deferred}
def call84(bb ba bx bf bl:Nat):Deferred:={target:=.fn (.func 58) #[.pointer (some ⟨bb,0,none⟩),.pointer (some ⟨ba,0,none⟩),.pointer (some ⟨bx,0,none⟩),.pointer (some ⟨bf,0,none⟩),.pointer (some ⟨bl,0,none⟩)],args:=#[]}
theorem aac(a:Act)(hd:a.defers=[])(ops:Array Oper):QuitsIn Try.prog 4 (G (Yj.at a [.inRegion ops []]) [bot]):=by
 obtain⟨T,df⟩:=a;simp only at hd;subst hd;refine .inr ⟨rfl,_,λw=>stepG_region_end,?_⟩;refine .inr ⟨rfl,_,λw=>stepG_end,?_⟩;refine .inr ⟨rfl,G bot [],λw=>?_,?_⟩;.simp[G,stepG,unwind,doReturn,results,Frame.at,Yj,bot,Try.func58,Try.f58,seen,GStep.after,goexitEntry]
 refine .inr ⟨rfl,{G bot []with status:=.finished},λw=>?_,rfl⟩;simp[G,stepG,unwind,bot,goexitEntry,Frame.catches];rfl
theorem aeW(bb ba bx bf bl:Nat)(w:World):stepG Try.prog false (born Try.prog (call84 bb ba bx bf bl)) w=
  .go (G (Yj.at ⟨#[.pointer (some ⟨bb,0,none⟩),.pointer (some ⟨ba,0,none⟩),.pointer (some ⟨bx,0,none⟩),.pointer (some ⟨bf,0,none⟩),.pointer (some ⟨bl,0,none⟩),undef,undef,undef,undef,undef,undef,undef,undef,undef,undef,undef,undef,undef,undef,undef,undef,undef,undef,undef,undef,undef,undef,undef,undef,undef,undef,undef,undef,undef,undef,undef,undef,undef,undef,undef,undef,undef,undef,undef,undef,undef],[]⟩ [.code Iu]) [bot]) w #[]:=by
 simp[born,call84,stepG,unwind,callDeferred,invoke,callFunc,Try.func58,Try.f58,seen,GStep.after,G,Frame.enter,Frame.at,Yj,bot,Iu]
theorem Q3(hP:Plain Try.prog){bb ba bx bf bl cf cl:Nat}{da db:Wk}{x:Int}(wz:da.ok)(Bo:db.ok)(JI:0<=x)(hx3:x<4)
  (ha:gA γ w ba da) (hb:gA γ w bb db) (hx:bK γ w ⟨bx,0,none⟩ (.int .i64 x)) (hf:bK γ w ⟨bf,0,none⟩ (.chan (some cf))) (hl:bK γ w ⟨bl,0,none⟩ (.chan (some cl))):
  Pr Try.prog aa false (wk cf cl (.bool true) (msgs da db x db.bC)) γ (born Try.prog (call84 bb ba bx bf bl)) w:=by
 have C:=Bw (aa:=aa) (main:=false) hP;have hne:=OA (cf:=cf) (cl:=cl) (tv:=.bool true) (msgs da db x db.bC)
 suffices h:KG Try.prog aa false (wk cf cl (.bool true) (msgs da db x db.bC),γ) (born Try.prog (call84 bb ba bx bf bl)) w from h (λ_=>hne.1) hne.2
 refine C.go (fr:=(born Try.prog (call84 bb ba bx bf bl)).frame) (cs:=[]) (λw=>aeW bb ba bx bf bl w) ?_;show KG Try.prog aa false _ (G (Yj.at _ (.code (.seq X84 acn)::[])) [bot]) w;refine C.go (λw=>stepG_seq) ?_;refine LG hP wz Bo JI hx3 ha hb hx hf hl Yj [.code acn] [bot] rfl (by simp[Yj]) ?_;rintro⟨p',γ'⟩ e a' w' ⟨rfl,tA,iN,xg,hsz',ht4⟩;simp only at tA iN;subst tA;show KG Try.prog aa false _ (G (Yj.at a' (.code (.region _ _ false)::[])) [bot]) w';refine C.go (λw=>stepG_region) ?_;refine Pp C (OA _).1 (v:=.chan (some cl)) rfl (by rfl) (by simp[Yj]) (λw₁ h₁=>⟨run_eq_of λK hK=>?_,?_⟩) ?_
 .have hc:=(iN.rely h₁).2;clear hsz'
  go_simp
  exact hK
 .have hc:=(iN.rely h₁).2;intro e he;simp[go_sem,hc,ht4]at he;subst he;exact(iN.rely h₁).JD
 refine Jw rfl (by rfl) rfl ?_ rfl (by simp[Yj]) ⟨4,QuitsD.of_quitsIn (aac _ (by exact xg) _)⟩;simp[Act.eval,Act.put,hsz']
end Go.Co
namespace Go.Co
open Go Go.Conc Go.Proofs
variable {aa:Machine->Trace->Prop} {γ:So} {w:World}
theorem DI{cf cl:Nat}{z2:Value}{rB:Bool}(k:Nat):JE cf cl z2 rB k≠.ret/\JE cf cl z2 rB k≠.stop:=by cases k<;>simp[JE]
theorem Io{P:Program}{main:Bool}{fn:FuncId}{ops:Array Oper}{todo:List Nat}{Q:Gm->Exit->Act->World->Prop}{a:Act}:KO (KG P aa main) fn (.bad,γ) ops todo Q a w:=λ_ _ _ _ _ _ _ _=>trivial
theorem abQ:(Try.prog.info? 4).map (λi=>(i.zero,i.size,i.bytes))=some (some (.bool false),1,1):=by kernel_rfl
theorem ahu(f:FuncId):(Try.prog.funcs[f]?).any (·.norace)=false:=by
 have h:Try.prog.funcs.all (λf=>!f.norace)=true:=by kernel_rfl
 cases hf:Try.prog.funcs[f]? with
 |none=>rfl
 |some fn=>obtain⟨hlt,rfl⟩:=aN.1 hf;simpa using Array.all_eq_true.1 h f hlt
noncomputable def It:Code:=Try.f60.body.getD .skip
noncomputable def X85:Code:=match It with|.seq x _=>x|_=>.skip
noncomputable def acm:Code:=match It with|.seq _ r=>r|_=>.skip
def afH(ba bl bf:Nat)(vl:Value)(nl k:Nat)(u:Nat->Value):Act:=
 ⟨#[.pointer (some ⟨ba,0,none⟩),.pointer (some ⟨bl,0,none⟩),.pointer (some ⟨bf,0,none⟩),u 3,u 4,vl,.int .i64 nl,.int .i64 k,u 8,u 9,u 10,u 11,u 12],[]⟩
def TZ(cf cl bf:Nat)(z2:Value)(γ':Gm)(e:Exit)(a':Act)(w':World):Prop:=e=.normal/\γ'.1=JE cf cl z2 false 0/\bK γ'.2 w' ⟨bf,0,none⟩ (.chan (some cf))/\a'.defers=[]/\a'.tmps.size=13/\a'.tmps[2]? =some (.pointer (some ⟨bf,0,none⟩))
theorem L5(hP:Plain Try.prog){ba bl bf cf cl:Nat}{da:Wk}(wz:da.ok)
  (ha:gA γ w ba da) (hf:bK γ w ⟨bf,0,none⟩ (.chan (some cf))) (hl:bK γ w ⟨bl,0,none⟩ (.chan (some cl))):
  KJ (KG Try.prog aa false) 60 (JE cf cl (.bool false) false da.bC.length,γ) X85 (TZ cf cl bf (.bool false))
   ⟨#[.pointer (some ⟨ba,0,none⟩),.pointer (some ⟨bl,0,none⟩),.pointer (some ⟨bf,0,none⟩),undef,undef,undef,undef,undef,undef,undef,undef,undef,undef],[]⟩ w:=by
 have C:=Bw (aa:=aa) (main:=false) hP;have hp:∀k,JE cf cl (.bool false) false k≠.ret:=λk=>(DI k).1;obtain⟨vl,hvl,A,cap,rfl,-⟩:=ha.bC;have afx:=wz.few;obtain⟨i4,hi4,hy0,hy1,hy2⟩:=info_parts abQ;refine bh C (cC C ?_);iterate 2 (refine av C ?_;try walk_nrm)
 refine jx C (hp _) hvl ?_;iterate 2 (try walk_nrm;refine av C ?_)
 try walk_nrm
 refine aW C ?_;co_then;refine gI C ?_;refine qg C (λn γ' a w'=>∃γ3 k,γ'=(JE cf cl (.bool false) false (da.bC.length-k),γ3)/\Kept γ w γ3 w'/\k<=da.bC.length/\n=da.bC.length-k/\∃u,a=afH ba bl bf (.slice A da.bC.length cap) da.bC.length k u) (n:=da.bC.length) ⟨γ,0,rfl,Kept.refl _ _,by omega,by omega,qn rfl⟩ ?_;rintro n γ' a w' ⟨γ3,k,hγ,C8,hk,hn,u,Fs⟩;subst hγ;unfold afH at Fs;subst Fs;refine bh C (cC C ?_);by_cases hlt:k<da.bC.length
 .have YI:decide ((k:Int)<(da.bC.length:Int))=true:=by simpa using hlt
  have hl3:=C8.sees hl;have hw5:IntKind.i64.wrap ((k:Int)+1)=(k:Int)+1:=by rw[xm]<;>omega
  refine av C ?_;try walk_nrm
  refine aW C ?_;co_then;refine bh C (dW C (t:=true) rfl ?_);simp only[if_true];refine kR C ?_;co_then;refine bh C (gI C (cC C ?_));refine jx C (hp _) hl3 ?_;try walk_nrm
  have hm:da.bC.length-k=(da.bC.length-(k+1))+1:=by omega
  rw[hm];show KO _ _ (Pc.recv cl false (.bool false) (λx=>match x with|some _=>JE cf cl (.bool false) false (da.bC.length-(k+1))|none=>.bad),γ3) _ _ _ _ _;refine I7 rfl (by rfl) (λw=>?_) (λw=>?_) (λx=>?_) (λ_ x=>?_) (λx w7 r7=>?_);.simp[execOp,Act.eval,run_underlying Try.underlying116,zeroValue,typeInfo,hi4,hy0,rcase]
  .simp[execOp,Act.eval,run_underlying Try.underlying116,zeroValue,typeInfo,hi4,hy0]
  .cases x with
   |none=>simp
   |some v=>exact(DI _).2
  .cases x with
   |none=>simp
   |some v=>exact(DI _).1
  cases x with
  |none=>exact Io
  |some v=>
   have X8:=C8.trans (Kept.rely r7);clear hl3 C8;simp only[];try walk_nrm
   refine aW C ?_;co_then;refine cC C ?_;iterate 2 (refine av C ?_;try walk_nrm)
   refine aW C (eN ?_);exact⟨da.bC.length-(k+1),by omega,γ3,k+1,rfl,X8,by omega,rfl,qn rfl⟩
 have Oq:k=da.bC.length:=by omega
 subst Oq;have YI:decide ((da.bC.length:Int)<(da.bC.length:Int))=false:=by simp
 simp only[Nat.sub_self];refine av C ?_;try walk_nrm
 refine aW C ?_;co_then;refine bh C (dW C (t:=false) rfl ?_);simp only[aI,if_false];refine oO C ?_;co_then;exact⟨rfl,rfl,C8.sees hf,rfl,rfl,rfl⟩
def Yi:Frame:={(default:Frame)with fn:=60,kind:=.deferred}
def call85(ba bl bf:Nat):Deferred:={target:=.fn (.func 60) #[.pointer (some ⟨ba,0,none⟩),.pointer (some ⟨bl,0,none⟩),.pointer (some ⟨bf,0,none⟩)],args:=#[]}
theorem aab(a:Act)(hd:a.defers=[])(ops:Array Oper):QuitsIn Try.prog 4 (G (Yi.at a [.inRegion ops []]) [bot]):=by
 obtain⟨T,df⟩:=a;simp only at hd;subst hd;refine .inr ⟨rfl,_,λw=>stepG_region_end,?_⟩;refine .inr ⟨rfl,_,λw=>stepG_end,?_⟩;refine .inr ⟨rfl,G bot [],λw=>?_,?_⟩;.simp[G,stepG,unwind,doReturn,results,Frame.at,Yi,bot,Try.func60,Try.f60,seen,GStep.after,goexitEntry]
 refine .inr ⟨rfl,{G bot []with status:=.finished},λw=>?_,rfl⟩;simp[G,stepG,unwind,bot,goexitEntry,Frame.catches];rfl
theorem aeV(ba bl bf:Nat)(w:World):stepG Try.prog false (born Try.prog (call85 ba bl bf)) w=
  .go (G (Yi.at ⟨#[.pointer (some ⟨ba,0,none⟩),.pointer (some ⟨bl,0,none⟩),.pointer (some ⟨bf,0,none⟩),undef,undef,undef,undef,undef,undef,undef,undef,undef,undef],[]⟩ [.code It]) [bot]) w #[]:=by
 simp[born,call85,stepG,unwind,callDeferred,invoke,callFunc,Try.func60,Try.f60,seen,GStep.after,G,Frame.enter,Frame.at,Yi,bot,It]
theorem Sv(hP:Plain Try.prog){ba bl bf cf cl:Nat}{da:Wk}(wz:da.ok)
  (ha:gA γ w ba da) (hf:bK γ w ⟨bf,0,none⟩ (.chan (some cf))) (hl:bK γ w ⟨bl,0,none⟩ (.chan (some cl))):
  Pr Try.prog aa false (JE cf cl (.bool false) false da.bC.length) γ (born Try.prog (call85 ba bl bf)) w:=by
 have C:=Bw (aa:=aa) (main:=false) hP;have hne:=DI (cf:=cf) (cl:=cl) (z2:=.bool false) (rB:=false) da.bC.length
 suffices h:KG Try.prog aa false (JE cf cl (.bool false) false da.bC.length,γ) (born Try.prog (call85 ba bl bf)) w from h (λ_=>hne.1) hne.2
 refine C.go (fr:=(born Try.prog (call85 ba bl bf)).frame) (cs:=[]) (λw=>aeV ba bl bf w) ?_;show KG Try.prog aa false _ (G (Yi.at _ (.code (.seq X85 acm)::[])) [bot]) w;refine C.go (λw=>stepG_seq) ?_;refine L5 hP wz ha hf hl Yi [.code acm] [bot] rfl (by simp[Yi]) ?_;rintro⟨p',γ'⟩ e a' w' ⟨rfl,tA,Yc,xg,hsz',ht2⟩;simp only at tA Yc;subst tA;show KG Try.prog aa false _ (G (Yi.at a' (.code (.region _ _ false)::[])) [bot]) w';refine C.go (λw=>stepG_region) ?_;refine Pp C (DI _).1 (v:=.chan (some cf)) rfl (by rfl) (by simp[Yi]) (λw₁ h₁=>⟨run_eq_of λK hK=>?_,?_⟩) ?_
 .have hc:=(Yc.rely h₁).2;clear hsz'
  go_simp
  exact hK
 .have hc:=(Yc.rely h₁).2;intro e he;simp[go_sem,hc,ht2]at he;subst he;exact(Yc.rely h₁).JD
 refine FR ahu rfl (by rfl) rfl ?_ (by simp[Yi]) ⟨4,QuitsD.of_quitsIn (aab _ (by exact xg) _)⟩;simp[Act.eval,Act.put,hsz']
end Go.Co
