import Derived.Test.YtadeehilamokkaaGreatDoorPk21
import Derived.Conc.CompanyCalls
import Derived.Conc.Holds
namespace Go.Co
open Go Go.Conc
open Go.ConcN (sumTo upd sumTo_upd upd_ne upd_same)
variable {P:Program}
structure pF (t:Trace):Prop where
 clean:∀said,¬Race said t
 known:∀i a,touchAt t i=some a->a.loc.isMemory=true->Knows t 0 i
 over:t.HandedOver
 hears:Deaf t 0=0
theorem pF.own {t u:Trace}(h:pF t)(hu:∀op∈u,op.g=0)(hd:Deaf t 0=0->Deaf (t++u) 0=0):pF (t++u):=by refine⟨λsaid=>noRace_append (h.clean said) hu λi a ha op hop b hb hc=>h.known i a ha hc.2.1,λi a ha hm=>?_,handedOver_app h.over λop hop=>.inl (hu op hop),hd h.hears⟩;obtain⟨x,hx,Um⟩:=touch_of ha;rcases getElem?_append_cases hx with ⟨_,jY⟩|⟨_,ZN⟩;exact(h.known i a (by rw[touchAt_of jY];exact Um) hm).app u;have:=knows_own hx;rw[hu x ZN]at this;exact this
theorem pF.mute {t u:Trace}{g:Nat}(h:pF t)(hg:g≠0)(hu:∀op∈u,op.g=g)(hn:∀op∈u,op.act.touch?=none):pF (t++u):=by
 refine⟨λsaid=>noRace_append (h.clean said) hu λi a _ op hop b hb _=>(by rw[hn op hop]at hb;cases hb),λi a ha hm=>?_,handedOver_app h.over λop hop=>.inr (hn op hop),(Deaf_other t hg u hu).trans h.hears⟩;obtain⟨x,hx,Um⟩:=touch_of ha;rcases getElem?_append_cases hx with ⟨_,jY⟩|⟨_,ZN⟩;exact(h.known i a (by rw[touchAt_of jY];exact Um) hm).app u
 grind
theorem Tg:pF #[]:=
 ⟨λsaid=>by rintro⟨i,j,_,⟨a,b,ha,_⟩,_⟩;simp[Trace.act?]at ha,λi a ha=>by simp[touchAt,Trace.act?]at ha,λi g hg=>by simp[Trace.g?]at hg,rfl⟩
def Zy(P:Program)(aa:Machine->Trace->Prop)(m:Machine)(t:Trace):Prop:=∃N m' t',runNT P N m t=(.next m',t')/\aa m' t'
variable {aa:Machine->Trace->Prop}
theorem Yb{m:Machine}{t:Trace}(h:aa m t):Zy P aa m t:=⟨0,m,t,rfl,h⟩
theorem iz{m m':Machine}{t:Trace}{ops:Array MemOp}(h:stepT P m=(.next m',ops))(h':Zy P aa m' (t++ops)):Zy P aa m t:=by obtain⟨N,m2,t2,e,hf⟩:=h';exact⟨N+1,m2,t2,by simp only[runNT,h];exact e,hf⟩
def KM(P:Program)(aa:Machine->Trace->Prop)(g:Goroutine)(w:World):Prop:=
 Fr g->g.status=.running->g.dying=none->∀gs sl t q,gs[0]? =some g->Leavers P t gs q->pF t->Zy P aa (crowd gs w sl) t
theorem MC{g:Goroutine}{gs:Array Goroutine}{t:Trace}{q:Nat->Nat}(hL:Leavers P t gs q):Oth P g gs:=λj x hj hx=>⟨(hL.old j x hj hx).status,λ_ _=>woken_quitsD (hL.old j x hj hx)⟩
theorem Hq(hP:Plain P)(g:Goroutine)(w:World)(_hf:Fr g)(_hr:g.status=.running)(_hd:g.dying=none)
  (h:∀d,∃g' w' ops,runT P (solo g (w.at d)) 0=(.next (solo g' w'),ops)/\g'.status=.running/\g'.dying=none/\Fr g'/\KM P aa g' w'):KM P aa g w:=by
 intro hf hr hd
 suffices hM:∀(M:Nat)(d0:Nat)(gs:Array Goroutine)(sl:Option (Nat×Nat))(t:Trace)(q:Nat->Nat),sumTo gs.size q<M->gs[0]? =some g->Leavers P t gs q->pF t->Zy P aa (crowd gs (w.at d0) sl) t by intro gs sl t q h0 hL hp;exact hM _ w.drawn gs sl t q (vB _) h0 hL hp
 intro M;induction M with
 |zero=>exactλd0 gs sl t q hM=>absurd hM (Nat.not_lt_zero _)
 |succ M ih=>
  intro d0 gs sl t q hM h0 hL hp;have Uw:∀g∈gs,awake g:=by
   intro x hx;obtain⟨i,hi,rfl⟩:=Array.mem_iff_getElem.1 hx;rcases nk i with rfl|FM;have:gs[0]=g:=by simpa [b7 hi]using h0
   rw[this];exact awake_of (.inl hr)
   exact awake_of ((hL.old i _ FM (b7 hi)).status.elim .inl λx=>.inr (.inr x))
  obtain⟨i,x,d,sl',hi,hx,hst⟩:=crowd_pick (P:=P) (w:=w.at d0) (sl:=sl) Uw ⟨0,g,h0,hr⟩;have hat:(w.at d0).at d=w.at d:=rfl;rw[hat]at hst;rcases nk i with rfl|FM;obtain rfl:x=g:=by rw[h0]at hi;exact(bG hi).symm
  obtain⟨g',w',ops,e1,e2,e3,e4,e5⟩:=h d;obtain⟨W',hsy,hrun,ho,M5,hfr⟩:=rz (sl:=sl') hP hd hf (Sync.refl w'.drawn (w.at d)) e1 e2 e3 (ai _) h0 (MC hL);have hW:W'=w':=by
   obtain⟨W1,ai5,VZ,-⟩:=rz (sl:=none) hP hd hf (Sync.refl w'.drawn (w.at d)) e1 e2 e3 (ai _) (gs:=#[x]) rfl mY;rw[<-solo_eq_crowd,e1,yH]at VZ;simp[solo,crowd]at VZ;obtain⟨dd,rfl,pV,-⟩:=hsy;obtain⟨d1,MQ,ajH,-⟩:=ai5;simp only at pV ajH;have:dd=d1:=ab
   rw[this,<-MQ];exact VZ.symm
  subst hW;rw[hrun]at hst;refine iz hst (e5 e4 e2 e3 _ _ _ q ?_ ⟨λj y hj hy=>?_,λj hj=>?_⟩ (hp.own ho (M5 t)))
  grind
  have hne:0≠j:=ab
  rw[fF hne]at hy;rw[Deaf_other t (g':=0) ab _ ho];exact hL.old j y hj hy;rw[Deaf_other t (g':=0) (by have hlt:0<gs.size:=(aG.1 h0).1;simp at hj;omega) _ ho];exact hL.above j (by simpa using hj);have hq:=hL.old i x FM hi;have Gb:(i==0)=false:=by simp;omega
  have hlt:i<gs.size:=(aG.1 hi).1;cases hqi:q i with
  |zero=>rw[hqi]at hq;rw[hq.1]at hx;cases hx
  |succ k=>
   rw[hqi]at hq;rcases hq with ⟨hf',_⟩|⟨_,g',es,hm,Vj,Rx⟩
   grind
   have Kp:=runT_crowd_go (P:=P) (sl:=sl') (i:=i) hi (by rw[Gb];exact Vj (w.at d));have hsz:((gs.map (woken P x g' (w.at d))).setIfInBounds i g').size=gs.size:=ae
   have Np:sumTo gs.size (upd q i k)+(k+1)=sumTo gs.size q+k:=by have:=sumTo_upd q k id hlt;simpa [hqi]using this
   rw[Kp]at hst;refine iz hst (ih d _ sl' _ (upd q i k) (by rw[hsz];omega) ?_ ⟨λj y hj hy=>?_,λj hj=>?_⟩ (hp.mute (g:=i) ab (λop hop=>by rw[ofEvents_eq]at hop;obtain⟨e,_,rfl⟩:=gp.1 hop;rfl) λop hop=>by rw[ofEvents_eq]at hop;obtain⟨e,he,rfl⟩:=gp.1 hop;exact touch_mute (hm e he)));have hne:i≠0:=ab
   rw[fF hne,y7,h0];simp[woken_run hr];by_cases iW:i=j;subst iW;rw[sH (by simpa using hlt)]at hy;obtain rfl:=bG hy;rw[upd_same,Deaf_own];exact Rx;rw[fF iW,y7]at hy;obtain⟨y',Zm,rfl⟩:=af.1 hy;have hqj:=hL.old j y' hj Zm;rw[woken_quitsD hqj,upd_ne q k (Ne.symm iW),Deaf_other t iW _ (λop hop=>by rw[ofEvents_eq]at hop;obtain⟨e,_,rfl⟩:=gp.1 hop;rfl)];exact hqj;rw[Deaf_other t (g':=i) (by simp at hj;omega) _ (λop hop=>by rw[ofEvents_eq]at hop;obtain⟨e,_,rfl⟩:=gp.1 hop;rfl)];exact hL.above j (by simpa using hj)
end Go.Co
namespace Go.Co
open Go Go.Conc
structure KC (P:Program) (main:Bool) {Γ:Type} (K:Γ->Goroutine->World->Prop) (Rl:Γ->World->World->Prop) (St:Γ->World->Γ->World->Array Event->Prop):Prop where
 step:∀(γ:Γ)(fr:Frame)(cs:List Frame)(w:World),(∀w1,Rl γ w w1->∃fr' iB w' es γ',stepG P main (G fr cs) w1=.go (G fr' iB) w' es/\St γ w1 γ' w' es/\K γ' (G fr' iB) w')->K γ (G fr cs) w
 idle:∀γ w,St γ w γ w #[]
 rely:∀γ g w w1,Rl γ w w1->K γ g w->K γ g w1
variable {P:Program} {main:Bool} {Γ:Type} {K:Γ->Goroutine->World->Prop} {Rl:Γ->World->World->Prop} {St:Γ->World->Γ->World->Array Event->Prop}
theorem KC.go (C:KC P main K Rl St){γ:Γ}{fr fr':Frame}{cs iB:List Frame}{w:World}(h:∀w,stepG P main (G fr cs) w=.go (G fr' iB) w)(hk:K γ (G fr' iB) w):K γ (G fr cs) w:=
 C.step _ _ _ _ λw1 r=>⟨_,_,_,_,γ,h w1,C.idle _ _,C.rely _ _ _ _ r hk⟩
def CD(K:Γ->Goroutine->World->Prop)(b:Frame)(k:List Item)(cs:List Frame)(γ:Γ):Exit->Act->World->Prop
 |.normal,a,w=>K γ (G (b.at a k) cs) w
 |.exit id,a,w=>∃k',exitTo id k=some k'/\K γ (G (b.at a k') cs) w
 |.ret,a,w=>∀todo,K γ (G {b.at a todo with mode:=.returning} cs) w
 |_,_,_=>False
theorem CD.push {b:Frame}{x:Item}{k:List Item}{cs:List Frame}{γ:Γ}{e:Exit}{a:Act}{w:World}(hx:x.plain=true)(he:e≠.normal)(h:CD K b k cs γ e a w):CD K b (x::k) cs γ e a w:=by
 cases e with
 |normal=>exact absurd rfl he
 |exit id=>obtain⟨k',h1,h2⟩:=h;exact⟨k',by cases x<;>simp_all [exitTo,Item.plain],h2⟩
 |ret=>exact h
 |goto l=>exact h
 |panic ch=>exact h
 |outgrown=>exact h
def KJ(K:Γ->Goroutine->World->Prop)(fn:FuncId)(γ:Γ)(c:Code)(Q:Γ->Exit->Act->World->Prop)(a:Act)(w:World):Prop:=
 ∀(b:Frame)(k:List Item)(cs:List Frame),b.fn=fn->b.kind≠.early->(∀γ' e a' w',Q γ' e a' w'->CD K b k cs γ' e a' w')->K γ (G (b.at a (.code c::k)) cs) w
def KO(K:Γ->Goroutine->World->Prop)(fn:FuncId)(γ:Γ)(ops:Array Oper)(todo:cy)(Q:Γ->Exit->Act->World->Prop)(a:Act)(w:World):Prop:=
 ∀(b:Frame)(k:List Item)(cs:List Frame),b.fn=fn->b.kind≠.early->(∀γ' e a' w',Q γ' e a' w'->CD K b k cs γ' e a' w')->K γ (G (b.at a (.inRegion ops todo::k)) cs) w
variable {fn:FuncId} {γ:Γ} {Q:Γ->Exit->Act->World->Prop} {a:Act} {w:World}
theorem yP{c:Code}{Q':Γ->Exit->Act->World->Prop}(h:KJ K fn γ c Q a w)(hq:∀γ e a w,Q γ e a w->Q' γ e a w):KJ K fn γ c Q' a w:=
 λb k cs hb hk hc=>h b k cs hb hk λ_ _ _ _ q=>hc _ _ _ _ (hq _ _ _ _ q)
theorem Ji(C:KC P main K Rl St){ops:Array Oper}{todo:cy}{w1:World}(r:Rl γ w w1)(h:KO K fn γ ops todo Q a w):KO K fn γ ops todo Q a w1:=
 λb k cs hb hk hc=>C.rely _ _ _ _ r (h b k cs hb hk hc)
theorem kJ(C:KC P main K Rl St)(h:Q γ .normal a w):KJ K fn γ .skip Q a w:=λ_ _ _ _ _ hc=>C.go (λ_=>stepG_skip) (hc _ _ _ _ h)
theorem DR(C:KC P main K Rl St)(h:Q γ .ret a w):KJ K fn γ .ret Q a w:=λ_ _ _ _ _ hc=>C.go (λ_=>stepG_ret') (hc _ _ _ _ h _)
theorem oD(C:KC P main K Rl St){id:Nat}(h:Q γ (.exit id) a w):KJ K fn γ (.exit id) Q a w:=λ_ _ _ _ _ hc=>by obtain⟨k',h1,h2⟩:=hc _ _ _ _ h;exact C.go (λ_=>stepG_exit h1) h2
theorem aY(C:KC P main K Rl St){x y:Code}(h:KJ K fn γ x (λγ'=>Exit.then (KJ K fn γ' y Q) (Q γ')) a w):KJ K fn γ (.seq x y) Q a w:=λb k cs hb hk hc=>
 C.go (λ_=>stepG_seq) (h b (.code y::k) cs hb hk λγ' e a' w' q=>by
  cases e with
  |normal=>exact q b k cs hb hk hc
  |exit id=>exact(hc _ _ _ _ q).push rfl ae
  |ret=>exact CD.push (x:=.code y) rfl ae (hc _ _ _ _ q)
  |goto l=>exact hc _ _ _ _ q
  |panic ch=>exact hc _ _ _ _ q
  |outgrown=>exact hc _ _ _ _ q)
theorem dG(C:KC P main K Rl St){c:Operand}{x y:Code}{t:Bool}(ht:a.eval c=.bool t)(h:KJ K fn γ (if t then x else y) Q a w):KJ K fn γ (.cond c x y) Q a w:=λb k cs hb hk hc=>
 C.go (λ_=>stepG_cond ht) (h b k cs hb hk hc)
theorem gz(C:KC P main K Rl St){id:Nat}{c:Code}(h:KJ K fn γ c (λγ'=>Exit.inBlock id (Q γ')) a w):KJ K fn γ (.block id c) Q a w:=λb k cs hb hk hc=>
 C.go (λ_=>stepG_block) (h b (.inBlock id::k) cs hb hk λγ' e a' w' q=>by
  cases e with
  |normal=>exact C.go (λ_=>stepG_inBlock) (hc _ _ _ _ q)
  |exit iG=>
   simp only[Exit.inBlock]at q;split at q;rename_i h;subst h
   exact⟨k,by simp[exitTo],hc _ _ _ _ q⟩;rename_i h;obtain⟨k',h1,h2⟩:=hc _ _ _ _ q;exact⟨k',by simp[exitTo,Ne.symm h,h1],h2⟩
  |ret=>exact hc _ _ _ _ q
  |goto l=>exact(hc _ _ _ _ q).elim
  |panic ch=>exact hc _ _ _ _ q
  |outgrown=>exact hc _ _ _ _ q)
theorem Bf(C:KC P main K Rl St){id:Nat}{ops:Array Oper}(h:KO K fn γ ops (List.range ops.size) Q a w):KJ K fn γ (.region id ops false) Q a w:=λb k cs hb hk hc=>
 C.go (λ_=>stepG_region) (h b k cs hb hk hc)
theorem aS(C:KC P main K Rl St){ops:Array Oper}(h:Q γ .normal a w):KO K fn γ ops [] Q a w:=λ_ _ _ _ _ hc=>C.go (λ_=>stepG_region_end) (hc _ _ _ _ h)
theorem yO(C:KC P main K Rl St){ops:Array Oper}{i:Nat}{rest:cy}{o:Oper}(ho:ops[i]? =some o)(hw:Region.wanted o (yielded ops a.tmps)=true)
  (h:∀w₁,Rl γ w w₁->uponK o a (λa' w'=>∃γ',St γ w₁ γ' w' (listed P fn a o w₁)/\KO K fn γ' ops rest Q a' w') ((execOp a.eval o).run P w₁)):KO K fn γ ops (i::rest) Q a w:=by
 intro b k cs hb hk hc;refine C.step _ _ _ _ λw₁ h₁=>?_;have Bt:b.kind≠.early:=hk;have:=h w₁ h₁
 revert this
 cases hr:(execOp a.eval o).run P w₁ with
 |ok x w'=>
  cases x with
  |value v=>exactλ⟨γ',d,g⟩=>⟨_,_,_,_,γ',stepG_value ho hw Bt hr,hb▸d,g b k cs hb hk hc⟩
  |skip=>exactλ⟨γ',d,g⟩=>⟨_,_,_,_,γ',stepG_none ho hw Bt hr,hb▸d,g b k cs hb hk hc⟩
  |_=>exactλh=>h.elim
 |halt _ _=>exactλh=>h.elim
theorem dc(C:KC P main K Rl St){ops:Array Oper}{i:Nat}{rest:cy}{o:Oper}(ho:ops[i]? =some o)(hw:Region.wanted o (yielded ops a.tmps)=false)
  (h:KO K fn γ ops rest Q (a.put o.dst undef) w):KO K fn γ ops (i::rest) Q a w:=λb k cs hb hk hc=>
 C.go (λ_=>stepG_unwanted ho hw) (h b k cs hb hk hc)
def PV(P:Program)(fn:Func)(Post:Γ->Value->World->Prop)(γ:Γ):Exit->Act->World->Prop
 |.normal,a,w|.ret,a,w=>a.defers=[]/\∃v,ResultsC P fn a.tmps v/\Post γ v w
 |_,_,_=>False
def yE(K:Γ->Goroutine->World->Prop)(P:Program)(γ:Γ)(f:FuncId)(args:Array Value)(w:World)(Post:Γ->Value->World->Prop):Prop:=
 ∃fn c,P.funcs[f]? =some fn/\(fn.name=="runtime.NumGoroutine")=false/\fn.body=some c/\KJ K f γ c (PV P fn Post) {tmps:=args++Array.replicate (fn.ntmps-args.size) undef,defers:=[]} w
theorem Eu{f:FuncId}{tF:Func}{c:Code}{args:Array Value}{Post:Γ->Value->World->Prop}(hf:P.funcs[f]? =some tF)(yw:(tF.name=="runtime.NumGoroutine")=false)(hb:tF.body=some c)
 (h:KJ K f γ c (PV P tF Post) {tmps:=args++Array.replicate (tF.ntmps-args.size) undef,defers:=[]} w):yE K P γ f args w Post:=⟨tF,c,hf,yw,hb,h⟩
theorem QU(C:KC P main K Rl St){ops:Array Oper}{i:Nat}{rest:cy}{o:Oper}{f:FuncId}{args:Array Operand}{ats:Array TypeId}{Post:Γ->Value->World->Prop}
  (ho:ops[i]? =some o) (hw:Region.wanted o (yielded ops a.tmps)=true) (hop:o.op=.call {callee:=.value (.func f),args,argTypes:=ats})
  (nI:yE K P γ f (args.map a.eval) w Post) (eW:∀γ' v w',Post γ' v w'->KO K fn γ' ops rest Q (a.put o.dst v) w'):KO K fn γ ops (i::rest) Q a w:=by
 intro b k cs hb hk hc;obtain⟨tF,c,hf,yw,PK,hwp⟩:=nI;have Bt:b.kind≠.early:=hk;have pW:∀v,(b.at a (.inRegion ops (i::rest)::k)).finish v=b.at (a.put o.dst v) (.inRegion ops rest::k):=λv=>by rw[Frame.finish_at,ho];rfl
 have kU:∀(γ':Γ)(a':Act)(w':World)(todo:List Item),(a'.defers=[]/\∃v,ResultsC P tF a'.tmps v/\Post γ' v w')->
   K γ' (G {(base f).at a' todo with mode:=.returning} (b.at a (.inRegion ops (i::rest)::k)::cs)) w':=by
  rintro γ' a' w' todo ⟨hd,v,hr,hp⟩;refine C.go (λw₁=>?_) (eW γ' v w' hp b k cs hb hk hc);rw[stepG_leave (b:=base f) rfl hd hf (hr w₁).1 (hr w₁).2,pW]
 have afv:K γ (G ((base f).at {tmps:=args.map a.eval++Array.replicate (tF.ntmps-(args.map a.eval).size) undef,defers:=[]} [.code c]) (b.at a (.inRegion ops (i::rest)::k)::cs)) w:=by
  refine hwp (base f) [] _ rfl (by simp[base]) λγ' e a' w' q=>?_;cases e with
  |normal=>exact C.go (λ_=>stepG_end) (kU γ' a' w' [] q)
  |ret=>exactλtodo=>kU γ' a' w' todo q
  |exit id=>exact q.elim
  |goto l=>exact q.elim
  |panic ch=>exact q.elim
  |outgrown=>exact q.elim
 refine C.go (λw₁=>?_) afv;have:=goes_call (P:=P) (main:=main) (b:=b) (k:=k) (cs:=cs) (w:=w₁) (K:=λg w es=>g=G ((base f).at {tmps:=args.map a.eval++Array.replicate (tF.ntmps-(args.map a.eval).size) undef,defers:=[]} [.code c]) (b.at a (.inRegion ops (i::rest)::k)::cs)/\w=w₁/\es=#[]) ho hw Bt hop hf yw PK ⟨rfl,rfl,rfl⟩;obtain⟨g',w',es,e,h1,h2,h3⟩:=goes_elim this;rw[e,h1,h2,h3]
end Go.Co
namespace Go.Co
open Go Go.Conc
open Go.ConcN (sumTo upd sumTo_upd upd_ne upd_same)
variable {P:Program} {aa:Machine->Trace->Prop}
def RlM(_:Unit)(w w1:World):Prop:=∃d,w1=w.at d
def StM(_:Unit)(_:World)(_:Unit)(_:World)(_:Array Event):Prop:=True
def iI(P:Program)(aa:Machine->Trace->Prop)(_:Unit)(g:Goroutine)(w:World):Prop:=∀d,KM P aa g (w.at d)
theorem yQ(hP:Plain P):KC P true (iI P aa) RlM StM where
 step:=λγ fr cs w h d0 hf hr hd=>by refine Hq hP _ (w.at d0) hf hr hd (λd=>?_) hf hr hd;obtain⟨fr',iB,w',es,γ',e,-,hk⟩:=h (w.at d) ⟨d,rfl⟩;have jU:=ru (b:=False) hP true (G fr cs) hf (w.at d);rw[e]at jU;exact⟨G fr' iB,w',_,runT_solo_go e,rfl,rfl,jU.2.1,hk w'.drawn⟩
 idle:=λ_ _=>trivial
 rely:=λγ g w w1 r h d=>by obtain⟨d1,rfl⟩:=r;exact h d
theorem QV(hP:Plain P){g:Goroutine}{w:World}
  (h:Fr g->∀τ,∃n gt wt,runN P n (solo g (w.re τ 0))=.next (solo gt wt)/\gt.status=.running/\gt.dying=none/\∀τ d,iI P aa () gt (wt.re τ d)):iI P aa () g w:=by
 intro d0 hf hr hd;refine lift hP (KM P aa) (λg w hf hr hd h=>Hq hP g w hf hr hd h) g (w.at d0) hf (λt=>by rw[hr];simp) (λτ=>?_) hf hr hd;obtain⟨n,gt,wt,h1,h2,h3,h4⟩:=h hf τ;exact⟨n,gt,wt,h1,h2,h3,λτ d=>h4 τ d d⟩
def CC(P:Program)(Post:Value->World->Prop)(m:Machine)(t:Trace):Prop:=∃o w' ops,stepT P m=(.ended o w',ops)/\Good P Post m o w' (t++ops)
theorem MN{g:Goroutine}{gs:Array Goroutine}{w:World}{sl:Option (Nat×Nat)}{t:Trace}{q:Nat->Nat}(hr:g.status=.running)(h0:gs[0]? =some g)(hL:Leavers P t gs q)(hp:pF t):
  (∃d sl',stepT P (crowd gs w sl)=runT P (crowd gs (w.at d) sl') 0)\/
  (∃d sl' gs' ops q',stepT P (crowd gs w sl)=(.next (crowd gs' (w.at d) sl'),ops)/\gs'[0]? =some g/\Leavers P (t++ops) gs' q'/\pF (t++ops)/\sumTo gs'.size q'<sumTo gs.size q):=by
 have Uw:∀g∈gs,awake g:=by
  intro x hx;obtain⟨i,hi,rfl⟩:=Array.mem_iff_getElem.1 hx;rcases nk i with rfl|FM;have:gs[0]=g:=by simpa [b7 hi]using h0
  rw[this];exact awake_of (.inl hr)
  exact awake_of ((hL.old i _ FM (b7 hi)).status.elim .inl λx=>.inr (.inr x))
 obtain⟨i,x,d,sl',hi,hx,hst⟩:=crowd_pick (P:=P) (w:=w) (sl:=sl) Uw ⟨0,g,h0,hr⟩;rcases nk i with rfl|FM
 grind
 have hq:=hL.old i x FM hi;have Gb:(i==0)=false:=by simp;omega
 have hlt:i<gs.size:=(aG.1 hi).1;cases hqi:q i with
 |zero=>rw[hqi]at hq;rw[hq.1]at hx;cases hx
 |succ k=>
  rw[hqi]at hq;rcases hq with ⟨hf',_⟩|⟨_,g',es,hm,Vj,Rx⟩
  grind
  have Kp:=runT_crowd_go (P:=P) (sl:=sl') (i:=i) hi (by rw[Gb];exact Vj (w.at d));have hsz:((gs.map (woken P x g' (w.at d))).setIfInBounds i g').size=gs.size:=ae
  have Np:sumTo gs.size (upd q i k)+(k+1)=sumTo gs.size q+k:=by have:=sumTo_upd q k id hlt;simpa [hqi]using this
  rw[Kp]at hst;refine .inr ⟨d,sl',_,_,upd q i k,hst,?_,⟨λj y hj hy=>?_,λj hj=>?_⟩,hp.mute (g:=i) ab (λop hop=>by rw[ofEvents_eq]at hop;obtain⟨e,_,rfl⟩:=gp.1 hop;rfl) (λop hop=>by rw[ofEvents_eq]at hop;obtain⟨e,he,rfl⟩:=gp.1 hop;exact touch_mute (hm e he)),by rw[hsz];omega⟩;have hne:i≠0:=ab
  rw[fF hne,y7,h0];simp[woken_run hr];by_cases iW:i=j;subst iW;rw[sH (by simpa using hlt)]at hy;obtain rfl:=bG hy;rw[upd_same,Deaf_own];exact Rx;rw[fF iW,y7]at hy;obtain⟨y',Zm,rfl⟩:=af.1 hy;have hqj:=hL.old j y' hj Zm;rw[woken_quitsD hqj,upd_ne q k (Ne.symm iW),Deaf_other t iW _ (λop hop=>by rw[ofEvents_eq]at hop;obtain⟨e,_,rfl⟩:=gp.1 hop;rfl)];exact hqj;rw[Deaf_other t (g':=i) (by simp at hj;omega) _ (λop hop=>by rw[ofEvents_eq]at hop;obtain⟨e,_,rfl⟩:=gp.1 hop;rfl)];exact hL.above j (by simpa using hj)
theorem JO{g:Goroutine}{w:World}(hr:g.status=.running)
  (h:∀d d0 sl' gs sl t q,gs[0]? =some g->Leavers P t gs q->pF t->stepT P (crowd gs (w.at d0) sl)=runT P (crowd gs (w.at d) sl') 0->Zy P aa (crowd gs (w.at d0) sl) t):
  ∀d0 gs sl t q,gs[0]? =some g->Leavers P t gs q->pF t->Zy P aa (crowd gs (w.at d0) sl) t:=by
 suffices hM:∀(M:Nat)(d0:Nat)(gs:Array Goroutine)(sl:Option (Nat×Nat))(t:Trace)(q:Nat->Nat),sumTo gs.size q<M->gs[0]? =some g->Leavers P t gs q->pF t->Zy P aa (crowd gs (w.at d0) sl) t by intro d0 gs sl t q h0 hL hp;exact hM _ d0 gs sl t q (vB _) h0 hL hp
 intro M;induction M with
 |zero=>exactλd0 gs sl t q hM=>absurd hM (Nat.not_lt_zero _)
 |succ M ih=>intro d0 gs sl t q hM h0 hL hp;rcases MN (w:=w.at d0) (sl:=sl) hr h0 hL hp with ⟨d,sl',hst⟩|⟨d,sl',gs',ops,q',hst,Uz,RB,sY,hlt⟩;exact h d d0 sl' gs sl t q h0 hL hp hst;exact iz hst (ih d gs' sl' _ q' ab Uz RB sY)
theorem afl{Post:Value->World->Prop}{fr:Frame}{w:World}{v:Value}(hl:∀d,fr.leaving P (w.at d) (.returned v))(hi:P.inits.idxOf? fr.fn=none)(Kq:∀d,Post v (w.at d)):
  iI P (CC P Post) () (G fr []) w:=by
 intro d0 hf hr hd gs sl t q h0 hL hp;refine JO (g:=G fr []) (w:=w) rfl (λd d0 sl' gs sl t q h0 hL hp hst=>Yb ?_) d0 gs sl t q h0 hL hp;have tN:∃es,stepG P true (G fr []) (w.at d)=.ended (.done v) (w.at d) es:=by obtain⟨hm,M5,hk,fn,UT,ajc⟩:=hl d;refine⟨seen P fr.fn ((results fn fr.tmps).runT P (w.at d) #[]).2++#[],?_⟩;simp[stepG,G,unwind,doReturn,hm,M5,hk,UT,ajc,hi,GStep.after]
 obtain⟨es,tN⟩:=tN;have Kp:=runT_many_ended (P:=P) (sl:=sl') (i:=0) h0 (show stepG P (0==0) (G fr []) (w.at d)=_ from tN);have hu:∀op∈MemOp.ofEvents 0 (G fr []).frame.fn (G fr []).frame.place es,op.g=0:=λop hop=>by rw[ofEvents_eq]at hop;obtain⟨e,_,rfl⟩:=gp.1 hop;rfl
 refine⟨_,_,_,hst.trans Kp,v,rfl,Kq d,λsaid=>noRace_append (hp.clean said) hu λi a ha op hop b hb hc=>hp.known i a ha hc.2.1,handedOver_app hp.over λop hop=>.inl (hu op hop),⟨λx hx=>?_,rfl⟩,λj x hx hj=>?_⟩;obtain⟨j,hj⟩:=sG.1 hx;rw[y6]at hj;exact⟨_,(hL.old (1+j) x ab (by simpa [crowd]using hj)).leaves⟩;have hq:=hL.old j x ab hx;refine⟨q j,?_⟩;have e:(t++MemOp.ofEvents 0 (G fr []).frame.fn (G fr []).frame.place es).deaf j (t++MemOp.ofEvents 0 (G fr []).frame.fn (G fr []).frame.place es).size=Deaf t j:=
  Deaf_other t (g:=j) (g':=0) ab _ hu
 rw[e];exact hq.hears _
theorem OZ{Post:Value->World->Prop}{fr:Frame}{w:World}(hf:Fr (G fr []))(h:iI P (CC P Post) () (G fr []) w):
  ∃N last o w' t',runNT P (N+1) (solo (G fr []) w) #[]=(.ended o w',t')/\runN P N (solo (G fr []) w)=.next last/\step P last=.ended o w'/\Good P Post last o w' t':=by
 obtain⟨N,m,t,hr,o,w',ops,hst,hg⟩:=h w.drawn hf rfl rfl #[G fr []] none #[] (λ_=>0) rfl (leavers_one P _) Tg;rw[<-solo_eq_crowd]at hr;have hs:step P m=.ended o w':=by unfold step;rw[hst]
 have F7:runNT P N (solo (G fr []) w) #[]=(.next m,t):=hr;refine⟨N,m,o,w',t++ops,?_,?_,hs,hg⟩;have h2:=runNT_succ P N _ _ _ _ F7;have h1:(runNT P (N+1) (solo (G fr []) w) #[]).1=.ended o w':=by rw[runNT_fst,runN_add,show runN P N (solo (G fr []) w)=.next m by rw[<-runNT_fst P N _ #[],F7]];simp only[runN,hs]
 rw[hst]at h2;exact Prod.ext h1 h2;rw[<-runNT_fst P N _ #[],F7]
end Go.Co
