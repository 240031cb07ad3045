import Derived.Test.YtadeehilamokkaaGreatDoorPk25
import Derived.Conc.AppendEvents3
import Derived.Test.YtadeehilamokkaaGreatDoorPk29
import Derived.OwnWalk
set_option maxHeartbeats 2000000
set_option maxRecDepth 100000
namespace Go.Co
open Go Go.Conc
variable {P:Program} {main:Bool} {K:Gm->Goroutine->World->Prop} {fn:FuncId} {p:Pc} {γ:So} {Q:Gm->Exit->Act->World->Prop} {a:Act} {w:World} {ops:Array Oper} {i:Nat} {rest:cy} {o:Oper}
def lG(γ:So)(w:World)(B:Nat)(e:TypeId)(size:Nat)(v:Value)(n:Nat)(xs:List Value):Prop:=w.ownsRow B e size v n xs/\∀b,v.ownBlock=some b->γ.2 b
theorem lG.nil (B:Nat)(e:TypeId)(size:Nat):lG γ w B e size (.slice none 0 0) 0 []:=⟨World.ownsRow_nil _ _ _ _,λb h=>by simp[Value.ownBlock]at h⟩
theorem E6{w w1:World}{B:Nat}{e:TypeId}{size:Nat}{v:Value}{n:Nat}{xs:List Value}(h:w.ownsRow B e size v n xs)(hb:∀b,v.ownBlock=some b->w1.heap[b]? =w.heap[b]?):w1.ownsRow B e size v n xs:=by refine⟨h.1,h.2.imp id λ⟨g,cap,cur,hv,h0,hg,hr⟩=>⟨g,cap,cur,hv,h0,?_,hr⟩⟩;rw[hb g (by rw[hv];rfl)];exact hg
theorem lG.rely {B:Nat}{e:TypeId}{size:Nat}{v:Value}{n:Nat}{xs:List Value}{w1:World}(h:lG γ w B e size v n xs)(r:iV γ w w1):lG γ w1 B e size v n xs:=
 ⟨E6 h.1 λb hb=>r.2.1 b (.inr (h.2 b hb)),h.2⟩
theorem lG.kept {B:Nat}{e:TypeId}{size:Nat}{v:Value}{n:Nat}{xs:List Value}{γ':So}{w':World}(h:lG γ w B e size v n xs)(k:Kept γ w γ' w'):lG γ' w' B e size v n xs:=
 ⟨E6 h.1 λb hb=>k.blk b (.inr (h.2 b hb)) (h.1.lt b hb).2,λb hb=>k.own b (h.2 b hb)⟩
theorem lG.sees {B:Nat}{e:TypeId}{size:Nat}{g n cap:Nat}{xs:List Value}(h:lG γ w B e size (.slice (some ⟨g,0,none⟩) n cap) n xs){j:Nat}{u:Value}(hu:xs[j]? =some u):bF γ w ((⟨g,0,none⟩:Addr).add j) u:=
 ⟨.inr (by rw[addBlock];exact h.2 g rfl),h.1.cells (g:=g) rfl j u hu⟩
theorem lG.more {B B':Nat}{e:TypeId}{size:Nat}{v:Value}{n:Nat}{xs:List Value}(h:lG γ w B e size v n xs)(hB:B'<=B):lG γ w B' e size v n xs:=
 ⟨⟨h.1.1,h.1.2.imp id λ⟨g,cap,cur,hv,h0,hg⟩=>⟨g,cap,cur,hv,bt hB h0,hg⟩⟩,h.2⟩
theorem lG.HT {B:Nat}{v:Value}{l:cj}(h:lG γ w B 3 1 v l.length (l.map λx=>.int .i64 x)):Ag γ w v l:=by rcases h.1.2 with ⟨rfl,h0⟩|⟨g,cap,cur,rfl,-,-,-⟩;have:l=[]:=eE h0;subst this;exact⟨none,0,rfl,λi x hx=>by simp at hx⟩;exact⟨some ⟨g,0,none⟩,cap,rfl,λi x hx=>⟨_,rfl,h.sees (by simp[hx])⟩⟩
theorem Kept.append {γ0 γ':So}{w0 w':World}{v:Value}(k:Kept γ0 w0 γ w)(h1:γ'.1=γ.1)(h2:∀b,γ.2 b->γ'.2 b)(h3:w.heap.size<=w'.heap.size)
  (h4:∀b,γ.all b->b<w.heap.size->some b≠v.ownBlock->w'.heap[b]? =w.heap[b]?) (h5:w'.os=w.os/\w'.output=w.output) (hb:∀b,v.ownBlock=some b->w0.heap.size<=b):Kept γ0 w0 γ' w':=
 ⟨h1.trans k.shr,λb hb=>h2 b (k.own b hb),λb dX hlt=>(h4 b (k.all dX) (cK hlt k.size) λe=>by have:=hb b e.symm;omega).trans (k.blk b dX hlt),bt k.size h3,h5.1.trans k.env.1,h5.2.trans k.env.2⟩
theorem Hp(C:KC P main K CQ H7)(hp:p≠.ret){s x:Operand}{t e:TypeId}{info:TypeInfo}{z:Value}{size bytes:Nat}{v:Value}{n:Nat}{xs:List Value}{ad:Addr}{m c:Nat}{news:List Value}
  (ho:ops[i]? =some o) (hw:Region.wanted o (yielded ops a.tmps)=true) (hop:o.op=.call {callee:=.builtin .append,args:=#[s,x],argTypes:=#[t,t]})
  (ht:P.underlying t=some (.slice e)) (hi:P.info? e=some info) (hz:info.zero=some z) (BC:info.size=size) (hby:info.bytes=bytes) (Ul:z.cells.size=size) (hsz:0<size)
  (hs:a.eval s=v) (hx:a.eval x=.slice (some ad) m c) {B:Nat} (hB:B<=w.heap.size) (dW:lG γ w B e size v n xs) (hl:news.length=m*size) (nG:∀(j:Nat)(u:Value),news[j]? =some u->bF γ w (ad.add j) u) (had:γ.all ad.block) (h1:∀u∈news,u.oneCell'=true)
  (h63:n+m<=maxLen) (mD:(n+m)*bytes<=140737488355328)
  (h:∀v' w' s',s'.1=γ.1->(∀b,γ.2 b->s'.2 b)->w.heap.size<=w'.heap.size->(∀b,γ.all b->b<w.heap.size->some b≠v.ownBlock->w'.heap[b]? =w.heap[b]?)->(w'.os=w.os/\w'.output=w.output)->lG s' w' B e size v' (n+m) (xs++news)->KO K fn (p,s') ops rest Q (a.put o.dst v') w'):KO K fn (p,γ) ops (i::rest) Q a w:=by
 refine NU C hp ho hw λw₁ r=>?_;have Gs:=dW.rely r;have DT:∀(j:Nat)(u:Value),news[j]? =some u->w₁.cell? (ad.add j)=some u:=λj u hu=>((nG j u hu).rely r).2;obtain⟨v',w',hrun,Ks,hg,-⟩:=run_append_own (P:=P) (w:=w₁) B t o.type e info z size bytes ht hi hz BC hby Ul hsz v n xs Gs.1 ad m c news hl DT h1 h63 mD (bt hB r.1);have wu:=events_append_where (P:=P) w₁ B t o.type e info z size bytes ht hi hz BC hby v n xs Gs.1 ad m c news hl DT h1 h63 mD;have hO:∀b,some b=v.ownBlock->γ.2 b:=λb hb=>dW.2 b hb.symm;have hblk:∀b,γ.all b->b<w.heap.size->some b≠v.ownBlock->w'.heap[b]? =w.heap[b]? :=λb hb hlt hne=>(hg.block b (cK hlt r.1) hne).trans (r.2.1 b hb);have V6:∀b,v'.ownBlock=some b->γ.2 b\/(w₁.heap.size<=b/\b<w'.heap.size):=by
  intro b hb;by_cases hlt:b<w₁.heap.size;by_cases hv:some b=v.ownBlock
  grind
  left;subst BC;subst hby
  have aj3:n+m<=9223372036854775807:=by simp only[maxLen]at h63;omega
  rcases Gs.1.2 with ⟨rfl,rfl⟩|⟨g,cap,cur,rfl,hbg,hgg,hnc,hcm,nR,PF⟩;by_cases hm:m=0;subst hm;have J2:xs=[]:=eE (by simpa using Gs.1.1);have wq:news=[]:=eE (by simpa using hl);subst J2;subst wq;rcases Ks.2 with ⟨rfl,_⟩|⟨g,cap,cur,rfl,-,-,-⟩
  grind
  have:(Builtin.append_ #[t,t] o.type #[.slice none 0 0,.slice (some ad) 0 c]).run P w₁=.ok (.slice none 0 0) w₁:=by simp[Builtin.append_,run_underlying ht,sizeOf,typeInfo,hi,Builtin.lenOf,Builtin.firstCells,loadCells,loadCellsFrom]
  rw[this]at hrun;cases hrun;have hr:=run_append_nil (P:=P) w₁ t o.type e info z ht hi hz ad m c news hl DT ab ab (by have hb:=mD;simp only[eO]at hb;omega);rw[hr]at hrun;cases hrun;simp[Value.ownBlock]at hb;omega;by_cases hroom:n+m<=cap;have Im:n*info.size+news.length<=cur.size:=by rw[hl,nR,<-kL];exact gv _ hroom
  have hr:=run_append_room (P:=P) w₁ t o.type e info ht hi g n cap cur hgg ad m c news hl DT h1 hroom Im;rw[hr]at hrun;cases hrun;exact absurd hb.symm hv;have holds:∀(j:Nat)(u:Value),xs[j]? =some u->w₁.cell? ((⟨g,0,none⟩:Addr).add j)=some u:=Gs.1.cells (g:=g) rfl;have hr:=run_append_grow (P:=P) w₁ t o.type e info z ht hi hz ⟨g,0,none⟩ n cap xs Gs.1.1 holds ad m c news hl DT ab ab (growslice_fits ab mD);rw[hr]at hrun;cases hrun;simp[Value.ownBlock]at hb;omega;exact .inr ⟨ab,(Ks.lt b hb).2⟩
 refine⟨v',w',(γ.1,λb=>γ.2 b\/(w₁.heap.size<=b/\b<w'.heap.size)),?_,⟨rfl,λb=>Iff.rfl,hg.size,λb hb hn=>hg.block b hb λe=>hn (hO b e),hg.tape,hg.os,hg.output,λe he=>?_⟩,h v' w' _ rfl (λb hb=>.inl hb) (bt r.1 hg.size) hblk ⟨hg.os.trans r.2.2.2.1,hg.output.trans r.2.2.2.2⟩ ⟨Ks,V6⟩⟩;unfold execOp;simp only[hop,resolve,invoke,builtin,Sem.run_bind,Sem.run_pure,Result.andThen_ok,List.map_toArray,aZ,dR,hs,hx,hrun];have he':=mem_listed he;rw[events_append_op s x t hop hs hx]at he';rcases wu e he' with ⟨b,hb,hr⟩|hm;obtain⟨l,wr,sy⟩:=e;simp only at hb hr;subst hb;refine .inl ⟨b,wr,sy,rfl,λhwr=>?_,?_⟩
 grind
 rcases hr with ⟨-,h2⟩|h2;rw[h2];exact had.imp id .inl
 grind
 exact .inr hm
open Go.ConcN (sumTo sumTo_upd sumTo_congr le_sumTo upd upd_same upd_ne)
theorem XD(γ:So)(w:World)(d:Nat):JY γ w γ (w.at d) #[]:=⟨rfl,λb=>⟨.inl,λh=>h.elim id λh=>absurd h.2 (by have:(w.at d).heap.size=w.heap.size:=rfl;omega)⟩,ai _,λ_ _ _=>rfl,rfl,rfl,rfl,ae⟩
def af6(ops:Array Oper):Bool:=(List.range ops.size).all λi=>match ops[i]? with|some o=>o.after.all λe=>decide (e.on<i)|none=>true
theorem ae9(h:af6 ops=true)(i:Nat)(o:Oper)(ho:ops[i]? =some o):∀e∈o.after,e.on<i:=by intro e he;have h1:=aU.1 h i (by rw[Dc];exact(aG.1 ho).1);rw[ho]at h1;simp only at h1;obtain⟨j,hj,rfl⟩:=Array.mem_iff_getElem.1 he;simpa using Array.all_eq_true.1 h1 j hj
theorem abU(C:KC P main K CQ H7)(hp:p≠.ret)(hm:P.follows .mixedOrders=true){id:Nat}(J:(Nat->Bool)->So->Act->World->Prop)
  (ac7:af6 ops=true)
  (h0:∀w₁,iV γ w w₁->J (λ_=>false) γ a (w₁.at (w₁.drawn+1)))
  (hop:∀L γ a w i o,J L γ a w->ops[i]? =some o->L i=false->(∀e∈o.after,Region.binds .any e=true->L e.on=true)->
   ∀rest,(∀γ' a' w',J (upd L i true) γ' a' w'->KO K fn (p,γ') ops rest Q a' w')->KO K fn (p,γ) ops (i::rest) Q a w)
  (tN:∀L γ a w,J L γ a w->(∀i,i<ops.size->L i=true)->Q (p,γ) .normal a w):KJ K fn (p,γ) (.region id ops true) Q a w:=by
 have qV:=ae9 ac7;have key:∀(fuel t:Nat)(listed:Array Bool)(γ:So)(a:Act)(w:World),listed.size=ops.size->sumTo ops.size (λj=>if listed.getD j true then 0 else 1)=fuel->J (λj=>listed.getD j false) γ a w->
   KO K fn (p,γ) ops (Region.linearise.go .any ops fuel t listed []) Q a w:=by
  intro fuel;induction fuel with
  |zero=>
   intro t listed γ a w hsz Np hJ;refine aS C (tN _ γ a w hJ λi hi=>?_);have h1:=le_sumTo (f:=λj=>if listed.getD j true then 0 else 1) hi;rw[Np]at h1;have h2:listed.getD i true=true:=by grind
   simpa [b7 (show i<listed.size by omega)]using h2
  |succ fuel ih=>
   intro t listed γ a w hsz Np hJ;simp only[Region.linearise.go];change KO K fn (p,γ) ops (match(Region.ready .any ops listed)[t % (Region.ready .any ops listed).length]? with
    |some i=>Region.linearise.go .any ops fuel (t/(Region.ready .any ops listed).length) (listed.setIfInBounds i true) [i]
    |none=>[].reverse) Q a w
   cases hi:(Region.ready .any ops listed)[t % (Region.ready .any ops listed).length]? with
   |none=>
    have Nr:Region.ready .any ops listed=[]:=by
     cases hr:Region.ready .any ops listed with
     |nil=>rfl
     |cons x xs=>rw[hr]at hi;have hlt:t % (x::xs).length<(x::xs).length:=Nat.mod_lt _ ae;simp at hi;simp at hlt;omega
    refine aS C (tN _ γ a w hJ λi hi=>?_);induction i using Nat.strongRecOn with
    |ind i ihi=>
     have UQ:i<listed.size:=ab
     cases hb:listed.getD i false with
     |true=>rfl
     |false=>
      have lF:i∈Region.ready .any ops listed:=by refine mem_ready.2 ⟨by simpa [b7 UQ]using hb,ops[i],b7 hi,λe he _=>?_⟩;have hlt:=qV i _ (b7 hi) e he;exact ihi e.on hlt ab
      rw[Nr]at lF;cases lF
   |some i=>
    simp only[];rw[linearise_go_acc,List.reverse_singleton,List.singleton_append];have lF:=bY hi;obtain⟨hun,o,ho,dX⟩:=mem_ready.1 lF;have hio:i<ops.size:=(aG.1 ho).1;have UQ:i<listed.size:=ab
    refine hop _ γ a w i o hJ ho (by simpa [b7 UQ]using hun) (λe he hb=>dX e he hb) _ λγ' a' w' hJ'=>ih _ _ γ' a' w' (by simpa using hsz) ?_ ?_;have h1:=sumTo_upd (λj=>listed.getD j true) true (λb=>if b then 0 else 1) hio;rw[hun]at h1;simp only[if_true,aJ,if_false]at h1;have h2:sumTo ops.size (λj=>if(listed.setIfInBounds i true).getD j true then 0 else 1)=sumTo ops.size λj=>if upd (λj=>listed.getD j true) i true j then 0 else 1:=by refine sumTo_congr λj _=>?_;by_cases iW:j=i;subst iW;rw[upd_same];simp[sH UQ];rw[upd_ne _ _ iW,getD_set_ne true (Ne.symm iW)]
    rw[h2];omega;have h2:(λj=>(listed.setIfInBounds i true).getD j false)=upd (λj=>listed.getD j false) i true:=by funext j;by_cases iW:j=i;subst iW;rw[upd_same];simp[sH UQ];rw[upd_ne _ _ iW,getD_set_ne false (Ne.symm iW)]
    rw[h2];exact hJ'
 intro b k cs hb hk hc;refine C.step _ _ _ _ λw1 r=>?_;have hgo:=stepG_region_draw (P:=P) (main:=main) (b:=b) (a:=a) (k:=k) (cs:=cs) (w:=w1) (id:=id) (ops:=ops);simp only[Region.schedule,hm,Bool.true_or,if_true]at hgo;refine⟨_,_,_,_,(p,γ),hgo,stg hp (XD γ w1 _),?_⟩;refine key ops.size _ _ γ a _ ae ?_ ?_ b k cs hb hk hc;clear key h0 hop tN qV ac7;have:∀n,n<=ops.size->sumTo n (λj=>if(Array.replicate ops.size false).getD j true then 0 else 1)=n:=by
  intro n;induction n with
  |zero=>intro _;rfl
  |succ n ih=>
   intro hn;simp only[sumTo];rw[ih ab];have hlt:n<ops.size:=ab
   simp[hlt]
 exact this _ (ai _);have h3:(λj=>(Array.replicate ops.size false).getD j false)=λ_=>false:=by funext j;by_cases hj:j<ops.size;simp[hj];simp[hj]
 rw[h3];exact h0 w1 (ZH hp r)
end Go.Co
namespace Go.Co
open Go Go.Conc Go.Proofs
variable {aa:Machine->Trace->Prop} {main:Bool} {K:Gm->Goroutine->World->Prop} {p:Pc} {γ:So} {w:World}
def aea(low up:cj)(cS:Int)(s:Int):Bool:=decide (3<=(yt low up s).2.2)&&decide ((yt low up s).2.1-(yt low up s).1<=cS)
def UG(low up:cj)(cS:Int)(k:Nat):cj:=((List.range k).map λ(j:Nat)=>(j:Int)-up.length).filter (aea low up cS)
def sr(low up:cj)(cS:Int):cj:=UG low up cS (up.length+low.length+1)
theorem XT(low up:cj)(cS:Int)(k:Nat):UG low up cS (k+1)=UG low up cS k++if aea low up cS ((k:Int)-up.length)then[(k:Int)-up.length]else[]:=by unfold UG;rw[Jp,eY,acz];congr 1;simp only[aZ,dR,List.filter_cons,List.filter_nil]
theorem IZ(low up:cj)(cS:Int)(k:Nat):(UG low up cS k).length<=k:=by unfold UG;exact bt (acA _ _) ae
theorem aeV{low up:cj}(Ur:Zz low)(Zp:Zz up)(s:Int)(k:Nat):0<=(Fy low up s k).1/\(Fy low up s k).1<=18/\0<=(Fy low up s k).2.1/\(Fy low up s k).2.1<=18:=by
 have hg:∀(l:cj),Zz l->∀i,0<=l.getD i 0/\l.getD i 0<=9:=by
  intro l h i;cases hi:l[i]? with
  |none=>simp[List.getD,hi]
  |some x=>have:=h.2 i x hi;simpa [List.getD,hi]using this
 induction k with
 |zero=>simp[Fy]
 |succ k ih=>
  rw[ze];have h1:=hg up Zp k;have h2:=hg low Ur ((k:Int)+s).toNat;unfold Pj;split;exact ih
  grind
def agx(ua lb:Value)(A B:Option Addr)(ca cb:Nat)(low up:cj)(cS:Int)(bA bB:Nat)(out:Value)(s:Int)(u:Nat->Value):Act:=
 ⟨#[.agg #[ua,.slice A low.length ca],.agg #[.slice B up.length cb,lb],.int .i64 cS,.pointer (some ⟨bA,0,none⟩),.pointer (some ⟨bB,0,none⟩),u 5,u 6,out,.int .i64 s,u 9,u 10,u 11,u 12,u 13,u 14,u 15,u 16,u 17,u 18,u 19,u 20,u 21,u 22,u 23,u 24,u 25,u 26,u 27,u 28,u 29,u 30,u 31,u 32,u 33,u 34,u 35,u 36,u 37,u 38,u 39,u 40,u 41,u 42,u 43,u 44],[]⟩
theorem PE:(Tryz.prog.info? 3).map (λi=>(i.zero,i.size,i.bytes))=some (some (.int .i64 0),1,8):=by kernel_rfl
theorem mixed:Tryz.prog.follows .mixedOrders=true:=by kernel_rfl
abbrev ivs(l:cj):List Value:=l.map λx=>.int .i64 x
theorem XS(C:KC Tryz.prog main K CQ H7)(hp:p≠.ret){ua ub la lb:Value}{low up:cj}(cS:Int)(hl:Ag γ w la low)(hu:Ag γ w ub up)(Ur:Zz low)(Zp:Zz up):
  yE K Tryz.prog (p,γ) 62 #[.agg #[ua,la],.agg #[ub,lb],.int .i64 cS] w λγ' v w'=>γ'.1=p/\lG γ'.2 w' w.heap.size 3 1 v (sr low up cS).length (ivs (sr low up cS))/\Kept γ w γ'.2 w':=by
 obtain⟨i0,hi,HU,Pp,hz2⟩:=info_parts PE;have PG:=Ur.1;have V0:=Zp.1;refine Eu Tryz.func62 (by rfl) rfl ?_;simp only[Tryz.ntmps62,iT,cT,gr,Nat.reduceAdd,Nat.reduceSub,Array.replicate_succ,Array.replicate_zero,List.push_toArray,List.append_toArray,gu,gM];refine aY C (ct C ?_);refine qN C hp (ob:=?UK) rfl (by rfl) (λw=>run_eq_of λK hK=>?r1) (λw=>?e1) ?h1
 case r1=>go_simp;exact hK
 case e1=>simp[go_sem]
 intro w1 UH;try walk_nrm
 have tH:=(Kept.rely UH).trans (Kept.alloc γ w1 w1.heap.size (.cells #[ua,la] 111));have UX:bF _ _ ⟨w1.heap.size,0,none⟩ ua:=bF.fresh (γ:=γ) (w:=w1) (cs:=#[ua,la]) (t:=111) rfl rfl;have yb:bF _ _ ⟨w1.heap.size,1,none⟩ la:=bF.fresh (γ:=γ) (w:=w1) (cs:=#[ua,la]) (t:=111) rfl rfl;refine qN C hp (ob:=?JZ) rfl (by rfl) (λw=>run_eq_of λK hK=>?r2) (λw=>?e2) ?h2
 case r2=>go_simp;exact hK
 case e2=>simp[go_sem]
 intro w2 Uh;try walk_nrm
 have Kc:=(Kept.rely Uh).trans (Kept.alloc _ w2 w2.heap.size (.cells #[ub,lb] 111));have Ga:=tH.trans Kc;have Pw:=Kc.sees UX;have uZ:=Kc.sees yb;have Ae:bF _ _ ⟨w2.heap.size,0,none⟩ ub:=bF.fresh (γ:=γ.more w1.heap.size) (w:=w2) (cs:=#[ub,lb]) (t:=111) rfl rfl;have hd2:bF _ _ ⟨w2.heap.size,1,none⟩ lb:=bF.fresh (γ:=γ.more w1.heap.size) (w:=w2) (cs:=#[ub,lb]) (t:=111) rfl rfl;have uY:=Ga.HT hl;have hu2:=Ga.HT hu;refine av C ?_;try walk_nrm
 refine aS C ?_;co_then;clear hl hu tH Kc UX yb Uh UH;generalize(γ.more w1.heap.size).more w2.heap.size=γ2 at*;generalize w2.alloc (.cells #[ub,lb] 111)=W at*;generalize w2.heap.size=bB at*;generalize w1.heap.size=bA at*;refine aY C (ct C ?_);refine av C ?_;try walk_nrm
 refine aS C ?_;co_then;obtain⟨A,ca,rfl,hA⟩:=uY;obtain⟨B,cb,rfl,hB⟩:=hu2;have hwa:IntKind.i64.wrap (0-(up.length:Int))=-(up.length:Int):=by rw[xl]<;>omega
 have hwb:IntKind.i64.wrap (-(up.length:Int))=-(up.length:Int):=by rw[xl]<;>omega
 refine aY C (aY C (ct C ?_));refine av C ?_;try walk_nrm
 refine iX C hp Ae ?_;try walk_nrm
 refine av C ?_;try walk_nrm
 refine dO C (v:=?v8) rfl (by rfl) (λw=>run_eq_of λK hK=>?r8) (λw=>?e8) ?h8
 case r8=>go_simp;exact hK
 case e8=>simp[go_sem,Op.unary]
 try walk_nrm
 refine av C ?_;try walk_nrm
 refine aS C ?_;co_then;refine gz C ?_;clear hwa hwb;refine pM C (λn γ' a w'=>∃γ3,γ'=(p,γ3)/\Kept γ2 W γ3 w'/\∃k out,k<=up.length+low.length+1/\n=up.length+low.length+1-k/\lG γ3 w' W.heap.size 3 1 out (UG low up cS k).length (ivs (UG low up cS k))/\∃u,a=agx ua lb A B ca cb low up cS bA bB out ((k:Int)-up.length) u) (n:=up.length+low.length+1) ⟨γ2,rfl,Kept.refl _ _,0,.slice none 0 0,ab,ab,lG.nil _ _ _,pY (by
  have:((0:Nat):Int)-(up.length:Int)=-(up.length:Int):=ab
  rw[this];rfl)⟩ ?_
 rintro n γ' a w' ⟨γ3,hγ,CL,k,out,hk,hn,dW,u,ha⟩;subst hγ;unfold agx at ha;subst ha;have tY:W.heap.size<=w'.heap.size:=CL.size;have FG:=CL.sees uZ;have ha3:=CL.sees Pw;have Z0:=CL.sees Ae;have hd3:=CL.sees hd2;refine aY C (aY C (ct C ?_));by_cases hlt:k<up.length+low.length+1
 .have agl:decide ((k:Int)-(up.length:Int)<=(low.length:Int))=true:=by simp;omega
  iterate 2 (refine av C ?_;try walk_nrm)
  refine iX C hp FG ?_;iterate 2 (try walk_nrm;refine av C ?_)
  try walk_nrm
  refine aS C ?_;co_then;refine dG C (t:=true) rfl ?_;simp only[if_true];refine kJ C ?_;co_then;refine aY C (gz C (aY C (ct C ?_)));refine qM C hp (v:=?v15) rfl (by rfl) (λw₁ h₁=>⟨run_eq_of λK hK=>?r15,?e15⟩) ?h15
  case r15=>have hc:=(bF.rely ha3 h₁).2;have hd:=(bF.rely FG h₁).2;go_simp;exact hK
  case e15=>
   have hc:=(bF.rely ha3 h₁).2;have hd:=(bF.rely FG h₁).2;intro e he;simp[go_sem,hc,hd]at he;rcases he with rfl|rfl;exact(bF.rely ha3 h₁).JW;exact(bF.rely FG h₁).JW
  try walk_nrm
  refine qM C hp (v:=?v16) rfl (by rfl) (λw₁ h₁=>⟨run_eq_of λK hK=>?r16,?e16⟩) ?h16
  case r16=>have hc:=(bF.rely Z0 h₁).2;have hd:=(bF.rely hd3 h₁).2;go_simp;exact hK
  case e16=>
   have hc:=(bF.rely Z0 h₁).2;have hd:=(bF.rely hd3 h₁).2;intro e he;simp[go_sem,hc,hd]at he;rcases he with rfl|rfl;exact(bF.rely Z0 h₁).JW;exact(bF.rely hd3 h₁).JW
  try walk_nrm
  refine av C ?_;try walk_nrm
  refine QU C rfl (by rfl) rfl (Post:=λγ' v UE=>γ'.1=p/\v=Tri (yt low up ((k:Int)-up.length))/\Kept γ3 w' γ'.2 UE) ?_ ?_;simp only[List.map_toArray,aZ,dR];exact aeR C hp ((k:Int)-up.length) ⟨A,ca,rfl,λi x hx=>by obtain⟨ad,h1,h2⟩:=hA i x hx;exact⟨ad,h1,CL.sees h2⟩⟩ ⟨B,cb,rfl,λi x hx=>by obtain⟨ad,h1,h2⟩:=hB i x hx;exact⟨ad,h1,CL.sees h2⟩⟩ Ur Zp;rintro⟨p',γ4⟩ v4 w4 ⟨hp4,hv4,MX⟩;simp only at hp4 MX;subst p';have Kb:=Qc low up ((k:Int)-up.length) up.length;have hbd:=aeV Ur Zp ((k:Int)-up.length) up.length;have Im:=XT low up cS k;have hlen:=IZ low up cS k;have hfb:aea low up cS ((k:Int)-up.length)=(decide (3<=(Fy low up ((k:Int)-up.length) up.length).2.2)&&decide ((Fy low up ((k:Int)-up.length) up.length).2.1-(Fy low up ((k:Int)-up.length) up.length).1<=cS)):=rfl;unfold yt Tri at hv4;generalize Fy low up ((k:Int)-up.length) up.length=st at*;obtain⟨r1,r2,r3⟩:=st;simp only at hv4 Kb hbd hfb;subst hv4;have hw4:IntKind.i64.wrap (r2-r1)=r2-r1:=by rw[xl]<;>omega
  have hw5:IntKind.i64.wrap ((k:Int)-(up.length:Int)+1)=(k:Int)-(up.length:Int)+1:=by rw[xl]<;>omega
  have V4:((k+1:Nat):Int)-(up.length:Int)=(k:Int)-(up.length:Int)+1:=ab
  have Pt:=CL.trans MX;have Gr:=dW.kept MX;have afw:W.heap.size<=w4.heap.size:=bt tY MX.size;try walk_nrm
  clear FG ha3 Z0 hd3 agl MX dW CL tY;iterate 7 (refine av C ?_;try walk_nrm)
  refine aS C ?_;co_then;refine aY C (ct C ?_);by_cases c1:3<=r3
  .have ZY:decide (3<=r3)=true:=by simpa using c1
   by_cases c2:r2-r1<=cS
   .have hd5:decide (r2-r1<=cS)=true:=by simpa using c2
    iterate 9 (refine av C ?_;try walk_nrm)
    refine aS C ?_;co_then;refine dG C (t:=true) rfl ?_;simp only[if_true];refine ct C ?_;iterate 2 (refine av C ?_;try walk_nrm)
    refine WS C hp (ob:=?akk) (n:=1) rfl (by rfl) (λw=>run_eq_of λK hK=>?r36) (λw=>?e36) ?h36
    case r36=>go_simp;exact hK
    case e36=>simp[go_sem]
    intro w5 ZG;try walk_nrm
    have hk6:=(Kept.rely ZG).trans (Kept.alloc γ4 w5 w5.heap.size (.cells #[.int .i64 ((k:Int)-up.length)] 3));have hs6:bF _ _ ⟨w5.heap.size,0,none⟩ (.int .i64 ((k:Int)-up.length)):=bF.fresh (γ:=γ4) (w:=w5) (cs:=#[.int .i64 ((k:Int)-up.length)]) (t:=3) rfl rfl;have ac6:=Gr.kept hk6;have Zq:=Pt.trans hk6;have hB6:W.heap.size<=(w5.alloc (.cells #[.int .i64 ((k:Int)-up.length)] 3)).heap.size:=bt afw hk6.size;generalize w5.alloc (.cells #[.int .i64 ((k:Int)-up.length)] 3)=w6 at*;generalize γ4.more w5.heap.size=γ6 at*;generalize w5.heap.size=b6 at*;refine Hp C hp (B:=W.heap.size) (news:=[.int .i64 ((k:Int)-up.length)]) (m:=1) (c:=1) (ad:=⟨b6,0,none⟩) (n:=(UG low up cS k).length) (xs:=ivs (UG low up cS k)) (v:=out) rfl (by rfl) rfl Tryz.underlying23 hi HU Pp hz2 rfl ao rfl rfl hB6 ac6 rfl (λj u hu=>?_) hs6.1 (by simp[Value.oneCell']) (by simp only[maxLen];omega) ab ?_;cases j with
    |zero=>simp at hu;subst hu;exact hs6
    |succ j=>simp at hu
    intro v7 w7 γ7 Zr hg2 hg3 hg4 hg5 Gq;have hk8:=Zq.append Zr hg2 hg3 hg4 hg5 (v:=out) (λb hb=>(ac6.1.lt b hb).1);try walk_nrm
    refine av C ?_;try walk_nrm
    refine aS C ?_;co_then;refine ct C ?_;iterate 3 (refine av C ?_;try walk_nrm)
    refine aS C (ey ?_);refine⟨up.length+low.length+1-(k+1),ab,γ7,rfl,hk8,k+1,v7,ab,rfl,(by rw[Im,hfb,ZY,hd5];simpa using Gq),pY ?_⟩;rw[V4];rfl
   have hd5:decide (r2-r1<=cS)=false:=by simpa using c2
   iterate 9 (refine av C ?_;try walk_nrm)
   refine aS C ?_;co_then;refine dG C (t:=false) rfl ?_;simp only[aJ,if_false];refine kJ C ?_;co_then;refine ct C ?_;iterate 3 (refine av C ?_;try walk_nrm)
   refine aS C (ey ?_);refine⟨up.length+low.length+1-(k+1),ab,γ4,rfl,Pt,k+1,out,ab,rfl,(by rw[Im,hfb,ZY,hd5];simpa using Gr),pY ?_⟩;rw[V4];rfl
  have ZY:decide (3<=r3)=false:=by simpa using c1
  iterate 3 (refine av C ?_;try walk_nrm)
  iterate 5 (refine dc C rfl (by rfl) ?_;try walk_nrm)
  refine av C ?_;try walk_nrm
  refine aS C ?_;co_then;refine dG C (t:=false) rfl ?_;simp only[aJ,if_false];refine kJ C ?_;co_then;refine ct C ?_;iterate 3 (refine av C ?_;try walk_nrm)
  refine aS C (ey ?_);refine⟨up.length+low.length+1-(k+1),ab,γ4,rfl,Pt,k+1,out,ab,rfl,(by rw[Im,hfb,ZY];simpa using Gr),pY ?_⟩;rw[V4];rfl
 have Bt:k=up.length+low.length+1:=ab
 subst Bt;have agl:decide (((up.length+low.length+1:Nat):Int)-(up.length:Int)<=(low.length:Int))=false:=by simp;omega
 generalize hsv:((up.length+low.length+1:Nat):Int)-(up.length:Int)=sv at*;iterate 2 (refine av C ?_;try walk_nrm)
 refine iX C hp FG ?_;iterate 2 (try walk_nrm;refine av C ?_)
 try walk_nrm
 refine aS C ?_;co_then;refine dG C (t:=false) rfl ?_;simp only[aJ,if_false];refine oD C ?_;co_then;refine aY C (ct C ?_);iterate 2 (refine av C ?_;try walk_nrm)
 refine aS C ?_;co_then;refine DR C ?_;have pW:lG γ3 w' w.heap.size 3 1 out (sr low up cS).length (ivs (sr low up cS)):=dW.more Ga.size;exact⟨rfl,out,resultsC_tmp Tryz.results62 _,rfl,pW,Ga.trans CL⟩
end Go.Co
namespace Go.Co
open Go Go.Conc Go.Proofs
open Go.ConcN (upd upd_same upd_ne)
variable {aa:Machine->Trace->Prop} {main:Bool} {K:Gm->Goroutine->World->Prop} {p:Pc} {γ:So} {w:World}
structure Wk where
 bz:cj
 cS:Int
 up:Nat->cj
 lo:Nat->cj
structure Wk.ok (d:Wk):Prop where
 few:d.bz.length<=1000
 bz:∀(i:Nat)(x:Int),d.bz[i]? =some x->0<=x/\x<=3
 cS:0<=d.cS/\d.cS<=1000
 up:∀i,Zz (d.up i)
 lo:∀i,Zz (d.lo i)
structure ga (γ:So) (w:World) (b:Nat) (d:Wk):Prop where
 cS:bF γ w ⟨b,2,none⟩ (.int .i64 d.cS)
 bz:∃v,bF γ w ⟨b,3,none⟩ v/\Ag γ w v d.bz
 up:∀i,i<4->∃v,bF γ w ⟨b,4+i*2,none⟩ v/\Ag γ w v (d.up i)
 lo:∀i,i<4->∃v,bF γ w ⟨b,4+i*2+1,none⟩ v/\Ag γ w v (d.lo i)
theorem ga.kept {b:Nat}{d:Wk}{γ':So}{w':World}(h:ga γ w b d)(k:Kept γ w γ' w'):ga γ' w' b d:=
 ⟨k.sees h.cS,h.bz.imp λ_ ⟨h1,h2⟩=>⟨k.sees h1,k.HT h2⟩,λi hi=>(h.up i hi).imp λ_ ⟨h1,h2⟩=>⟨k.sees h1,k.HT h2⟩,λi hi=>(h.lo i hi).imp λ_ ⟨h1,h2⟩=>⟨k.sees h1,k.HT h2⟩⟩
def Bw(x y s:Int):Value:=.agg #[.int .i64 x,.int .i64 y,.int .i64 s]
def gL(a b:Wk)(x y:Int):cj:=sr (a.lo x.toNat) (b.up y.toNat) (a.cS+b.cS)
def msgs(a b:Wk)(x:Int)(ys:cj):List Value:=ys.flatMap λy=>(gL a b x y).map λs=>Bw x y s
theorem Py{cf cl:Nat}{tv:Value}(vs:List Value):wk cf cl tv vs≠.ret/\wk cf cl tv vs≠.stop:=by cases vs<;>simp[wk]
theorem acs(T:Array Value)(h:T.size=46):∃v0 v1 v2 v3 v4 v5 v6 v7 v8 v9 v10 v11 v12 v13 v14 v15 v16 v17 v18 v19 v20 v21 v22 v23 v24 v25 v26 v27 v28 v29 v30 v31 v32 v33 v34 v35 v36 v37 v38 v39 v40 v41 v42 v43 v44 v45:Value,T=#[v0,v1,v2,v3,v4,v5,v6,v7,v8,v9,v10,v11,v12,v13,v14,v15,v16,v17,v18,v19,v20,v21,v22,v23,v24,v25,v26,v27,v28,v29,v30,v31,v32,v33,v34,v35,v36,v37,v38,v39,v40,v41,v42,v43,v44,v45]:=by
 obtain⟨l⟩:=T;simp only[iT]at h;rcases l with _|⟨v0,l⟩;simp at h;rcases l with _|⟨v1,l⟩;simp at h;rcases l with _|⟨v2,l⟩;simp at h;rcases l with _|⟨v3,l⟩;simp at h;rcases l with _|⟨v4,l⟩;simp at h;rcases l with _|⟨v5,l⟩;simp at h;rcases l with _|⟨v6,l⟩;simp at h;rcases l with _|⟨v7,l⟩;simp at h;rcases l with _|⟨v8,l⟩;simp at h;rcases l with _|⟨v9,l⟩;simp at h;rcases l with _|⟨v10,l⟩;simp at h;rcases l with _|⟨v11,l⟩;simp at h;rcases l with _|⟨v12,l⟩;simp at h;rcases l with _|⟨v13,l⟩;simp at h;rcases l with _|⟨v14,l⟩;simp at h;rcases l with _|⟨v15,l⟩;simp at h;rcases l with _|⟨v16,l⟩;simp at h;rcases l with _|⟨v17,l⟩;simp at h;rcases l with _|⟨v18,l⟩;simp at h;rcases l with _|⟨v19,l⟩;simp at h;rcases l with _|⟨v20,l⟩;simp at h;rcases l with _|⟨v21,l⟩;simp at h;rcases l with _|⟨v22,l⟩;simp at h;rcases l with _|⟨v23,l⟩;simp at h;rcases l with _|⟨v24,l⟩;simp at h;rcases l with _|⟨v25,l⟩;simp at h;rcases l with _|⟨v26,l⟩;simp at h;rcases l with _|⟨v27,l⟩;simp at h;rcases l with _|⟨v28,l⟩;simp at h;rcases l with _|⟨v29,l⟩;simp at h;rcases l with _|⟨v30,l⟩;simp at h;rcases l with _|⟨v31,l⟩;simp at h;rcases l with _|⟨v32,l⟩;simp at h;rcases l with _|⟨v33,l⟩;simp at h;rcases l with _|⟨v34,l⟩;simp at h;rcases l with _|⟨v35,l⟩;simp at h;rcases l with _|⟨v36,l⟩;simp at h;rcases l with _|⟨v37,l⟩;simp at h;rcases l with _|⟨v38,l⟩;simp at h;rcases l with _|⟨v39,l⟩;simp at h;rcases l with _|⟨v40,l⟩;simp at h;rcases l with _|⟨v41,l⟩;simp at h;rcases l with _|⟨v42,l⟩;simp at h;rcases l with _|⟨v43,l⟩;simp at h;rcases l with _|⟨v44,l⟩;simp at h;rcases l with _|⟨v45,l⟩;simp at h;rcases l with _|⟨x,l⟩
 grind
 simp at h
def tJ(ba bb:Nat)(x y:Int)(ua la ub lb:Value)(wa wb:Int)(m:Nat)(v:Value):Nat->Value
 |0=>.int .i64 x
 |1=>.pointer (some ⟨ba,4,none⟩)
 |2=>.pointer (some ⟨ba,4+x.toNat*2,none⟩)
 |3=>.agg #[ua,la]
 |4=>.int .i64 y
 |5=>.pointer (some ⟨bb,4,none⟩)
 |6=>.pointer (some ⟨bb,4+y.toNat*2,none⟩)
 |7=>.agg #[ub,lb]
 |8=>.pointer (some ⟨ba,0,none⟩)
 |9=>.pointer (some ⟨ba,2,none⟩)
 |10=>.int .i64 wa
 |11=>.pointer (some ⟨bb,0,none⟩)
 |12=>.pointer (some ⟨bb,2,none⟩)
 |13=>.int .i64 wb
 |14=>.int .i64 (wa+wb)
 |15=>v
 |16=>.int .i64 m
 |17=>.int .i64 0
 |_=>undef
structure St3 (F:Value->Nat->Value) (a0:Act) (v:Value) (L:Nat->Bool) (a:Act):Prop where
 defers:a.defers=[]
 size:a.tmps.size=46
 vals:∀i,i<18->L i=true->a.tmps[17+i]? =some (F v i)
 old:∀s,s<17->a.tmps[s]? =a0.tmps[s]?
 len:L 16=true->L 15=true
theorem St3.put {F:Value->Nat->Value}{a0 a:Act}{v:Value}{L:Nat->Bool}(h:St3 F a0 v L a){i:Nat}(hi:i<18)(h16:i=16->L 15=true){u:Value}(hu:u=F v i):St3 F a0 v (upd L i true) (a.put (some (17+i)) u):=by
 subst hu;refine⟨h.defers,by simp[Act.put,h.size],λj hj hL=>?_,λs hs=>?_,λhL=>?_⟩;by_cases iW:j=i;subst iW;simp only[Act.put];rw[sH (by rw[h.size];omega)];rw[upd_ne _ _ iW]at hL;simp only[Act.put];rw[fF ab];exact h.vals j hj hL;simp only[Act.put];rw[fF ab];exact h.old s hs;by_cases h1:i=16;rw[upd_ne _ _ ab];exact h16 h1
 rw[upd_ne _ _ ab]at hL;by_cases h2:15=i;rw[h2,upd_same];rw[upd_ne _ _ h2];exact h.len hL
theorem St3.val {F:Value->Nat->Value}{a0 a:Act}{v v':Value}{L:Nat->Bool}(h:St3 F a0 v L a)(h15:L 15=false)(hF:∀i,i≠15->F v i=F v' i):St3 F a0 v' L a:=
 ⟨h.defers,h.size,λi hi hL=>by
  have h1:i≠15:=λe=>by rw[e,h15]at hL;cases hL
  rw[<-hF i h1];exact h.vals i hi hL,h.old,h.len⟩
def adm(bb ba bx bf bl:Nat)(vl:Value)(nl k:Nat)(u:Nat->Value):Act:=
 ⟨#[.pointer (some ⟨bb,0,none⟩),.pointer (some ⟨ba,0,none⟩),.pointer (some ⟨bx,0,none⟩),.pointer (some ⟨bf,0,none⟩),.pointer (some ⟨bl,0,none⟩),u 5,u 6,u 7,u 8,u 9,u 10,vl,.int .i64 nl,.int .i64 k,u 14,u 15,u 16,u 17,u 18,u 19,u 20,u 21,u 22,u 23,u 24,u 25,u 26,u 27,u 28,u 29,u 30,u 31,u 32,u 33,u 34,u 35,u 36,u 37,u 38,u 39,u 40,u 41,u 42,u 43,u 44,u 45],[]⟩
def V8(bb ba bx bf bl:Nat)(vl:Value)(nl k:Nat)(y:Int)(v:Value)(m j:Nat)(u:Nat->Value):Act:=
 ⟨#[.pointer (some ⟨bb,0,none⟩),.pointer (some ⟨ba,0,none⟩),.pointer (some ⟨bx,0,none⟩),.pointer (some ⟨bf,0,none⟩),.pointer (some ⟨bl,0,none⟩),u 5,.int .i64 y,u 7,u 8,u 9,u 10,vl,.int .i64 nl,.int .i64 k,u 14,u 15,u 16,u 17,u 18,u 19,u 20,u 21,u 22,u 23,u 24,u 25,u 26,u 27,u 28,u 29,u 30,u 31,v,.int .i64 m,.int .i64 j,u 35,u 36,u 37,u 38,u 39,u 40,u 41,u 42,u 43,u 44,u 45],[]⟩
end Go.Co
namespace Go.Co
open Go Go.Conc Go.Proofs
open Go.ConcN (upd upd_same upd_ne)
variable {aa:Machine->Trace->Prop} {main:Bool} {K:Gm->Goroutine->World->Prop} {p:Pc} {γ:So} {w:World}
theorem events_indexAt_array{P:Program}{w:World}{es:Array Event}{t e:TypeId}{n:Nat}(h:P.underlying t=some (.array n e))(a:Addr)(k:IntKind)(i:Int)(hi:0<=i/\i<n):
  (Instr.indexAt t (.pointer (some a)) (.int k i)).events P w es=es:=by
 simp only[Instr.indexAt,asIntOf,Instr.sureAddr,Sem.events_bind,Sem.run_pure,Sem.events_pure,Result.evThen_ok,run_underlying h,events_underlying,hi,and_self,if_true,events_sizeOf];cases(sizeOf e).run P w<;>rfl
noncomputable def aix:Code:=match Tryz.f100.body with
 |some (.seq (.seq _ (.block _ (.loop (.seq _ (.seq _ (.seq (.block _ (.seq _ (.seq r _))) _)))))) _)=>r
 |_=>.skip
theorem abo(C:KC Tryz.prog main K CQ H7)(hp:p≠.ret){bb ba bx:Nat}{da db:Wk}{x y:Int}(ha:ga γ w ba da)(hb:ga γ w bb db)(hx:bF γ w ⟨bx,0,none⟩ (.int .i64 x))(J2:0<=x)(hx3:x<4)(hy0:0<=y)(hy3:y<4)(xd:da.ok)(Bu:db.ok)
  {a0:Act} (M6:a0.defers=[]) (hsz:a0.tmps.size=46) (t0:a0.tmps[0]? =some (.pointer (some ⟨bb,0,none⟩))) (t1:a0.tmps[1]? =some (.pointer (some ⟨ba,0,none⟩))) (t2:a0.tmps[2]? =some (.pointer (some ⟨bx,0,none⟩))) (t6:a0.tmps[6]? =some (.int .i64 y))
  {Q:Gm->Exit->Act->World->Prop} (hQ:∀v γ' a' w',a'.defers=[]->a'.tmps.size=46->(∀s,s<17->a'.tmps[s]? =a0.tmps[s]?)->a'.tmps[32]? =some v->a'.tmps[33]? =some (.int .i64 (gL da db x y).length)->a'.tmps[34]? =some (.int .i64 0)->
   lG γ' w' w.heap.size 3 1 v (gL da db x y).length (ivs (gL da db x y))->Kept γ w γ' w'->Q (p,γ') .normal a' w'):KJ K 100 (p,γ) aix Q a0 w:=by
 obtain⟨la,hla,Ur⟩:=ha.lo x.toNat ab;obtain⟨ua,hua,-⟩:=ha.up x.toNat ab;obtain⟨ub,hub,Zp⟩:=hb.up y.toNat ab;obtain⟨lb,hlb,-⟩:=hb.lo y.toNat ab;have hwa:=xd.cS;have hwb:=Bu.cS;have MQ:IntKind.i64.wrap (da.cS+db.cS)=da.cS+db.cS:=by rw[xl]<;>omega
 refine abU C hp mixed (λL γ' a' w'=>Kept γ w γ' w'/\∃v,(L 15=true->lG γ' w' w.heap.size 3 1 v (gL da db x y).length (ivs (gL da db x y)))/\St3 (λv=>tJ ba bb x y ua la ub lb da.cS db.cS (gL da db x y).length v) a0 v L a')
  (by kernel_rfl) (λw₁ r=>?_) ?_ (λL γ' a' w' hJ dX=>?_)
 exact⟨(Kept.rely r).trans (Kept.rely (Au γ w₁ _)),undef,λh=>(nomatch h),M6,hsz,λi _ h=>(nomatch h),λ_ _=>rfl,λh=>(nomatch h)⟩
 .rintro L γ' a' w' i o ⟨hk,v,hv,hs⟩ ho hL wo rest eW;have hi:i<18:=(aG.1 ho).1;have hv':∀j,j≠15->upd L j true 15=true->lG γ' w' w.heap.size 3 1 v (gL da db x y).length (ivs (gL da db x y)):=λj hj h=>hv (by rwa [upd_ne _ _ (Ne.symm hj)]at h);rcases i with _|_|_|_|_|_|_|_|_|_|_|_|_|_|_|_|_|_|i;all_goals first|(exfalso;omega)|skip
  .have nP:=bG ho;subst nP;have f2:a'.tmps[2]? =some _:=(hs.old 2 ab).trans t2;refine qM C hp (v:=?v0) ho (by rfl) (λw₁ h₁=>⟨run_eq_of λK hK=>?r0,?e0⟩) ?h0
   case r0=>have hc:=((hk.sees hx).rely h₁).2;go_simp;exact hK
   case e0=>have hc:=((hk.sees hx).rely h₁).2;intro e he;simp[go_sem, *]at he;subst he;exact((hk.sees hx).rely h₁).JW
   exact eW _ _ _ ⟨hk,v,hv' 0 ab,hs.put (i:=0) ab (λh=>ab) rfl⟩
  .have nP:=bG ho;subst nP;have f1:a'.tmps[1]? =some _:=(hs.old 1 ab).trans t1;refine dO C (v:=?v1) ho (by rfl) (λw=>run_eq_of λK hK=>?r1) (λw=>?e1) ?h1
   case r1=>go_simp;exact hK
   case e1=>simp[go_sem, *]
   exact eW _ _ _ ⟨hk,v,hv' 1 ab,hs.put (i:=1) ab (λh=>ab) rfl⟩
  .have nP:=bG ho;subst nP;have d1:L 1=true:=wo {on:=1,ground:=Ground.data} ae rfl;have e1:a'.tmps[18]? =some _:=hs.vals 1 ab d1;simp only[tJ]at e1;have d0:L 0=true:=wo {on:=0,ground:=Ground.data} ae rfl;have e0:a'.tmps[17]? =some _:=hs.vals 0 ab d0;simp only[tJ]at e0;refine dO C (v:=?v2) ho (by rfl) (λw=>run_eq_of λK hK=>?r2) (λw=>?e2) ?h2
   case r2=>have yb:x.toNat<4:=ab;go_simp;exact hK
   case e2=>simp[go_sem,e1,e0,events_indexAt_array Tryz.underlying121 _ _ x ⟨ab,ab⟩]
   exact eW _ _ _ ⟨hk,v,hv' 2 ab,hs.put (i:=2) ab (λh=>ab) rfl⟩
  .have nP:=bG ho;subst nP;have d2:L 2=true:=wo {on:=2,ground:=Ground.data} ae rfl;have e2:a'.tmps[19]? =some _:=hs.vals 2 ab d2;simp only[tJ]at e2;refine qM C hp (v:=?v3) ho (by rfl) (λw₁ h₁=>⟨run_eq_of λK hK=>?r3,?e3⟩) ?h3
   case r3=>have hc:=((hk.sees hua).rely h₁).2;have hd:=((hk.sees hla).rely h₁).2;go_simp;exact hK
   case e3=>
    have hc:=((hk.sees hua).rely h₁).2;have hd:=((hk.sees hla).rely h₁).2;intro e he;simp[go_sem, *]at he;rcases he with rfl|rfl;exact((hk.sees hua).rely h₁).JW;exact((hk.sees hla).rely h₁).JW
   exact eW _ _ _ ⟨hk,v,hv' 3 ab,hs.put (i:=3) ab (λh=>ab) rfl⟩
  .have nP:=bG ho;subst nP;have f6:a'.tmps[6]? =some _:=(hs.old 6 ab).trans t6;refine dO C (v:=?v4) ho (by rfl) (λw=>run_eq_of λK hK=>?r4) (λw=>?e4) ?h4
   case r4=>go_simp;exact hK
   case e4=>simp[go_sem, *]
   exact eW _ _ _ ⟨hk,v,hv' 4 ab,hs.put (i:=4) ab (λh=>ab) rfl⟩
  .have nP:=bG ho;subst nP;have f0:a'.tmps[0]? =some _:=(hs.old 0 ab).trans t0;refine dO C (v:=?v5) ho (by rfl) (λw=>run_eq_of λK hK=>?r5) (λw=>?e5) ?h5
   case r5=>go_simp;exact hK
   case e5=>simp[go_sem, *]
   exact eW _ _ _ ⟨hk,v,hv' 5 ab,hs.put (i:=5) ab (λh=>ab) rfl⟩
  .have nP:=bG ho;subst nP;have d5:L 5=true:=wo {on:=5,ground:=Ground.data} ae rfl;have e5:a'.tmps[22]? =some _:=hs.vals 5 ab d5;simp only[tJ]at e5;have d4:L 4=true:=wo {on:=4,ground:=Ground.data} ae rfl;have e4:a'.tmps[21]? =some _:=hs.vals 4 ab d4;simp only[tJ]at e4;refine dO C (v:=?v6) ho (by rfl) (λw=>run_eq_of λK hK=>?r6) (λw=>?e6) ?h6
   case r6=>have yb:y.toNat<4:=ab;go_simp;exact hK
   case e6=>simp[go_sem,e5,e4,events_indexAt_array Tryz.underlying121 _ _ y ⟨ab,ab⟩]
   exact eW _ _ _ ⟨hk,v,hv' 6 ab,hs.put (i:=6) ab (λh=>ab) rfl⟩
  .have nP:=bG ho;subst nP;have d6:L 6=true:=wo {on:=6,ground:=Ground.data} ae rfl;have e6:a'.tmps[23]? =some _:=hs.vals 6 ab d6;simp only[tJ]at e6;refine qM C hp (v:=?v7) ho (by rfl) (λw₁ h₁=>⟨run_eq_of λK hK=>?r7,?e7⟩) ?h7
   case r7=>have hc:=((hk.sees hub).rely h₁).2;have hd:=((hk.sees hlb).rely h₁).2;go_simp;exact hK
   case e7=>
    have hc:=((hk.sees hub).rely h₁).2;have hd:=((hk.sees hlb).rely h₁).2;intro e he;simp[go_sem, *]at he;rcases he with rfl|rfl;exact((hk.sees hub).rely h₁).JW;exact((hk.sees hlb).rely h₁).JW
   exact eW _ _ _ ⟨hk,v,hv' 7 ab,hs.put (i:=7) ab (λh=>ab) rfl⟩
  .have nP:=bG ho;subst nP;have f1:a'.tmps[1]? =some _:=(hs.old 1 ab).trans t1;refine dO C (v:=?v8) ho (by rfl) (λw=>run_eq_of λK hK=>?r8) (λw=>?e8) ?h8
   case r8=>go_simp;exact hK
   case e8=>simp[go_sem, *]
   exact eW _ _ _ ⟨hk,v,hv' 8 ab,hs.put (i:=8) ab (λh=>ab) rfl⟩
  .have nP:=bG ho;subst nP;have d8:L 8=true:=wo {on:=8,ground:=Ground.data} ae rfl;have e8:a'.tmps[25]? =some _:=hs.vals 8 ab d8;simp only[tJ]at e8;refine dO C (v:=?v9) ho (by rfl) (λw=>run_eq_of λK hK=>?r9) (λw=>?e9) ?h9
   case r9=>go_simp;exact hK
   case e9=>simp[go_sem, *]
   exact eW _ _ _ ⟨hk,v,hv' 9 ab,hs.put (i:=9) ab (λh=>ab) rfl⟩
  .have nP:=bG ho;subst nP;have d9:L 9=true:=wo {on:=9,ground:=Ground.data} ae rfl;have e9:a'.tmps[26]? =some _:=hs.vals 9 ab d9;simp only[tJ]at e9;refine qM C hp (v:=?v10) ho (by rfl) (λw₁ h₁=>⟨run_eq_of λK hK=>?r10,?e10⟩) ?wz
   case r10=>have hc:=((hk.sees (ha.cS)).rely h₁).2;go_simp;exact hK
   case e10=>have hc:=((hk.sees (ha.cS)).rely h₁).2;intro e he;simp[go_sem, *]at he;subst he;exact((hk.sees (ha.cS)).rely h₁).JW
   exact eW _ _ _ ⟨hk,v,hv' 10 ab,hs.put (i:=10) ab (λh=>ab) rfl⟩
  .have nP:=bG ho;subst nP;have f0:a'.tmps[0]? =some _:=(hs.old 0 ab).trans t0;refine dO C (v:=?v11) ho (by rfl) (λw=>run_eq_of λK hK=>?r11) (λw=>?e11) ?Ge
   case r11=>go_simp;exact hK
   case e11=>simp[go_sem, *]
   exact eW _ _ _ ⟨hk,v,hv' 11 ab,hs.put (i:=11) ab (λh=>ab) rfl⟩
  .have nP:=bG ho;subst nP;have d11:L 11=true:=wo {on:=11,ground:=Ground.data} ae rfl;have e11:a'.tmps[28]? =some _:=hs.vals 11 ab d11;simp only[tJ]at e11;refine dO C (v:=?v12) ho (by rfl) (λw=>run_eq_of λK hK=>?r12) (λw=>?e12) ?U0
   case r12=>go_simp;exact hK
   case e12=>simp[go_sem, *]
   exact eW _ _ _ ⟨hk,v,hv' 12 ab,hs.put (i:=12) ab (λh=>ab) rfl⟩
  .have nP:=bG ho;subst nP;have d12:L 12=true:=wo {on:=12,ground:=Ground.data} ae rfl;have e12:a'.tmps[29]? =some _:=hs.vals 12 ab d12;simp only[tJ]at e12;refine qM C hp (v:=?v13) ho (by rfl) (λw₁ h₁=>⟨run_eq_of λK hK=>?r13,?e13⟩) ?h13
   case r13=>have hc:=((hk.sees (hb.cS)).rely h₁).2;go_simp;exact hK
   case e13=>have hc:=((hk.sees (hb.cS)).rely h₁).2;intro e he;simp[go_sem, *]at he;subst he;exact((hk.sees (hb.cS)).rely h₁).JW
   exact eW _ _ _ ⟨hk,v,hv' 13 ab,hs.put (i:=13) ab (λh=>ab) rfl⟩
  .have nP:=bG ho;subst nP;have d10:L 10=true:=wo {on:=10,ground:=Ground.data} ae rfl;have e10:a'.tmps[27]? =some _:=hs.vals 10 ab d10;simp only[tJ]at e10;have d13:L 13=true:=wo {on:=13,ground:=Ground.data} ae rfl;have e13:a'.tmps[30]? =some _:=hs.vals 13 ab d13;simp only[tJ]at e13;refine dO C (v:=?v14) ho (by rfl) (λw=>run_eq_of λK hK=>?r14) (λw=>?e14) ?h14
   case r14=>go_simp;exact hK
   case e14=>simp[go_sem, *]
   exact eW _ _ _ ⟨hk,v,hv' 14 ab,hs.put (i:=14) ab (λh=>ab) rfl⟩
  have nP:=bG ho;subst nP;have d3:L 3=true:=wo {on:=3,ground:=Ground.data} ae rfl;have e3:a'.tmps[20]? =some _:=hs.vals 3 ab d3;simp only[tJ]at e3;have d7:L 7=true:=wo {on:=7,ground:=Ground.data} ae rfl;have e7:a'.tmps[24]? =some _:=hs.vals 7 ab d7;simp only[tJ]at e7;have d14:L 14=true:=wo {on:=14,ground:=Ground.data} ae rfl;have e14:a'.tmps[31]? =some _:=hs.vals 14 ab d14;simp only[tJ]at e14;refine QU C ho (by rfl) rfl (Post:=λγ'' v UE=>γ''.1=p/\lG γ''.2 UE w'.heap.size 3 1 v (gL da db x y).length (ivs (gL da db x y))/\Kept γ' w' γ''.2 UE) ?_ ?_;simp only[List.map_toArray,aZ,dR,Act.eval,aW,e3,e7,e14,sE];exact XS C hp _ (hk.HT Ur) (hk.HT Zp) (xd.lo _) (Bu.up _);rintro⟨p',γ4⟩ v4 w4 ⟨hp4,Gr,MX⟩;simp only at hp4 MX Gr;subst p';exact eW _ _ _ ⟨hk.trans MX,v4,λ_=>Gr.more hk.size,(hs.val hL (λj hj=>by match j,hj with|15,hj=>exact absurd rfl hj|0,_|1,_|2,_|3,_|4,_|5,_|6,_|7,_|8,_|9,_|10,_|11,_|12,_|13,_|14,_|16,_|17,_|_+18,_=>rfl)).put (i:=15) ab (λh=>ab) rfl⟩
  .have nP:=bG ho;subst nP;have d15:L 15=true:=wo {on:=15,ground:=Ground.data} ae rfl;have e15:a'.tmps[32]? =some _:=hs.vals 15 ab d15;simp only[tJ]at e15;have dW:=hv d15;obtain⟨A,cap,rfl,-⟩:=dW.HT;refine dO C (v:=?v16) ho (by rfl) (λw=>run_eq_of λK hK=>?r16) (λw=>?e16) ?h16
   case r16=>go_simp;exact hK
   case e16=>simp[go_sem, *]
   exact eW _ _ _ ⟨hk,_,hv' 16 ab,hs.put (i:=16) ab (λ_=>d15) rfl⟩
  have nP:=bG ho;subst nP;refine dO C (v:=?v17) ho (by rfl) (λw=>run_eq_of λK hK=>?r17) (λw=>?e17) ?h17
  case r17=>go_simp;exact hK
  case e17=>simp[go_sem, *]
  exact eW _ _ _ ⟨hk,v,hv' 17 ab,hs.put (i:=17) ab (λh=>ab) rfl⟩
 obtain⟨hk,v,hv,hs⟩:=hJ;have hA:∀i,i<18->L i=true:=λi hi=>dX i hi;have h15:=hs.vals 15 ab (hA 15 ab);have h16:=hs.vals 16 ab (hA 16 ab);have h17:=hs.vals 17 ab (hA 17 ab);exact hQ v γ' a' w' hs.defers hs.size hs.old h15 h16 h17 (hv (hA 15 ab)) hk
end Go.Co
