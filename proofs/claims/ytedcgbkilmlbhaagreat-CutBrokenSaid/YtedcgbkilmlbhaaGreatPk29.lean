import Derived.Test.YtedcgbkilmlbhaaGreatPk24
import Derived.Conc.AppendEvents3
import Derived.Test.YtedcgbkilmlbhaaGreatPk28
import Derived.OwnWalk
import Derived.Test.YtedcgbkilmlbhaaGreatPk27
section
namespace Go.Co
open Go Go.Conc
variable {P:Program} {main:Bool} {K:Gm→Goroutine→World→Prop} {fn:FuncId} {p:Pc} {γ:So} {Q:Gm→Exit→Act→World→Prop} {a:Act} {w:World} {ops:Array Oper} {i:Nat} {rest:List Nat} {o:Oper}
def iL (γ:So) (w:World) (B:Nat) (e:TypeId) (size:Nat) (v:Value) (n:Nat) (xs:List Value):Prop:=w.ownsRow B e size v n xs∧∀ b,v.ownBlock=some b→γ.2 b
theorem iL.nil (B:Nat) (e:TypeId) (size:Nat):iL γ w B e size (.slice none 0 0) 0 []:=⟨World.ownsRow_nil _ _ _ _,fun b h=>by simp[Value.ownBlock] at h⟩
theorem zw {w w1:World} {B:Nat} {e:TypeId} {size:Nat} {v:Value} {n:Nat} {xs:List Value} (h:w.ownsRow B e size v n xs) (hb:∀ b,v.ownBlock=some b→w1.heap[b]? = w.heap[b]?):w1.ownsRow B e size v n xs:=by
 refine⟨h.1,h.2.imp id fun⟨g,cap,cur,hv,h0,hg,hr⟩=>⟨g,cap,cur,hv,h0,?_,hr⟩⟩
 rw[hb g (by rw[hv]; rfl)]
 exact hg
theorem iL.rely {B:Nat} {e:TypeId} {size:Nat} {v:Value} {n:Nat} {xs:List Value} {w1:World} (h:iL γ w B e size v n xs) (r:gb γ w w1):iL γ w1 B e size v n xs :=
 ⟨zw h.1 fun b hb=>r.2.1 b (.inr (h.2 b hb)),h.2⟩
theorem iL.kept {B:Nat} {e:TypeId} {size:Nat} {v:Value} {n:Nat} {xs:List Value} {γ':So} {w':World} (h:iL γ w B e size v n xs) (k:Kept γ w γ' w'):iL γ' w' B e size v n xs :=
 ⟨zw h.1 fun b hb=>k.blk b (.inr (h.2 b hb)) (h.1.lt b hb).2,fun b hb=>k.own b (h.2 b hb)⟩
theorem iL.sees {B:Nat} {e:TypeId} {size:Nat} {g n cap:Nat} {xs:List Value} (h:iL γ w B e size (.slice (some ⟨g,0,none⟩) n cap) n xs) {j:Nat} {u:Value} (hu:xs[j]? = some u):aF γ w ((⟨g,0,none⟩:Addr).add j) u :=
 ⟨.inr (by rw[addBlock]; exact h.2 g rfl),h.1.cells (g:=g) rfl j u hu⟩
theorem iL.more {B B':Nat} {e:TypeId} {size:Nat} {v:Value} {n:Nat} {xs:List Value} (h:iL γ w B e size v n xs) (hB:B'≤B):iL γ w B' e size v n xs :=
 ⟨⟨h.1.1,h.1.2.imp id fun⟨g,cap,cur,hv,h0,hg⟩=>⟨g,cap,cur,hv,Nat.le_trans hB h0,hg⟩⟩,h.2⟩
theorem iL.BN {B:Nat} {v:Value} {l:List Int} (h:iL γ w B 3 1 v l.length (l.map fun x => .int .i64 x)):uF γ w v l:=by
 rcases h.1.2 with ⟨rfl,h0⟩ | ⟨g,cap,cur,rfl,-,-,-⟩
 ·have:l=[]:=List.eq_nil_of_length_eq_zero h0
  subst this
  exact⟨none,0,rfl,fun i x hx=>by simp at hx⟩
 ·exact⟨some ⟨g,0,none⟩,cap,rfl,fun i x hx=>⟨_,rfl,h.sees (by simp[hx])⟩⟩
theorem Kept.append {γ0 γ':So} {w0 w':World} {v:Value} (k:Kept γ0 w0 γ w) (h1:γ'.1=γ.1) (h2:∀ b,γ.2 b→γ'.2 b) (h3:w.heap.size≤w'.heap.size)
  (h4:∀ b,γ.all b→b<w.heap.size→some b≠v.ownBlock→w'.heap[b]? = w.heap[b]?) (h5:w'.os=w.os∧w'.output=w.output) (hb:∀ b,v.ownBlock=some b→w0.heap.size≤b):Kept γ0 w0 γ' w' :=
 ⟨h1.trans k.shr,fun b hb=>h2 b (k.own b hb),fun b dx hlt=>(h4 b (k.all dx) (Nat.lt_of_lt_of_le hlt k.size) fun e=>by have:=hb b e.symm; omega).trans (k.blk b dx hlt),Nat.le_trans k.size h3,h5.1.trans k.env.1,h5.2.trans k.env.2⟩
theorem Bs (C:KC P main K z8 Du) (hp:p ≠ .ret) {s x:Operand} {t e:TypeId} {info:TypeInfo} {z:Value} {size bytes:Nat} {v:Value} {n:Nat} {xs:List Value} {ad:Addr} {m c:Nat} {news:List Value}
  (ho:ops[i]? = some o) (hw:Region.wanted o (yielded ops a.tmps)=true) (hop:o.op = .call { callee := .builtin .append,args:=#[s,x],argTypes:=#[t,t] })
  (ht:P.underlying t=some (.slice e)) (hi:P.info? e=some info) (hz:info.zero=some z) (vS:info.size=size) (X2:info.bytes=bytes) (KY:z.cells.size=size) (hsz:0<size)
  (hs:a.eval s=v) (hx:a.eval x = .slice (some ad) m c) {B:Nat} (hB:B≤w.heap.size) (dD:iL γ w B e size v n xs) (hl:news.length=m*size) (jf:∀ (j:Nat) (u:Value),news[j]? = some u→aF γ w (ad.add j) u) (had:γ.all ad.block) (h1:∀ u∈news,u.oneCell'=true)
  (YY:n+m≤maxLen) (jh:(n+m)*bytes≤140737488355328)
  (h:∀ v' w' s',s'.1=γ.1→(∀ b,γ.2 b→s'.2 b)→w.heap.size≤w'.heap.size→(∀ b,γ.all b→b<w.heap.size→some b≠v.ownBlock→w'.heap[b]? = w.heap[b]?)→(w'.os=w.os∧w'.output=w.output)→iL s' w' B e size v' (n+m) (xs++news)→KO K fn (p,s') ops rest Q (a.put o.dst v') w'):KO K fn (p,γ) ops (i::rest) Q a w:=by
 refine Gs C hp ho hw fun w₁ r => ?_
 have AY:=dD.rely r
 have yj:∀ (j:Nat) (u:Value),news[j]? = some u→w₁.cell? (ad.add j)=some u:=fun j u hu=>((jf j u hu).rely r).2
 obtain⟨v',w',hrun,Mw,hg,-⟩:=run_append_own (P:=P) (w:=w₁) B t o.type e info z size bytes ht hi hz vS X2 KY hsz v n xs AY.1 ad m c news hl yj h1 YY jh (Nat.le_trans hB r.1)
 have sM:=events_append_where (P:=P) w₁ B t o.type e info z size bytes ht hi hz vS X2 v n xs AY.1 ad m c news hl yj h1 YY jh
 have hO:∀ b,some b=v.ownBlock→γ.2 b:=fun b hb=>dD.2 b hb.symm
 have hblk:∀ b,γ.all b→b<w.heap.size→some b≠v.ownBlock→w'.heap[b]? = w.heap[b]? := fun b hb hlt hne=>(hg.block b (Nat.lt_of_lt_of_le hlt r.1) hne).trans (r.2.1 b hb)
 have MF:∀ b,v'.ownBlock=some b→γ.2 b∨(w₁.heap.size≤b∧b<w'.heap.size):=by
  intro b hb
  by_cases hlt:b<w₁.heap.size
  ·by_cases hv:some b=v.ownBlock
   ·exact .inl (hO b hv)
   ·
    left
    subst vS
    subst X2
    have acj:n+m≤9223372036854775807:=by simp only[maxLen] at YY; omega
    rcases AY.1.2 with ⟨rfl,rfl⟩ | ⟨g,cap,cur,rfl,hbg,hgg,hnc,hcm,jW,HW⟩
    ·by_cases hm:m=0
     ·subst hm
      have Dr:xs=[]:=List.eq_nil_of_length_eq_zero (by simpa using AY.1.1)
      have pP:news=[]:=List.eq_nil_of_length_eq_zero (by simpa using hl)
      subst Dr
      subst pP
      rcases Mw.2 with ⟨rfl,_⟩ | ⟨g,cap,cur,rfl,-,-,-⟩
      ·simp[Value.ownBlock] at hb
      ·have:(Builtin.append_ #[t,t] o.type #[.slice none 0 0,.slice (some ad) 0 c]).run P w₁ = .ok (.slice none 0 0) w₁:=by
        simp[Builtin.append_,run_underlying ht,sizeOf,typeInfo,hi,Builtin.lenOf,Builtin.firstCells,loadCells,loadCellsFrom]
       rw[this] at hrun
       cases hrun
     ·have hr:=run_append_nil (P:=P) w₁ t o.type e info z ht hi hz ad m c news hl yj (by omega) (by omega) (by have hb:=jh; simp only[Nat.zero_add] at hb; omega)
      rw[hr] at hrun
      cases hrun
      simp[Value.ownBlock] at hb
      omega
    ·by_cases hroom:n+m≤cap
     ·have qG:n*info.size+news.length≤cur.size:=by rw[hl,jW,← Nat.add_mul]; exact Nat.mul_le_mul_right _ hroom
      have hr:=run_append_room (P:=P) w₁ t o.type e info ht hi g n cap cur hgg ad m c news hl yj h1 hroom qG
      rw[hr] at hrun
      cases hrun
      exact absurd hb.symm hv
     ·have holds:∀ (j:Nat) (u:Value),xs[j]? = some u→w₁.cell? ((⟨g,0,none⟩:Addr).add j)=some u:=AY.1.cells (g:=g) rfl
      have hr:=run_append_grow (P:=P) w₁ t o.type e info z ht hi hz ⟨g,0,none⟩ n cap xs AY.1.1 holds ad m c news hl yj (by omega) (by omega) (growslice_fits (by omega) jh)
      rw[hr] at hrun
      cases hrun
      simp[Value.ownBlock] at hb
      omega
  ·exact .inr ⟨by omega,(Mw.lt b hb).2⟩
 refine⟨v',w',(γ.1,fun b=>γ.2 b∨(w₁.heap.size≤b∧b<w'.heap.size)),?_,⟨rfl,fun b=>Iff.rfl,hg.size,fun b hb hn=>hg.block b hb fun e=>hn (hO b e),hg.tape,hg.os,hg.output,fun e he => ?_⟩,h v' w' _ rfl (fun b hb => .inl hb) (Nat.le_trans r.1 hg.size) hblk ⟨hg.os.trans r.2.2.2.1,hg.output.trans r.2.2.2.2⟩ ⟨Mw,MF⟩⟩
 ·unfold execOp
  simp only[hop,resolve,invoke,builtin,Sem.run_bind,Sem.run_pure,Result.andThen_ok,List.map_toArray,List.map_cons,List.map_nil,hs,hx,hrun]
 ·have he':=mem_listed he
  rw[events_append_op s x t hop hs hx] at he'
  rcases sM e he' with ⟨b,hb,hr⟩ | hm
  ·obtain⟨l,wr,sy⟩:=e
   simp only at hb hr
   subst hb
   refine .inl ⟨b,wr,sy,rfl,fun XN => ?_,?_⟩
   ·rcases hr with ⟨h2,-⟩ | h2
    ·rw[XN] at h2; cases h2
    ·exact .inl (hO _ h2)
   ·rcases hr with ⟨-,h2⟩ | h2
    ·rw[h2]; exact had.imp id .inl
    ·exact .inr (.inl (hO _ h2))
  ·exact .inr hm
open Go.ConcN (sumTo sumTo_upd sumTo_congr le_sumTo upd upd_same upd_ne)
theorem NN (γ:So) (w:World) (d:Nat):Dk γ w γ (w.at d) #[]:=⟨rfl,fun b=>⟨.inl,fun h=>h.elim id fun h=>absurd h.2 (by have:(w.at d).heap.size=w.heap.size:=rfl; omega)⟩,Nat.le_refl _,fun _ _ _=>rfl,rfl,rfl,rfl,by simp⟩
def Zh (ops:Array Oper):Bool:=(List.range ops.size).all fun i=>match ops[i]? with | some o=>o.after.all fun e=>decide (e.on<i) | none=>true
theorem W4 (h:Zh ops=true) (i:Nat) (o:Oper) (ho:ops[i]? = some o):∀ e∈o.after,e.on<i:=by
 intro e he
 have h1:=List.all_eq_true.1 h i (by rw[List.mem_range]; exact(Array.getElem?_eq_some_iff.1 ho).1)
 rw[ho] at h1
 simp only at h1
 obtain⟨j,hj,rfl⟩:=Array.mem_iff_getElem.1 he
 simpa using Array.all_eq_true.1 h1 j hj
theorem R4 (C:KC P main K z8 Du) (hp:p ≠ .ret) (hm:P.follows .mixedOrders=true) {id:Nat} (J:(Nat→Bool)→So→Act→World→Prop)
  (Ub:Zh ops=true)
  (h0:∀ w₁,gb γ w w₁→J (fun _=>false) γ a (w₁.at (w₁.drawn+1)))
  (hop:∀ L γ a w i o,J L γ a w→ops[i]? = some o→L i=false→(∀ e∈o.after,Region.binds .any e=true→L e.on=true) →
   ∀ rest,(∀ γ' a' w',J (upd L i true) γ' a' w'→KO K fn (p,γ') ops rest Q a' w')→KO K fn (p,γ) ops (i::rest) Q a w)
  (oE:∀ L γ a w,J L γ a w→(∀ i,i<ops.size→L i=true)→Q (p,γ) .normal a w):KJ K fn (p,γ) (.region id ops true) Q a w:=by
 have mA:=W4 Ub
 have key:∀ (fuel t:Nat) (listed:Array Bool) (γ:So) (a:Act) (w:World),listed.size=ops.size→sumTo ops.size (fun j=>if listed.getD j true then 0 else 1)=fuel→J (fun j=>listed.getD j false) γ a w →
   KO K fn (p,γ) ops (Region.linearise.go .any ops fuel t listed []) Q a w:=by
  intro fuel
  induction fuel with
  | zero =>
   intro t listed γ a w hsz F2 hJ
   refine aH C (oE _ γ a w hJ fun i hi => ?_)
   have h1:=le_sumTo (f:=fun j=>if listed.getD j true then 0 else 1) hi
   rw[F2] at h1
   have h2:listed.getD i true=true:=by
    cases h:listed.getD i true with
    | true=>rfl
    | false=>simp[h] at h1
   simpa [Array.getElem?_eq_getElem (show i<listed.size by omega)] using h2
  | succ fuel ih =>
   intro t listed γ a w hsz F2 hJ
   simp only[Region.linearise.go]
   change KO K fn (p,γ) ops (match (Region.ready .any ops listed)[t % (Region.ready .any ops listed).length]? with
    | some i=>Region.linearise.go .any ops fuel (t / (Region.ready .any ops listed).length) (listed.setIfInBounds i true) [i]
    | none=>[].reverse) Q a w
   cases hi:(Region.ready .any ops listed)[t % (Region.ready .any ops listed).length]? with
   | none =>
    have F3:Region.ready .any ops listed=[]:=by
     cases hr:Region.ready .any ops listed with
     | nil=>rfl
     | cons x xs =>
      rw[hr] at hi
      have hlt:t % (x::xs).length<(x::xs).length:=Nat.mod_lt _ (by simp)
      simp at hi
      simp at hlt
      omega
    refine aH C (oE _ γ a w hJ fun i hi => ?_)
    induction i using Nat.strongRecOn with
    | ind i ihi =>
     have Lb:i<listed.size:=by omega
     cases hb:listed.getD i false with
     | true=>rfl
     | false =>
      have mc:i∈Region.ready .any ops listed:=by
       refine mem_ready.2 ⟨by simpa [Array.getElem?_eq_getElem Lb] using hb,ops[i],Array.getElem?_eq_getElem hi,fun e he _ => ?_⟩
       have hlt:=mA i _ (Array.getElem?_eq_getElem hi) e he
       exact ihi e.on hlt (by omega)
      rw[F3] at mc
      cases mc
   | some i =>
    simp only[]
    rw[linearise_go_acc,List.reverse_singleton,List.singleton_append]
    have mc:=List.mem_of_getElem? hi
    obtain⟨Yu,o,ho,dx⟩:=mem_ready.1 mc
    have XY:i<ops.size:=(Array.getElem?_eq_some_iff.1 ho).1
    have Lb:i<listed.size:=by omega
    refine hop _ γ a w i o hJ ho (by simpa [Array.getElem?_eq_getElem Lb] using Yu) (fun e he hb=>dx e he hb) _ fun γ' a' w' hJ'=>ih _ _ γ' a' w' (by simpa using hsz) ?_ ?_
    ·have h1:=sumTo_upd (fun j=>listed.getD j true) true (fun b=>if b then 0 else 1) XY
     rw[Yu] at h1
     simp only[if_true,Bool.false_eq_true,if_false] at h1
     have h2:sumTo ops.size (fun j=>if (listed.setIfInBounds i true).getD j true then 0 else 1)=sumTo ops.size fun j=>if upd (fun j=>listed.getD j true) i true j then 0 else 1:=by
      refine sumTo_congr fun j _ => ?_
      by_cases eB:j=i
      ·subst eB
       rw[upd_same]
       simp[Array.getElem?_setIfInBounds_self_of_lt Lb]
      ·rw[upd_ne _ _ eB,getD_set_ne true (Ne.symm eB)]
     rw[h2]
     omega
    ·have h2:(fun j=>(listed.setIfInBounds i true).getD j false)=upd (fun j=>listed.getD j false) i true:=by
      funext j
      by_cases eB:j=i
      ·subst eB
       rw[upd_same]
       simp[Array.getElem?_setIfInBounds_self_of_lt Lb]
      ·rw[upd_ne _ _ eB,getD_set_ne false (Ne.symm eB)]
     rw[h2]
     exact hJ'
 intro b k cs hb hk hc
 refine C.step _ _ _ _ fun w1 r => ?_
 have hgo:=stepG_region_draw (P:=P) (main:=main) (b:=b) (a:=a) (k:=k) (cs:=cs) (w:=w1) (id:=id) (ops:=ops)
 simp only[Region.schedule,hm,Bool.true_or,if_true] at hgo
 refine⟨_,_,_,_,(p,γ),hgo,Yh hp (NN γ w1 _),?_⟩
 refine key ops.size _ _ γ a _ (by simp) ?_ ?_ b k cs hb hk hc
 ·clear key h0 hop oE mA Ub
  have:∀ n,n≤ops.size→sumTo n (fun j=>if (Array.replicate ops.size false).getD j true then 0 else 1)=n:=by
   intro n
   induction n with
   | zero=>intro _; rfl
   | succ n ih =>
    intro hn
    simp only[sumTo]
    rw[ih (by omega)]
    have hlt:n<ops.size:=by omega
    simp[hlt]
  exact this _ (Nat.le_refl _)
 ·have h3:(fun j=>(Array.replicate ops.size false).getD j false)=fun _=>false:=by
   funext j
   by_cases hj:j<ops.size
   ·simp[hj]
   ·simp[hj]
  rw[h3]
  exact h0 w1 (PT hp r)
end Go.Co
end
section
namespace Go.Co
open Go Go.Conc Go.Proofs
variable {af : Machine → Trace → Prop} {main : Bool} {K : Gm → Goroutine → World → Prop} {p : Pc} {γ : So} {w : World}
def VQ (low up : List Int) (bH : Int) (s : Int) : Bool := decide (3 ≤ (s9 low up s).2.2) && decide ((s9 low up s).2.1 - (s9 low up s).1 ≤ bH)
def Lp (low up : List Int) (bH : Int) (k : Nat) : List Int := ((List.range k).map fun (j : Nat) => (j : Int) - up.length).filter (VQ low up bH)
def nG (low up : List Int) (bH : Int) : List Int := Lp low up bH (up.length + low.length + 1)
theorem N5 (low up : List Int) (bH : Int) (k : Nat) : Lp low up bH (k + 1) = Lp low up bH k ++ if VQ low up bH ((k : Int) - up.length) then [(k : Int) - up.length] else [] := by
 unfold Lp
 rw [List.range_succ, List.map_append, List.filter_append]
 congr 1
 simp only [List.map_cons, List.map_nil, List.filter_cons, List.filter_nil]
theorem CC (low up : List Int) (bH : Int) (k : Nat) : (Lp low up bH k).length ≤ k := by
 unfold Lp
 exact Nat.le_trans (List.length_filter_le _ _) (by simp)
theorem WH {low up : List Int} (K9 : PJ low) (Pt : PJ up) (s : Int) (k : Nat) : 0 ≤ (zU low up s k).1 ∧ (zU low up s k).1 ≤ 18 ∧ 0 ≤ (zU low up s k).2.1 ∧ (zU low up s k).2.1 ≤ 18 := by
 have hg : ∀ (l : List Int), PJ l → ∀ i, 0 ≤ l.getD i 0 ∧ l.getD i 0 ≤ 9 := by
  intro l h i
  cases hi : l[i]? with
  | none => simp [List.getD, hi]
  | some x =>
   have := h.2 i x hi
   simpa [List.getD, hi] using this
 induction k with
 | zero => simp [zU]
 | succ k ih =>
  rw [tR]
  have h1 := hg up Pt k
  have h2 := hg low K9 ((k : Int) + s).toNat
  unfold Hv
  split
  ·exact ih
  ·split
   ·simp only; omega
   ·simp only
    refine ⟨?_, ?_, ?_, ?_⟩ <;> split <;> omega
def ZQ (ua lb : Value) (A B : Option Addr) (ca cb : Nat) (low up : List Int) (bH : Int) (bA bB : Nat) (out : Value) (s : Int) (u : Nat → Value) : Act :=
 ⟨#[.agg #[ua, .slice A low.length ca], .agg #[.slice B up.length cb, lb], .int .i64 bH, .pointer (some ⟨bA, 0, none⟩), .pointer (some ⟨bB, 0, none⟩), u 5, u 6, out, .int .i64 s, u 9, u 10, u 11, u 12, u 13, u 14, u 15, u 16, u 17, u 18, u 19, u 20, u 21, u 22, u 23, u 24, u 25, u 26, u 27, u 28, u 29, u 30, u 31, u 32, u 33, u 34, u 35, u 36, u 37, u 38, u 39, u 40, u 41, u 42, u 43, u 44], []⟩
theorem Ms : (Tryz.prog.info? 3).map (fun i => (i.zero, i.size, i.bytes)) = some (some (.int .i64 0), 1, 8) := by kernel_rfl
theorem mixed : Tryz.prog.follows .mixedOrders = true := by kernel_rfl
abbrev SO (l : List Int) : List Value := l.map fun x => .int .i64 x
set_option maxRecDepth 100000 in
set_option maxHeartbeats 2000000 in
theorem N4 (C : KC Tryz.prog main K z8 Du) (hp : p ≠ .ret) {ua ub la lb : Value} {low up : List Int} (bH : Int) (hl : uF γ w la low) (hu : uF γ w ub up) (K9 : PJ low) (Pt : PJ up) :
  tC K Tryz.prog (p, γ) 103 #[.agg #[ua, la], .agg #[ub, lb], .int .i64 bH] w fun γ' v w' => γ'.1 = p ∧ iL γ'.2 w' w.heap.size 3 1 v (nG low up bH).length (SO (nG low up bH)) ∧ Kept γ w γ'.2 w' := by
 obtain ⟨i0, hi, Dp, KZ, XL⟩ := info_parts Ms
 have HX := K9.1
 have x5 := Pt.1
 refine yQ Tryz.func103 (by rfl) rfl ?_
 simp only [Tryz.ntmps103, List.size_toArray, List.length_cons, List.length_nil, Nat.reduceAdd, Nat.reduceSub, Array.replicate_succ, Array.replicate_zero, List.push_toArray, List.append_toArray, List.nil_append, List.cons_append]
 refine aN C (av C ?_)
 simp only [List.size_toArray, List.length_cons, List.length_nil, Nat.reduceAdd, Nat.zero_add, List.range, List.range.loop]
 refine mg C hp (ob := ?ob1) rfl (by rfl) (fun w => run_eq_of fun K hK => ?r1) (fun w => ?e1) ?h1
 case r1 => go_simp; exact hK
 case e1 => simp [go_sem]
 intro w1 Lr
 try walk_nrm
 have ow := (Kept.rely Lr).trans (Kept.alloc γ w1 w1.heap.size (.cells #[ua, la] 91))
 have PC : aF _ _ ⟨w1.heap.size, 0, none⟩ ua := aF.fresh (γ := γ) (w := w1) (cs := #[ua, la]) (t := 91) rfl rfl
 have HP : aF _ _ ⟨w1.heap.size, 1, none⟩ la := aF.fresh (γ := γ) (w := w1) (cs := #[ua, la]) (t := 91) rfl rfl
 refine mg C hp (ob := ?ob2) rfl (by rfl) (fun w => run_eq_of fun K hK => ?r2) (fun w => ?e2) ?h2
 case r2 => go_simp; exact hK
 case e2 => simp [go_sem]
 intro w2 KV
 try walk_nrm
 have DC := (Kept.rely KV).trans (Kept.alloc _ w2 w2.heap.size (.cells #[ub, lb] 91))
 have HH := ow.trans DC
 have xd := DC.sees PC
 have wP := DC.sees HP
 have sW : aF _ _ ⟨w2.heap.size, 0, none⟩ ub := aF.fresh (γ := γ.more w1.heap.size) (w := w2) (cs := #[ub, lb]) (t := 91) rfl rfl
 have YN : aF _ _ ⟨w2.heap.size, 1, none⟩ lb := aF.fresh (γ := γ.more w1.heap.size) (w := w2) (cs := #[ub, lb]) (t := 91) rfl rfl
 have pQ := HH.BN hl
 have Yv := HH.BN hu
 refine ah C (v := ?v3) rfl (by rfl) (fun w => run_eq_of fun K hK => ?r3) (fun w => ?e3) ?h3
 case r3 => go_simp; exact hK
 case e3 => first | (simp [go_sem]; done) | (simp [go_sem, *]; done)
 try walk_nrm
 refine aH C ?_
 co_then
 clear hl hu ow DC PC HP KV Lr
 generalize (γ.more w1.heap.size).more w2.heap.size = γ2 at *
 generalize w2.alloc (.cells #[ub, lb] 91) = W at *
 generalize w2.heap.size = bB at *
 generalize w1.heap.size = bA at *
 refine aN C (av C ?_)
 simp only [List.size_toArray, List.length_cons, List.length_nil, Nat.zero_add, List.range, List.range.loop]
 refine ah C (v := ?v4) rfl (by rfl) (fun w => run_eq_of fun K hK => ?r4) (fun w => ?e4) ?h4
 case r4 => go_simp; exact hK
 case e4 => first | (simp [go_sem]; done) | (simp [go_sem, *]; done)
 try walk_nrm
 refine aH C ?_
 co_then
 obtain ⟨A, ca, rfl, hA⟩ := pQ
 obtain ⟨B, cb, rfl, hB⟩ := Yv
 have hwa : IntKind.i64.wrap (0 - (up.length : Int)) = -(up.length : Int) := by rw [rz] <;> omega
 have hwb : IntKind.i64.wrap (-(up.length : Int)) = -(up.length : Int) := by rw [rz] <;> omega
 refine aN C (aN C (av C ?_))
 simp only [List.size_toArray, List.length_cons, List.length_nil, Nat.reduceAdd, Nat.zero_add, List.range, List.range.loop]
 refine ah C (v := ?v5) rfl (by rfl) (fun w => run_eq_of fun K hK => ?r5) (fun w => ?e5) ?h5
 case r5 => go_simp; exact hK
 case e5 => first | (simp [go_sem]; done) | (simp [go_sem, *]; done)
 try walk_nrm
 refine cq C hp (v := ?v6) rfl (by rfl) (fun w₁ h₁ => ⟨run_eq_of fun K hK => ?r6, ?e6⟩) ?h6
 case r6 => have hc := (aF.rely sW h₁).2; go_simp; exact hK
 case e6 => have hc := (aF.rely sW h₁).2; intro e he; simp [go_sem, hc] at he; subst he; exact (aF.rely sW h₁).ni
 try walk_nrm
 refine ah C (v := ?v7) rfl (by rfl) (fun w => run_eq_of fun K hK => ?r7) (fun w => ?e7) ?h7
 case r7 => go_simp; exact hK
 case e7 => first | (simp [go_sem]; done) | (simp [go_sem, *]; done)
 try walk_nrm
 refine ah C (v := ?v8) rfl (by rfl) (fun w => run_eq_of fun K hK => ?r8) (fun w => ?e8) ?h8
 case r8 => go_simp; exact hK
 case e8 => simp [go_sem, Op.unary]
 try walk_nrm
 refine ah C (v := ?v9) rfl (by rfl) (fun w => run_eq_of fun K hK => ?r9) (fun w => ?e9) ?h9
 case r9 => go_simp; exact hK
 case e9 => first | (simp [go_sem]; done) | (simp [go_sem, *]; done)
 try walk_nrm
 refine aH C ?_
 co_then
 refine er C ?_
 clear hwa hwb
 refine lz C (fun n γ' a w' => ∃ γ3, γ' = (p, γ3) ∧ Kept γ2 W γ3 w' ∧ ∃ k out, k ≤ up.length + low.length + 1 ∧ n = up.length + low.length + 1 - k ∧ iL γ3 w' W.heap.size 3 1 out (Lp low up bH k).length (SO (Lp low up bH k)) ∧ ∃ u, a = ZQ ua lb A B ca cb low up bH bA bB out ((k : Int) - up.length) u) (n := up.length + low.length + 1) ⟨γ2, rfl, Kept.refl _ _, 0, .slice none 0 0, by omega, by omega, iL.nil _ _ _, lG (by
  have : ((0 : Nat) : Int) - (up.length : Int) = -(up.length : Int) := by omega
  rw [this]
  rfl)⟩ ?_
 rintro n γ' a w' ⟨γ3, hγ, vH, k, out, hk, hn, dD, u, ha⟩
 subst hγ
 unfold ZQ at ha
 subst ha
 have x6 : W.heap.size ≤ w'.heap.size := vH.size
 have PB := vH.sees wP
 have ha3 := vH.sees xd
 have P7 := vH.sees sW
 have X1 := vH.sees YN
 refine aN C (aN C (av C ?_))
 simp only [List.size_toArray, List.length_cons, List.length_nil, Nat.reduceAdd, Nat.zero_add, List.range, List.range.loop]
 by_cases hlt : k < up.length + low.length + 1
 ·have ZE : decide ((k : Int) - (up.length : Int) ≤ (low.length : Int)) = true := by simp; omega
  refine ah C (v := ?v10) rfl (by rfl) (fun w => run_eq_of fun K hK => ?r10) (fun w => ?e10) ?qZ
  case r10 => go_simp; exact hK
  case e10 => first | (simp [go_sem]; done) | (simp [go_sem, *]; done)
  try walk_nrm
  refine ah C (v := ?v11) rfl (by rfl) (fun w => run_eq_of fun K hK => ?r11) (fun w => ?e11) ?z7
  case r11 => go_simp; exact hK
  case e11 => first | (simp [go_sem]; done) | (simp [go_sem, *]; done)
  try walk_nrm
  refine cq C hp (v := ?v12) rfl (by rfl) (fun w₁ h₁ => ⟨run_eq_of fun K hK => ?r12, ?e12⟩) ?Lg
  case r12 => have hc := (aF.rely PB h₁).2; go_simp; exact hK
  case e12 => have hc := (aF.rely PB h₁).2; intro e he; simp [go_sem, hc] at he; subst he; exact (aF.rely PB h₁).ni
  try walk_nrm
  refine ah C (v := ?v13) rfl (by rfl) (fun w => run_eq_of fun K hK => ?r13) (fun w => ?e13) ?Tf
  case r13 => go_simp; exact hK
  case e13 => first | (simp [go_sem]; done) | (simp [go_sem, *]; done)
  try walk_nrm
  refine ah C (v := ?v14) rfl (by rfl) (fun w => run_eq_of fun K hK => ?r14) (fun w => ?e14) ?Y0
  case r14 => go_simp; exact hK
  case e14 => first | (simp [go_sem]; done) | (simp [go_sem, *]; done)
  try walk_nrm
  refine aH C ?_
  co_then
  refine cr C (t := true) rfl ?_
  simp only [if_true]
  refine ij C ?_
  co_then
  refine aN C (er C (aN C (av C ?_)))
  simp only [List.size_toArray, List.length_cons, List.length_nil, Nat.reduceAdd, Nat.zero_add, List.range, List.range.loop]
  refine cq C hp (v := ?v15) rfl (by rfl) (fun w₁ h₁ => ⟨run_eq_of fun K hK => ?r15, ?e15⟩) ?Qb
  case r15 => have hc := (aF.rely ha3 h₁).2; have hd := (aF.rely PB h₁).2; go_simp; exact hK
  case e15 =>
   have hc := (aF.rely ha3 h₁).2
   have hd := (aF.rely PB h₁).2
   intro e he
   simp [go_sem, hc, hd] at he
   rcases he with rfl | rfl
   ·exact (aF.rely ha3 h₁).ni
   ·exact (aF.rely PB h₁).ni
  try walk_nrm
  refine cq C hp (v := ?v16) rfl (by rfl) (fun w₁ h₁ => ⟨run_eq_of fun K hK => ?r16, ?e16⟩) ?U0
  case r16 => have hc := (aF.rely P7 h₁).2; have hd := (aF.rely X1 h₁).2; go_simp; exact hK
  case e16 =>
   have hc := (aF.rely P7 h₁).2
   have hd := (aF.rely X1 h₁).2
   intro e he
   simp [go_sem, hc, hd] at he
   rcases he with rfl | rfl
   ·exact (aF.rely P7 h₁).ni
   ·exact (aF.rely X1 h₁).ni
  try walk_nrm
  refine ah C (v := ?v17) rfl (by rfl) (fun w => run_eq_of fun K hK => ?r17) (fun w => ?e17) ?YZ
  case r17 => go_simp; exact hK
  case e17 => first | (simp [go_sem]; done) | (simp [go_sem, *]; done)
  try walk_nrm
  refine IX C rfl (by rfl) rfl (Post := fun γ' v Lm => γ'.1 = p ∧ v = Ya (s9 low up ((k : Int) - up.length)) ∧ Kept γ3 w' γ'.2 Lm) ?_ ?_
  ·simp only [List.map_toArray, List.map_cons, List.map_nil]
   exact WB C hp ((k : Int) - up.length) ⟨A, ca, rfl, fun i x hx => by obtain ⟨ad, h1, h2⟩ := hA i x hx; exact ⟨ad, h1, vH.sees h2⟩⟩ ⟨B, cb, rfl, fun i x hx => by obtain ⟨ad, h1, h2⟩ := hB i x hx; exact ⟨ad, h1, vH.sees h2⟩⟩ K9 Pt
  rintro ⟨p', γ4⟩ v4 w4 ⟨hp4, hv4, PA⟩
  simp only at hp4 PA
  subst p'
  have VD := It low up ((k : Int) - up.length) up.length
  have X3 := WH K9 Pt ((k : Int) - up.length) up.length
  have qG := N5 low up bH k
  have hlen := CC low up bH k
  have hfb : VQ low up bH ((k : Int) - up.length) = (decide (3 ≤ (zU low up ((k : Int) - up.length) up.length).2.2) && decide ((zU low up ((k : Int) - up.length) up.length).2.1 - (zU low up ((k : Int) - up.length) up.length).1 ≤ bH)) := rfl
  unfold s9 Ya at hv4
  generalize zU low up ((k : Int) - up.length) up.length = st at *
  obtain ⟨r1, r2, r3⟩ := st
  simp only at hv4 VD X3 hfb
  subst hv4
  have hw4 : IntKind.i64.wrap (r2 - r1) = r2 - r1 := by rw [rz] <;> omega
  have hw5 : IntKind.i64.wrap ((k : Int) - (up.length : Int) + 1) = (k : Int) - (up.length : Int) + 1 := by rw [rz] <;> omega
  have ME : ((k + 1 : Nat) : Int) - (up.length : Int) = (k : Int) - (up.length : Int) + 1 := by omega
  have HF := vH.trans PA
  have AX := dD.kept PA
  have Xo : W.heap.size ≤ w4.heap.size := Nat.le_trans x6 PA.size
  try walk_nrm
  clear PB ha3 P7 X1 ZE PA dD vH x6
  refine ah C (v := ?v18) rfl (by rfl) (fun w => run_eq_of fun K hK => ?r18) (fun w => ?e18) ?h18
  case r18 => go_simp; exact hK
  case e18 => first | (simp [go_sem]; done) | (simp [go_sem, *]; done)
  try walk_nrm
  refine ah C (v := ?v19) rfl (by rfl) (fun w => run_eq_of fun K hK => ?r19) (fun w => ?e19) ?h19
  case r19 => go_simp; exact hK
  case e19 => first | (simp [go_sem]; done) | (simp [go_sem, *]; done)
  try walk_nrm
  refine ah C (v := ?v20) rfl (by rfl) (fun w => run_eq_of fun K hK => ?r20) (fun w => ?e20) ?h20
  case r20 => go_simp; exact hK
  case e20 => first | (simp [go_sem]; done) | (simp [go_sem, *]; done)
  try walk_nrm
  refine ah C (v := ?v21) rfl (by rfl) (fun w => run_eq_of fun K hK => ?r21) (fun w => ?e21) ?h21
  case r21 => go_simp; exact hK
  case e21 => first | (simp [go_sem]; done) | (simp [go_sem, *]; done)
  try walk_nrm
  refine ah C (v := ?v22) rfl (by rfl) (fun w => run_eq_of fun K hK => ?r22) (fun w => ?e22) ?h22
  case r22 => go_simp; exact hK
  case e22 => first | (simp [go_sem]; done) | (simp [go_sem, *]; done)
  try walk_nrm
  refine ah C (v := ?v23) rfl (by rfl) (fun w => run_eq_of fun K hK => ?r23) (fun w => ?e23) ?h23
  case r23 => go_simp; exact hK
  case e23 => first | (simp [go_sem]; done) | (simp [go_sem, *]; done)
  try walk_nrm
  refine ah C (v := ?v24) rfl (by rfl) (fun w => run_eq_of fun K hK => ?r24) (fun w => ?e24) ?h24
  case r24 => go_simp; exact hK
  case e24 => first | (simp [go_sem]; done) | (simp [go_sem, *]; done)
  try walk_nrm
  refine aH C ?_
  co_then
  refine aN C (av C ?_)
  simp only [List.size_toArray, List.length_cons, List.length_nil, Nat.reduceAdd, Nat.zero_add, List.range, List.range.loop]
  by_cases c1 : 3 ≤ r3
  ·have P6 : decide (3 ≤ r3) = true := by simpa using c1
   by_cases c2 : r2 - r1 ≤ bH
   ·have YM : decide (r2 - r1 ≤ bH) = true := by simpa using c2
    refine ah C (v := ?v25) rfl (by rfl) (fun w => run_eq_of fun K hK => ?r25) (fun w => ?e25) ?h25
    case r25 => go_simp; exact hK
    case e25 => first | (simp [go_sem]; done) | (simp [go_sem, *]; done)
    try walk_nrm
    refine ah C (v := ?v26) rfl (by rfl) (fun w => run_eq_of fun K hK => ?r26) (fun w => ?e26) ?h26
    case r26 => go_simp; exact hK
    case e26 => first | (simp [go_sem]; done) | (simp [go_sem, *]; done)
    try walk_nrm
    refine ah C (v := ?v27) rfl (by rfl) (fun w => run_eq_of fun K hK => ?r27) (fun w => ?e27) ?h27
    case r27 => go_simp; exact hK
    case e27 => first | (simp [go_sem]; done) | (simp [go_sem, *]; done)
    try walk_nrm
    refine ah C (v := ?v28) rfl (by rfl) (fun w => run_eq_of fun K hK => ?r28) (fun w => ?e28) ?h28
    case r28 => go_simp; exact hK
    case e28 => first | (simp [go_sem]; done) | (simp [go_sem, *]; done)
    try walk_nrm
    refine ah C (v := ?v29) rfl (by rfl) (fun w => run_eq_of fun K hK => ?r29) (fun w => ?e29) ?h29
    case r29 => go_simp; exact hK
    case e29 => first | (simp [go_sem]; done) | (simp [go_sem, *]; done)
    try walk_nrm
    refine ah C (v := ?v30) rfl (by rfl) (fun w => run_eq_of fun K hK => ?r30) (fun w => ?e30) ?h30
    case r30 => go_simp; exact hK
    case e30 => first | (simp [go_sem]; done) | (simp [go_sem, *]; done)
    try walk_nrm
    refine ah C (v := ?v31) rfl (by rfl) (fun w => run_eq_of fun K hK => ?r31) (fun w => ?e31) ?h31
    case r31 => go_simp; exact hK
    case e31 => first | (simp [go_sem]; done) | (simp [go_sem, *]; done)
    try walk_nrm
    refine ah C (v := ?v32) rfl (by rfl) (fun w => run_eq_of fun K hK => ?r32) (fun w => ?e32) ?h32
    case r32 => go_simp; exact hK
    case e32 => first | (simp [go_sem]; done) | (simp [go_sem, *]; done)
    try walk_nrm
    refine ah C (v := ?v33) rfl (by rfl) (fun w => run_eq_of fun K hK => ?r33) (fun w => ?e33) ?h33
    case r33 => go_simp; exact hK
    case e33 => first | (simp [go_sem]; done) | (simp [go_sem, *]; done)
    try walk_nrm
    refine aH C ?_
    co_then
    refine cr C (t := true) rfl ?_
    simp only [if_true]
    refine av C ?_
    simp only [List.size_toArray, List.length_cons, List.length_nil, Nat.reduceAdd, Nat.zero_add, List.range, List.range.loop]
    refine ah C (v := ?v34) rfl (by rfl) (fun w => run_eq_of fun K hK => ?r34) (fun w => ?e34) ?h34
    case r34 => go_simp; exact hK
    case e34 => first | (simp [go_sem]; done) | (simp [go_sem, *]; done)
    try walk_nrm
    refine ah C (v := ?v35) rfl (by rfl) (fun w => run_eq_of fun K hK => ?r35) (fun w => ?e35) ?h35
    case r35 => go_simp; exact hK
    case e35 => first | (simp [go_sem]; done) | (simp [go_sem, *]; done)
    try walk_nrm
    refine Na C hp (ob := ?acU) (n := 1) rfl (by rfl) (fun w => run_eq_of fun K hK => ?r36) (fun w => ?e36) ?h36
    case r36 => go_simp; exact hK
    case e36 => simp [go_sem]
    intro w5 PS
    try walk_nrm
    have SY := (Kept.rely PS).trans (Kept.alloc γ4 w5 w5.heap.size (.cells #[.int .i64 ((k : Int) - up.length)] 3))
    have hs6 : aF _ _ ⟨w5.heap.size, 0, none⟩ (.int .i64 ((k : Int) - up.length)) := aF.fresh (γ := γ4) (w := w5) (cs := #[.int .i64 ((k : Int) - up.length)]) (t := 3) rfl rfl
    have Ua := AX.kept SY
    have Pz := HF.trans SY
    have hB6 : W.heap.size ≤ (w5.alloc (.cells #[.int .i64 ((k : Int) - up.length)] 3)).heap.size := Nat.le_trans Xo SY.size
    generalize w5.alloc (.cells #[.int .i64 ((k : Int) - up.length)] 3) = w6 at *
    generalize γ4.more w5.heap.size = γ6 at *
    generalize w5.heap.size = b6 at *
    refine Bs C hp (B := W.heap.size) (news := [.int .i64 ((k : Int) - up.length)]) (m := 1) (c := 1) (ad := ⟨b6, 0, none⟩) (n := (Lp low up bH k).length) (xs := SO (Lp low up bH k)) (v := out) rfl (by rfl) rfl Tryz.underlying23 hi Dp KZ XL rfl (by decide) rfl rfl hB6 Ua rfl (fun j u hu => ?_) hs6.1 (by simp [Value.oneCell']) (by simp only [maxLen]; omega) (by omega) ?_
    ·cases j with
     | zero => simp at hu; subst hu; exact hs6
     | succ j => simp at hu
    intro v7 w7 γ7 YI P4 hg3 hg4 hg5 AW
    have hk8 := Pz.append YI P4 hg3 hg4 hg5 (v := out) (fun b hb => (Ua.1.lt b hb).1)
    try walk_nrm
    refine ah C (v := ?v37) rfl (by rfl) (fun w => run_eq_of fun K hK => ?r37) (fun w => ?e37) ?h37
    case r37 => go_simp; exact hK
    case e37 => first | (simp [go_sem]; done) | (simp [go_sem, *]; done)
    try walk_nrm
    refine aH C ?_
    co_then
    refine av C ?_
    simp only [List.size_toArray, List.length_cons, List.length_nil, Nat.reduceAdd, Nat.zero_add, List.range, List.range.loop]
    refine ah C (v := ?v38) rfl (by rfl) (fun w => run_eq_of fun K hK => ?r38) (fun w => ?e38) ?h38
    case r38 => go_simp; exact hK
    case e38 => first | (simp [go_sem]; done) | (simp [go_sem, *]; done)
    try walk_nrm
    refine ah C (v := ?v39) rfl (by rfl) (fun w => run_eq_of fun K hK => ?r39) (fun w => ?e39) ?h39
    case r39 => go_simp; exact hK
    case e39 => first | (simp [go_sem]; done) | (simp [go_sem, *]; done)
    try walk_nrm
    refine ah C (v := ?v40) rfl (by rfl) (fun w => run_eq_of fun K hK => ?r40) (fun w => ?e40) ?h40
    case r40 => go_simp; exact hK
    case e40 => first | (simp [go_sem]; done) | (simp [go_sem, *]; done)
    try walk_nrm
    refine aH C (cO ?_)
    refine ⟨up.length + low.length + 1 - (k + 1), by omega, γ7, rfl, hk8, k + 1, v7, by omega, rfl, (by rw [qG, hfb, P6, YM]; simpa using AW), lG ?_⟩
    rw [ME]
    rfl
   ·have YM : decide (r2 - r1 ≤ bH) = false := by simpa using c2
    refine ah C (v := ?v41) rfl (by rfl) (fun w => run_eq_of fun K hK => ?r41) (fun w => ?e41) ?h41
    case r41 => go_simp; exact hK
    case e41 => first | (simp [go_sem]; done) | (simp [go_sem, *]; done)
    try walk_nrm
    refine ah C (v := ?v42) rfl (by rfl) (fun w => run_eq_of fun K hK => ?r42) (fun w => ?e42) ?h42
    case r42 => go_simp; exact hK
    case e42 => first | (simp [go_sem]; done) | (simp [go_sem, *]; done)
    try walk_nrm
    refine ah C (v := ?v43) rfl (by rfl) (fun w => run_eq_of fun K hK => ?r43) (fun w => ?e43) ?h43
    case r43 => go_simp; exact hK
    case e43 => first | (simp [go_sem]; done) | (simp [go_sem, *]; done)
    try walk_nrm
    refine ah C (v := ?v44) rfl (by rfl) (fun w => run_eq_of fun K hK => ?r44) (fun w => ?e44) ?h44
    case r44 => go_simp; exact hK
    case e44 => first | (simp [go_sem]; done) | (simp [go_sem, *]; done)
    try walk_nrm
    refine ah C (v := ?v45) rfl (by rfl) (fun w => run_eq_of fun K hK => ?r45) (fun w => ?e45) ?h45
    case r45 => go_simp; exact hK
    case e45 => first | (simp [go_sem]; done) | (simp [go_sem, *]; done)
    try walk_nrm
    refine ah C (v := ?v46) rfl (by rfl) (fun w => run_eq_of fun K hK => ?r46) (fun w => ?e46) ?h46
    case r46 => go_simp; exact hK
    case e46 => first | (simp [go_sem]; done) | (simp [go_sem, *]; done)
    try walk_nrm
    refine ah C (v := ?v47) rfl (by rfl) (fun w => run_eq_of fun K hK => ?r47) (fun w => ?e47) ?h47
    case r47 => go_simp; exact hK
    case e47 => first | (simp [go_sem]; done) | (simp [go_sem, *]; done)
    try walk_nrm
    refine ah C (v := ?v48) rfl (by rfl) (fun w => run_eq_of fun K hK => ?r48) (fun w => ?e48) ?h48
    case r48 => go_simp; exact hK
    case e48 => first | (simp [go_sem]; done) | (simp [go_sem, *]; done)
    try walk_nrm
    refine ah C (v := ?v49) rfl (by rfl) (fun w => run_eq_of fun K hK => ?r49) (fun w => ?e49) ?h49
    case r49 => go_simp; exact hK
    case e49 => first | (simp [go_sem]; done) | (simp [go_sem, *]; done)
    try walk_nrm
    refine aH C ?_
    co_then
    refine cr C (t := false) rfl ?_
    simp only [Bool.false_eq_true, if_false]
    refine ij C ?_
    co_then
    refine av C ?_
    simp only [List.size_toArray, List.length_cons, List.length_nil, Nat.reduceAdd, Nat.zero_add, List.range, List.range.loop]
    refine ah C (v := ?v50) rfl (by rfl) (fun w => run_eq_of fun K hK => ?r50) (fun w => ?e50) ?X7
    case r50 => go_simp; exact hK
    case e50 => first | (simp [go_sem]; done) | (simp [go_sem, *]; done)
    try walk_nrm
    refine ah C (v := ?v51) rfl (by rfl) (fun w => run_eq_of fun K hK => ?r51) (fun w => ?e51) ?X6
    case r51 => go_simp; exact hK
    case e51 => first | (simp [go_sem]; done) | (simp [go_sem, *]; done)
    try walk_nrm
    refine ah C (v := ?v52) rfl (by rfl) (fun w => run_eq_of fun K hK => ?r52) (fun w => ?e52) ?X5
    case r52 => go_simp; exact hK
    case e52 => first | (simp [go_sem]; done) | (simp [go_sem, *]; done)
    try walk_nrm
    refine aH C (cO ?_)
    refine ⟨up.length + low.length + 1 - (k + 1), by omega, γ4, rfl, HF, k + 1, out, by omega, rfl, (by rw [qG, hfb, P6, YM]; simpa using AX), lG ?_⟩
    rw [ME]
    rfl
  ·have P6 : decide (3 ≤ r3) = false := by simpa using c1
   refine ah C (v := ?v53) rfl (by rfl) (fun w => run_eq_of fun K hK => ?r53) (fun w => ?e53) ?h53
   case r53 => go_simp; exact hK
   case e53 => first | (simp [go_sem]; done) | (simp [go_sem, *]; done)
   try walk_nrm
   refine ah C (v := ?v54) rfl (by rfl) (fun w => run_eq_of fun K hK => ?r54) (fun w => ?e54) ?h54
   case r54 => go_simp; exact hK
   case e54 => first | (simp [go_sem]; done) | (simp [go_sem, *]; done)
   try walk_nrm
   refine ah C (v := ?v55) rfl (by rfl) (fun w => run_eq_of fun K hK => ?r55) (fun w => ?e55) ?h55
   case r55 => go_simp; exact hK
   case e55 => first | (simp [go_sem]; done) | (simp [go_sem, *]; done)
   try walk_nrm
   refine bW C rfl (by rfl) ?_
   try walk_nrm
   refine bW C rfl (by rfl) ?_
   try walk_nrm
   refine bW C rfl (by rfl) ?_
   try walk_nrm
   refine bW C rfl (by rfl) ?_
   try walk_nrm
   refine bW C rfl (by rfl) ?_
   try walk_nrm
   refine ah C (v := ?v56) rfl (by rfl) (fun w => run_eq_of fun K hK => ?r56) (fun w => ?e56) ?h56
   case r56 => go_simp; exact hK
   case e56 => first | (simp [go_sem]; done) | (simp [go_sem, *]; done)
   try walk_nrm
   refine aH C ?_
   co_then
   refine cr C (t := false) rfl ?_
   simp only [Bool.false_eq_true, if_false]
   refine ij C ?_
   co_then
   refine av C ?_
   simp only [List.size_toArray, List.length_cons, List.length_nil, Nat.reduceAdd, Nat.zero_add, List.range, List.range.loop]
   refine ah C (v := ?v57) rfl (by rfl) (fun w => run_eq_of fun K hK => ?r57) (fun w => ?e57) ?h57
   case r57 => go_simp; exact hK
   case e57 => first | (simp [go_sem]; done) | (simp [go_sem, *]; done)
   try walk_nrm
   refine ah C (v := ?v58) rfl (by rfl) (fun w => run_eq_of fun K hK => ?r58) (fun w => ?e58) ?h58
   case r58 => go_simp; exact hK
   case e58 => first | (simp [go_sem]; done) | (simp [go_sem, *]; done)
   try walk_nrm
   refine ah C (v := ?v59) rfl (by rfl) (fun w => run_eq_of fun K hK => ?r59) (fun w => ?e59) ?h59
   case r59 => go_simp; exact hK
   case e59 => first | (simp [go_sem]; done) | (simp [go_sem, *]; done)
   try walk_nrm
   refine aH C (cO ?_)
   refine ⟨up.length + low.length + 1 - (k + 1), by omega, γ4, rfl, HF, k + 1, out, by omega, rfl, (by rw [qG, hfb, P6]; simpa using AX), lG ?_⟩
   rw [ME]
   rfl
 ·have HE : k = up.length + low.length + 1 := by omega
  subst HE
  have ZE : decide (((up.length + low.length + 1 : Nat) : Int) - (up.length : Int) ≤ (low.length : Int)) = false := by simp; omega
  generalize hsv : ((up.length + low.length + 1 : Nat) : Int) - (up.length : Int) = sv at *
  refine ah C (v := ?v60) rfl (by rfl) (fun w => run_eq_of fun K hK => ?r60) (fun w => ?e60) ?h60
  case r60 => go_simp; exact hK
  case e60 => first | (simp [go_sem]; done) | (simp [go_sem, *]; done)
  try walk_nrm
  refine ah C (v := ?v61) rfl (by rfl) (fun w => run_eq_of fun K hK => ?r61) (fun w => ?e61) ?h61
  case r61 => go_simp; exact hK
  case e61 => first | (simp [go_sem]; done) | (simp [go_sem, *]; done)
  try walk_nrm
  refine cq C hp (v := ?v62) rfl (by rfl) (fun w₁ h₁ => ⟨run_eq_of fun K hK => ?r62, ?e62⟩) ?h62
  case r62 => have hc := (aF.rely PB h₁).2; go_simp; exact hK
  case e62 => have hc := (aF.rely PB h₁).2; intro e he; simp [go_sem, hc] at he; subst he; exact (aF.rely PB h₁).ni
  try walk_nrm
  refine ah C (v := ?v63) rfl (by rfl) (fun w => run_eq_of fun K hK => ?r63) (fun w => ?e63) ?YY
  case r63 => go_simp; exact hK
  case e63 => first | (simp [go_sem]; done) | (simp [go_sem, *]; done)
  try walk_nrm
  refine ah C (v := ?v64) rfl (by rfl) (fun w => run_eq_of fun K hK => ?r64) (fun w => ?e64) ?h64
  case r64 => go_simp; exact hK
  case e64 => first | (simp [go_sem]; done) | (simp [go_sem, *]; done)
  try walk_nrm
  refine aH C ?_
  co_then
  refine cr C (t := false) rfl ?_
  simp only [Bool.false_eq_true, if_false]
  refine kA C ?_
  co_then
  refine aN C (av C ?_)
  simp only [List.size_toArray, List.length_cons, List.length_nil, Nat.reduceAdd, Nat.zero_add, List.range, List.range.loop]
  refine ah C (v := ?v65) rfl (by rfl) (fun w => run_eq_of fun K hK => ?r65) (fun w => ?e65) ?h65
  case r65 => go_simp; exact hK
  case e65 => first | (simp [go_sem]; done) | (simp [go_sem, *]; done)
  try walk_nrm
  refine ah C (v := ?v66) rfl (by rfl) (fun w => run_eq_of fun K hK => ?r66) (fun w => ?e66) ?h66
  case r66 => go_simp; exact hK
  case e66 => first | (simp [go_sem]; done) | (simp [go_sem, *]; done)
  try walk_nrm
  refine aH C ?_
  co_then
  refine yh C ?_
  have rG : iL γ3 w' w.heap.size 3 1 out (nG low up bH).length (SO (nG low up bH)) := dD.more HH.size
  exact ⟨rfl, out, resultsC_tmp Tryz.results103 _, rfl, rG, HH.trans vH⟩
end Go.Co
end
section
namespace Go.Co
open Go Go.Conc Go.Proofs
open Go.ConcN (upd upd_same upd_ne)
variable {af:Machine→Trace→Prop} {main:Bool} {K:Gm→Goroutine→World→Prop} {p:Pc} {γ:So} {w:World}
structure Wk where
 aR:List Int
 bH:Int
 up:Nat→List Int
 lo:Nat→List Int
structure Wk.ok (d:Wk):Prop where
 Y3:d.aR.length≤1000
 aR:∀ (i:Nat) (x:Int),d.aR[i]? = some x→0≤x∧x≤3
 bH:0≤d.bH∧d.bH≤1000
 up:∀ i,PJ (d.up i)
 lo:∀ i,PJ (d.lo i)
structure dY (γ:So) (w:World) (b:Nat) (d:Wk):Prop where
 bH:aF γ w ⟨b,2,none⟩ (.int .i64 d.bH)
 aR:∃ v,aF γ w ⟨b,3,none⟩ v∧uF γ w v d.aR
 up:∀ i,i<4→∃ v,aF γ w ⟨b,4+i*2,none⟩ v∧uF γ w v (d.up i)
 lo:∀ i,i<4→∃ v,aF γ w ⟨b,4+i*2+1,none⟩ v∧uF γ w v (d.lo i)
theorem dY.kept {b:Nat} {d:Wk} {γ':So} {w':World} (h:dY γ w b d) (k:Kept γ w γ' w'):dY γ' w' b d :=
 ⟨k.sees h.bH,h.aR.imp fun _ ⟨h1,h2⟩=>⟨k.sees h1,k.BN h2⟩,fun i hi=>(h.up i hi).imp fun _ ⟨h1,h2⟩=>⟨k.sees h1,k.BN h2⟩,fun i hi=>(h.lo i hi).imp fun _ ⟨h1,h2⟩=>⟨k.sees h1,k.BN h2⟩⟩
def vL (x y s:Int):Value := .agg #[.int .i64 x,.int .i64 y,.int .i64 s]
def eG (a b:Wk) (x y:Int):List Int:=nG (a.lo x.toNat) (b.up y.toNat) (a.bH+b.bH)
def msgs (a b:Wk) (x:Int) (ys:List Int):List Value:=ys.flatMap fun y=>(eG a b x y).map fun s=>vL x y s
theorem HR {cf cl:Nat} {tv:Value} (vs:List Value):wk cf cl tv vs ≠ .ret∧wk cf cl tv vs ≠ .stop:=by cases vs<;>simp[wk]
theorem SC (T:Array Value) (h:T.size=46):∃ v0 v1 v2 v3 v4 v5 v6 v7 v8 v9 v10 v11 v12 v13 v14 v15 v16 v17 v18 v19 v20 v21 v22 v23 v24 v25 v26 v27 v28 v29 v30 v31 v32 v33 v34 v35 v36 v37 v38 v39 v40 v41 v42 v43 v44 v45:Value,T=#[v0,v1,v2,v3,v4,v5,v6,v7,v8,v9,v10,v11,v12,v13,v14,v15,v16,v17,v18,v19,v20,v21,v22,v23,v24,v25,v26,v27,v28,v29,v30,v31,v32,v33,v34,v35,v36,v37,v38,v39,v40,v41,v42,v43,v44,v45]:=by
 obtain⟨l⟩:=T
 simp only[List.size_toArray] at h
 rcases l with _ | ⟨v0,l⟩
 ·simp at h
 rcases l with _ | ⟨v1,l⟩
 ·simp at h
 rcases l with _ | ⟨v2,l⟩
 ·simp at h
 rcases l with _ | ⟨v3,l⟩
 ·simp at h
 rcases l with _ | ⟨v4,l⟩
 ·simp at h
 rcases l with _ | ⟨v5,l⟩
 ·simp at h
 rcases l with _ | ⟨v6,l⟩
 ·simp at h
 rcases l with _ | ⟨v7,l⟩
 ·simp at h
 rcases l with _ | ⟨v8,l⟩
 ·simp at h
 rcases l with _ | ⟨v9,l⟩
 ·simp at h
 rcases l with _ | ⟨v10,l⟩
 ·simp at h
 rcases l with _ | ⟨v11,l⟩
 ·simp at h
 rcases l with _ | ⟨v12,l⟩
 ·simp at h
 rcases l with _ | ⟨v13,l⟩
 ·simp at h
 rcases l with _ | ⟨v14,l⟩
 ·simp at h
 rcases l with _ | ⟨v15,l⟩
 ·simp at h
 rcases l with _ | ⟨v16,l⟩
 ·simp at h
 rcases l with _ | ⟨v17,l⟩
 ·simp at h
 rcases l with _ | ⟨v18,l⟩
 ·simp at h
 rcases l with _ | ⟨v19,l⟩
 ·simp at h
 rcases l with _ | ⟨v20,l⟩
 ·simp at h
 rcases l with _ | ⟨v21,l⟩
 ·simp at h
 rcases l with _ | ⟨v22,l⟩
 ·simp at h
 rcases l with _ | ⟨v23,l⟩
 ·simp at h
 rcases l with _ | ⟨v24,l⟩
 ·simp at h
 rcases l with _ | ⟨v25,l⟩
 ·simp at h
 rcases l with _ | ⟨v26,l⟩
 ·simp at h
 rcases l with _ | ⟨v27,l⟩
 ·simp at h
 rcases l with _ | ⟨v28,l⟩
 ·simp at h
 rcases l with _ | ⟨v29,l⟩
 ·simp at h
 rcases l with _ | ⟨v30,l⟩
 ·simp at h
 rcases l with _ | ⟨v31,l⟩
 ·simp at h
 rcases l with _ | ⟨v32,l⟩
 ·simp at h
 rcases l with _ | ⟨v33,l⟩
 ·simp at h
 rcases l with _ | ⟨v34,l⟩
 ·simp at h
 rcases l with _ | ⟨v35,l⟩
 ·simp at h
 rcases l with _ | ⟨v36,l⟩
 ·simp at h
 rcases l with _ | ⟨v37,l⟩
 ·simp at h
 rcases l with _ | ⟨v38,l⟩
 ·simp at h
 rcases l with _ | ⟨v39,l⟩
 ·simp at h
 rcases l with _ | ⟨v40,l⟩
 ·simp at h
 rcases l with _ | ⟨v41,l⟩
 ·simp at h
 rcases l with _ | ⟨v42,l⟩
 ·simp at h
 rcases l with _ | ⟨v43,l⟩
 ·simp at h
 rcases l with _ | ⟨v44,l⟩
 ·simp at h
 rcases l with _ | ⟨v45,l⟩
 ·simp at h
 rcases l with _ | ⟨x,l⟩
 ·exact⟨v0,v1,v2,v3,v4,v5,v6,v7,v8,v9,v10,v11,v12,v13,v14,v15,v16,v17,v18,v19,v20,v21,v22,v23,v24,v25,v26,v27,v28,v29,v30,v31,v32,v33,v34,v35,v36,v37,v38,v39,v40,v41,v42,v43,v44,v45,rfl⟩
 ·simp at h
def oA (ba bb:Nat) (x y:Int) (ua la ub lb:Value) (wa wb:Int) (m:Nat) (v:Value):Nat→Value
 | 0 => .int .i64 x
 | 1 => .pointer (some ⟨ba,4,none⟩)
 | 2 => .pointer (some ⟨ba,4+x.toNat*2,none⟩)
 | 3 => .agg #[ua,la]
 | 4 => .int .i64 y
 | 5 => .pointer (some ⟨bb,4,none⟩)
 | 6 => .pointer (some ⟨bb,4+y.toNat*2,none⟩)
 | 7 => .agg #[ub,lb]
 | 8 => .pointer (some ⟨ba,0,none⟩)
 | 9 => .pointer (some ⟨ba,2,none⟩)
 | 10 => .int .i64 wa
 | 11 => .pointer (some ⟨bb,0,none⟩)
 | 12 => .pointer (some ⟨bb,2,none⟩)
 | 13 => .int .i64 wb
 | 14 => .int .i64 (wa+wb)
 | 15=>v
 | 16 => .int .i64 m
 | 17 => .int .i64 0
 | _=>undef
structure Qc (F:Value→Nat→Value) (a0:Act) (v:Value) (L:Nat→Bool) (a:Act):Prop where
 defers:a.defers=[]
 size:a.tmps.size=46
 vals:∀ i,i<18→L i=true→a.tmps[17+i]? = some (F v i)
 old:∀ s,s<17→a.tmps[s]? = a0.tmps[s]?
 len:L 16=true→L 15=true
theorem Qc.put {F:Value→Nat→Value} {a0 a:Act} {v:Value} {L:Nat→Bool} (h:Qc F a0 v L a) {i:Nat} (hi:i<18) (U0:i=16→L 15=true) {u:Value} (hu:u=F v i):Qc F a0 v (upd L i true) (a.put (some (17+i)) u):=by
 subst hu
 refine⟨h.defers,by simp[Act.put,h.size],fun j hj hL => ?_,fun s hs => ?_,fun hL => ?_⟩
 ·by_cases eB:j=i
  ·subst eB
   simp only[Act.put]
   rw[Array.getElem?_setIfInBounds_self_of_lt (by rw[h.size]; omega)]
  ·rw[upd_ne _ _ eB] at hL
   simp only[Act.put]
   rw[Array.getElem?_setIfInBounds_ne (by omega)]
   exact h.vals j hj hL
 ·simp only[Act.put]
  rw[Array.getElem?_setIfInBounds_ne (by omega)]
  exact h.old s hs
 ·by_cases h1:i=16
  ·rw[upd_ne _ _ (by omega)]; exact U0 h1
  ·rw[upd_ne _ _ (by omega)] at hL
   by_cases h2:15=i
   ·rw[h2,upd_same]
   ·rw[upd_ne _ _ h2]; exact h.len hL
theorem Qc.val {F:Value→Nat→Value} {a0 a:Act} {v v':Value} {L:Nat→Bool} (h:Qc F a0 v L a) (Qb:L 15=false) (hF:∀ i,i≠15→F v i=F v' i):Qc F a0 v' L a :=
 ⟨h.defers,h.size,fun i hi hL=>by
  have h1:i≠15:=fun e=>by rw[e,Qb] at hL; cases hL
  rw[← hF i h1]; exact h.vals i hi hL,h.old,h.len⟩
theorem Qc.slot {F:Value→Nat→Value} {a0 a:Act} {v:Value} {L:Nat→Bool} (h:Qc F a0 v L a) {i:Nat} (hi:i<18) (hL:L i=true):a.eval (.tmp (17+i))=F v i:=by
 simp[Act.eval,h.vals i hi hL]
def Uo (bb ba bx bf bl:Nat) (vl:Value) (nl k:Nat) (u:Nat→Value):Act :=
 ⟨#[.pointer (some ⟨bb,0,none⟩),.pointer (some ⟨ba,0,none⟩),.pointer (some ⟨bx,0,none⟩),.pointer (some ⟨bf,0,none⟩),.pointer (some ⟨bl,0,none⟩),u 5,u 6,u 7,u 8,u 9,u 10,vl,.int .i64 nl,.int .i64 k,u 14,u 15,u 16,u 17,u 18,u 19,u 20,u 21,u 22,u 23,u 24,u 25,u 26,u 27,u 28,u 29,u 30,u 31,u 32,u 33,u 34,u 35,u 36,u 37,u 38,u 39,u 40,u 41,u 42,u 43,u 44,u 45],[]⟩
def MG (bb ba bx bf bl:Nat) (vl:Value) (nl k:Nat) (y:Int) (v:Value) (m j:Nat) (u:Nat→Value):Act :=
 ⟨#[.pointer (some ⟨bb,0,none⟩),.pointer (some ⟨ba,0,none⟩),.pointer (some ⟨bx,0,none⟩),.pointer (some ⟨bf,0,none⟩),.pointer (some ⟨bl,0,none⟩),u 5,.int .i64 y,u 7,u 8,u 9,u 10,vl,.int .i64 nl,.int .i64 k,u 14,u 15,u 16,u 17,u 18,u 19,u 20,u 21,u 22,u 23,u 24,u 25,u 26,u 27,u 28,u 29,u 30,u 31,v,.int .i64 m,.int .i64 j,u 35,u 36,u 37,u 38,u 39,u 40,u 41,u 42,u 43,u 44,u 45],[]⟩
end Go.Co
end
