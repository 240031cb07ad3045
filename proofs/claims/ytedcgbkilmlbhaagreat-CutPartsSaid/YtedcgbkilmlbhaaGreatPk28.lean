import Derived.Test.YtedcgbkilmlbhaaGreatPk23
import Derived.Conc.AppendEvents3
import Derived.Test.YtedcgbkilmlbhaaGreatPk27
import Derived.OwnWalk
section
namespace Go.Co
open Go Go.Conc
variable {P:Program} {main:Bool} {K:Gm→Goroutine→World→Prop} {fn:FuncId} {p:Pc} {γ:So} {Q:Gm→Exit→Act→World→Prop} {a:Act} {w:World} {ops:Array Oper} {i:Nat} {rest:List Nat} {o:Oper}
def jF (γ:So) (w:World) (B:Nat) (e:TypeId) (size:Nat) (v:Value) (n:Nat) (xs:List Value):Prop:=w.ownsRow B e size v n xs∧∀ b,v.ownBlock=some b→γ.2 b
theorem jF.nil (B:Nat) (e:TypeId) (size:Nat):jF γ w B e size (.slice none 0 0) 0 []:=⟨World.ownsRow_nil _ _ _ _,fun b h=>by simp[Value.ownBlock] at h⟩
theorem A8 {w w1:World} {B:Nat} {e:TypeId} {size:Nat} {v:Value} {n:Nat} {xs:List Value} (h:w.ownsRow B e size v n xs) (hb:∀ b,v.ownBlock=some b→w1.heap[b]? = w.heap[b]?):w1.ownsRow B e size v n xs:=by
 refine⟨h.1,h.2.imp id fun⟨g,cap,cur,hv,h0,hg,hr⟩=>⟨g,cap,cur,hv,h0,?_,hr⟩⟩
 rw[hb g (by rw[hv]; rfl)]
 exact hg
theorem jF.rely {B:Nat} {e:TypeId} {size:Nat} {v:Value} {n:Nat} {xs:List Value} {w1:World} (h:jF γ w B e size v n xs) (r:gU γ w w1):jF γ w1 B e size v n xs :=
 ⟨A8 h.1 fun b hb=>r.2.1 b (.inr (h.2 b hb)),h.2⟩
theorem jF.kept {B:Nat} {e:TypeId} {size:Nat} {v:Value} {n:Nat} {xs:List Value} {γ':So} {w':World} (h:jF γ w B e size v n xs) (k:Kept γ w γ' w'):jF γ' w' B e size v n xs :=
 ⟨A8 h.1 fun b hb=>k.blk b (.inr (h.2 b hb)) (h.1.lt b hb).2,fun b hb=>k.own b (h.2 b hb)⟩
theorem jF.sees {B:Nat} {e:TypeId} {size:Nat} {g n cap:Nat} {xs:List Value} (h:jF γ w B e size (.slice (some ⟨g,0,none⟩) n cap) n xs) {j:Nat} {u:Value} (hu:xs[j]? = some u):bn γ w ((⟨g,0,none⟩:Addr).add j) u :=
 ⟨.inr (by rw[addBlock]; exact h.2 g rfl),h.1.cells (g:=g) rfl j u hu⟩
theorem jF.more {B B':Nat} {e:TypeId} {size:Nat} {v:Value} {n:Nat} {xs:List Value} (h:jF γ w B e size v n xs) (hB:B'≤B):jF γ w B' e size v n xs :=
 ⟨⟨h.1.1,h.1.2.imp id fun⟨g,cap,cur,hv,h0,hg⟩=>⟨g,cap,cur,hv,bk hB h0,hg⟩⟩,h.2⟩
theorem jF.De {B:Nat} {v:Value} {l:List Int} (h:jF γ w B 3 1 v l.length (l.map fun x => .int .i64 x)):wm γ w v l:=by
 rcases h.1.2 with ⟨rfl,h0⟩ | ⟨g,cap,cur,rfl,-,-,-⟩
 ·have:l=[]:=dm h0
  subst this
  exact⟨none,0,rfl,fun i x hx=>by simp at hx⟩
 ·exact⟨some ⟨g,0,none⟩,cap,rfl,fun i x hx=>⟨_,rfl,h.sees (by simp[hx])⟩⟩
theorem Kept.append {γ0 γ':So} {w0 w':World} {v:Value} (k:Kept γ0 w0 γ w) (h1:γ'.1=γ.1) (h2:∀ b,γ.2 b→γ'.2 b) (h3:w.heap.size≤w'.heap.size)
  (h4:∀ b,γ.all b→b<w.heap.size→some b≠v.ownBlock→w'.heap[b]? = w.heap[b]?) (h5:w'.os=w.os∧w'.output=w.output) (hb:∀ b,v.ownBlock=some b→w0.heap.size≤b):Kept γ0 w0 γ' w' :=
 ⟨h1.trans k.shr,fun b hb=>h2 b (k.own b hb),fun b ew hlt=>(h4 b (k.all ew) (cz hlt k.size) fun e=>by have:=hb b e.symm; omega).trans (k.blk b ew hlt),bk k.size h3,h5.1.trans k.env.1,h5.2.trans k.env.2⟩
theorem CP (C:KC P main K y8 Dm) (hp:p ≠ .ret) {s x:Operand} {t e:TypeId} {info:TypeInfo} {z:Value} {size bytes:Nat} {v:Value} {n:Nat} {xs:List Value} {ad:Addr} {m c:Nat} {news:List Value}
  (ho:ops[i]? = some o) (hw:Region.wanted o (yielded ops a.tmps)=true) (hop:o.op = .call { callee := .builtin .append,args:=#[s,x],argTypes:=#[t,t] })
  (ht:P.underlying t=some (.slice e)) (hi:P.info? e=some info) (hz:info.zero=some z) (xU:info.size=size) (Y4:info.bytes=bytes) (MK:z.cells.size=size) (hsz:0<size)
  (hs:a.eval s=v) (hx:a.eval x = .slice (some ad) m c) {B:Nat} (hB:B≤w.heap.size) (eA:jF γ w B e size v n xs) (hl:news.length=m*size) (j7:∀ (j:Nat) (u:Value),news[j]? = some u→bn γ w (ad.add j) u) (had:γ.all ad.block) (h1:∀ u∈news,u.oneCell'=true)
  (h63:n+m≤maxLen) (j8:(n+m)*bytes≤140737488355328)
  (h:∀ v' w' s',s'.1=γ.1→(∀ b,γ.2 b→s'.2 b)→w.heap.size≤w'.heap.size→(∀ b,γ.all b→b<w.heap.size→some b≠v.ownBlock→w'.heap[b]? = w.heap[b]?)→(w'.os=w.os∧w'.output=w.output)→jF s' w' B e size v' (n+m) (xs++news)→KO K fn (p,s') ops rest Q (a.put o.dst v') w'):KO K fn (p,γ) ops (i::rest) Q a w:=by
 refine H9 C hp ho hw fun w₁ r => ?_
 have Ci:=eA.rely r
 have zY:∀ (j:Nat) (u:Value),news[j]? = some u→w₁.cell? (ad.add j)=some u:=fun j u hu=>((j7 j u hu).rely r).2
 obtain⟨v',w',hrun,Oi,hg,-⟩:=run_append_own (P:=P) (w:=w₁) B t o.type e info z size bytes ht hi hz xU Y4 MK hsz v n xs Ci.1 ad m c news hl zY h1 h63 j8 (bk hB r.1)
 have sU:=events_append_where (P:=P) w₁ B t o.type e info z size bytes ht hi hz xU Y4 v n xs Ci.1 ad m c news hl zY h1 h63 j8
 have hO:∀ b,some b=v.ownBlock→γ.2 b:=fun b hb=>eA.2 b hb.symm
 have hblk:∀ b,γ.all b→b<w.heap.size→some b≠v.ownBlock→w'.heap[b]? = w.heap[b]? := fun b hb hlt hne=>(hg.block b (cz hlt r.1) hne).trans (r.2.1 b hb)
 have Ot:∀ b,v'.ownBlock=some b→γ.2 b∨(w₁.heap.size≤b∧b<w'.heap.size):=by
  intro b hb
  by_cases hlt:b<w₁.heap.size
  ·by_cases hv:some b=v.ownBlock
   ·exact .inl (hO b hv)
   ·
    left
    subst xU
    subst Y4
    have adm:n+m≤9223372036854775807:=by simp only[maxLen] at h63; omega
    rcases Ci.1.2 with ⟨rfl,rfl⟩ | ⟨g,cap,cur,rfl,hbg,hgg,hnc,hcm,nK,Jt⟩
    ·by_cases hm:m=0
     ·subst hm
      have ER:xs=[]:=dm (by simpa using Ci.1.1)
      have uw:news=[]:=dm (by simpa using hl)
      subst ER
      subst uw
      rcases Oi.2 with ⟨rfl,_⟩ | ⟨g,cap,cur,rfl,-,-,-⟩
      ·simp[Value.ownBlock] at hb
      ·have:(Builtin.append_ #[t,t] o.type #[.slice none 0 0,.slice (some ad) 0 c]).run P w₁ = .ok (.slice none 0 0) w₁:=by
        simp[Builtin.append_,run_underlying ht,sizeOf,typeInfo,hi,Builtin.lenOf,Builtin.firstCells,loadCells,loadCellsFrom]
       rw[this] at hrun
       cases hrun
     ·have hr:=run_append_nil (P:=P) w₁ t o.type e info z ht hi hz ad m c news hl zY (by omega) (by omega) (by have hb:=j8; simp only[gQ] at hb; omega)
      rw[hr] at hrun
      cases hrun
      simp[Value.ownBlock] at hb
      omega
    ·by_cases hroom:n+m≤cap
     ·have Dw:n*info.size+news.length≤cur.size:=by rw[hl,nK,← jg]; exact eR _ hroom
      have hr:=run_append_room (P:=P) w₁ t o.type e info ht hi g n cap cur hgg ad m c news hl zY h1 hroom Dw
      rw[hr] at hrun
      cases hrun
      exact absurd hb.symm hv
     ·have holds:∀ (j:Nat) (u:Value),xs[j]? = some u→w₁.cell? ((⟨g,0,none⟩:Addr).add j)=some u:=Ci.1.cells (g:=g) rfl
      have hr:=run_append_grow (P:=P) w₁ t o.type e info z ht hi hz ⟨g,0,none⟩ n cap xs Ci.1.1 holds ad m c news hl zY (by omega) (by omega) (growslice_fits (by omega) j8)
      rw[hr] at hrun
      cases hrun
      simp[Value.ownBlock] at hb
      omega
  ·exact .inr ⟨by omega,(Oi.lt b hb).2⟩
 refine⟨v',w',(γ.1,fun b=>γ.2 b∨(w₁.heap.size≤b∧b<w'.heap.size)),?_,⟨rfl,fun b=>Iff.rfl,hg.size,fun b hb hn=>hg.block b hb fun e=>hn (hO b e),hg.tape,hg.os,hg.output,fun e he => ?_⟩,h v' w' _ rfl (fun b hb => .inl hb) (bk r.1 hg.size) hblk ⟨hg.os.trans r.2.2.2.1,hg.output.trans r.2.2.2.2⟩ ⟨Oi,Ot⟩⟩
 ·unfold execOp
  simp only[hop,resolve,invoke,builtin,Sem.run_bind,Sem.run_pure,Result.andThen_ok,List.map_toArray,bD,ek,hs,hx,hrun]
 ·have he':=mem_listed he
  rw[events_append_op s x t hop hs hx] at he'
  rcases sU e he' with ⟨b,hb,hr⟩ | hm
  ·obtain⟨l,wr,sy⟩:=e
   simp only at hb hr
   subst hb
   refine .inl ⟨b,wr,sy,rfl,fun YO => ?_,?_⟩
   ·rcases hr with ⟨h2,-⟩ | h2
    ·rw[YO] at h2; cases h2
    ·exact .inl (hO _ h2)
   ·rcases hr with ⟨-,h2⟩ | h2
    ·rw[h2]; exact had.imp id .inl
    ·exact .inr (.inl (hO _ h2))
  ·exact .inr hm
open Go.ConcN (sumTo sumTo_upd sumTo_congr le_sumTo upd upd_same upd_ne)
theorem Pu (γ:So) (w:World) (d:Nat):EL γ w γ (w.at d) #[]:=⟨rfl,fun b=>⟨.inl,fun h=>h.elim id fun h=>absurd h.2 (by have:(w.at d).heap.size=w.heap.size:=rfl; omega)⟩,ai _,fun _ _ _=>rfl,rfl,rfl,rfl,by simp⟩
def aad (ops:Array Oper):Bool:=(List.range ops.size).all fun i=>match ops[i]? with | some o=>o.after.all fun e=>decide (e.on<i) | none=>true
theorem X7 (h:aad ops=true) (i:Nat) (o:Oper) (ho:ops[i]? = some o):∀ e∈o.after,e.on<i:=by
 intro e he
 have h1:=aW.1 h i (by rw[List.mem_range]; exact(aG.1 ho).1)
 rw[ho] at h1
 simp only at h1
 obtain⟨j,hj,rfl⟩:=Array.mem_iff_getElem.1 he
 simpa using Array.all_eq_true.1 h1 j hj
theorem TW (C:KC P main K y8 Dm) (hp:p ≠ .ret) (hm:P.follows .mixedOrders=true) {id:Nat} (J:(Nat→Bool)→So→Act→World→Prop)
  (Vv:aad ops=true)
  (h0:∀ w₁,gU γ w w₁→J (fun _=>false) γ a (w₁.at (w₁.drawn+1)))
  (hop:∀ L γ a w i o,J L γ a w→ops[i]? = some o→L i=false→(∀ e∈o.after,Region.binds .any e=true→L e.on=true) →
   ∀ rest,(∀ γ' a' w',J (upd L i true) γ' a' w'→KO K fn (p,γ') ops rest Q a' w')→KO K fn (p,γ) ops (i::rest) Q a w)
  (qF:∀ L γ a w,J L γ a w→(∀ i,i<ops.size→L i=true)→Q (p,γ) .normal a w):KJ K fn (p,γ) (.region id ops true) Q a w:=by
 have og:=X7 Vv
 have key:∀ (fuel t:Nat) (listed:Array Bool) (γ:So) (a:Act) (w:World),listed.size=ops.size→sumTo ops.size (fun j=>if listed.getD j true then 0 else 1)=fuel→J (fun j=>listed.getD j false) γ a w →
   KO K fn (p,γ) ops (Region.linearise.go .any ops fuel t listed []) Q a w:=by
  intro fuel
  induction fuel with
  | zero =>
   intro t listed γ a w hsz HF hJ
   refine aM C (qF _ γ a w hJ fun i hi => ?_)
   have h1:=le_sumTo (f:=fun j=>if listed.getD j true then 0 else 1) hi
   rw[HF] at h1
   have h2:listed.getD i true=true:=by
    cases h:listed.getD i true with
    | true=>rfl
    | false=>simp[h] at h1
   simpa [bL (show i<listed.size by omega)] using h2
  | succ fuel ih =>
   intro t listed γ a w hsz HF hJ
   simp only[Region.linearise.go]
   change KO K fn (p,γ) ops (match (Region.ready .any ops listed)[t % (Region.ready .any ops listed).length]? with
    | some i=>Region.linearise.go .any ops fuel (t / (Region.ready .any ops listed).length) (listed.setIfInBounds i true) [i]
    | none=>[].reverse) Q a w
   cases hi:(Region.ready .any ops listed)[t % (Region.ready .any ops listed).length]? with
   | none =>
    have HH:Region.ready .any ops listed=[]:=by
     cases hr:Region.ready .any ops listed with
     | nil=>rfl
     | cons x xs =>
      rw[hr] at hi
      have hlt:t % (x::xs).length<(x::xs).length:=Nat.mod_lt _ (by simp)
      simp at hi
      simp at hlt
      omega
    refine aM C (qF _ γ a w hJ fun i hi => ?_)
    induction i using Nat.strongRecOn with
    | ind i ihi =>
     have Np:i<listed.size:=by omega
     cases hb:listed.getD i false with
     | true=>rfl
     | false =>
      have qp:i∈Region.ready .any ops listed:=by
       refine mem_ready.2 ⟨by simpa [bL Np] using hb,ops[i],bL hi,fun e he _ => ?_⟩
       have hlt:=og i _ (bL hi) e he
       exact ihi e.on hlt (by omega)
      rw[HH] at qp
      cases qp
   | some i =>
    simp only[]
    rw[linearise_go_acc,List.reverse_singleton,List.singleton_append]
    have qp:=cW hi
    obtain⟨Zu,o,ho,ew⟩:=mem_ready.1 qp
    have YY:i<ops.size:=(aG.1 ho).1
    have Np:i<listed.size:=by omega
    refine hop _ γ a w i o hJ ho (by simpa [bL Np] using Zu) (fun e he hb=>ew e he hb) _ fun γ' a' w' hJ'=>ih _ _ γ' a' w' (by simpa using hsz) ?_ ?_
    ·have h1:=sumTo_upd (fun j=>listed.getD j true) true (fun b=>if b then 0 else 1) YY
     rw[Zu] at h1
     simp only[if_true,aD,if_false] at h1
     have h2:sumTo ops.size (fun j=>if (listed.setIfInBounds i true).getD j true then 0 else 1)=sumTo ops.size fun j=>if upd (fun j=>listed.getD j true) i true j then 0 else 1:=by
      refine sumTo_congr fun j _ => ?_
      by_cases fH:j=i
      ·subst fH
       rw[upd_same]
       simp[ji Np]
      ·rw[upd_ne _ _ fH,getD_set_ne true (Ne.symm fH)]
     rw[h2]
     omega
    ·have h2:(fun j=>(listed.setIfInBounds i true).getD j false)=upd (fun j=>listed.getD j false) i true:=by
      funext j
      by_cases fH:j=i
      ·subst fH
       rw[upd_same]
       simp[ji Np]
      ·rw[upd_ne _ _ fH,getD_set_ne false (Ne.symm fH)]
     rw[h2]
     exact hJ'
 intro b k cs hb hk hc
 refine C.step _ _ _ _ fun w1 r => ?_
 have hgo:=stepG_region_draw (P:=P) (main:=main) (b:=b) (a:=a) (k:=k) (cs:=cs) (w:=w1) (id:=id) (ops:=ops)
 simp only[Region.schedule,hm,Bool.true_or,if_true] at hgo
 refine⟨_,_,_,_,(p,γ),hgo,Zj hp (Pu γ w1 _),?_⟩
 refine key ops.size _ _ γ a _ (by simp) ?_ ?_ b k cs hb hk hc
 ·clear key h0 hop qF og Vv
  have:∀ n,n≤ops.size→sumTo n (fun j=>if (Array.replicate ops.size false).getD j true then 0 else 1)=n:=by
   intro n
   induction n with
   | zero=>intro _; rfl
   | succ n ih =>
    intro hn
    simp only[sumTo]
    rw[ih (by omega)]
    have hlt:n<ops.size:=by omega
    simp[hlt]
  exact this _ (ai _)
 ·have h3:(fun j=>(Array.replicate ops.size false).getD j false)=fun _=>false:=by
   funext j
   by_cases hj:j<ops.size
   ·simp[hj]
   ·simp[hj]
  rw[h3]
  exact h0 w1 (Ri hp r)
end Go.Co
end
section
namespace Go.Co
open Go Go.Conc Go.Proofs
variable {aa : Machine → Trace → Prop} {main : Bool} {K : Gm → Goroutine → World → Prop} {p : Pc} {γ : So} {w : World}
def W9 (low up : List Int) (bX : Int) (s : Int) : Bool := decide (3 ≤ (uM low up s).2.2) && decide ((uM low up s).2.1 - (uM low up s).1 ≤ bX)
def M7 (low up : List Int) (bX : Int) (k : Nat) : List Int := ((List.range k).map fun (j : Nat) => (j : Int) - up.length).filter (W9 low up bX)
def pE (low up : List Int) (bX : Int) : List Int := M7 low up bX (up.length + low.length + 1)
theorem PM (low up : List Int) (bX : Int) (k : Nat) : M7 low up bX (k + 1) = M7 low up bX k ++ if W9 low up bX ((k : Int) - up.length) then [(k : Int) - up.length] else [] := by
 unfold M7
 rw [pH, kN, pL]
 congr 1
 simp only [bD, ek, List.filter_cons, List.filter_nil]
theorem D1 (low up : List Int) (bX : Int) (k : Nat) : (M7 low up bX k).length ≤ k := by
 unfold M7
 exact bk (rS _ _) (by simp)
theorem XR {low up : List Int} (MR : Rb low) (QY : Rb up) (s : Int) (k : Nat) : 0 ≤ (Bs low up s k).1 ∧ (Bs low up s k).1 ≤ 18 ∧ 0 ≤ (Bs low up s k).2.1 ∧ (Bs low up s k).2.1 ≤ 18 := by
 have hg : ∀ (l : List Int), Rb l → ∀ i, 0 ≤ l.getD i 0 ∧ l.getD i 0 ≤ 9 := by
  intro l h i
  cases hi : l[i]? with
  | none => simp [List.getD, hi]
  | some x =>
   have := h.2 i x hi
   simpa [List.getD, hi] using this
 induction k with
 | zero => simp [Bs]
 | succ k ih =>
  rw [vw]
  have h1 := hg up QY k
  have h2 := hg low MR ((k : Int) + s).toNat
  unfold Jd
  split
  ·exact ih
  ·split
   ·simp only; omega
   ·simp only
    refine ⟨?_, ?_, ?_, ?_⟩ <;> split <;> omega
def aaJ (ua lb : Value) (A B : Option Addr) (ca cb : Nat) (low up : List Int) (bX : Int) (bA bB : Nat) (out : Value) (s : Int) (u : Nat → Value) : Act :=
 ⟨#[.agg #[ua, .slice A low.length ca], .agg #[.slice B up.length cb, lb], .int .i64 bX, .pointer (some ⟨bA, 0, none⟩), .pointer (some ⟨bB, 0, none⟩), u 5, u 6, out, .int .i64 s, u 9, u 10, u 11, u 12, u 13, u 14, u 15, u 16, u 17, u 18, u 19, u 20, u 21, u 22, u 23, u 24, u 25, u 26, u 27, u 28, u 29, u 30, u 31, u 32, u 33, u 34, u 35, u 36, u 37, u 38, u 39, u 40, u 41, u 42, u 43, u 44], []⟩
theorem Of : (Tryz.prog.info? 3).map (fun i => (i.zero, i.size, i.bytes)) = some (some (.int .i64 0), 1, 8) := by kernel_rfl
theorem mixed : Tryz.prog.follows .mixedOrders = true := by kernel_rfl
abbrev UB (l : List Int) : List Value := l.map fun x => .int .i64 x
set_option maxRecDepth 100000 in
set_option maxHeartbeats 2000000 in
theorem PL (C : KC Tryz.prog main K y8 Dm) (hp : p ≠ .ret) {ua ub la lb : Value} {low up : List Int} (bX : Int) (hl : wm γ w la low) (hu : wm γ w ub up) (MR : Rb low) (QY : Rb up) :
  uX K Tryz.prog (p, γ) 103 #[.agg #[ua, la], .agg #[ub, lb], .int .i64 bX] w fun γ' v w' => γ'.1 = p ∧ jF γ'.2 w' w.heap.size 3 1 v (pE low up bX).length (UB (pE low up bX)) ∧ Kept γ w γ'.2 w' := by
 obtain ⟨i0, hi, EO, ML, YM⟩ := info_parts Of
 have Ju := MR.1
 have Oj := QY.1
 refine AE Tryz.func103 (by rfl) rfl ?_
 simp only [Tryz.ntmps103, jP, List.length_cons, List.length_nil, Nat.reduceAdd, Nat.reduceSub, Array.replicate_succ, Array.replicate_zero, List.push_toArray, List.append_toArray, List.nil_append, List.cons_append]
 refine aR C (bP C ?_)
 refine nU C hp (ob := ?ob1) rfl (by rfl) (fun w => run_eq_of fun K hK => ?r1) (fun w => ?e1) ?h1
 case r1 => go_simp; exact hK
 case e1 => simp [go_sem]
 intro w1 M8
 try walk_nrm
 have qA := (Kept.rely M8).trans (Kept.alloc γ w1 w1.heap.size (.cells #[ua, la] 91))
 have Q2 : bn _ _ ⟨w1.heap.size, 0, none⟩ ua := bn.fresh (γ := γ) (w := w1) (cs := #[ua, la]) (t := 91) rfl rfl
 have Nu : bn _ _ ⟨w1.heap.size, 1, none⟩ la := bn.fresh (γ := γ) (w := w1) (cs := #[ua, la]) (t := 91) rfl rfl
 refine nU C hp (ob := ?ob2) rfl (by rfl) (fun w => run_eq_of fun K hK => ?r2) (fun w => ?e2) ?h2
 case r2 => go_simp; exact hK
 case e2 => simp [go_sem]
 intro w2 MH
 try walk_nrm
 have E3 := (Kept.rely MH).trans (Kept.alloc _ w2 w2.heap.size (.cells #[ub, lb] 91))
 have Hh := qA.trans E3
 have Jm := E3.sees Q2
 have Hx := E3.sees Nu
 have wu : bn _ _ ⟨w2.heap.size, 0, none⟩ ub := bn.fresh (γ := γ.more w1.heap.size) (w := w2) (cs := #[ub, lb]) (t := 91) rfl rfl
 have ZN : bn _ _ ⟨w2.heap.size, 1, none⟩ lb := bn.fresh (γ := γ.more w1.heap.size) (w := w2) (cs := #[ub, lb]) (t := 91) rfl rfl
 have rG := Hh.De hl
 have Zv := Hh.De hu
 refine aj C ?_
 try walk_nrm
 refine aM C ?_
 co_then
 clear hl hu qA E3 Q2 Nu MH M8
 generalize (γ.more w1.heap.size).more w2.heap.size = γ2 at *
 generalize w2.alloc (.cells #[ub, lb] 91) = W at *
 generalize w2.heap.size = bB at *
 generalize w1.heap.size = bA at *
 refine aR C (bP C ?_)
 refine aj C ?_
 try walk_nrm
 refine aM C ?_
 co_then
 obtain ⟨A, ca, rfl, hA⟩ := rG
 obtain ⟨B, cb, rfl, hB⟩ := Zv
 have hwa : IntKind.i64.wrap (0 - (up.length : Int)) = -(up.length : Int) := by rw [tn] <;> omega
 have hwb : IntKind.i64.wrap (-(up.length : Int)) = -(up.length : Int) := by rw [tn] <;> omega
 refine aR C (aR C (bP C ?_))
 refine aj C ?_
 try walk_nrm
 refine hU C hp wu ?_
 try walk_nrm
 refine aj C ?_
 try walk_nrm
 refine di C (v := ?v8) rfl (by rfl) (fun w => run_eq_of fun K hK => ?r8) (fun w => ?e8) ?h8
 case r8 => go_simp; exact hK
 case e8 => simp [go_sem, Op.unary]
 try walk_nrm
 refine aj C ?_
 try walk_nrm
 refine aM C ?_
 co_then
 refine fu C ?_
 clear hwa hwb
 refine mW C (fun n γ' a w' => ∃ γ3, γ' = (p, γ3) ∧ Kept γ2 W γ3 w' ∧ ∃ k out, k ≤ up.length + low.length + 1 ∧ n = up.length + low.length + 1 - k ∧ jF γ3 w' W.heap.size 3 1 out (M7 low up bX k).length (UB (M7 low up bX k)) ∧ ∃ u, a = aaJ ua lb A B ca cb low up bX bA bB out ((k : Int) - up.length) u) (n := up.length + low.length + 1) ⟨γ2, rfl, Kept.refl _ _, 0, .slice none 0 0, by omega, by omega, jF.nil _ _ _, nj (by
  have : ((0 : Nat) : Int) - (up.length : Int) = -(up.length : Int) := by omega
  rw [this]
  rfl)⟩ ?_
 rintro n γ' a w' ⟨γ3, hγ, zA, k, out, hk, hn, eA, u, ha⟩
 subst hγ
 unfold aaJ at ha
 subst ha
 have Jx : W.heap.size ≤ w'.heap.size := zA.size
 have Y6 := zA.sees Hx
 have ha3 := zA.sees Jm
 have Rw := zA.sees wu
 have Y3 := zA.sees ZN
 refine aR C (aR C (bP C ?_))
 by_cases hlt : k < up.length + low.length + 1
 ·have aau : decide ((k : Int) - (up.length : Int) ≤ (low.length : Int)) = true := by simp; omega
  refine aj C ?_
  try walk_nrm
  refine aj C ?_
  try walk_nrm
  refine hU C hp Y6 ?_
  try walk_nrm
  refine aj C ?_
  try walk_nrm
  refine aj C ?_
  try walk_nrm
  refine aM C ?_
  co_then
  refine cU C (t := true) rfl ?_
  simp only [if_true]
  refine jf C ?_
  co_then
  refine aR C (fu C (aR C (bP C ?_)))
  refine nS C hp (v := ?v15) rfl (by rfl) (fun w₁ h₁ => ⟨run_eq_of fun K hK => ?r15, ?e15⟩) ?Q4
  case r15 => have hc := (bn.rely ha3 h₁).2; have hd := (bn.rely Y6 h₁).2; go_simp; exact hK
  case e15 =>
   have hc := (bn.rely ha3 h₁).2
   have hd := (bn.rely Y6 h₁).2
   intro e he
   simp [go_sem, hc, hd] at he
   rcases he with rfl | rfl
   ·exact (bn.rely ha3 h₁).EJ
   ·exact (bn.rely Y6 h₁).EJ
  try walk_nrm
  refine nS C hp (v := ?v16) rfl (by rfl) (fun w₁ h₁ => ⟨run_eq_of fun K hK => ?r16, ?e16⟩) ?UW
  case r16 => have hc := (bn.rely Rw h₁).2; have hd := (bn.rely Y3 h₁).2; go_simp; exact hK
  case e16 =>
   have hc := (bn.rely Rw h₁).2
   have hd := (bn.rely Y3 h₁).2
   intro e he
   simp [go_sem, hc, hd] at he
   rcases he with rfl | rfl
   ·exact (bn.rely Rw h₁).EJ
   ·exact (bn.rely Y3 h₁).EJ
  try walk_nrm
  refine aj C ?_
  try walk_nrm
  refine Kr C rfl (by rfl) rfl (Post := fun γ' v M5 => γ'.1 = p ∧ v = Zc (uM low up ((k : Int) - up.length)) ∧ Kept γ3 w' γ'.2 M5) ?_ ?_
  ·simp only [List.map_toArray, bD, ek]
   exact XM C hp ((k : Int) - up.length) ⟨A, ca, rfl, fun i x hx => by obtain ⟨ad, h1, h2⟩ := hA i x hx; exact ⟨ad, h1, zA.sees h2⟩⟩ ⟨B, cb, rfl, fun i x hx => by obtain ⟨ad, h1, h2⟩ := hB i x hx; exact ⟨ad, h1, zA.sees h2⟩⟩ MR QY
  rintro ⟨p', γ4⟩ v4 w4 ⟨hp4, hv4, Q1⟩
  simp only at hp4 Q1
  subst p'
  have WZ := JU low up ((k : Int) - up.length) up.length
  have Y5 := XR MR QY ((k : Int) - up.length) up.length
  have Dw := PM low up bX k
  have hlen := D1 low up bX k
  have hfb : W9 low up bX ((k : Int) - up.length) = (decide (3 ≤ (Bs low up ((k : Int) - up.length) up.length).2.2) && decide ((Bs low up ((k : Int) - up.length) up.length).2.1 - (Bs low up ((k : Int) - up.length) up.length).1 ≤ bX)) := rfl
  unfold uM Zc at hv4
  generalize Bs low up ((k : Int) - up.length) up.length = st at *
  obtain ⟨r1, r2, r3⟩ := st
  simp only at hv4 WZ Y5 hfb
  subst hv4
  have hw4 : IntKind.i64.wrap (r2 - r1) = r2 - r1 := by rw [tn] <;> omega
  have hw5 : IntKind.i64.wrap ((k : Int) - (up.length : Int) + 1) = (k : Int) - (up.length : Int) + 1 := by rw [tn] <;> omega
  have Oq : ((k + 1 : Nat) : Int) - (up.length : Int) = (k : Int) - (up.length : Int) + 1 := by omega
  have Ji := zA.trans Q1
  have Cg := eA.kept Q1
  have Yq : W.heap.size ≤ w4.heap.size := bk Jx Q1.size
  try walk_nrm
  clear Y6 ha3 Rw Y3 aau Q1 eA zA Jx
  refine aj C ?_
  try walk_nrm
  refine aj C ?_
  try walk_nrm
  refine aj C ?_
  try walk_nrm
  refine aj C ?_
  try walk_nrm
  refine aj C ?_
  try walk_nrm
  refine aj C ?_
  try walk_nrm
  refine aj C ?_
  try walk_nrm
  refine aM C ?_
  co_then
  refine aR C (bP C ?_)
  by_cases c1 : 3 ≤ r3
  ·have Ru : decide (3 ≤ r3) = true := by simpa using c1
   by_cases c2 : r2 - r1 ≤ bX
   ·have ZM : decide (r2 - r1 ≤ bX) = true := by simpa using c2
    refine aj C ?_
    try walk_nrm
    refine aj C ?_
    try walk_nrm
    refine aj C ?_
    try walk_nrm
    refine aj C ?_
    try walk_nrm
    refine aj C ?_
    try walk_nrm
    refine aj C ?_
    try walk_nrm
    refine aj C ?_
    try walk_nrm
    refine aj C ?_
    try walk_nrm
    refine aj C ?_
    try walk_nrm
    refine aM C ?_
    co_then
    refine cU C (t := true) rfl ?_
    simp only [if_true]
    refine bP C ?_
    refine aj C ?_
    try walk_nrm
    refine aj C ?_
    try walk_nrm
    refine OT C hp (ob := ?adw) (n := 1) rfl (by rfl) (fun w => run_eq_of fun K hK => ?r36) (fun w => ?e36) ?h36
    case r36 => go_simp; exact hK
    case e36 => simp [go_sem]
    intro w5 Rh
    try walk_nrm
    have UI := (Kept.rely Rh).trans (Kept.alloc γ4 w5 w5.heap.size (.cells #[.int .i64 ((k : Int) - up.length)] 3))
    have hs6 : bn _ _ ⟨w5.heap.size, 0, none⟩ (.int .i64 ((k : Int) - up.length)) := bn.fresh (γ := γ4) (w := w5) (cs := #[.int .i64 ((k : Int) - up.length)]) (t := 3) rfl rfl
    have Vu := Cg.kept UI
    have Q0 := Ji.trans UI
    have hB6 : W.heap.size ≤ (w5.alloc (.cells #[.int .i64 ((k : Int) - up.length)] 3)).heap.size := bk Yq UI.size
    generalize w5.alloc (.cells #[.int .i64 ((k : Int) - up.length)] 3) = w6 at *
    generalize γ4.more w5.heap.size = γ6 at *
    generalize w5.heap.size = b6 at *
    refine CP C hp (B := W.heap.size) (news := [.int .i64 ((k : Int) - up.length)]) (m := 1) (c := 1) (ad := ⟨b6, 0, none⟩) (n := (M7 low up bX k).length) (xs := UB (M7 low up bX k)) (v := out) rfl (by rfl) rfl Tryz.underlying23 hi EO ML YM rfl (by decide) rfl rfl hB6 Vu rfl (fun j u hu => ?_) hs6.1 (by simp [Value.oneCell']) (by simp only [maxLen]; omega) (by omega) ?_
    ·cases j with
     | zero => simp at hu; subst hu; exact hs6
     | succ j => simp at hu
    intro v7 w7 γ7 ZH Y0 hg3 hg4 hg5 Cf
    have hk8 := Q0.append ZH Y0 hg3 hg4 hg5 (v := out) (fun b hb => (Vu.1.lt b hb).1)
    try walk_nrm
    refine aj C ?_
    try walk_nrm
    refine aM C ?_
    co_then
    refine bP C ?_
    refine aj C ?_
    try walk_nrm
    refine aj C ?_
    try walk_nrm
    refine aj C ?_
    try walk_nrm
    refine aM C (dG ?_)
    refine ⟨up.length + low.length + 1 - (k + 1), by omega, γ7, rfl, hk8, k + 1, v7, by omega, rfl, (by rw [Dw, hfb, Ru, ZM]; simpa using Cf), nj ?_⟩
    rw [Oq]
    rfl
   ·have ZM : decide (r2 - r1 ≤ bX) = false := by simpa using c2
    refine aj C ?_
    try walk_nrm
    refine aj C ?_
    try walk_nrm
    refine aj C ?_
    try walk_nrm
    refine aj C ?_
    try walk_nrm
    refine aj C ?_
    try walk_nrm
    refine aj C ?_
    try walk_nrm
    refine aj C ?_
    try walk_nrm
    refine aj C ?_
    try walk_nrm
    refine aj C ?_
    try walk_nrm
    refine aM C ?_
    co_then
    refine cU C (t := false) rfl ?_
    simp only [aD, if_false]
    refine jf C ?_
    co_then
    refine bP C ?_
    refine aj C ?_
    try walk_nrm
    refine aj C ?_
    try walk_nrm
    refine aj C ?_
    try walk_nrm
    refine aM C (dG ?_)
    refine ⟨up.length + low.length + 1 - (k + 1), by omega, γ4, rfl, Ji, k + 1, out, by omega, rfl, (by rw [Dw, hfb, Ru, ZM]; simpa using Cg), nj ?_⟩
    rw [Oq]
    rfl
  ·have Ru : decide (3 ≤ r3) = false := by simpa using c1
   refine aj C ?_
   try walk_nrm
   refine aj C ?_
   try walk_nrm
   refine aj C ?_
   try walk_nrm
   refine cD C rfl (by rfl) ?_
   try walk_nrm
   refine cD C rfl (by rfl) ?_
   try walk_nrm
   refine cD C rfl (by rfl) ?_
   try walk_nrm
   refine cD C rfl (by rfl) ?_
   try walk_nrm
   refine cD C rfl (by rfl) ?_
   try walk_nrm
   refine aj C ?_
   try walk_nrm
   refine aM C ?_
   co_then
   refine cU C (t := false) rfl ?_
   simp only [aD, if_false]
   refine jf C ?_
   co_then
   refine bP C ?_
   refine aj C ?_
   try walk_nrm
   refine aj C ?_
   try walk_nrm
   refine aj C ?_
   try walk_nrm
   refine aM C (dG ?_)
   refine ⟨up.length + low.length + 1 - (k + 1), by omega, γ4, rfl, Ji, k + 1, out, by omega, rfl, (by rw [Dw, hfb, Ru]; simpa using Cg), nj ?_⟩
   rw [Oq]
   rfl
 ·have Jh : k = up.length + low.length + 1 := by omega
  subst Jh
  have aau : decide (((up.length + low.length + 1 : Nat) : Int) - (up.length : Int) ≤ (low.length : Int)) = false := by simp; omega
  generalize hsv : ((up.length + low.length + 1 : Nat) : Int) - (up.length : Int) = sv at *
  refine aj C ?_
  try walk_nrm
  refine aj C ?_
  try walk_nrm
  refine hU C hp Y6 ?_
  try walk_nrm
  refine aj C ?_
  try walk_nrm
  refine aj C ?_
  try walk_nrm
  refine aM C ?_
  co_then
  refine cU C (t := false) rfl ?_
  simp only [aD, if_false]
  refine lT C ?_
  co_then
  refine aR C (bP C ?_)
  refine aj C ?_
  try walk_nrm
  refine aj C ?_
  try walk_nrm
  refine aM C ?_
  co_then
  refine zW C ?_
  have tE : jF γ3 w' w.heap.size 3 1 out (pE low up bX).length (UB (pE low up bX)) := eA.more Hh.size
  exact ⟨rfl, out, resultsC_tmp Tryz.results103 _, rfl, tE, Hh.trans zA⟩
end Go.Co
end
section
namespace Go.Co
open Go Go.Conc Go.Proofs
open Go.ConcN (upd upd_same upd_ne)
variable {aa:Machine→Trace→Prop} {main:Bool} {K:Gm→Goroutine→World→Prop} {p:Pc} {γ:So} {w:World}
structure Wk where
 aY:List Int
 bX:Int
 up:Nat→List Int
 lo:Nat→List Int
structure Wk.ok (d:Wk):Prop where
 ZZ:d.aY.length≤1000
 aY:∀ (i:Nat) (x:Int),d.aY[i]? = some x→0≤x∧x≤3
 bX:0≤d.bX∧d.bX≤1000
 up:∀ i,Rb (d.up i)
 lo:∀ i,Rb (d.lo i)
structure eV (γ:So) (w:World) (b:Nat) (d:Wk):Prop where
 bX:bn γ w ⟨b,2,none⟩ (.int .i64 d.bX)
 aY:∃ v,bn γ w ⟨b,3,none⟩ v∧wm γ w v d.aY
 up:∀ i,i<4→∃ v,bn γ w ⟨b,4+i*2,none⟩ v∧wm γ w v (d.up i)
 lo:∀ i,i<4→∃ v,bn γ w ⟨b,4+i*2+1,none⟩ v∧wm γ w v (d.lo i)
theorem eV.kept {b:Nat} {d:Wk} {γ':So} {w':World} (h:eV γ w b d) (k:Kept γ w γ' w'):eV γ' w' b d :=
 ⟨k.sees h.bX,h.aY.imp fun _ ⟨h1,h2⟩=>⟨k.sees h1,k.De h2⟩,fun i hi=>(h.up i hi).imp fun _ ⟨h1,h2⟩=>⟨k.sees h1,k.De h2⟩,fun i hi=>(h.lo i hi).imp fun _ ⟨h1,h2⟩=>⟨k.sees h1,k.De h2⟩⟩
def xL (x y s:Int):Value := .agg #[.int .i64 x,.int .i64 y,.int .i64 s]
def fL (a b:Wk) (x y:Int):List Int:=pE (a.lo x.toNat) (b.up y.toNat) (a.bX+b.bX)
def msgs (a b:Wk) (x:Int) (ys:List Int):List Value:=ys.flatMap fun y=>(fL a b x y).map fun s=>xL x y s
theorem Jo {cf cl:Nat} {tv:Value} (vs:List Value):wk cf cl tv vs ≠ .ret∧wk cf cl tv vs ≠ .stop:=by cases vs<;>simp[wk]
theorem Uu (T:Array Value) (h:T.size=46):∃ v0 v1 v2 v3 v4 v5 v6 v7 v8 v9 v10 v11 v12 v13 v14 v15 v16 v17 v18 v19 v20 v21 v22 v23 v24 v25 v26 v27 v28 v29 v30 v31 v32 v33 v34 v35 v36 v37 v38 v39 v40 v41 v42 v43 v44 v45:Value,T=#[v0,v1,v2,v3,v4,v5,v6,v7,v8,v9,v10,v11,v12,v13,v14,v15,v16,v17,v18,v19,v20,v21,v22,v23,v24,v25,v26,v27,v28,v29,v30,v31,v32,v33,v34,v35,v36,v37,v38,v39,v40,v41,v42,v43,v44,v45]:=by
 obtain⟨l⟩:=T
 simp only[jP] at h
 rcases l with _ | ⟨v0,l⟩
 ·simp at h
 rcases l with _ | ⟨v1,l⟩
 ·simp at h
 rcases l with _ | ⟨v2,l⟩
 ·simp at h
 rcases l with _ | ⟨v3,l⟩
 ·simp at h
 rcases l with _ | ⟨v4,l⟩
 ·simp at h
 rcases l with _ | ⟨v5,l⟩
 ·simp at h
 rcases l with _ | ⟨v6,l⟩
 ·simp at h
 rcases l with _ | ⟨v7,l⟩
 ·simp at h
 rcases l with _ | ⟨v8,l⟩
 ·simp at h
 rcases l with _ | ⟨v9,l⟩
 ·simp at h
 rcases l with _ | ⟨v10,l⟩
 ·simp at h
 rcases l with _ | ⟨v11,l⟩
 ·simp at h
 rcases l with _ | ⟨v12,l⟩
 ·simp at h
 rcases l with _ | ⟨v13,l⟩
 ·simp at h
 rcases l with _ | ⟨v14,l⟩
 ·simp at h
 rcases l with _ | ⟨v15,l⟩
 ·simp at h
 rcases l with _ | ⟨v16,l⟩
 ·simp at h
 rcases l with _ | ⟨v17,l⟩
 ·simp at h
 rcases l with _ | ⟨v18,l⟩
 ·simp at h
 rcases l with _ | ⟨v19,l⟩
 ·simp at h
 rcases l with _ | ⟨v20,l⟩
 ·simp at h
 rcases l with _ | ⟨v21,l⟩
 ·simp at h
 rcases l with _ | ⟨v22,l⟩
 ·simp at h
 rcases l with _ | ⟨v23,l⟩
 ·simp at h
 rcases l with _ | ⟨v24,l⟩
 ·simp at h
 rcases l with _ | ⟨v25,l⟩
 ·simp at h
 rcases l with _ | ⟨v26,l⟩
 ·simp at h
 rcases l with _ | ⟨v27,l⟩
 ·simp at h
 rcases l with _ | ⟨v28,l⟩
 ·simp at h
 rcases l with _ | ⟨v29,l⟩
 ·simp at h
 rcases l with _ | ⟨v30,l⟩
 ·simp at h
 rcases l with _ | ⟨v31,l⟩
 ·simp at h
 rcases l with _ | ⟨v32,l⟩
 ·simp at h
 rcases l with _ | ⟨v33,l⟩
 ·simp at h
 rcases l with _ | ⟨v34,l⟩
 ·simp at h
 rcases l with _ | ⟨v35,l⟩
 ·simp at h
 rcases l with _ | ⟨v36,l⟩
 ·simp at h
 rcases l with _ | ⟨v37,l⟩
 ·simp at h
 rcases l with _ | ⟨v38,l⟩
 ·simp at h
 rcases l with _ | ⟨v39,l⟩
 ·simp at h
 rcases l with _ | ⟨v40,l⟩
 ·simp at h
 rcases l with _ | ⟨v41,l⟩
 ·simp at h
 rcases l with _ | ⟨v42,l⟩
 ·simp at h
 rcases l with _ | ⟨v43,l⟩
 ·simp at h
 rcases l with _ | ⟨v44,l⟩
 ·simp at h
 rcases l with _ | ⟨v45,l⟩
 ·simp at h
 rcases l with _ | ⟨x,l⟩
 ·exact⟨v0,v1,v2,v3,v4,v5,v6,v7,v8,v9,v10,v11,v12,v13,v14,v15,v16,v17,v18,v19,v20,v21,v22,v23,v24,v25,v26,v27,v28,v29,v30,v31,v32,v33,v34,v35,v36,v37,v38,v39,v40,v41,v42,v43,v44,v45,rfl⟩
 ·simp at h
def qD (ba bb:Nat) (x y:Int) (ua la ub lb:Value) (wa wb:Int) (m:Nat) (v:Value):Nat→Value
 | 0 => .int .i64 x
 | 1 => .pointer (some ⟨ba,4,none⟩)
 | 2 => .pointer (some ⟨ba,4+x.toNat*2,none⟩)
 | 3 => .agg #[ua,la]
 | 4 => .int .i64 y
 | 5 => .pointer (some ⟨bb,4,none⟩)
 | 6 => .pointer (some ⟨bb,4+y.toNat*2,none⟩)
 | 7 => .agg #[ub,lb]
 | 8 => .pointer (some ⟨ba,0,none⟩)
 | 9 => .pointer (some ⟨ba,2,none⟩)
 | 10 => .int .i64 wa
 | 11 => .pointer (some ⟨bb,0,none⟩)
 | 12 => .pointer (some ⟨bb,2,none⟩)
 | 13 => .int .i64 wb
 | 14 => .int .i64 (wa+wb)
 | 15=>v
 | 16 => .int .i64 m
 | 17 => .int .i64 0
 | _=>undef
structure Wp (F:Value→Nat→Value) (a0:Act) (v:Value) (L:Nat→Bool) (a:Act):Prop where
 defers:a.defers=[]
 size:a.tmps.size=46
 vals:∀ i,i<18→L i=true→a.tmps[17+i]? = some (F v i)
 old:∀ s,s<17→a.tmps[s]? = a0.tmps[s]?
 len:L 16=true→L 15=true
theorem Wp.put {F:Value→Nat→Value} {a0 a:Act} {v:Value} {L:Nat→Bool} (h:Wp F a0 v L a) {i:Nat} (hi:i<18) (UW:i=16→L 15=true) {u:Value} (hu:u=F v i):Wp F a0 v (upd L i true) (a.put (some (17+i)) u):=by
 subst hu
 refine⟨h.defers,by simp[Act.put,h.size],fun j hj hL => ?_,fun s hs => ?_,fun hL => ?_⟩
 ·by_cases fH:j=i
  ·subst fH
   simp only[Act.put]
   rw[ji (by rw[h.size]; omega)]
  ·rw[upd_ne _ _ fH] at hL
   simp only[Act.put]
   rw[dM (by omega)]
   exact h.vals j hj hL
 ·simp only[Act.put]
  rw[dM (by omega)]
  exact h.old s hs
 ·by_cases h1:i=16
  ·rw[upd_ne _ _ (by omega)]; exact UW h1
  ·rw[upd_ne _ _ (by omega)] at hL
   by_cases h2:15=i
   ·rw[h2,upd_same]
   ·rw[upd_ne _ _ h2]; exact h.len hL
theorem Wp.val {F:Value→Nat→Value} {a0 a:Act} {v v':Value} {L:Nat→Bool} (h:Wp F a0 v L a) (Q4:L 15=false) (hF:∀ i,i≠15→F v i=F v' i):Wp F a0 v' L a :=
 ⟨h.defers,h.size,fun i hi hL=>by
  have h1:i≠15:=fun e=>by rw[e,Q4] at hL; cases hL
  rw[← hF i h1]; exact h.vals i hi hL,h.old,h.len⟩
def VK (bb ba bx bf bl:Nat) (vl:Value) (nl k:Nat) (u:Nat→Value):Act :=
 ⟨#[.pointer (some ⟨bb,0,none⟩),.pointer (some ⟨ba,0,none⟩),.pointer (some ⟨bx,0,none⟩),.pointer (some ⟨bf,0,none⟩),.pointer (some ⟨bl,0,none⟩),u 5,u 6,u 7,u 8,u 9,u 10,vl,.int .i64 nl,.int .i64 k,u 14,u 15,u 16,u 17,u 18,u 19,u 20,u 21,u 22,u 23,u 24,u 25,u 26,u 27,u 28,u 29,u 30,u 31,u 32,u 33,u 34,u 35,u 36,u 37,u 38,u 39,u 40,u 41,u 42,u 43,u 44,u 45],[]⟩
def Ou (bb ba bx bf bl:Nat) (vl:Value) (nl k:Nat) (y:Int) (v:Value) (m j:Nat) (u:Nat→Value):Act :=
 ⟨#[.pointer (some ⟨bb,0,none⟩),.pointer (some ⟨ba,0,none⟩),.pointer (some ⟨bx,0,none⟩),.pointer (some ⟨bf,0,none⟩),.pointer (some ⟨bl,0,none⟩),u 5,.int .i64 y,u 7,u 8,u 9,u 10,vl,.int .i64 nl,.int .i64 k,u 14,u 15,u 16,u 17,u 18,u 19,u 20,u 21,u 22,u 23,u 24,u 25,u 26,u 27,u 28,u 29,u 30,u 31,v,.int .i64 m,.int .i64 j,u 35,u 36,u 37,u 38,u 39,u 40,u 41,u 42,u 43,u 44,u 45],[]⟩
end Go.Co
end
section
namespace Go.Co
open Go Go.Conc Go.Proofs
open Go.ConcN (upd upd_same upd_ne)
variable {aa : Machine → Trace → Prop} {main : Bool} {K : Gm → Goroutine → World → Prop} {p : Pc} {γ : So} {w : World}
theorem events_indexAt_array {P : Program} {w : World} {es : Array Event} {t e : TypeId} {n : Nat} (h : P.underlying t = some (.array n e)) (a : Addr) (k : IntKind) (i : Int) (hi : 0 ≤ i ∧ i < n) :
  (Instr.indexAt t (.pointer (some a)) (.int k i)).events P w es = es := by
 simp only [Instr.indexAt, asIntOf, Instr.sureAddr, Sem.events_bind, Sem.run_pure, Sem.events_pure, Result.evThen_ok, run_underlying h, events_underlying, hi, and_self, if_true, events_sizeOf]
 cases (sizeOf e).run P w <;> rfl
noncomputable def abZ : Code := match Tryz.f102.body with
 | some (.seq (.seq _ (.block _ (.loop (.seq _ (.seq _ (.seq (.block _ (.seq _ (.seq r _))) _)))))) _) => r
 | _ => .skip
set_option maxRecDepth 100000 in
set_option maxHeartbeats 2000000 in
theorem Tj (C : KC Tryz.prog main K y8 Dm) (hp : p ≠ .ret) {bb ba bx : Nat} {da db : Wk} {x y : Int} (ha : eV γ w ba da) (hb : eV γ w bb db) (hx : bn γ w ⟨bx, 0, none⟩ (.int .i64 x)) (ER : 0 ≤ x) (hx3 : x < 4) (hy0 : 0 ≤ y) (hy3 : y < 4) (sH : da.ok) (xG : db.ok)
  {a0 : Act} (Hw : a0.defers = []) (hsz : a0.tmps.size = 46) (t0 : a0.tmps[0]? = some (.pointer (some ⟨bb, 0, none⟩))) (t1 : a0.tmps[1]? = some (.pointer (some ⟨ba, 0, none⟩))) (t2 : a0.tmps[2]? = some (.pointer (some ⟨bx, 0, none⟩))) (t6 : a0.tmps[6]? = some (.int .i64 y))
  {Q : Gm → Exit → Act → World → Prop} (hQ : ∀ v γ' a' w', a'.defers = [] → a'.tmps.size = 46 → (∀ s, s < 17 → a'.tmps[s]? = a0.tmps[s]?) → a'.tmps[32]? = some v → a'.tmps[33]? = some (.int .i64 (fL da db x y).length) → a'.tmps[34]? = some (.int .i64 0) →
   jF γ' w' w.heap.size 3 1 v (fL da db x y).length (UB (fL da db x y)) → Kept γ w γ' w' → Q (p, γ') .normal a' w') : KJ K 102 (p, γ) abZ Q a0 w := by
 obtain ⟨la, YX, MR⟩ := ha.lo x.toNat (by omega)
 obtain ⟨ua, hua, -⟩ := ha.up x.toNat (by omega)
 obtain ⟨ub, hub, QY⟩ := hb.up y.toNat (by omega)
 obtain ⟨lb, Wd, -⟩ := hb.lo y.toNat (by omega)
 have hwa := sH.bX
 have hwb := xG.bX
 have Jf : IntKind.i64.wrap (da.bX + db.bX) = da.bX + db.bX := by rw [tn] <;> omega
 refine TW C hp mixed (fun L γ' a' w' => Kept γ w γ' w' ∧ ∃ v, (L 15 = true → jF γ' w' w.heap.size 3 1 v (fL da db x y).length (UB (fL da db x y))) ∧ Wp (fun v => qD ba bb x y ua la ub lb da.bX db.bX (fL da db x y).length v) a0 v L a')
  (by kernel_rfl) (fun w₁ r => ?_) ?_ (fun L γ' a' w' hJ ew => ?_)
 ·exact ⟨(Kept.rely r).trans (Kept.rely (wC γ w₁ _)), undef, fun h => (nomatch h), Hw, hsz, fun i _ h => (nomatch h), fun _ _ => rfl, fun h => (nomatch h)⟩
 ·rintro L γ' a' w' i o ⟨hk, v, hv, hs⟩ ho hL sN rest dU
  have hi : i < 18 := (aG.1 ho).1
  have hv' : ∀ j, j ≠ 15 → upd L j true 15 = true → jF γ' w' w.heap.size 3 1 v (fL da db x y).length (UB (fL da db x y)) := fun j hj h => hv (by rwa [upd_ne _ _ (Ne.symm hj)] at h)
  rcases i with _ | _ | _ | _ | _ | _ | _ | _ | _ | _ | _ | _ | _ | _ | _ | _ | _ | _ | i
  all_goals first | (exfalso; omega) | skip
  ·have j6 := bU ho
   subst j6
   have f2 : a'.tmps[2]? = some _ := (hs.old 2 (by omega)).trans t2
   refine nS C hp (v := ?v0) ho (by rfl) (fun w₁ h₁ => ⟨run_eq_of fun K hK => ?r0, ?e0⟩) ?h0
   case r0 => have hc := ((hk.sees hx).rely h₁).2; go_simp; exact hK
   case e0 => have hc := ((hk.sees hx).rely h₁).2; intro e he; simp [go_sem, *] at he; subst he; exact ((hk.sees hx).rely h₁).EJ
   exact dU _ _ _ ⟨hk, v, hv' 0 (by omega), hs.put (i := 0) (by omega) (fun h => by omega) rfl⟩
  ·have j6 := bU ho
   subst j6
   have f1 : a'.tmps[1]? = some _ := (hs.old 1 (by omega)).trans t1
   refine di C (v := ?v1) ho (by rfl) (fun w => run_eq_of fun K hK => ?r1) (fun w => ?e1) ?h1
   case r1 => go_simp; exact hK
   case e1 => simp [go_sem, *]
   exact dU _ _ _ ⟨hk, v, hv' 1 (by omega), hs.put (i := 1) (by omega) (fun h => by omega) rfl⟩
  ·have j6 := bU ho
   subst j6
   have d1 : L 1 = true := sN { on := 1, ground := Ground.data } (by simp) rfl
   have e1 : a'.tmps[18]? = some _ := hs.vals 1 (by omega) d1
   simp only [qD] at e1
   have d0 : L 0 = true := sN { on := 0, ground := Ground.data } (by simp) rfl
   have e0 : a'.tmps[17]? = some _ := hs.vals 0 (by omega) d0
   simp only [qD] at e0
   refine di C (v := ?v2) ho (by rfl) (fun w => run_eq_of fun K hK => ?r2) (fun w => ?e2) ?h2
   case r2 => have Nu : x.toNat < 4 := (by omega); go_simp; exact hK
   case e2 => simp [go_sem, e1, e0, events_indexAt_array Tryz.underlying92 _ _ x ⟨(by omega), (by omega)⟩]
   exact dU _ _ _ ⟨hk, v, hv' 2 (by omega), hs.put (i := 2) (by omega) (fun h => by omega) rfl⟩
  ·have j6 := bU ho
   subst j6
   have d2 : L 2 = true := sN { on := 2, ground := Ground.data } (by simp) rfl
   have e2 : a'.tmps[19]? = some _ := hs.vals 2 (by omega) d2
   simp only [qD] at e2
   refine nS C hp (v := ?v3) ho (by rfl) (fun w₁ h₁ => ⟨run_eq_of fun K hK => ?r3, ?e3⟩) ?h3
   case r3 => have hc := ((hk.sees hua).rely h₁).2; have hd := ((hk.sees YX).rely h₁).2; go_simp; exact hK
   case e3 =>
    have hc := ((hk.sees hua).rely h₁).2
    have hd := ((hk.sees YX).rely h₁).2
    intro e he
    simp [go_sem, *] at he
    rcases he with rfl | rfl
    ·exact ((hk.sees hua).rely h₁).EJ
    ·exact ((hk.sees YX).rely h₁).EJ
   exact dU _ _ _ ⟨hk, v, hv' 3 (by omega), hs.put (i := 3) (by omega) (fun h => by omega) rfl⟩
  ·have j6 := bU ho
   subst j6
   have f6 : a'.tmps[6]? = some _ := (hs.old 6 (by omega)).trans t6
   refine di C (v := ?v4) ho (by rfl) (fun w => run_eq_of fun K hK => ?r4) (fun w => ?e4) ?h4
   case r4 => go_simp; exact hK
   case e4 => simp [go_sem, *]
   exact dU _ _ _ ⟨hk, v, hv' 4 (by omega), hs.put (i := 4) (by omega) (fun h => by omega) rfl⟩
  ·have j6 := bU ho
   subst j6
   have f0 : a'.tmps[0]? = some _ := (hs.old 0 (by omega)).trans t0
   refine di C (v := ?v5) ho (by rfl) (fun w => run_eq_of fun K hK => ?r5) (fun w => ?e5) ?h5
   case r5 => go_simp; exact hK
   case e5 => simp [go_sem, *]
   exact dU _ _ _ ⟨hk, v, hv' 5 (by omega), hs.put (i := 5) (by omega) (fun h => by omega) rfl⟩
  ·have j6 := bU ho
   subst j6
   have d5 : L 5 = true := sN { on := 5, ground := Ground.data } (by simp) rfl
   have e5 : a'.tmps[22]? = some _ := hs.vals 5 (by omega) d5
   simp only [qD] at e5
   have d4 : L 4 = true := sN { on := 4, ground := Ground.data } (by simp) rfl
   have e4 : a'.tmps[21]? = some _ := hs.vals 4 (by omega) d4
   simp only [qD] at e4
   refine di C (v := ?v6) ho (by rfl) (fun w => run_eq_of fun K hK => ?r6) (fun w => ?e6) ?h6
   case r6 => have Nu : y.toNat < 4 := (by omega); go_simp; exact hK
   case e6 => simp [go_sem, e5, e4, events_indexAt_array Tryz.underlying92 _ _ y ⟨(by omega), (by omega)⟩]
   exact dU _ _ _ ⟨hk, v, hv' 6 (by omega), hs.put (i := 6) (by omega) (fun h => by omega) rfl⟩
  ·have j6 := bU ho
   subst j6
   have d6 : L 6 = true := sN { on := 6, ground := Ground.data } (by simp) rfl
   have e6 : a'.tmps[23]? = some _ := hs.vals 6 (by omega) d6
   simp only [qD] at e6
   refine nS C hp (v := ?v7) ho (by rfl) (fun w₁ h₁ => ⟨run_eq_of fun K hK => ?r7, ?e7⟩) ?h7
   case r7 => have hc := ((hk.sees hub).rely h₁).2; have hd := ((hk.sees Wd).rely h₁).2; go_simp; exact hK
   case e7 =>
    have hc := ((hk.sees hub).rely h₁).2
    have hd := ((hk.sees Wd).rely h₁).2
    intro e he
    simp [go_sem, *] at he
    rcases he with rfl | rfl
    ·exact ((hk.sees hub).rely h₁).EJ
    ·exact ((hk.sees Wd).rely h₁).EJ
   exact dU _ _ _ ⟨hk, v, hv' 7 (by omega), hs.put (i := 7) (by omega) (fun h => by omega) rfl⟩
  ·have j6 := bU ho
   subst j6
   have f1 : a'.tmps[1]? = some _ := (hs.old 1 (by omega)).trans t1
   refine di C (v := ?v8) ho (by rfl) (fun w => run_eq_of fun K hK => ?r8) (fun w => ?e8) ?h8
   case r8 => go_simp; exact hK
   case e8 => simp [go_sem, *]
   exact dU _ _ _ ⟨hk, v, hv' 8 (by omega), hs.put (i := 8) (by omega) (fun h => by omega) rfl⟩
  ·have j6 := bU ho
   subst j6
   have d8 : L 8 = true := sN { on := 8, ground := Ground.data } (by simp) rfl
   have e8 : a'.tmps[25]? = some _ := hs.vals 8 (by omega) d8
   simp only [qD] at e8
   refine di C (v := ?v9) ho (by rfl) (fun w => run_eq_of fun K hK => ?r9) (fun w => ?e9) ?h9
   case r9 => go_simp; exact hK
   case e9 => simp [go_sem, *]
   exact dU _ _ _ ⟨hk, v, hv' 9 (by omega), hs.put (i := 9) (by omega) (fun h => by omega) rfl⟩
  ·have j6 := bU ho
   subst j6
   have d9 : L 9 = true := sN { on := 9, ground := Ground.data } (by simp) rfl
   have e9 : a'.tmps[26]? = some _ := hs.vals 9 (by omega) d9
   simp only [qD] at e9
   refine nS C hp (v := ?v10) ho (by rfl) (fun w₁ h₁ => ⟨run_eq_of fun K hK => ?r10, ?e10⟩) ?uD
   case r10 => have hc := ((hk.sees (ha.bX)).rely h₁).2; go_simp; exact hK
   case e10 => have hc := ((hk.sees (ha.bX)).rely h₁).2; intro e he; simp [go_sem, *] at he; subst he; exact ((hk.sees (ha.bX)).rely h₁).EJ
   exact dU _ _ _ ⟨hk, v, hv' 10 (by omega), hs.put (i := 10) (by omega) (fun h => by omega) rfl⟩
  ·have j6 := bU ho
   subst j6
   have f0 : a'.tmps[0]? = some _ := (hs.old 0 (by omega)).trans t0
   refine di C (v := ?v11) ho (by rfl) (fun w => run_eq_of fun K hK => ?r11) (fun w => ?e11) ?Dk
   case r11 => go_simp; exact hK
   case e11 => simp [go_sem, *]
   exact dU _ _ _ ⟨hk, v, hv' 11 (by omega), hs.put (i := 11) (by omega) (fun h => by omega) rfl⟩
  ·have j6 := bU ho
   subst j6
   have d11 : L 11 = true := sN { on := 11, ground := Ground.data } (by simp) rfl
   have e11 : a'.tmps[28]? = some _ := hs.vals 11 (by omega) d11
   simp only [qD] at e11
   refine di C (v := ?v12) ho (by rfl) (fun w => run_eq_of fun K hK => ?r12) (fun w => ?e12) ?Q5
   case r12 => go_simp; exact hK
   case e12 => simp [go_sem, *]
   exact dU _ _ _ ⟨hk, v, hv' 12 (by omega), hs.put (i := 12) (by omega) (fun h => by omega) rfl⟩
  ·have j6 := bU ho
   subst j6
   have d12 : L 12 = true := sN { on := 12, ground := Ground.data } (by simp) rfl
   have e12 : a'.tmps[29]? = some _ := hs.vals 12 (by omega) d12
   simp only [qD] at e12
   refine nS C hp (v := ?v13) ho (by rfl) (fun w₁ h₁ => ⟨run_eq_of fun K hK => ?r13, ?e13⟩) ?Y9
   case r13 => have hc := ((hk.sees (hb.bX)).rely h₁).2; go_simp; exact hK
   case e13 => have hc := ((hk.sees (hb.bX)).rely h₁).2; intro e he; simp [go_sem, *] at he; subst he; exact ((hk.sees (hb.bX)).rely h₁).EJ
   exact dU _ _ _ ⟨hk, v, hv' 13 (by omega), hs.put (i := 13) (by omega) (fun h => by omega) rfl⟩
  ·have j6 := bU ho
   subst j6
   have d10 : L 10 = true := sN { on := 10, ground := Ground.data } (by simp) rfl
   have e10 : a'.tmps[27]? = some _ := hs.vals 10 (by omega) d10
   simp only [qD] at e10
   have d13 : L 13 = true := sN { on := 13, ground := Ground.data } (by simp) rfl
   have e13 : a'.tmps[30]? = some _ := hs.vals 13 (by omega) d13
   simp only [qD] at e13
   refine di C (v := ?v14) ho (by rfl) (fun w => run_eq_of fun K hK => ?r14) (fun w => ?e14) ?h14
   case r14 => go_simp; exact hK
   case e14 => simp [go_sem, *]
   exact dU _ _ _ ⟨hk, v, hv' 14 (by omega), hs.put (i := 14) (by omega) (fun h => by omega) rfl⟩
  ·have j6 := bU ho
   subst j6
   have d3 : L 3 = true := sN { on := 3, ground := Ground.data } (by simp) rfl
   have e3 : a'.tmps[20]? = some _ := hs.vals 3 (by omega) d3
   simp only [qD] at e3
   have d7 : L 7 = true := sN { on := 7, ground := Ground.data } (by simp) rfl
   have e7 : a'.tmps[24]? = some _ := hs.vals 7 (by omega) d7
   simp only [qD] at e7
   have d14 : L 14 = true := sN { on := 14, ground := Ground.data } (by simp) rfl
   have e14 : a'.tmps[31]? = some _ := hs.vals 14 (by omega) d14
   simp only [qD] at e14
   refine Kr C ho (by rfl) rfl (Post := fun γ'' v M5 => γ''.1 = p ∧ jF γ''.2 M5 w'.heap.size 3 1 v (fL da db x y).length (UB (fL da db x y)) ∧ Kept γ' w' γ''.2 M5) ?_ ?_
   ·simp only [List.map_toArray, bD, ek, Act.eval, aT, e3, e7, e14, Option.getD_some]
    exact PL C hp _ (hk.De MR) (hk.De QY) (sH.lo _) (xG.up _)
   rintro ⟨p', γ4⟩ v4 w4 ⟨hp4, Cg, Q1⟩
   simp only at hp4 Q1 Cg
   subst p'
   exact dU _ _ _ ⟨hk.trans Q1, v4, fun _ => Cg.more hk.size, (hs.val hL (fun j hj => by match j, hj with | 15, hj => exact absurd rfl hj | 0, _ | 1, _ | 2, _ | 3, _ | 4, _ | 5, _ | 6, _ | 7, _ | 8, _ | 9, _ | 10, _ | 11, _ | 12, _ | 13, _ | 14, _ | 16, _ | 17, _ | _ + 18, _ => rfl)).put (i := 15) (by omega) (fun h => by omega) rfl⟩
  ·have j6 := bU ho
   subst j6
   have d15 : L 15 = true := sN { on := 15, ground := Ground.data } (by simp) rfl
   have e15 : a'.tmps[32]? = some _ := hs.vals 15 (by omega) d15
   simp only [qD] at e15
   have eA := hv d15
   obtain ⟨A, cap, rfl, -⟩ := eA.De
   refine di C (v := ?v16) ho (by rfl) (fun w => run_eq_of fun K hK => ?r16) (fun w => ?e16) ?UW
   case r16 => go_simp; exact hK
   case e16 => simp [go_sem, *]
   exact dU _ _ _ ⟨hk, _, hv' 16 (by omega), hs.put (i := 16) (by omega) (fun _ => d15) rfl⟩
  ·have j6 := bU ho
   subst j6
   refine di C (v := ?v17) ho (by rfl) (fun w => run_eq_of fun K hK => ?r17) (fun w => ?e17) ?h17
   case r17 => go_simp; exact hK
   case e17 => simp [go_sem, *]
   exact dU _ _ _ ⟨hk, v, hv' 17 (by omega), hs.put (i := 17) (by omega) (fun h => by omega) rfl⟩
 ·obtain ⟨hk, v, hv, hs⟩ := hJ
  have hA : ∀ i, i < 18 → L i = true := fun i hi => ew i hi
  have Q4 := hs.vals 15 (by omega) (hA 15 (by omega))
  have UW := hs.vals 16 (by omega) (hA 16 (by omega))
  have h17 := hs.vals 17 (by omega) (hA 17 (by omega))
  exact hQ v γ' a' w' hs.defers hs.size hs.old Q4 UW h17 (hv (hA 15 (by omega))) hk
end Go.Co
end
