import Derived.Test.YtedcgbkilmlbhaaGreatPk27
import Derived.Test.YtedcgbkilmlbhaaGreatPk31
import Derived.WalkKit
import Derived.Deep.LoopGhost
import Derived.Ground.SlgnProg
import Derived.Shelf.Lay
import Derived.Shelf.SlicesG.Clone
import Derived.Shelf.SlicesG.Reverse
import Derived.Lib.OwnBridge
import Derived.OwnWalk
section
namespace Go.Di
open Go Go.Conc Go.Co Go.Proofs
variable {P:Program} {af:Machine→Trace→Prop} {x:Cx}
theorem FO {g:FuncId} {vals:Array Value} {Post':Value→World→Prop} (hP:Plain P) (h:tM (ff P af) P () g vals x.w (fun _=>Post')) {Post:Cx→Value→Prop} (hq:∀ v w',Post' v w'→∃ y:Cx,y.w=w'∧Post y v):cU P af x g vals Post:=by
 obtain⟨sW,c,hf,-,Iw,hwp⟩:=h
 refine⟨⟨sW,c,hf,Iw⟩,fun fr cs hc => ?_⟩
 have C:=tY (af:=af) hP
 rw[enter_at vals hf Iw]
 have fS:∀ (a':Act) (w':World) (todo:List Item),(a'.defers=[]∧∃ v,ResultsC P sW a'.tmps v∧Post' v w') →
   ff P af () (G { (base g).at a' todo with mode := .returning } (fr::cs)) w':=by
  rintro a' w' todo ⟨hd,v,hr,hp⟩
  obtain⟨y,rfl,hy⟩:=hq v w' hp
  refine C.go (fun w₁ => ?_) (hc y v hy)
  rw[stepG_leave (b:=base g) rfl hd hf (hr w₁).1 (hr w₁).2]
 refine hwp (base g) [] _ rfl (by simp[base]) fun γ' e a' w' q => ?_
 cases e with
 | normal=>exact C.go (fun _=>stepG_end) (fS a' w' [] q)
 | ret=>exact fun todo=>fS a' w' todo q
 | exit id=>exact q.elim
 | goto l=>exact q.elim
 | panic ch=>exact q.elim
 | outgrown=>exact q.elim
def Cc (v:Value) (n:Nat) (b o:Nat):Prop:=v.ownBlock=some b∧o<n
def Cx.wj (x:Cx) (w':World) (v:Value) (n:Nat):Cx:={ x with w:=w',Fz:=fun b o=>x.Fz b o∨Cc v n b o }
section
variable {w':World} {v:Value} {e:TypeId} {s n:Nat} {xs:List Value}
theorem nQ (hR:Rel x) (hs:x.w.heap.size≤w'.heap.size) (he:w'.os=x.w.os∧w'.output=x.w.output) (ho:∀ b,b<x.w.heap.size→w'.heap[b]? = x.w.heap[b]?) (hr:w'.ownsRow x.w.heap.size e s v n xs):bh x (x.wj w' v (n*s)) where
 size:=hs
 env:=he
 fz:=fun b o h=>⟨.inl h,by
  obtain⟨u,hu⟩:=hR.uV b o h
  exact cell_of_block (ho b (World.block_lt_of_cell? _ ⟨b,o,none⟩ hu)) o⟩
 HX:=fun b o h=>h.imp id fun h => .inl (hr.lt b h.1).1
 old:=fun b hb _=>ho b hb
 len:=Nat.le_refl _
 cells:=fun id l h=>⟨rfl,l,h⟩
 dg:=fun id b h hb=>⟨rfl,⟨b,h,dF hb⟩,fun hd=>by
  obtain⟨o,h1,-⟩:=hR.dg id b h hb
  exact ho _ (Array.getElem?_eq_some_iff.1 h1).1⟩
 cN:=fun t e s n h=>⟨n,h,Nat.le_refl _,fun _=>⟨rfl,rfl⟩⟩
 live:=fun i h => .inl ⟨h,rfl⟩
 ops:=fun _ _ _ l z h=>⟨l,z,h,Nat.le_refl _,fun e=>⟨rfl,e⟩,fun _=>⟨rfl,rfl⟩⟩
theorem vG (hR:Rel x) (hs:x.w.heap.size≤w'.heap.size) (he:w'.os=x.w.os∧w'.output=x.w.output) (ho:∀ b,b<x.w.heap.size→w'.heap[b]? = x.w.heap[b]?) (hr:w'.ownsRow x.w.heap.size e s v n xs):Rel (x.wj w' v (n*s)):=by
 have M:=nQ hR hs he ho hr
 have hlt:∀ {b:Nat} {o:Obj},x.w.heap[b]? = some o→b<x.w.heap.size:=fun h=>(Array.getElem?_eq_some_iff.1 h).1
 have qO:∀ b o,Cc v (n*s) b o→x.w.heap.size≤b:=fun b o h=>(hr.lt b h.1).1
 refine⟨fun id l hl => ?_,fun id e' s' n' hl => ?_,fun id b hl hb => ?_,hR.inj,fun b o h => ?_,fun id hl o h => ?_,fun id e' s' n' hl o h => ?_,fun id e' s' l z hl => ?_⟩
 ·obtain⟨arr,e',h1,h2,h3⟩:=hR.cells id l hl
  exact⟨arr,e',(ho _ (hlt h1)).trans h1,h2,fun j c hc=>(h3 j c hc).mono M⟩
 ·obtain⟨arr,h1,h2⟩:=hR.cN id e' s' n' hl
  exact⟨arr,(ho _ (hlt h1)).trans h1,h2⟩
 ·obtain⟨o,h1,h2⟩:=hR.dg id b hl hb
  exact⟨o,(ho _ (hlt h1)).trans h1,h2.mono M⟩
 ·rcases h with h | h
  ·obtain⟨u,hu⟩:=hR.uV b o h
   exact⟨u,((M.fz b o h).2).trans hu⟩
  ·obtain⟨hv,hon⟩:=h
   rcases hr.2 with ⟨rfl,-⟩ | ⟨g,cap,cur,rfl,hb,hg,hn,hc,lR,ht⟩
   ·simp[Value.ownBlock] at hv
   ·simp only[Value.ownBlock,Option.some.injEq] at hv
    subst hv
    have:o<cur.size:=by rw[lR]; exact Nat.lt_of_lt_of_le hon (Nat.mul_le_mul_right _ hn)
    exact⟨cur[o],by simp only[World.cell?,Cx.wj,hg]; exact Array.getElem?_eq_getElem this⟩
 ·rcases h with h | h
  ·exact hR.sep id hl o h
  ·obtain⟨l,hl⟩:=hl
   obtain⟨arr,e',h1,-⟩:=hR.cells id l hl
   have:=qO _ _ h
   have:=hlt h1
   show False
   change x.w.heap.size≤x.μ id at *
   omega
 ·rcases h with h | h
  ·exact hR.lM id e' s' n' hl o h
  ·obtain⟨arr,h1,-⟩:=hR.cN id e' s' n' hl
   have h3:=qO _ _ h
   have h4:=hlt h1
   change x.w.heap.size≤x.μ id at h3
   omega
 ·obtain⟨arr,h1,h2,h3,h4,h5,h6,h7⟩:=hR.ops id e' s' l z hl
  refine⟨arr,(ho _ (hlt h1)).trans h1,h2,h3,h4,fun j c hc=>⟨(h5 j c hc).1,(h5 j c hc).2.mono M⟩,fun hz j hj => .inl (h6 hz j hj),fun hz o h => ?_⟩
  rcases h with h | h
  ·exact h7 hz o h
  ·have h3:=qO _ _ h
   have h4:=hlt h1
   change x.w.heap.size≤x.μ id at h3
   omega
theorem yQ {rows:List DV} (hn:rows.length=n) (kY:∀ r∈rows,r.cells.length=s) (s7:flat rows=xs.map .val) (vV:∀ u∈xs,u9 u=true∧(DV.val u).bn=true) (hr:w'.ownsRow x.w.heap.size e s v n xs):RV (x.wj w' v (n*s)) (.sl rows none ⟨false,none⟩) v:=by
 have hlen:=hr.1
 have q9:∀ (j:Nat) (c:DV),(flat rows)[j]? = some c→∃ u,xs[j]? = some u∧c=DV.val u∧u9 u=true∧c.bn=true:=by
  intro j c hc
  rw[s7,List.getElem?_map,Option.map_eq_some_iff] at hc
  obtain⟨u,h1,rfl⟩:=hc
  have:=vV u (List.mem_of_getElem? h1)
  exact⟨u,h1,rfl,this.1,this.2⟩
 subst hn
 rcases hr.2 with ⟨rfl,h0⟩ | ⟨g,cap,cur,rfl,hb,hg,hn,hc,lR,ht⟩
 ·have Ya:rows=[]:=List.eq_nil_of_length_eq_zero h0
  subst Ya
  exact RV.sl (rows:=[]) (A:=none) (cap:=0) (s:=0) (vs:=fun _=>undef) ⟨by simp,by simp[flat]⟩ (by simp[flat]) (Nat.le_refl _) ⟨fun _=>rfl,fun b h=>nomatch h⟩ (fun _=>rfl) (fun _ h _=>by cases h) (fun t ht=>by cases ht)
 ·have aP:∀ j u,xs[j]? = some u→cur[j]? = some u∧j<rows.length*s:=by
   intro j u hu
   rw[← ht,List.getElem?_take] at hu
   split at hu
   ·exact⟨by simpa using hu,‹_›⟩
   ·cases hu
  refine RV.sl (s:=s) (vs:=fun j=>xs.getD j undef) ⟨kY,fun j c Ig => ?_⟩ (fun j c Ig => ?_) hn ⟨by simp,fun b h=>nomatch h⟩ (by simp) (fun ad h _=>by cases h; rfl) (fun t ht=>nomatch ht)
  ·obtain⟨u,h1,rfl,h2,h3⟩:=q9 j c Ig
   obtain⟨h4,h5⟩:=aP j u h1
   refine⟨h3,g,0,rfl,.inr ⟨rfl,by omega⟩,?_⟩
   simp[World.cell?,Cx.wj,hg,h4,List.getD_eq_getElem?_getD,h1]
  ·obtain⟨u,h1,rfl,h2,h3⟩:=q9 j c Ig
   simp only[List.getD_eq_getElem?_getD,h1,Option.getD_some]
   exact .val h2
end
def mM:List DV→Option (List Int)
 | []=>some []
 | .val (.int .i64 n)::l=>(mM l).map (n::·)
 | _=>none
def Mq:DV→Option (List Int)
 | .sl rows _ _=>mM rows
 | _=>none
def D4:List DV→Option (List (List Int))
 | []=>some []
 | d::l=>match Mq d,D4 l with
  | some r,some rs=>some (r::rs)
  | _,_=>none
def UT:DV→Option Wk
 | .agg [_,_,.val (.int .i64 bH),l,u0,l0,u1,l1,u2,l2,u3,l3]=>match Mq l,D4 [u0,u1,u2,u3],D4 [l0,l1,l2,l3] with
  | some l,some us,some ls=>some ⟨l,bH,fun i=>us.getD i [],fun i=>ls.getD i []⟩
  | _,_,_=>none
 | _=>none
def QT (l:List Int):Bool:=decide (l.length≤1000)&&l.all fun x=>decide (0≤x)&&decide (x≤9)
def Q9:List Int→Bool
 | []=>true
 | a::l=>l.all (fun b=>decide (a<b))&&Q9 l
def wkB (d:Wk):Bool:=decide (d.aQ.length≤1000)&&d.aQ.all (fun x=>decide (0≤x)&&decide (x≤3))&&decide (0≤d.bH)&&decide (d.bH≤1000) &&
 (List.range 4).all (fun i=>QT (d.up i)&&QT (d.lo i))&&Q9 d.aQ
def smD (m:Sm):DV := .agg [.val (.int .i64 m.1),.val (.int .i64 m.2.1),.val (.int .i64 m.2.2)]
def Gz (a b:DV):Option DV:=match UT a,UT b with
 | some da,some db=>if wkB da&&wkB db then some (.sl ((cW da db).map smD) none ⟨false,none⟩) else none
 | _,_=>none
theorem Jt {l:List Int} (h:QT l=true):Qc l:=by
 simp only[QT,Bool.and_eq_true,decide_eq_true_eq,List.all_eq_true] at h
 exact⟨h.1,fun i x hx=>h.2 x (List.mem_of_getElem? hx)⟩
theorem JA:∀ {l:List Int},Q9 l=true→Qd l
 | [],_=>List.Pairwise.nil
 | a::l,h=>by
  simp only[Q9,Bool.and_eq_true,List.all_eq_true,decide_eq_true_eq] at h
  exact List.Pairwise.cons h.1 (JA h.2)
theorem mZ:∀ {l:List DV} {r:List (List Int)},D4 l=some r→r.length=l.length∧∀ i:Nat,∀ d,l[i]? = some d→Mq d=some (r.getD i [])
 | [],r,h=>by cases h; simp
 | d::l,r,h=>by
  simp only[D4] at h
  split at h
  ·rename_i r1 rs h1 h2
   cases h
   obtain⟨h3,h4⟩:=mZ h2
   refine⟨by simp[h3],fun i d' hd => ?_⟩
   cases i with
   | zero=>simp at hd; subst hd; simpa using h1
   | succ i=>simp at hd; simpa using h4 i d' hd
  ·cases h
theorem qA:∀ {l:List DV} {r:List Int},mM l=some r→r.length=l.length∧(∀ (i:Nat) (n:Int),r[i]? = some n→l[i]? = some (.val (.int .i64 n)))∧flat l=l
 | [],r,h=>by cases h; simp[flat]
 | .val (.int .i64 n)::l,r,h=>by
  simp only[mM,Option.map_eq_some_iff] at h
  obtain⟨r',h1,rfl⟩:=h
  obtain⟨h2,h3,h4⟩:=qA h1
  refine⟨by simp[h2],fun i m hm => ?_,?_⟩
  ·cases i with
   | zero=>simp at hm; subst hm; rfl
   | succ i=>simp at hm; simpa using h3 i m hm
  ·simp only[flat,List.flatMap_cons,DV.cells] at h4 ⊢
   rw[h4]
   rfl
def VA (w:World):So:=(fun b=>b<w.heap.size,fun _=>False)
theorem nD {d:DV} {r:List Int} {v:Value} (hd:Mq d=some r) (h:RV x d v):uQ (VA x.w) x.w v r:=by
 unfold Mq at hd
 split at hd
 ·rename_i rows tok f
  obtain⟨h1,h2,h3⟩:=qA hd
  cases h with
  | @sl _ _ _ A cap s vs hv hr k1 k2 k3 k4 k5 =>
   refine⟨A,cap,by rw[h1],fun i n hn => ?_⟩
   have hc:(flat rows)[i]? = some (.val (.int .i64 n)):=by rw[h3]; exact h2 i n hn
   obtain⟨-,b,o,q1,q2,q3⟩:=hv.2 i _ hc
   have:=hr i _ hc
   generalize vs i=u at *
   cases this with
   | val _ =>
    refine⟨_,q1,?_⟩
    rw[fM]
    exact⟨.inl (World.block_lt_of_cell? _ ⟨b,o+i,none⟩ q3),q3⟩
 ·cases hd
theorem Nw {d:DV} {k:Wk} {v:Value} (hd:UT d=some k) (h:RV x d v):∃ ca,v = .agg ca∧rz (VA x.w) x.w ca k:=by
 unfold UT at hd
 split at hd
 ·rename_i c0 c1 bH l u0 l0 u1 l1 u2 l2 u3 l3
  split at hd
  ·rename_i lr us ls h1 h2 h3
   cases hd
   cases h with
   | @agg _ ca hsz hc =>
    refine⟨ca,rfl,?_⟩
    have aP:∀ (j:Nat) d,([c0,c1,.val (.int .i64 bH),l,u0,l0,u1,l1,u2,l2,u3,l3]:List DV)[j]? = some d→∃ u,ca[j]? = some u∧RV x d u:=by
     intro j d hj
     have hlt:j<ca.size:=by rw[hsz]; exact(List.getElem?_eq_some_iff.1 hj).1
     have:=hc j d hj
     simp only[Array.getD_eq_getD_getElem?,Array.getElem?_eq_getElem hlt,Option.getD_some] at this
     exact⟨ca[j],Array.getElem?_eq_getElem hlt,this⟩
    obtain⟨-,hu⟩:=mZ h2
    obtain⟨-,hl⟩:=mZ h3
    refine⟨?_,?_,fun i hi => ?_,fun i hi => ?_⟩
    ·obtain⟨u,q1,q2⟩:=aP 2 _ rfl
     cases q2
     exact q1
    ·obtain⟨u,q1,q2⟩:=aP 3 _ rfl
     exact⟨u,q1,nD h1 q2⟩
    ·have:i=0∨i=1∨i=2∨i=3:=by omega
     rcases this with rfl | rfl | rfl | rfl
     ·obtain⟨u,q1,q2⟩:=aP 4 _ rfl; exact⟨u,q1,nD (hu 0 _ rfl) q2⟩
     ·obtain⟨u,q1,q2⟩:=aP 6 _ rfl; exact⟨u,q1,nD (hu 1 _ rfl) q2⟩
     ·obtain⟨u,q1,q2⟩:=aP 8 _ rfl; exact⟨u,q1,nD (hu 2 _ rfl) q2⟩
     ·obtain⟨u,q1,q2⟩:=aP 10 _ rfl; exact⟨u,q1,nD (hu 3 _ rfl) q2⟩
    ·have:i=0∨i=1∨i=2∨i=3:=by omega
     rcases this with rfl | rfl | rfl | rfl
     ·obtain⟨u,q1,q2⟩:=aP 5 _ rfl; exact⟨u,q1,nD (hl 0 _ rfl) q2⟩
     ·obtain⟨u,q1,q2⟩:=aP 7 _ rfl; exact⟨u,q1,nD (hl 1 _ rfl) q2⟩
     ·obtain⟨u,q1,q2⟩:=aP 9 _ rfl; exact⟨u,q1,nD (hl 2 _ rfl) q2⟩
     ·obtain⟨u,q1,q2⟩:=aP 11 _ rfl; exact⟨u,q1,nD (hl 3 _ rfl) q2⟩
  ·cases hd
 ·cases hd
theorem Rs {d:DV} {k:Wk} (hd:UT d=some k):∀ i,4≤i→k.up i=[]∧k.lo i=[]:=by
 unfold UT at hd
 split at hd
 ·split at hd
  ·rename_i lr us ls h1 h2 h3
   cases hd
   have h4:=(mZ h2).1
   have h5:=(mZ h3).1
   simp only[List.length_cons,List.length_nil] at h4 h5
   intro i hi
   simp only[List.getD_eq_getElem?_getD]
   rw[List.getElem?_eq_none (by omega),List.getElem?_eq_none (by omega)]
   exact⟨rfl,rfl⟩
  ·cases hd
 ·cases hd
theorem Nx {d:DV} {k:Wk} (hd:UT d=some k) (h:wkB k=true):k.ok∧Qd k.aQ:=by
 simp only[wkB,Bool.and_eq_true,decide_eq_true_eq,List.all_eq_true] at h
 obtain⟨⟨⟨⟨⟨h1,h2⟩,h3⟩,h4⟩,h5⟩,h6⟩:=h
 have far:=Rs hd
 refine⟨⟨h1,fun i x hx=>h2 x (List.mem_of_getElem? hx),⟨h3,h4⟩,fun i => ?_,fun i => ?_⟩,JA h6⟩
 ·rcases Nat.lt_or_ge i 4 with hi | hi
  ·exact Jt (h5 i (by simpa using hi)).1
  ·rw[(far i hi).1]; exact⟨by simp,by simp⟩
 ·rcases Nat.lt_or_ge i 4 with hi | hi
  ·exact Jt (h5 i (by simpa using hi)).2
  ·rw[(far i hi).2]; exact⟨by simp,by simp⟩
theorem Pt (l:List Sm):flat (l.map smD)=(l.flatMap nA).map .val:=by
 induction l with
 | nil=>rfl
 | cons m l ih =>
  simp only[flat,List.map_cons,List.flatMap_cons,List.map_append] at ih ⊢
  rw[ih]
  rfl
theorem FC {a b d:DV} (h:Gz a b=some d) {vals:Array Value} (hR:Rel x) (ha:en x [a,b] vals):cU Tryz.prog af x 60 vals fun y u=>y.S=x.S∧Rel y∧bh x y∧RV y d u:=by
 unfold Gz at h
 split at h
 ·rename_i da db h1 h2
  split at h
  ·rename_i hb
   cases h
   simp only[Bool.and_eq_true] at hb
   obtain⟨oF,Y8⟩:=Nx h1 hb.1
   obtain⟨vY,mm⟩:=Nx h2 hb.2
   obtain⟨hsz,aP⟩:=ha
   have e:vals=#[vals.getD 0 undef,vals.getD 1 undef]:=by
    obtain⟨l⟩:=vals
    match l,hsz with
    | [u,v],_=>rfl
   obtain⟨ca,hca,YN⟩:=Nw h1 (aP 0 _ rfl)
   obtain⟨cb,hcb,YM⟩:=Nw h2 (aP 1 _ rfl)
   rw[hca,hcb] at e
   subst e
   have key:=RR (af:=af) oF vY Y8 mm YN YM
   refine FO eX (HD (Post':=fun v w'=>x.w.heap.size≤w'.heap.size∧(w'.os=x.w.os∧w'.output=x.w.output)∧(∀ b,b<x.w.heap.size→w'.heap[b]? = x.w.heap[b]?)∧w'.ownsRow x.w.heap.size 79 3 v (cW da db).length ((cW da db).flatMap nA)) (fun γ' v w w1 hp _ r => ?_) key) fun v w' hp => ?_
   ·obtain⟨hk,ho⟩:=hp
    refine⟨Nat.le_trans hk.size r.1,⟨r.2.2.2.1.trans hk.env.1,r.2.2.2.2.trans hk.env.2⟩,fun b hb => ?_,(ho.rely r).1⟩
    have dG:(VA x.w).all b := .inl hb
    exact(r.2.1 b (hk.all dG)).trans (hk.blk b dG hb)
   ·obtain⟨p1,p2,p3,p4⟩:=hp
    refine⟨x.wj w' v ((cW da db).length*3),rfl,rfl,vG hR p1 p2 p3 p4,nQ hR p1 p2 p3 p4,yQ (by simp) (fun r hr => ?_) (Pt _) (fun u hu => ?_) p4⟩
    ·simp only[List.mem_map] at hr
     obtain⟨m,-,rfl⟩:=hr
     rfl
    ·simp only[List.mem_flatMap,nA,List.mem_cons,List.not_mem_nil,or_false] at hu
     obtain⟨m,-,rfl | rfl | rfl⟩:=hu<;>exact⟨rfl,rfl⟩
  ·cases h
 ·cases h
end Go.Di
end
section
namespace Go.Proofs
open Go.Shelf Go.RowKit Go.Lib Go.Sort
def Tryz.Dp:Go.Shelf.Ren:=⟨fun | 41=>91 | n=>n,fun | 22=>23 | 23=>3 | 4=>4 | n=>n,fun | n=>n⟩
theorem Tryz.y8:Go.Proofs.SlLaysN.n41 Tryz.prog Tryz.Dp:={
  mixed:=by kernel_rfl
  f41:=⟨Tryz.f91.name,by decide,Tryz.func91.trans (congrArg some (by kernel_rfl))⟩
  t4:=Tryz.underlying4
  a4:=Tryz.isAgg4
  z4:=Tryz.sizeOf4
  v4:=Tryz.zeroValue4
  t22:=Tryz.underlying23
  a22:=Tryz.isAgg23
  z22:=Tryz.sizeOf23
  v22:=Tryz.zeroValue23
  t23:=Tryz.underlying3
  a23:=Tryz.isAgg3
  z23:=Tryz.sizeOf3
  v23:=Tryz.zeroValue3
  i23:=by kernel_rfl }
def Tryz.Ad:Go.Shelf.Ren:=⟨fun | 35=>153 | n=>n,fun | 22=>23 | 23=>3 | 3=>3 | 4=>4 | 0=>0 | n=>n,fun | n=>n⟩
theorem Tryz.sL:Go.Proofs.SlLaysN.n35 Tryz.prog Tryz.Ad:={
  mixed:=by kernel_rfl
  f35:=⟨Tryz.f153.name,by decide,Tryz.func153.trans (congrArg some (by kernel_rfl))⟩
  t0:=Tryz.underlying0
  a0:=Tryz.isAgg0
  z0:=Tryz.sizeOf0
  v0:=Tryz.zeroValue0
  t3:=Tryz.underlying3
  a3:=Tryz.isAgg3
  z3:=Tryz.sizeOf3
  v3:=Tryz.zeroValue3
  t4:=Tryz.underlying4
  a4:=Tryz.isAgg4
  z4:=Tryz.sizeOf4
  v4:=Tryz.zeroValue4
  t22:=Tryz.underlying23
  a22:=Tryz.isAgg23
  z22:=Tryz.sizeOf23
  v22:=Tryz.zeroValue23
  t23:=Tryz.underlying3
  a23:=Tryz.isAgg3
  z23:=Tryz.sizeOf3
  v23:=Tryz.zeroValue3 }
set_option maxHeartbeats 1000000 in
theorem Tryz.R2 (b off n c:Nat) (zs:List Int) (w:World) (hz:n≤zs.length) (Q0:n*8≤140737488355328) (hc:∀ j,j<zs.length→w.cell? ⟨b,off+j,none⟩=some (.int .i64 (zs.getD j 0))) :
    Calls Tryz.prog 133 #[.slice (some ⟨b,off,none⟩) n c] w fun e w'=>∃ v',e = .returned v'∧w'.ownsRow w.heap.size 3 1 v' n ((zs.take n).reverse.map (Value.int .i64))∧Below w.heap.size w w':=by
  have GQ:=AnyG.slices_Clone_int Tryz.y8 b off n c zs w hz Q0 hc
  clear hc
  go_enter Tryz.func133,Tryz.ntmps133
  go_wp2_with (first
    | (go_at_call 91; refine GQ.mono ?_; rintro e w1 ⟨v1,rfl,dN,Tw,yd⟩
       obtain⟨g,cap,rfl,hbg,_,_,hcm,hlen,hH⟩:=Lib.holds_of_ownsRow dN Tw
       have ZI:=AnyG.slices_Reverse_int Tryz.sL g 0 cap (zs.take n) w1 hH (by unfold maxLen at hcm; omega)
       rw[hlen] at ZI
       have X:Aside (w1.ownsRow w.heap.size 3 1 (.slice (some ⟨g,0,none⟩) n cap) n ((zs.take n).map (Value.int .i64))∧Below w.heap.size w w1∧w.heap.size≤g):=⟨dN,yd,hbg⟩
       clear dN yd hH Tw)
    | (go_at_call 153; refine ZI.mono ?_; rintro e w2 ⟨rfl,q,rfl⟩))
  go_ret
  have hy:(zs.take n).reverse.length=n:=by simpa using hlen
  have h1:=Lib.ownsRow_putRow (q:=q) (ys:=(zs.take n).reverse) X.out.1 hy (Nat.le_refl n)
  rw[List.take_of_length_le (Nat.le_of_eq hy)] at h1
  exact⟨_,rfl,by simpa [List.map_reverse,List.map_take] using h1,Lib.below_putRow X.out.2.1 X.out.2.2⟩
theorem Tryz.rev_zero (a:Addr) (c:Nat) (w:World) :
    Calls Tryz.prog 133 #[.slice (some a) 0 c] w fun e w'=>∃ v',e = .returned v'∧w'.ownsRow w.heap.size 3 1 v' 0 []∧Below w.heap.size w w':=by
  have GQ:=AnyG.slices_Clone_int_zero Tryz.y8 a c w
  go_enter Tryz.func133,Tryz.ntmps133
  go_wp2_with (first
    | (go_at_call 91; refine GQ.mono ?_; rintro e w1 ⟨v1,rfl,dN,Tw,yd⟩
       obtain⟨g,cap,rfl,_,_,_,_,_,_⟩:=Lib.holds_of_ownsRow (enc:=Value.int .i64) (zs:=[]) dN Tw
       have X:Aside (w1.ownsRow w.heap.size 3 1 (.slice (some ⟨g,0,none⟩) 0 cap) 0 []∧Below w.heap.size w w1):=⟨dN,yd⟩
       clear dN yd Tw)
    | (go_at_call 153; refine(AnyG.slices_Reverse_int_empty Tryz.sL _ _ _).mono ?_; rintro e w2 ⟨rfl,rfl⟩))
  go_ret
  exact⟨_,rfl,X.out.1,X.out.2⟩
theorem Tryz.RZ (n c:Nat) (w:World) :
    Calls Tryz.prog 133 #[.slice none n c] w fun e w'=>e = .returned (.slice none 0 0)∧w'=w:=by
  go_enter Tryz.func133,Tryz.ntmps133
  go_wp2_with (first
    | (go_at_call 91; refine(AnyG.slices_Clone_int_nil Tryz.y8 n c _).mono ?_; rintro e w' ⟨rfl,rfl⟩)
    | (go_at_call 153; refine(AnyG.slices_Reverse_int_empty Tryz.sL none 0 _).mono ?_; rintro e w' ⟨rfl,rfl⟩))
  go_ret
  exact⟨rfl,rfl⟩
end Go.Proofs
namespace Go.Di
open Go Go.Conc Go.Co Go.Proofs
variable {P:Program} {af:Machine→Trace→Prop} {x:Cx}
theorem xb {g:FuncId} {vals:Array Value} {fn:Func} {c:Code} {R:Value→World→Prop} (hP:Plain P) (hf:P.funcs[g]? = some fn) (hb:fn.body=some c) (gq:∀ τ,Calls P g vals (x.w.re τ 0) fun e w'=>∃ v,e = .returned v∧R v w')
    {Post:Cx→Value→Prop} (hq:∀ v w',R v w'→∀ τ d,∃ y:Cx,y.w=w'.re τ d∧Post y v):cU P af x g vals Post:=by
  refine⟨⟨fn,c,hf,hb⟩,fun fr cs hc=>Jr hP fun _ τ => ?_⟩
  obtain⟨e,w',fr',⟨v,rfl,hR⟩,GP,Ia,fS⟩:=gq τ (fr::cs)
  obtain⟨n,hn⟩:=Steps.trans GP (Steps.one (step_leave_returned fS))
  refine⟨n,_,w',hn,rfl,rfl,fun τ d => ?_⟩
  obtain⟨y,hy,hp⟩:=hq v w' hR τ d
  have:=hc y v hp
  rw[hy] at this
  exact this
def QK:DV→Option DV
  | .sl rows _ _=>match mM rows with
    | some l=>if l.length≤1000000 then some (.sl (l.reverse.map fun n => .val (.int .i64 n)) none ⟨false,none⟩) else none
    | none=>none
  | _=>none
theorem BJ (l:List Value):flat (l.map DV.val)=l.map DV.val:=by
  induction l with
  | nil=>rfl
  | cons m l ih =>
    simp only[flat,List.map_cons,List.flatMap_cons] at ih ⊢
    rw[ih]
    rfl
theorem KD {a d:DV} (h:QK a=some d) {vals:Array Value} (hR:Rel x) (ha:en x [a] vals):cU Tryz.prog af x 133 vals fun y u=>y.S=x.S∧Rel y∧bh x y∧RV y d u:=by
  unfold QK at h
  split at h
  · rename_i rows tok f
    split at h
    · rename_i l hl
      split at h
      · rename_i hlen
        cases h
        obtain⟨h1,h2,h3⟩:=qA hl
        obtain⟨hsz,aP⟩:=ha
        have e:vals=#[vals.getD 0 undef]:=by
          obtain⟨l⟩:=vals
          match l,hsz with
          | [u],_=>rfl
        have hv:=aP 0 _ rfl
        generalize vals.getD 0 undef=u at e hv
        subst e
        cases hv with
        | @sl _ _ _ A cap s vs hv hr k1 k2 k3 k4 k5 =>
          have gq:∀ τ,Calls Tryz.prog 133 #[.slice A rows.length cap] (x.w.re τ 0) fun e w'=>∃ v,e = .returned v∧(x.w.heap.size≤w'.heap.size∧(w'.os=x.w.os∧w'.output=x.w.output)∧(∀ b,b<x.w.heap.size→w'.heap[b]? = x.w.heap[b]?)∧w'.ownsRow x.w.heap.size 3 1 v l.length (l.reverse.map (Value.int .i64))):=by
            intro τ
            cases A with
            | none =>
              have h0:rows.length=0:=by have:=k3 rfl; omega
              have Vd:l=[]:=List.eq_nil_of_length_eq_zero (by omega)
              subst Vd
              refine(Tryz.RZ rows.length cap (x.w.re τ 0)).mono ?_
              rintro e w' ⟨rfl,rfl⟩
              exact⟨_,rfl,Nat.le_refl _,⟨rfl,rfl⟩,fun _ _=>rfl,World.ownsRow_nil _ _ _ _⟩
            | some ad =>
              have hz:rows.length=l.length:=h1.symm
              by_cases h0:l.length=0
              · have Vd:l=[]:=List.eq_nil_of_length_eq_zero h0
                subst Vd
                rw[hz]
                refine(Tryz.rev_zero ad cap (x.w.re τ 0)).mono ?_
                rintro e w' ⟨v,rfl,ho,hb⟩
                exact⟨_,rfl,hb.size,⟨hb.os,hb.output⟩,hb.block,ho⟩
              · have hs:=k4 ad rfl (by omega)
                obtain⟨b,o,sp⟩:=ad
                simp only at hs
                subst hs
                rw[hz]
                refine(Tryz.R2 b o l.length cap l (x.w.re τ 0) (Nat.le_refl _) (by omega) fun j hj => ?_).mono ?_
                · have hc:(flat rows)[j]? = some (.val (.int .i64 (l.getD j 0))):=by
                    rw[h3]
                    refine h2 j _ ?_
                    simp[List.getD_eq_getElem?_getD,hj]
                  obtain⟨-,b',o',q1,q2,q3⟩:=hv.2 j _ hc
                  cases q1
                  have:=hr j _ hc
                  generalize vs j=u at *
                  cases this with
                  | val _=>exact q3
                · rintro e w' ⟨v,rfl,ho,hb⟩
                  rw[List.take_length] at ho
                  exact⟨_,rfl,hb.size,⟨hb.os,hb.output⟩,hb.block,ho⟩
          refine xb eX Tryz.func133 rfl gq fun v w' hp τ d => ?_
          obtain⟨p1,p2,p3,p4⟩:x.w.heap.size≤(w'.re τ d).heap.size∧((w'.re τ d).os=x.w.os∧(w'.re τ d).output=x.w.output)∧(∀ b,b<x.w.heap.size→(w'.re τ d).heap[b]? = x.w.heap[b]?)∧(w'.re τ d).ownsRow x.w.heap.size 3 1 v l.length (l.reverse.map (Value.int .i64)):=hp
          refine⟨x.wj (w'.re τ d) v (l.length*1),rfl,rfl,vG hR p1 p2 p3 p4,nQ hR p1 p2 p3 p4,yQ (by simp) (fun r hr => ?_) ?_ (fun u hu => ?_) p4⟩
          · simp only[List.mem_map] at hr
            obtain⟨m,-,rfl⟩:=hr
            rfl
          · have:=BJ (l.reverse.map (Value.int .i64))
            simpa only [List.map_map,Function.comp_def] using this
          · simp only[List.mem_map] at hu
            obtain⟨m,-,rfl⟩:=hu
            exact⟨rfl,rfl⟩
      · cases h
    · cases h
  · cases h
end Go.Di
end
section
namespace Go.Proofs
open Go.RowKit
theorem SO {l:List Int} {k:Nat} (hk:k<l.length):((l.take k).map (Value.int .i64)++List.replicate (l.length-k) (Value.int .i64 0)).set k (.int .i64 (l.getD k 0))=(l.take (k+1)).map (Value.int .i64)++List.replicate (l.length-(k+1)) (.int .i64 0):=by
 have e:((l.take k).map (Value.int .i64)).length=k:=by rw[List.length_map,List.length_take]; omega
 rw[List.set_append_right _ _ (by omega),e,Nat.sub_self,show l.length-k=(l.length-(k+1))+1 by omega,List.replicate_succ,List.set_cons_zero,List.take_add_one,List.map_append,List.append_assoc]
 congr 1
 simp[List.getD_eq_getElem?_getD,hk]
theorem Tryz.S3 {w:World} {a:Addr} {v:Value} (h:w.cell? a=some v):a.block<w.heap.size:=by
 by_cases hb:a.block<w.heap.size
 ·exact hb
 ·simp[World.cell?,Array.getElem?_eq_none (Nat.le_of_not_lt hb)] at h
set_option maxRecDepth 100000 in
set_option maxHeartbeats 1000000 in
theorem Tryz.SP (A:Option Addr) (cap:Nat) (l:List Int) (w:World) (hl:l.length≤1000) (hR:l≠[]→∃ b off,A=some ⟨b,off,none⟩∧∀ j,j<l.length→w.cell? ⟨b,off+j,none⟩=some (.int .i64 (l.getD j 0))) :
  Calls Tryz.prog 43 #[.slice A l.length cap] w fun e w'=>e = .returned (.slice (some ⟨w.heap.size,0,none⟩) l.length l.length)∧w'.ownsRow w.heap.size 3 1 (.slice (some ⟨w.heap.size,0,none⟩) l.length l.length) l.length (l.map (Value.int .i64))∧Below w.heap.size w w':=by
 obtain⟨i0,hi,DD,LI,X4⟩:=info_parts Co.M4
 have jX:=Lib.hid hR
 clear hR
 have hm:l.length≤maxLen:=by unfold maxLen; omega
 go_enter Tryz.func43,Tryz.ntmps43
 go_wp2_with (first | (at_make; go_loud (refine wpList_make_full _ rfl _ _ 23 rfl w.heap.size 3 i0 (.int .i64 0) 1 Tryz.underlying23 hi DD LI _ _ _ _ l.length rfl rfl rfl rfl (by rw[X4]; omega) hm (Nat.le_refl _) ?_)))
 intro w1 dN M9
 go_wp2
 go_loopw [4] (fun i wr=>∃ k:Nat,k≤l.length∧i = .int .i64 (k:Int)∧wr.ownsRow w.heap.size 3 1 (.slice (some ⟨w.heap.size,0,none⟩) l.length l.length) l.length ((l.take k).map (Value.int .i64)++List.replicate (l.length-k) (.int .i64 0))∧Below w.heap.size w wr) (fun i _=>l.length-(intOf i).toNat)
 ·refine⟨0,Nat.zero_le _,rfl,?_,(Below.refl _ _).grown M9 (Nat.le_refl _) (fun g h=>by cases h)⟩
  rw[toList_madeCells_one] at dN
  simpa using dN
 ·obtain⟨k,hk,rfl,rP,yd⟩:=hrel
  by_cases Vf:k<l.length
  ·obtain⟨b,off,rfl,hc⟩:=jX.out (fun e=>by subst e; simp at Vf)
   have q9:wr.cell? ⟨b,off+k,none⟩=some (.int .i64 (l.getD k 0)):=(yd.cell (p:=⟨b,off+k,none⟩) (Tryz.S3 (hc k Vf))).trans (hc k Vf)
   have Ga:=rP.frozenAt k
   have qJ:wr.cell? ⟨w.heap.size,k,none⟩=some (.int .i64 0):=by
    rw[rP.cellAt k (by omega),List.getElem?_append_right (by rw[List.length_map,List.length_take]; omega),List.getElem?_replicate,if_pos (by rw[List.length_map,List.length_take]; omega)]
   have st:=Lib.hid (rP.stored k (.int .i64 (l.getD k 0)))
   have kL:=Lib.hid yd
   clear rP yd hc dN M9
   go_wp2
   refine⟨⟨k+1,by omega,by go_num,?_,?_⟩,by simp[intOf]; omega⟩
   ·have:=st.out.1
    rw[SO Vf] at this
    simpa [List.getD_eq_getElem?_getD,Vf] using this
   ·exact kL.out.setCell (Nat.le_refl _) _
  ·clear dN M9
   rw[show k=l.length by omega,List.take_length,Nat.sub_self,List.replicate_zero,List.append_nil] at rP
   have st:=Lib.hid rP
   have kL:=Lib.hid yd
   clear rP yd
   go_wp2
   go_ret
   exact⟨rfl,st.out,kL.out⟩
end Go.Proofs
namespace Go.Di
open Go Go.Conc Go.Co Go.Proofs
variable {P:Program} {af:Machine→Trace→Prop} {x:Cx}
def Q5:DV→Option DV
 | .sl rows _ _=>match mM rows with
  | some l=>if l.length≤1000 then some (.sl (l.map fun n => .val (.int .i64 n)) none ⟨false,none⟩) else none
  | none=>none
 | _=>none
theorem Lp {a d:DV} (h:Q5 a=some d) {vals:Array Value} (hR:Rel x) (ha:en x [a] vals):cU Tryz.prog af x 43 vals fun y u=>y.S=x.S∧Rel y∧bh x y∧RV y d u:=by
 unfold Q5 at h
 split at h
 ·rename_i rows tok f
  split at h
  ·rename_i l hl
   split at h
   ·rename_i hlen
    cases h
    obtain⟨h1,h2,h3⟩:=qA hl
    obtain⟨hsz,aP⟩:=ha
    have e:vals=#[vals.getD 0 undef]:=by
     obtain⟨l⟩:=vals
     match l,hsz with
     | [u],_=>rfl
    have hv:=aP 0 _ rfl
    generalize vals.getD 0 undef=u at e hv
    subst e
    cases hv with
    | @sl _ _ _ A cap s vs hv hr k1 k2 k3 k4 k5 =>
     have gq:∀ τ,Calls Tryz.prog 43 #[.slice A rows.length cap] (x.w.re τ 0) fun e w'=>∃ v,e = .returned v∧(x.w.heap.size≤w'.heap.size∧(w'.os=x.w.os∧w'.output=x.w.output)∧(∀ b,b<x.w.heap.size→w'.heap[b]? = x.w.heap[b]?)∧w'.ownsRow x.w.heap.size 3 1 v l.length (l.map (Value.int .i64))):=by
      intro τ
      have hz:rows.length=l.length:=h1.symm
      rw[hz]
      refine(Tryz.SP A cap l (x.w.re τ 0) hlen fun hne => ?_).mono ?_
      ·have yb:0<l.length:=List.length_pos_iff.2 hne
       have hc:∀ j,j<l.length→(flat rows)[j]? = some (.val (.int .i64 (l.getD j 0))):=fun j hj=>by
        rw[h3]
        refine h2 j _ ?_
        simp[List.getD_eq_getElem?_getD,hj]
       obtain⟨-,b,o,q1,-,-⟩:=hv.2 0 _ (hc 0 yb)
       refine⟨b,o,q1,fun j hj => ?_⟩
       obtain⟨-,b',o',q2,q3,q4⟩:=hv.2 j _ (hc j hj)
       rw[q1] at q2
       cases q2
       have:=hr j _ (hc j hj)
       generalize vs j=u at *
       cases this with
       | val _=>exact q4
      ·rintro e w' ⟨rfl,ho,hb⟩
       exact⟨_,rfl,hb.size,⟨hb.os,hb.output⟩,hb.block,ho⟩
     refine xb eX Tryz.func43 rfl gq fun v w' hp τ d => ?_
     obtain⟨p1,p2,p3,p4⟩:x.w.heap.size≤(w'.re τ d).heap.size∧((w'.re τ d).os=x.w.os∧(w'.re τ d).output=x.w.output)∧(∀ b,b<x.w.heap.size→(w'.re τ d).heap[b]? = x.w.heap[b]?)∧(w'.re τ d).ownsRow x.w.heap.size 3 1 v l.length (l.map (Value.int .i64)):=hp
     refine⟨x.wj (w'.re τ d) v (l.length*1),rfl,rfl,vG hR p1 p2 p3 p4,nQ hR p1 p2 p3 p4,yQ (by simp) (fun r hr => ?_) ?_ (fun u hu => ?_) p4⟩
     ·simp only[List.mem_map] at hr
      obtain⟨m,-,rfl⟩:=hr
      rfl
     ·have:=BJ (l.map (Value.int .i64))
      simpa only [List.map_map,Function.comp_def] using this
     ·simp only[List.mem_map] at hu
      obtain⟨m,-,rfl⟩:=hu
      exact⟨rfl,rfl⟩
   ·cases h
  ·cases h
 ·cases h
end Go.Di
end
