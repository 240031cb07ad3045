import Derived.Test.YtedcgbkilmlbhaaGreatPk30
import Derived.Test.YtedcgbkilmlbhaaGreatPk26
import Derived.WalkKit
import Derived.Deep.LoopGhost
import Derived.Ground.SlgnProg
import Derived.Shelf.Lay
import Derived.Shelf.SlicesG.Clone
import Derived.Shelf.SlicesG.Reverse
import Derived.Lib.OwnBridge
import Derived.OwnWalk
section
namespace Go.Proofs
open Go.Shelf Go.RowKit Go.Lib Go.Sort Go.Co
theorem Tryz.XQ (g cap:Nat) (d:Array Sm) (w:World) (hH:HoldsK oT 3 w g 0 d) (hg:g<w.heap.size) (hsz:d.size<4611686018427387904) :
  Calls Tryz.prog 105 #[.slice (some ⟨g,0,none⟩) d.size cap,.func (.func 106) #[] #[]] w fun e w'=>e = .returned (.tuple #[])∧∃ d' n os,PermIn 0 d.size d d'∧SortedIn (ltOf uT) 0 d.size d'∧w'=sortWorldK oT 3 w g 0 n d' os:=by
 have eg:∀ args w,(callFunc 106 args).run Tryz.prog w = .ok (.enter 106 args) w:=enters_of Tryz.func106 (by kernel_rfl) rfl
 exact AnyQ.slices_SortFunc Tryz.FM 3 Tryz.isAgg79 Tryz.sizeOf79 oT (fun _=>rfl) (fun x v hv=>by simp[oT] at hv; rcases hv with rfl | rfl | rfl<;>rfl) uT aaY 106 #[] g 0 cap d w eg (fun _ _ _ _ x y=>Tryz.Mz x y _) hH hg hsz
end Go.Proofs
namespace Go.Co
open Go Go.Conc Go.Proofs Go.Sort Go.Shelf
variable {P:Program} {aa:Machine→Trace→Prop} {γ:So} {w:World}
theorem AD {Γ:Type} {main:Bool} {K:Γ→Goroutine→World→Prop} {Rl:Γ→World→World→Prop} {St:Γ→World→Γ→World→Array Event→Prop} {fn:FuncId} {Q:Γ→Exit→Act→World→Prop} {a:Act} {ops:Array Oper} {i:Nat} {rest:List Nat} {o:Oper} (C:KC P main K Rl St) {γ:Γ} {v:Value} (ho:ops[i]? = some o) (hw:Region.wanted o (yielded ops a.tmps)=true) (hrun:∀ w,(execOp a.eval o).run P w = .ok (.value v) w) (sU:∀ w,(execOp a.eval o).events P w #[]=#[])
  (h:KO K fn γ ops rest Q (a.put o.dst v) w):KO K fn γ ops (i::rest) Q a w :=
 vg C ho hw fun w₁ r=>by rw[hrun w₁]; exact⟨γ,by rw[listed_nil (sU w₁)]; exact C.idle _ _,Ee C r h⟩
def xD (A:Nat→Prop) (B0:Nat) (w0:World) (R:List Sm) (out:Value) (w:World):Prop:=Old A B0 w0 w∧w.ownsRow B0 79 3 out R.length (R.flatMap oT)
theorem Pz {A:Nat→Prop} {B0:Nat} {w0:World} {R got:List Sm} {out:Value} (hR:R.Pairwise MI) (hlen:R.length≤4294967296) (hA:∀ b,A b→b<B0) (hO:Old A B0 w0 w) (hp:got.Perm R) (tD:w.ownsRow B0 79 3 out got.length (got.flatMap oT)) :
  Calls Tryz.prog 105 #[out,.func (.func 106) #[] #[]] w fun e w'=>∃ v,e = .returned v∧xD A B0 w0 R out w':=by
 have hl:=hp.length_eq
 rcases tD.2 with ⟨rfl,h0⟩ | ⟨g,cap,cur,rfl,hb,hg,hn,hc,nK,ht⟩
 ·have acR:got=[]:=dm h0
  have hRn:R=[]:=dm (by omega)
  subst acR
  subst hRn
  exact(Tryz.Iu _ w).mono fun e w' ⟨he,hw⟩=>⟨_,he,by subst hw; exact⟨hO,tD⟩⟩
 ·have hlt:g<w.heap.size:=(aG.1 hg).1
  have hH:HoldsK oT 3 w g 0 got.toArray:=IW hg (by simpa using ht)
  have h:=Tryz.XQ g cap got.toArray w hH hlt (by simp; omega)
  simp only[jP] at h
  refine h.mono ?_
  rintro e w' ⟨he,d',n,os,hpm,hs,rfl⟩
  obtain⟨hsz,-,hpm⟩:=hpm
  have hsz':d'.size=got.length:=by simpa using hsz
  have hd:d'.toList=R:=by
   refine LF ?_ (by rw[hsz']; exact hs) hR
   have h1:(d'.extract 0 got.length)=d':=by rw[← hsz']; simp
   have h2:(got.toArray.extract 0 got.length)=got.toArray:=by simp
   rw[h1,h2] at hpm
   exact hpm.trans hp
  have Wl:=ED (w:=w) (g:=g) (n:=n) (os:=os) d'
  refine⟨_,he,⟨fun b mo => ?_,bk hO.2.1 Wl.size,Wl.os.trans hO.2.2.1,Wl.output.trans hO.2.2.2⟩,?_⟩
  ·have:=hA b mo
   exact(Wl.block b (cz this hO.2.1) (fun e=>by cases e; omega)).trans (hO.1 b mo)
  ·have:=Ex (n:=n) (os:=os) (d:=d') hb hg (by omega) hc nK
   rw[hsz',hd] at this
   rw[← hl]
   exact this
set_option maxRecDepth 100000 in
theorem SS {da db:Wk} (sH:da.ok) (xG:db.ok) (ZQ:Rc da.aY) (oW:Rc db.aY):O8 aa (dQ da db):=by
 intro A B0 w0 γ' a' w' hE
 obtain⟨-,-,hS,got,out,hp,tD,u,rfl⟩:=hE
 have C:=vk (aa:=aa) jx
 unfold Ov
 show KJ _ _ _ (.seq (.region _ _ false) (.seq (.region _ _ false) .ret)) _ _ _
 refine aR C (xm C ?_)
 simp only[jP,List.length_cons,List.length_nil,Nat.reduceAdd,gQ,List.range,List.range.loop]
 refine AD C (v := ?v1) rfl (by rfl) (fun w=>run_eq_of fun K hK => ?r1) (fun w => ?e1) ?h1
 case r1=>go_simp; exact hK
 case e1=>simp[go_sem]
 try walk_nrm
 refine TH jx (R:=fun _ w=>xD A B0 w0 (dQ da db) out w) rfl (by rfl) rfl Tryz.func105 rfl (fun τ => ?_) (fun v w2 hR τ d => ?_)
 ·simp only[List.map_toArray,bD,ek]
  have hO:Old A B0 w0 (w'.re τ 0):=⟨hS.blk,hS.size,hS.env.1,hS.env.2⟩
  exact Pz (LH ZQ oW) (AZ sH xG) hS.lt hO hp tD
 ·have kE:xD A B0 w0 (dQ da db) out (w2.re τ d):=hR
  generalize w2.re τ d=w3 at *
  try walk_nrm
  refine aM C ?_
  co_then
  refine aR C (xm C ?_)
  simp only[jP,List.length_cons,List.length_nil,Nat.reduceAdd,gQ,List.range,List.range.loop]
  refine AD C (v := ?v2) rfl (by rfl) (fun w=>run_eq_of fun K hK => ?r2) (fun w => ?e2) ?h2
  case r2=>go_simp; exact hK
  case e2=>simp[go_sem]
  try walk_nrm
  refine AD C (v := ?v3) rfl (by rfl) (fun w=>run_eq_of fun K hK => ?r3) (fun w => ?e3) ?h3
  case r3=>go_simp; exact hK
  case e3=>simp[go_sem]
  try walk_nrm
  refine aM C ?_
  co_then
  refine zW C ?_
  exact⟨rfl,rfl,kE.1,kE.2⟩
theorem S5 {ca cb:Array Value} {da db:Wk} (sH:da.ok) (xG:db.ok) (ZQ:Rc da.aY) (oW:Rc db.aY) (Zt:s5 γ w ca da) (Zs:s5 γ w cb db) :
  uX (Lj Tryz.prog aa) Tryz.prog (.bad,γ) 60 #[.agg ca,.agg cb] w fun γ' v w'=>γ'.1 = .bad∧Kept γ w γ'.2 w'∧jF γ'.2 w' w.heap.size 79 3 v (dQ da db).length ((dQ da db).flatMap oT) :=
 GI jx sH xG Zt Zs (SS sH xG ZQ oW)
end Go.Co
end
section
namespace Go.Di
open Go Go.Conc Go.Co Go.Proofs
variable {P:Program} {aa:Machine→Trace→Prop} {x:Cx}
theorem GW {g:FuncId} {vals:Array Value} {Post':Value→World→Prop} (hP:Plain P) (h:uX (gM P aa) P () g vals x.w (fun _=>Post')) {Post:Cx→Value→Prop} (hq:∀ v w',Post' v w'→∃ y:Cx,y.w=w'∧Post y v):er P aa x g vals Post:=by
 obtain⟨wj,c,hf,-,Jw,hwp⟩:=h
 refine⟨⟨wj,c,hf,Jw⟩,fun fr cs hc => ?_⟩
 have C:=vk (aa:=aa) hP
 rw[enter_at vals hf Jw]
 have jl:∀ (a':Act) (w':World) (todo:List Item),(a'.defers=[]∧∃ v,ResultsC P wj a'.tmps v∧Post' v w') →
   gM P aa () (G { (base g).at a' todo with mode := .returning } (fr::cs)) w':=by
  rintro a' w' todo ⟨hd,v,hr,hp⟩
  obtain⟨y,rfl,hy⟩:=hq v w' hp
  refine C.go (fun w₁ => ?_) (hc y v hy)
  rw[stepG_leave (b:=base g) rfl hd hf (hr w₁).1 (hr w₁).2]
 refine hwp (base g) [] _ rfl (by simp[base]) fun γ' e a' w' q => ?_
 cases e with
 | normal=>exact C.go (fun _=>stepG_end) (jl a' w' [] q)
 | ret=>exact fun todo=>jl a' w' todo q
 | exit id=>exact q.elim
 | goto l=>exact q.elim
 | panic ch=>exact q.elim
 | outgrown=>exact q.elim
def BM (v:Value) (n:Nat) (b o:Nat):Prop:=v.ownBlock=some b∧o<n
def Cx.xM (x:Cx) (w':World) (v:Value) (n:Nat):Cx:={ x with w:=w',Fz:=fun b o=>x.Fz b o∨BM v n b o }
section
variable {w':World} {v:Value} {e:TypeId} {s n:Nat} {xs:List Value}
theorem pQ (hR:Rel x) (hs:x.w.heap.size≤w'.heap.size) (he:w'.os=x.w.os∧w'.output=x.w.output) (ho:∀ b,b<x.w.heap.size→w'.heap[b]? = x.w.heap[b]?) (hr:w'.ownsRow x.w.heap.size e s v n xs):bE x (x.xM w' v (n*s)) where
 size:=hs
 env:=he
 fz:=fun b o h=>⟨.inl h,by
  obtain⟨u,hu⟩:=hR.xH b o h
  exact cell_of_block (ho b (World.block_lt_of_cell? _ ⟨b,o,none⟩ hu)) o⟩
 Ho:=fun b o h=>h.imp id fun h => .inl (hr.lt b h.1).1
 old:=fun b hb _=>ho b hb
 len:=ai _
 cells:=fun id l h=>⟨rfl,l,h⟩
 dD:=fun id b h hb=>⟨rfl,⟨b,h,eu hb⟩,fun hd=>by
  obtain⟨o,h1,-⟩:=hR.dD id b h hb
  exact ho _ (aG.1 h1).1⟩
 dz:=fun t e s n h=>⟨n,h,ai _,fun _=>⟨rfl,rfl⟩⟩
 live:=fun i h => .inl ⟨h,rfl⟩
 ops:=fun _ _ _ l z h=>⟨l,z,h,ai _,fun e=>⟨rfl,e⟩,fun _=>⟨rfl,rfl⟩⟩
theorem wY (hR:Rel x) (hs:x.w.heap.size≤w'.heap.size) (he:w'.os=x.w.os∧w'.output=x.w.output) (ho:∀ b,b<x.w.heap.size→w'.heap[b]? = x.w.heap[b]?) (hr:w'.ownsRow x.w.heap.size e s v n xs):Rel (x.xM w' v (n*s)):=by
 have M:=pQ hR hs he ho hr
 have hlt:∀ {b:Nat} {o:Obj},x.w.heap[b]? = some o→b<x.w.heap.size:=fun h=>(aG.1 h).1
 have uG:∀ b o,BM v (n*s) b o→x.w.heap.size≤b:=fun b o h=>(hr.lt b h.1).1
 refine⟨fun id l hl => ?_,fun id e' s' n' hl => ?_,fun id b hl hb => ?_,hR.inj,fun b o h => ?_,fun id hl o h => ?_,fun id e' s' n' hl o h => ?_,fun id e' s' l z hl => ?_⟩
 ·obtain⟨arr,e',h1,h2,h3⟩:=hR.cells id l hl
  exact⟨arr,e',(ho _ (hlt h1)).trans h1,h2,fun j c hc=>(h3 j c hc).mono M⟩
 ·obtain⟨arr,h1,h2⟩:=hR.dz id e' s' n' hl
  exact⟨arr,(ho _ (hlt h1)).trans h1,h2⟩
 ·obtain⟨o,h1,h2⟩:=hR.dD id b hl hb
  exact⟨o,(ho _ (hlt h1)).trans h1,h2.mono M⟩
 ·rcases h with h | h
  ·obtain⟨u,hu⟩:=hR.xH b o h
   exact⟨u,((M.fz b o h).2).trans hu⟩
  ·obtain⟨hv,hon⟩:=h
   rcases hr.2 with ⟨rfl,-⟩ | ⟨g,cap,cur,rfl,hb,hg,hn,hc,nK,ht⟩
   ·simp[Value.ownBlock] at hv
   ·simp only[Value.ownBlock,az] at hv
    subst hv
    have:o<cur.size:=by rw[nK]; exact cz hon (eR _ hn)
    exact⟨cur[o],by simp only[World.cell?,Cx.xM,hg]; exact bL this⟩
 ·rcases h with h | h
  ·exact hR.sep id hl o h
  ·obtain⟨l,hl⟩:=hl
   obtain⟨arr,e',h1,-⟩:=hR.cells id l hl
   have:=uG _ _ h
   have:=hlt h1
   show False
   change x.w.heap.size≤x.μ id at *
   omega
 ·rcases h with h | h
  ·exact hR.ng id e' s' n' hl o h
  ·obtain⟨arr,h1,-⟩:=hR.dz id e' s' n' hl
   have h3:=uG _ _ h
   have h4:=hlt h1
   change x.w.heap.size≤x.μ id at h3
   omega
 ·obtain⟨arr,h1,h2,h3,h4,h5,h6,h7⟩:=hR.ops id e' s' l z hl
  refine⟨arr,(ho _ (hlt h1)).trans h1,h2,h3,h4,fun j c hc=>⟨(h5 j c hc).1,(h5 j c hc).2.mono M⟩,fun hz j hj => .inl (h6 hz j hj),fun hz o h => ?_⟩
  rcases h with h | h
  ·exact h7 hz o h
  ·have h3:=uG _ _ h
   have h4:=hlt h1
   change x.w.heap.size≤x.μ id at h3
   omega
theorem Ai {rows:List DV} (hn:rows.length=n) (mL:∀ r∈rows,r.cells.length=s) (rH:flat rows=xs.map .val) (xF:∀ u∈xs,wE u=true∧(DV.val u).bF=true) (hr:w'.ownsRow x.w.heap.size e s v n xs):RV (x.xM w' v (n*s)) (.sl rows none ⟨false,none⟩) v:=by
 have hlen:=hr.1
 have sZ:∀ (j:Nat) (c:DV),(flat rows)[j]? = some c→∃ u,xs[j]? = some u∧c=DV.val u∧wE u=true∧c.bF=true:=by
  intro j c hc
  rw[rH,en,ah] at hc
  obtain⟨u,h1,rfl⟩:=hc
  have:=xF u (cW h1)
  exact⟨u,h1,rfl,this.1,this.2⟩
 subst hn
 rcases hr.2 with ⟨rfl,h0⟩ | ⟨g,cap,cur,rfl,hb,hg,hn,hc,nK,ht⟩
 ·have YT:rows=[]:=dm h0
  subst YT
  exact RV.sl (rows:=[]) (A:=none) (cap:=0) (s:=0) (vs:=fun _=>undef) ⟨by simp,by simp[flat]⟩ (by simp[flat]) (ai _) ⟨fun _=>rfl,fun b h=>nomatch h⟩ (fun _=>rfl) (fun _ h _=>by cases h) (fun t ht=>by cases ht)
 ·have bh:∀ j u,xs[j]? = some u→cur[j]? = some u∧j<rows.length*s:=by
   intro j u hu
   rw[← ht,mb] at hu
   split at hu
   ·exact⟨by simpa using hu,‹_›⟩
   ·cases hu
  refine RV.sl (s:=s) (vs:=fun j=>xs.getD j undef) ⟨mL,fun j c MU => ?_⟩ (fun j c MU => ?_) hn ⟨by simp,fun b h=>nomatch h⟩ (by simp) (fun ad h _=>by cases h; rfl) (fun t ht=>nomatch ht)
  ·obtain⟨u,h1,rfl,h2,h3⟩:=sZ j c MU
   obtain⟨h4,h5⟩:=bh j u h1
   refine⟨h3,g,0,rfl,.inr ⟨rfl,by omega⟩,?_⟩
   simp[World.cell?,Cx.xM,hg,h4,aO,h1]
  ·obtain⟨u,h1,rfl,h2,h3⟩:=sZ j c MU
   simp only[aO,h1,Option.getD_some]
   exact .val h2
end
def xS:List DV→Option (List Int)
 | []=>some []
 | .val (.int .i64 n)::l=>(xS l).map (n::·)
 | _=>none
def NF:DV→Option (List Int)
 | .sl rows _ _=>xS rows
 | _=>none
def E9:List DV→Option (List (List Int))
 | []=>some []
 | d::l=>match NF d,E9 l with
  | some r,some rs=>some (r::rs)
  | _,_=>none
def VW:DV→Option Wk
 | .agg [_,_,.val (.int .i64 bX),l,u0,l0,u1,l1,u2,l2,u3,l3]=>match NF l,E9 [u0,u1,u2,u3],E9 [l0,l1,l2,l3] with
  | some l,some us,some ls=>some ⟨l,bX,fun i=>us.getD i [],fun i=>ls.getD i []⟩
  | _,_,_=>none
 | _=>none
def RX (l:List Int):Bool:=decide (l.length≤1000)&&l.all fun x=>decide (0≤x)&&decide (x≤9)
def Sk:List Int→Bool
 | []=>true
 | a::l=>l.all (fun b=>decide (a<b))&&Sk l
def wkB (d:Wk):Bool:=decide (d.aY.length≤1000)&&d.aY.all (fun x=>decide (0≤x)&&decide (x≤3))&&decide (0≤d.bX)&&decide (d.bX≤1000) &&
 (List.range 4).all (fun i=>RX (d.up i)&&RX (d.lo i))&&Sk d.aY
def smD (m:Sm):DV := .agg [.val (.int .i64 m.1),.val (.int .i64 m.2.1),.val (.int .i64 m.2.2)]
def HR (a b:DV):Option DV:=match VW a,VW b with
 | some da,some db=>if wkB da&&wkB db then some (.sl ((dQ da db).map smD) none ⟨false,none⟩) else none
 | _,_=>none
theorem Ku {l:List Int} (h:RX l=true):Rb l:=by
 simp only[RX,aB,bJ,aW] at h
 exact⟨h.1,fun i x hx=>h.2 x (cW hx)⟩
theorem KQ:∀ {l:List Int},Sk l=true→Rc l
 | [],_=>List.Pairwise.nil
 | a::l,h=>by
  simp only[Sk,aB,aW,bJ] at h
  exact List.Pairwise.cons h.1 (KQ h.2)
theorem oG:∀ {l:List DV} {r:List (List Int)},E9 l=some r→r.length=l.length∧∀ i:Nat,∀ d,l[i]? = some d→NF d=some (r.getD i [])
 | [],r,h=>by cases h; simp
 | d::l,r,h=>by
  simp only[E9] at h
  split at h
  ·rename_i r1 rs h1 h2
   cases h
   obtain⟨h3,h4⟩:=oG h2
   refine⟨by simp[h3],fun i d' hd => ?_⟩
   cases i with
   | zero=>simp at hd; subst hd; simpa using h1
   | succ i=>simp at hd; simpa using h4 i d' hd
  ·cases h
theorem sr:∀ {l:List DV} {r:List Int},xS l=some r→r.length=l.length∧(∀ (i:Nat) (n:Int),r[i]? = some n→l[i]? = some (.val (.int .i64 n)))∧flat l=l
 | [],r,h=>by cases h; simp[flat]
 | .val (.int .i64 n)::l,r,h=>by
  simp only[xS,ah] at h
  obtain⟨r',h1,rfl⟩:=h
  obtain⟨h2,h3,h4⟩:=sr h1
  refine⟨by simp[h2],fun i m hm => ?_,?_⟩
  ·cases i with
   | zero=>simp at hm; subst hm; rfl
   | succ i=>simp at hm; simpa using h3 i m hm
  ·simp only[flat,gv,DV.cells] at h4 ⊢
   rw[h4]
   rfl
def Wy (w:World):So:=(fun b=>b<w.heap.size,fun _=>False)
theorem o8 {d:DV} {r:List Int} {v:Value} (hd:NF d=some r) (h:RV x d v):wm (Wy x.w) x.w v r:=by
 unfold NF at hd
 split at hd
 ·rename_i rows tok f
  obtain⟨h1,h2,h3⟩:=sr hd
  cases h with
  | @sl _ _ _ A cap s vs hv hr k1 k2 k3 k4 k5 =>
   refine⟨A,cap,by rw[h1],fun i n hn => ?_⟩
   have hc:(flat rows)[i]? = some (.val (.int .i64 n)):=by rw[h3]; exact h2 i n hn
   obtain⟨-,b,o,q1,q2,q3⟩:=hv.2 i _ hc
   have:=hr i _ hc
   generalize vs i=u at *
   cases this with
   | val _ =>
    refine⟨_,q1,?_⟩
    rw[gI]
    exact⟨.inl (World.block_lt_of_cell? _ ⟨b,o+i,none⟩ q3),q3⟩
 ·cases hd
theorem OH {d:DV} {k:Wk} {v:Value} (hd:VW d=some k) (h:RV x d v):∃ ca,v = .agg ca∧s5 (Wy x.w) x.w ca k:=by
 unfold VW at hd
 split at hd
 ·rename_i c0 c1 bX l u0 l0 u1 l1 u2 l2 u3 l3
  split at hd
  ·rename_i lr us ls h1 h2 h3
   cases hd
   cases h with
   | @agg _ ca hsz hc =>
    refine⟨ca,rfl,?_⟩
    have bh:∀ (j:Nat) d,([c0,c1,.val (.int .i64 bX),l,u0,l0,u1,l1,u2,l2,u3,l3]:List DV)[j]? = some d→∃ u,ca[j]? = some u∧RV x d u:=by
     intro j d hj
     have hlt:j<ca.size:=by rw[hsz]; exact(aJ.1 hj).1
     have:=hc j d hj
     simp only[aT,bL hlt,Option.getD_some] at this
     exact⟨ca[j],bL hlt,this⟩
    obtain⟨-,hu⟩:=oG h2
    obtain⟨-,hl⟩:=oG h3
    refine⟨?_,?_,fun i hi => ?_,fun i hi => ?_⟩
    ·obtain⟨u,q1,q2⟩:=bh 2 _ rfl
     cases q2
     exact q1
    ·obtain⟨u,q1,q2⟩:=bh 3 _ rfl
     exact⟨u,q1,o8 h1 q2⟩
    ·have:i=0∨i=1∨i=2∨i=3:=by omega
     rcases this with rfl | rfl | rfl | rfl
     ·obtain⟨u,q1,q2⟩:=bh 4 _ rfl; exact⟨u,q1,o8 (hu 0 _ rfl) q2⟩
     ·obtain⟨u,q1,q2⟩:=bh 6 _ rfl; exact⟨u,q1,o8 (hu 1 _ rfl) q2⟩
     ·obtain⟨u,q1,q2⟩:=bh 8 _ rfl; exact⟨u,q1,o8 (hu 2 _ rfl) q2⟩
     ·obtain⟨u,q1,q2⟩:=bh 10 _ rfl; exact⟨u,q1,o8 (hu 3 _ rfl) q2⟩
    ·have:i=0∨i=1∨i=2∨i=3:=by omega
     rcases this with rfl | rfl | rfl | rfl
     ·obtain⟨u,q1,q2⟩:=bh 5 _ rfl; exact⟨u,q1,o8 (hl 0 _ rfl) q2⟩
     ·obtain⟨u,q1,q2⟩:=bh 7 _ rfl; exact⟨u,q1,o8 (hl 1 _ rfl) q2⟩
     ·obtain⟨u,q1,q2⟩:=bh 9 _ rfl; exact⟨u,q1,o8 (hl 2 _ rfl) q2⟩
     ·obtain⟨u,q1,q2⟩:=bh 11 _ rfl; exact⟨u,q1,o8 (hl 3 _ rfl) q2⟩
  ·cases hd
 ·cases hd
theorem SG {d:DV} {k:Wk} (hd:VW d=some k):∀ i,4≤i→k.up i=[]∧k.lo i=[]:=by
 unfold VW at hd
 split at hd
 ·split at hd
  ·rename_i lr us ls h1 h2 h3
   cases hd
   have h4:=(oG h2).1
   have h5:=(oG h3).1
   simp only[List.length_cons,List.length_nil] at h4 h5
   intro i hi
   simp only[aO]
   rw[eS (by omega),eS (by omega)]
   exact⟨rfl,rfl⟩
  ·cases hd
 ·cases hd
theorem OI {d:DV} {k:Wk} (hd:VW d=some k) (h:wkB k=true):k.ok∧Rc k.aY:=by
 simp only[wkB,aB,bJ,aW] at h
 obtain⟨⟨⟨⟨⟨h1,h2⟩,h3⟩,h4⟩,h5⟩,h6⟩:=h
 have far:=SG hd
 refine⟨⟨h1,fun i x hx=>h2 x (cW hx),⟨h3,h4⟩,fun i => ?_,fun i => ?_⟩,KQ h6⟩
 ·rcases Nat.lt_or_ge i 4 with hi | hi
  ·exact Ku (h5 i (by simpa using hi)).1
  ·rw[(far i hi).1]; exact⟨by simp,by simp⟩
 ·rcases Nat.lt_or_ge i 4 with hi | hi
  ·exact Ku (h5 i (by simpa using hi)).2
  ·rw[(far i hi).2]; exact⟨by simp,by simp⟩
theorem Qz (l:List Sm):flat (l.map smD)=(l.flatMap oT).map .val:=by
 induction l with
 | nil=>rfl
 | cons m l ih =>
  simp only[flat,bD,gv,kN] at ih ⊢
  rw[ih]
  rfl
theorem GH {a b d:DV} (h:HR a b=some d) {vals:Array Value} (hR:Rel x) (ha:fR x [a,b] vals):er Tryz.prog aa x 60 vals fun y u=>y.S=x.S∧Rel y∧bE x y∧RV y d u:=by
 unfold HR at h
 split at h
 ·rename_i da db h1 h2
  split at h
  ·rename_i hb
   cases h
   simp only[aB] at hb
   obtain⟨sH,ZQ⟩:=OI h1 hb.1
   obtain⟨xG,oW⟩:=OI h2 hb.2
   obtain⟨hsz,bh⟩:=ha
   have e:vals=#[vals.getD 0 undef,vals.getD 1 undef]:=by
    obtain⟨l⟩:=vals
    match l,hsz with
    | [u,v],_=>rfl
   obtain⟨ca,hca,Zt⟩:=OH h1 (bh 0 _ rfl)
   obtain⟨cb,hcb,Zs⟩:=OH h2 (bh 1 _ rfl)
   rw[hca,hcb] at e
   subst e
   have key:=S5 (aa:=aa) sH xG ZQ oW Zt Zs
   refine GW jx (IU (Post':=fun v w'=>x.w.heap.size≤w'.heap.size∧(w'.os=x.w.os∧w'.output=x.w.output)∧(∀ b,b<x.w.heap.size→w'.heap[b]? = x.w.heap[b]?)∧w'.ownsRow x.w.heap.size 79 3 v (dQ da db).length ((dQ da db).flatMap oT)) (fun γ' v w w1 hp _ r => ?_) key) fun v w' hp => ?_
   ·obtain⟨hk,ho⟩:=hp
    refine⟨bk hk.size r.1,⟨r.2.2.2.1.trans hk.env.1,r.2.2.2.2.trans hk.env.2⟩,fun b hb => ?_,(ho.rely r).1⟩
    have ew:(Wy x.w).all b := .inl hb
    exact(r.2.1 b (hk.all ew)).trans (hk.blk b ew hb)
   ·obtain⟨p1,p2,p3,p4⟩:=hp
    refine⟨x.xM w' v ((dQ da db).length*3),rfl,rfl,wY hR p1 p2 p3 p4,pQ hR p1 p2 p3 p4,Ai (by simp) (fun r hr => ?_) (Qz _) (fun u hu => ?_) p4⟩
    ·simp only[fN] at hr
     obtain⟨m,-,rfl⟩:=hr
     rfl
    ·simp only[List.mem_flatMap,oT,bt,dL,or_false] at hu
     obtain⟨m,-,rfl | rfl | rfl⟩:=hu<;>exact⟨rfl,rfl⟩
  ·cases h
 ·cases h
end Go.Di
end
section
namespace Go.Proofs
open Go.Shelf Go.RowKit Go.Lib Go.Sort
def Tryz.EB:Go.Shelf.Ren:=⟨fun | 41=>91 | n=>n,fun | 22=>23 | 23=>3 | 4=>4 | n=>n,fun | n=>n⟩
theorem Tryz.Az:Go.Proofs.SlLaysN.n41 Tryz.prog Tryz.EB:={
  mixed:=by kernel_rfl
  f41:=⟨Tryz.f91.name,by decide,Tryz.func91.trans (congrArg some (by kernel_rfl))⟩
  t4:=Tryz.underlying4
  a4:=Tryz.isAgg4
  z4:=Tryz.sizeOf4
  v4:=Tryz.zeroValue4
  t22:=Tryz.underlying23
  a22:=Tryz.isAgg23
  z22:=Tryz.sizeOf23
  v22:=Tryz.zeroValue23
  t23:=Tryz.underlying3
  a23:=Tryz.isAgg3
  z23:=Tryz.sizeOf3
  v23:=Tryz.zeroValue3
  i23:=by kernel_rfl }
def Tryz.Bp:Go.Shelf.Ren:=⟨fun | 35=>153 | n=>n,fun | 22=>23 | 23=>3 | 3=>3 | 4=>4 | 0=>0 | n=>n,fun | n=>n⟩
theorem Tryz.uj:Go.Proofs.SlLaysN.n35 Tryz.prog Tryz.Bp:={
  mixed:=by kernel_rfl
  f35:=⟨Tryz.f153.name,by decide,Tryz.func153.trans (congrArg some (by kernel_rfl))⟩
  t0:=Tryz.underlying0
  a0:=Tryz.isAgg0
  z0:=Tryz.sizeOf0
  v0:=Tryz.zeroValue0
  t3:=Tryz.underlying3
  a3:=Tryz.isAgg3
  z3:=Tryz.sizeOf3
  v3:=Tryz.zeroValue3
  t4:=Tryz.underlying4
  a4:=Tryz.isAgg4
  z4:=Tryz.sizeOf4
  v4:=Tryz.zeroValue4
  t22:=Tryz.underlying23
  a22:=Tryz.isAgg23
  z22:=Tryz.sizeOf23
  v22:=Tryz.zeroValue23
  t23:=Tryz.underlying3
  a23:=Tryz.isAgg3
  z23:=Tryz.sizeOf3
  v23:=Tryz.zeroValue3 }
set_option maxHeartbeats 1000000 in
theorem Tryz.Te (b off n c:Nat) (zs:List Int) (w:World) (hz:n≤zs.length) (Sb:n*8≤140737488355328) (hc:∀ j,j<zs.length→w.cell? ⟨b,off+j,none⟩=some (.int .i64 (zs.getD j 0))) :
    Calls Tryz.prog 133 #[.slice (some ⟨b,off,none⟩) n c] w fun e w'=>∃ v',e = .returned v'∧w'.ownsRow w.heap.size 3 1 v' n ((zs.take n).reverse.map (Value.int .i64))∧Below w.heap.size w w':=by
  have Ig:=AnyG.slices_Clone_int Tryz.Az b off n c zs w hz Sb hc
  clear hc
  go_enter Tryz.func133,Tryz.ntmps133
  go_wp2_with (first
    | (go_at_call 91; refine Ig.mono ?_; rintro e w1 ⟨v1,rfl,eA,Nk,zH⟩
       obtain⟨g,cap,rfl,hbg,_,_,hcm,hlen,hH⟩:=Lib.holds_of_ownsRow eA Nk
       have aao:=AnyG.slices_Reverse_int Tryz.uj g 0 cap (zs.take n) w1 hH (by unfold maxLen at hcm; omega)
       rw[hlen] at aao
       have X:Aside (w1.ownsRow w.heap.size 3 1 (.slice (some ⟨g,0,none⟩) n cap) n ((zs.take n).map (Value.int .i64))∧Below w.heap.size w w1∧w.heap.size≤g):=⟨eA,zH,hbg⟩
       clear eA zH hH Nk)
    | (go_at_call 153; refine aao.mono ?_; rintro e w2 ⟨rfl,q,rfl⟩))
  go_ret
  have hy:(zs.take n).reverse.length=n:=by simpa using hlen
  have h1:=Lib.ownsRow_putRow (q:=q) (ys:=(zs.take n).reverse) X.out.1 hy (ai n)
  rw[vq (Nat.le_of_eq hy)] at h1
  exact⟨_,rfl,by simpa [List.map_reverse,List.map_take] using h1,Lib.below_putRow X.out.2.1 X.out.2.2⟩
theorem Tryz.rev_zero (a:Addr) (c:Nat) (w:World) :
    Calls Tryz.prog 133 #[.slice (some a) 0 c] w fun e w'=>∃ v',e = .returned v'∧w'.ownsRow w.heap.size 3 1 v' 0 []∧Below w.heap.size w w':=by
  have Ig:=AnyG.slices_Clone_int_zero Tryz.Az a c w
  go_enter Tryz.func133,Tryz.ntmps133
  go_wp2_with (first
    | (go_at_call 91; refine Ig.mono ?_; rintro e w1 ⟨v1,rfl,eA,Nk,zH⟩
       obtain⟨g,cap,rfl,_,_,_,_,_,_⟩:=Lib.holds_of_ownsRow (enc:=Value.int .i64) (zs:=[]) eA Nk
       have X:Aside (w1.ownsRow w.heap.size 3 1 (.slice (some ⟨g,0,none⟩) 0 cap) 0 []∧Below w.heap.size w w1):=⟨eA,zH⟩
       clear eA zH Nk)
    | (go_at_call 153; refine(AnyG.slices_Reverse_int_empty Tryz.uj _ _ _).mono ?_; rintro e w2 ⟨rfl,rfl⟩))
  go_ret
  exact⟨_,rfl,X.out.1,X.out.2⟩
theorem Tryz.Tc (n c:Nat) (w:World) :
    Calls Tryz.prog 133 #[.slice none n c] w fun e w'=>e = .returned (.slice none 0 0)∧w'=w:=by
  go_enter Tryz.func133,Tryz.ntmps133
  go_wp2_with (first
    | (go_at_call 91; refine(AnyG.slices_Clone_int_nil Tryz.Az n c _).mono ?_; rintro e w' ⟨rfl,rfl⟩)
    | (go_at_call 153; refine(AnyG.slices_Reverse_int_empty Tryz.uj none 0 _).mono ?_; rintro e w' ⟨rfl,rfl⟩))
  go_ret
  exact⟨rfl,rfl⟩
end Go.Proofs
namespace Go.Di
open Go Go.Conc Go.Co Go.Proofs
variable {P:Program} {aa:Machine→Trace→Prop} {x:Cx}
theorem yA {g:FuncId} {vals:Array Value} {fn:Func} {c:Code} {R:Value→World→Prop} (hP:Plain P) (hf:P.funcs[g]? = some fn) (hb:fn.body=some c) (kU:∀ τ,Calls P g vals (x.w.re τ 0) fun e w'=>∃ v,e = .returned v∧R v w')
    {Post:Cx→Value→Prop} (hq:∀ v w',R v w'→∀ τ d,∃ y:Cx,y.w=w'.re τ d∧Post y v):er P aa x g vals Post:=by
  refine⟨⟨fn,c,hf,hb⟩,fun fr cs hc=>Ks hP fun _ τ => ?_⟩
  obtain⟨e,w',fr',⟨v,rfl,hR⟩,Ie,Nr,jl⟩:=kU τ (fr::cs)
  obtain⟨n,hn⟩:=Steps.trans Ie (Steps.one (step_leave_returned jl))
  refine⟨n,_,w',hn,rfl,rfl,fun τ d => ?_⟩
  obtain⟨y,hy,hp⟩:=hq v w' hR τ d
  have:=hc y v hp
  rw[hy] at this
  exact this
def RM:DV→Option DV
  | .sl rows _ _=>match xS rows with
    | some l=>if l.length≤1000000 then some (.sl (l.reverse.map fun n => .val (.int .i64 n)) none ⟨false,none⟩) else none
    | none=>none
  | _=>none
theorem CW (l:List Value):flat (l.map DV.val)=l.map DV.val:=by
  induction l with
  | nil=>rfl
  | cons m l ih =>
    simp only[flat,bD,gv] at ih ⊢
    rw[ih]
    rfl
theorem LM {a d:DV} (h:RM a=some d) {vals:Array Value} (hR:Rel x) (ha:fR x [a] vals):er Tryz.prog aa x 133 vals fun y u=>y.S=x.S∧Rel y∧bE x y∧RV y d u:=by
  unfold RM at h
  split at h
  · rename_i rows tok f
    split at h
    · rename_i l hl
      split at h
      · rename_i hlen
        cases h
        obtain⟨h1,h2,h3⟩:=sr hl
        obtain⟨hsz,bh⟩:=ha
        have e:vals=#[vals.getD 0 undef]:=by
          obtain⟨l⟩:=vals
          match l,hsz with
          | [u],_=>rfl
        have hv:=bh 0 _ rfl
        generalize vals.getD 0 undef=u at e hv
        subst e
        cases hv with
        | @sl _ _ _ A cap s vs hv hr k1 k2 k3 k4 k5 =>
          have kU:∀ τ,Calls Tryz.prog 133 #[.slice A rows.length cap] (x.w.re τ 0) fun e w'=>∃ v,e = .returned v∧(x.w.heap.size≤w'.heap.size∧(w'.os=x.w.os∧w'.output=x.w.output)∧(∀ b,b<x.w.heap.size→w'.heap[b]? = x.w.heap[b]?)∧w'.ownsRow x.w.heap.size 3 1 v l.length (l.reverse.map (Value.int .i64))):=by
            intro τ
            cases A with
            | none =>
              have h0:rows.length=0:=by have:=k3 rfl; omega
              have We:l=[]:=dm (by omega)
              subst We
              refine(Tryz.Tc rows.length cap (x.w.re τ 0)).mono ?_
              rintro e w' ⟨rfl,rfl⟩
              exact⟨_,rfl,ai _,⟨rfl,rfl⟩,fun _ _=>rfl,World.ownsRow_nil _ _ _ _⟩
            | some ad =>
              have hz:rows.length=l.length:=h1.symm
              by_cases h0:l.length=0
              · have We:l=[]:=dm h0
                subst We
                rw[hz]
                refine(Tryz.rev_zero ad cap (x.w.re τ 0)).mono ?_
                rintro e w' ⟨v,rfl,ho,hb⟩
                exact⟨_,rfl,hb.size,⟨hb.os,hb.output⟩,hb.block,ho⟩
              · have hs:=k4 ad rfl (by omega)
                obtain⟨b,o,sp⟩:=ad
                simp only at hs
                subst hs
                rw[hz]
                refine(Tryz.Te b o l.length cap l (x.w.re τ 0) (ai _) (by omega) fun j hj => ?_).mono ?_
                · have hc:(flat rows)[j]? = some (.val (.int .i64 (l.getD j 0))):=by
                    rw[h3]
                    refine h2 j _ ?_
                    simp[aO,hj]
                  obtain⟨-,b',o',q1,q2,q3⟩:=hv.2 j _ hc
                  cases q1
                  have:=hr j _ hc
                  generalize vs j=u at *
                  cases this with
                  | val _=>exact q3
                · rintro e w' ⟨v,rfl,ho,hb⟩
                  rw[fo] at ho
                  exact⟨_,rfl,hb.size,⟨hb.os,hb.output⟩,hb.block,ho⟩
          refine yA jx Tryz.func133 rfl kU fun v w' hp τ d => ?_
          obtain⟨p1,p2,p3,p4⟩:x.w.heap.size≤(w'.re τ d).heap.size∧((w'.re τ d).os=x.w.os∧(w'.re τ d).output=x.w.output)∧(∀ b,b<x.w.heap.size→(w'.re τ d).heap[b]? = x.w.heap[b]?)∧(w'.re τ d).ownsRow x.w.heap.size 3 1 v l.length (l.reverse.map (Value.int .i64)):=hp
          refine⟨x.xM (w'.re τ d) v (l.length*1),rfl,rfl,wY hR p1 p2 p3 p4,pQ hR p1 p2 p3 p4,Ai (by simp) (fun r hr => ?_) ?_ (fun u hu => ?_) p4⟩
          · simp only[fN] at hr
            obtain⟨m,-,rfl⟩:=hr
            rfl
          · have:=CW (l.reverse.map (Value.int .i64))
            simpa only [List.map_map,Function.comp_def] using this
          · simp only[fN] at hu
            obtain⟨m,-,rfl⟩:=hu
            exact⟨rfl,rfl⟩
      · cases h
    · cases h
  · cases h
end Go.Di
end
section
namespace Go.Proofs
open Go.RowKit
theorem Uh {l:List Int} {k:Nat} (hk:k<l.length):((l.take k).map (Value.int .i64)++List.replicate (l.length-k) (Value.int .i64 0)).set k (.int .i64 (l.getD k 0))=(l.take (k+1)).map (Value.int .i64)++List.replicate (l.length-(k+1)) (.int .i64 0):=by
 have e:((l.take k).map (Value.int .i64)).length=k:=by rw[jh,lY]; omega
 rw[List.set_append_right _ _ (by omega),e,Nat.sub_self,show l.length-k=(l.length-(k+1))+1 by omega,List.replicate_succ,List.set_cons_zero,List.take_add_one,kN,jQ]
 congr 1
 simp[aO,hk]
theorem Tryz.Uq {w:World} {a:Addr} {v:Value} (h:w.cell? a=some v):a.block<w.heap.size:=by
 by_cases hb:a.block<w.heap.size
 ·exact hb
 ·simp[World.cell?,jR (Nat.le_of_not_lt hb)] at h
set_option maxRecDepth 100000 in
set_option maxHeartbeats 1000000 in
theorem Tryz.Ui (A:Option Addr) (cap:Nat) (l:List Int) (w:World) (hl:l.length≤1000) (hR:l≠[]→∃ b off,A=some ⟨b,off,none⟩∧∀ j,j<l.length→w.cell? ⟨b,off+j,none⟩=some (.int .i64 (l.getD j 0))) :
  Calls Tryz.prog 43 #[.slice A l.length cap] w fun e w'=>e = .returned (.slice (some ⟨w.heap.size,0,none⟩) l.length l.length)∧w'.ownsRow w.heap.size 3 1 (.slice (some ⟨w.heap.size,0,none⟩) l.length l.length) l.length (l.map (Value.int .i64))∧Below w.heap.size w w':=by
 obtain⟨i0,hi,EO,ML,YM⟩:=info_parts Co.Of
 have kE:=Lib.hid hR
 clear hR
 have hm:l.length≤maxLen:=by unfold maxLen; omega
 go_enter Tryz.func43,Tryz.ntmps43
 go_wp2_with (first | (at_make; go_loud (refine wpList_make_full _ rfl _ _ 23 rfl w.heap.size 3 i0 (.int .i64 0) 1 Tryz.underlying23 hi EO ML _ _ _ _ l.length rfl rfl rfl rfl (by rw[YM]; omega) hm (ai _) ?_)))
 intro w1 eA Om
 go_wp2
 go_loopw [4] (fun i wr=>∃ k:Nat,k≤l.length∧i = .int .i64 (k:Int)∧wr.ownsRow w.heap.size 3 1 (.slice (some ⟨w.heap.size,0,none⟩) l.length l.length) l.length ((l.take k).map (Value.int .i64)++List.replicate (l.length-k) (.int .i64 0))∧Below w.heap.size w wr) (fun i _=>l.length-(intOf i).toNat)
 ·refine⟨0,jN _,rfl,?_,(Below.refl _ _).grown Om (ai _) (fun g h=>by cases h)⟩
  rw[toList_madeCells_one] at eA
  simpa using eA
 ·obtain⟨k,hk,rfl,tD,zH⟩:=hrel
  by_cases Wi:k<l.length
  ·obtain⟨b,off,rfl,hc⟩:=kE.out (fun e=>by subst e; simp at Wi)
   have sZ:wr.cell? ⟨b,off+k,none⟩=some (.int .i64 (l.getD k 0)):=(zH.cell (p:=⟨b,off+k,none⟩) (Tryz.Uq (hc k Wi))).trans (hc k Wi)
   have Hu:=tD.frozenAt k
   have qC:wr.cell? ⟨w.heap.size,k,none⟩=some (.int .i64 0):=by
    rw[tD.cellAt k (by omega),fQ (by rw[jh,lY]; omega),nH,if_pos (by rw[jh,lY]; omega)]
   have st:=Lib.hid (tD.stored k (.int .i64 (l.getD k 0)))
   have mo:=Lib.hid zH
   clear tD zH hc eA Om
   go_wp2
   refine⟨⟨k+1,by omega,by go_num,?_,?_⟩,by simp[intOf]; omega⟩
   ·have:=st.out.1
    rw[Uh Wi] at this
    simpa [aO,Wi] using this
   ·exact mo.out.setCell (ai _) _
  ·clear eA Om
   rw[show k=l.length by omega,fo,Nat.sub_self,List.replicate_zero,gu] at tD
   have st:=Lib.hid tD
   have mo:=Lib.hid zH
   clear tD zH
   go_wp2
   go_ret
   exact⟨rfl,st.out,mo.out⟩
end Go.Proofs
namespace Go.Di
open Go Go.Conc Go.Co Go.Proofs
variable {P:Program} {aa:Machine→Trace→Prop} {x:Cx}
def Sf:DV→Option DV
 | .sl rows _ _=>match xS rows with
  | some l=>if l.length≤1000 then some (.sl (l.map fun n => .val (.int .i64 n)) none ⟨false,none⟩) else none
  | none=>none
 | _=>none
theorem Mw {a d:DV} (h:Sf a=some d) {vals:Array Value} (hR:Rel x) (ha:fR x [a] vals):er Tryz.prog aa x 43 vals fun y u=>y.S=x.S∧Rel y∧bE x y∧RV y d u:=by
 unfold Sf at h
 split at h
 ·rename_i rows tok f
  split at h
  ·rename_i l hl
   split at h
   ·rename_i hlen
    cases h
    obtain⟨h1,h2,h3⟩:=sr hl
    obtain⟨hsz,bh⟩:=ha
    have e:vals=#[vals.getD 0 undef]:=by
     obtain⟨l⟩:=vals
     match l,hsz with
     | [u],_=>rfl
    have hv:=bh 0 _ rfl
    generalize vals.getD 0 undef=u at e hv
    subst e
    cases hv with
    | @sl _ _ _ A cap s vs hv hr k1 k2 k3 k4 k5 =>
     have kU:∀ τ,Calls Tryz.prog 43 #[.slice A rows.length cap] (x.w.re τ 0) fun e w'=>∃ v,e = .returned v∧(x.w.heap.size≤w'.heap.size∧(w'.os=x.w.os∧w'.output=x.w.output)∧(∀ b,b<x.w.heap.size→w'.heap[b]? = x.w.heap[b]?)∧w'.ownsRow x.w.heap.size 3 1 v l.length (l.map (Value.int .i64))):=by
      intro τ
      have hz:rows.length=l.length:=h1.symm
      rw[hz]
      refine(Tryz.Ui A cap l (x.w.re τ 0) hlen fun hne => ?_).mono ?_
      ·have BO:0<l.length:=List.length_pos_iff.2 hne
       have hc:∀ j,j<l.length→(flat rows)[j]? = some (.val (.int .i64 (l.getD j 0))):=fun j hj=>by
        rw[h3]
        refine h2 j _ ?_
        simp[aO,hj]
       obtain⟨-,b,o,q1,-,-⟩:=hv.2 0 _ (hc 0 BO)
       refine⟨b,o,q1,fun j hj => ?_⟩
       obtain⟨-,b',o',q2,q3,q4⟩:=hv.2 j _ (hc j hj)
       rw[q1] at q2
       cases q2
       have:=hr j _ (hc j hj)
       generalize vs j=u at *
       cases this with
       | val _=>exact q4
      ·rintro e w' ⟨rfl,ho,hb⟩
       exact⟨_,rfl,hb.size,⟨hb.os,hb.output⟩,hb.block,ho⟩
     refine yA jx Tryz.func43 rfl kU fun v w' hp τ d => ?_
     obtain⟨p1,p2,p3,p4⟩:x.w.heap.size≤(w'.re τ d).heap.size∧((w'.re τ d).os=x.w.os∧(w'.re τ d).output=x.w.output)∧(∀ b,b<x.w.heap.size→(w'.re τ d).heap[b]? = x.w.heap[b]?)∧(w'.re τ d).ownsRow x.w.heap.size 3 1 v l.length (l.map (Value.int .i64)):=hp
     refine⟨x.xM (w'.re τ d) v (l.length*1),rfl,rfl,wY hR p1 p2 p3 p4,pQ hR p1 p2 p3 p4,Ai (by simp) (fun r hr => ?_) ?_ (fun u hu => ?_) p4⟩
     ·simp only[fN] at hr
      obtain⟨m,-,rfl⟩:=hr
      rfl
     ·have:=CW (l.map (Value.int .i64))
      simpa only [List.map_map,Function.comp_def] using this
     ·simp only[fN] at hu
      obtain⟨m,-,rfl⟩:=hu
      exact⟨rfl,rfl⟩
   ·cases h
  ·cases h
 ·cases h
end Go.Di
end
