import Derived.Test.YtedcgbkilmlbhaaGreatPk32
import Derived.Test.YtedcgbkilmlbhaaGreatPk28
import Derived.WalkKit
import Derived.Deep.LoopGhost
import Derived.Ground.SlgnProg
import Derived.Shelf.Lay
import Derived.Shelf.SlicesG.Clone
import Derived.Shelf.SlicesG.Reverse
import Derived.Lib.OwnBridge
import Derived.OwnWalk
section
namespace Go.Proofs
open Go.Shelf Go.RowKit Go.Lib Go.Sort Go.Co
theorem Tryz.Yq (g cap:Nat) (d:Array Sm) (w:World) (hH:HoldsK pH 3 w g 0 d) (hg:g<w.heap.size) (hsz:d.size<4611686018427387904) :
  Calls Tryz.prog 105 #[.slice (some ⟨g,0,none⟩) d.size cap,.func (.func 106) #[] #[]] w fun e w'=>e = .returned (.tuple #[])∧∃ d' n os,PermIn 0 d.size d d'∧SortedIn (ltOf u5) 0 d.size d'∧w'=sortWorldK pH 3 w g 0 n d' os:=by
 have eg:∀ args w,(callFunc 106 args).run Tryz.prog w = .ok (.enter 106 args) w:=enters_of Tryz.func106 (by kernel_rfl) rfl
 exact AnyQ.slices_SortFunc Tryz.FX 3 Tryz.isAgg79 Tryz.sizeOf79 pH (fun _=>rfl) (fun x v hv=>by simp[pH] at hv; rcases hv with rfl | rfl | rfl<;>rfl) u5 aa0 106 #[] g 0 cap d w eg (fun _ _ _ _ x y=>Tryz.MU x y _) hH hg hsz
end Go.Proofs
namespace Go.Co
open Go Go.Conc Go.Proofs Go.Sort Go.Shelf
variable {P:Program} {aa:Machine→Trace→Prop} {γ:So} {w:World}
theorem AG {Γ:Type} {main:Bool} {K:Γ→Goroutine→World→Prop} {Rl:Γ→World→World→Prop} {St:Γ→World→Γ→World→Array Event→Prop} {fn:FuncId} {Q:Γ→Exit→Act→World→Prop} {a:Act} {ops:Array Oper} {i:Nat} {rest:List Nat} {o:Oper} (C:KC P main K Rl St) {γ:Γ} {v:Value} (ho:ops[i]? = some o) (hw:Region.wanted o (yielded ops a.tmps)=true) (hrun:∀ w,(execOp a.eval o).run P w = .ok (.value v) w) (s6:∀ w,(execOp a.eval o).events P w #[]=#[])
  (h:KO K fn γ ops rest Q (a.put o.dst v) w):KO K fn γ ops (i::rest) Q a w :=
 vr C ho hw fun w₁ r=>by rw[hrun w₁]; exact⟨γ,by rw[listed_nil (s6 w₁)]; exact C.idle _ _,Er C r h⟩
def xD (A:Nat→Prop) (B0:Nat) (w0:World) (R:List Sm) (out:Value) (w:World):Prop:=Old A B0 w0 w∧w.ownsRow B0 79 3 out R.length (R.flatMap pH)
theorem Qb {A:Nat→Prop} {B0:Nat} {w0:World} {R got:List Sm} {out:Value} (hR:R.Pairwise M6) (hlen:R.length≤4294967296) (hA:∀ b,A b→b<B0) (hO:Old A B0 w0 w) (hp:got.Perm R) (tO:w.ownsRow B0 79 3 out got.length (got.flatMap pH)) :
  Calls Tryz.prog 105 #[out,.func (.func 106) #[] #[]] w fun e w'=>∃ v,e = .returned v∧xD A B0 w0 R out w':=by
 have hl:=hp.length_eq
 rcases tO.2 with ⟨rfl,h0⟩ | ⟨g,cap,cur,rfl,hb,hg,hn,hc,ov,ht⟩
 ·have ac6:got=[]:=dY h0
  have hRn:R=[]:=dY (by omega)
  subst ac6
  subst hRn
  exact(Tryz.IG _ w).mono fun e w' ⟨he,hw⟩=>⟨_,he,by subst hw; exact⟨hO,tO⟩⟩
 ·have hlt:g<w.heap.size:=(aN.1 hg).1
  have hH:HoldsK pH 3 w g 0 got.toArray:=Ja hg (by simpa using ht)
  have h:=Tryz.Yq g cap got.toArray w hH hlt (by simp; omega)
  simp only[kg] at h
  refine h.mono ?_
  rintro e w' ⟨he,d',n,os,hpm,hs,rfl⟩
  obtain⟨hsz,-,hpm⟩:=hpm
  have hsz':d'.size=got.length:=by simpa using hsz
  have hd:d'.toList=R:=by
   refine LV ?_ (by rw[hsz']; exact hs) hR
   have h1:(d'.extract 0 got.length)=d':=by rw[← hsz']; simp
   have h2:(got.toArray.extract 0 got.length)=got.toArray:=by simp
   rw[h1,h2] at hpm
   exact hpm.trans hp
  have WO:=EO (w:=w) (g:=g) (n:=n) (os:=os) d'
  refine⟨_,he,⟨fun b mU => ?_,aM hO.2.1 WO.size,WO.os.trans hO.2.2.1,WO.output.trans hO.2.2.2⟩,?_⟩
  ·have:=hA b mU
   exact(WO.block b (cI this hO.2.1) (fun e=>by cases e; omega)).trans (hO.1 b mU)
  ·have:=EI (n:=n) (os:=os) (d:=d') hb hg (by omega) hc ov
   rw[hsz',hd] at this
   rw[← hl]
   exact this
set_option maxRecDepth 100000 in
theorem TE {da db:Wk} (sP:da.ok) (xG:db.ok) (haa:R3 da.aZ) (pK:R3 db.aZ):PG aa (dm da db):=by
 intro A B0 w0 γ' a' w' hE
 obtain⟨-,-,hS,got,out,hp,tO,u,rfl⟩:=hE
 have C:=vu (aa:=aa) jS
 unfold OM
 show KJ _ _ _ (.seq (.region _ _ false) (.seq (.region _ _ false) .ret)) _ _ _
 refine aT C (xu C ?_)
 simp only[kg,List.length_cons,List.length_nil,Nat.reduceAdd,gL,List.range,List.range.loop]
 refine AG C (v := ?v1) rfl (by rfl) (fun w=>run_eq_of fun K hK => ?r1) (fun w => ?e1) ?h1
 case r1=>go_simp; exact hK
 case e1=>simp[go_sem]
 try walk_nrm
 refine Ur jS (R:=fun _ w=>xD A B0 w0 (dm da db) out w) rfl (by rfl) rfl Tryz.func105 rfl (fun τ => ?_) (fun v w2 hR τ d => ?_)
 ·simp only[List.map_toArray,bT,fB]
  have hO:Old A B0 w0 (w'.re τ 0):=⟨hS.blk,hS.size,hS.env.1,hS.env.2⟩
  exact Qb (LY haa pK) (A1 sP xG) hS.lt hO hp tO
 ·have lR:xD A B0 w0 (dm da db) out (w2.re τ d):=hR
  generalize w2.re τ d=w3 at *
  try walk_nrm
  refine aO C ?_
  co_then
  refine aT C (xu C ?_)
  simp only[kg,List.length_cons,List.length_nil,Nat.reduceAdd,gL,List.range,List.range.loop]
  refine AG C (v := ?v2) rfl (by rfl) (fun w=>run_eq_of fun K hK => ?r2) (fun w => ?e2) ?h2
  case r2=>go_simp; exact hK
  case e2=>simp[go_sem]
  try walk_nrm
  refine AG C (v := ?v3) rfl (by rfl) (fun w=>run_eq_of fun K hK => ?r3) (fun w => ?e3) ?h3
  case r3=>go_simp; exact hK
  case e3=>simp[go_sem]
  try walk_nrm
  refine aO C ?_
  co_then
  refine z8 C ?_
  exact⟨rfl,rfl,lR.1,lR.2⟩
theorem TQ {ca cb:Array Value} {da db:Wk} (sP:da.ok) (xG:db.ok) (haa:R3 da.aZ) (pK:R3 db.aZ) (hva:tw γ w ca da) (hvb:tw γ w cb db) :
  ve (LF Tryz.prog aa) Tryz.prog (.bad,γ) 60 #[.agg ca,.agg cb] w fun γ' v w'=>γ'.1 = .bad∧Kept γ w γ'.2 w'∧j4 γ'.2 w' w.heap.size 79 3 v (dm da db).length ((dm da db).flatMap pH) :=
 GQ jS sP xG hva hvb (TE sP xG haa pK)
end Go.Co
end
section
namespace Go.Di
open Go Go.Conc Go.Co Go.Proofs
variable {P:Program} {aa:Machine→Trace→Prop} {x:Cx}
theorem Hf {g:FuncId} {vals:Array Value} {Post':Value→World→Prop} (hP:Plain P) (h:ve (ia P aa) P () g vals x.w (fun _=>Post')) {Post:Cx→Value→Prop} (hq:∀ v w',Post' v w'→∃ y:Cx,y.w=w'∧Post y v):eH P aa x g vals Post:=by
 obtain⟨uH,c,hf,-,JM,hwp⟩:=h
 refine⟨⟨uH,c,hf,JM⟩,fun fr cs hc => ?_⟩
 have C:=vu (aa:=aa) hP
 rw[enter_at vals hf JM]
 have jJ:∀ (a':Act) (w':World) (todo:List Item),(a'.defers=[]∧∃ v,ResultsC P uH a'.tmps v∧Post' v w') →
   ia P aa () (G { (base g).at a' todo with mode := .returning } (fr::cs)) w':=by
  rintro a' w' todo ⟨hd,v,hr,hp⟩
  obtain⟨y,rfl,hy⟩:=hq v w' hp
  refine C.go (fun w₁ => ?_) (hc y v hy)
  rw[stepG_leave (b:=base g) rfl hd hf (hr w₁).1 (hr w₁).2]
 refine hwp (base g) [] _ rfl (by simp[base]) fun γ' e a' w' q => ?_
 cases e with
 | normal=>exact C.go (fun _=>stepG_end) (jJ a' w' [] q)
 | ret=>exact fun todo=>jJ a' w' todo q
 | exit id=>exact q.elim
 | goto l=>exact q.elim
 | panic ch=>exact q.elim
 | outgrown=>exact q.elim
def Du (v:Value) (n:Nat) (b o:Nat):Prop:=v.ownBlock=some b∧o<n
def Cx.xL (x:Cx) (w':World) (v:Value) (n:Nat):Cx:={ x with w:=w',Fz:=fun b o=>x.Fz b o∨Du v n b o }
section
variable {w':World} {v:Value} {e:TypeId} {s n:Nat} {xs:List Value}
theorem qf (hR:Rel x) (hs:x.w.heap.size≤w'.heap.size) (he:w'.os=x.w.os∧w'.output=x.w.output) (ho:∀ b,b<x.w.heap.size→w'.heap[b]? = x.w.heap[b]?) (hr:w'.ownsRow x.w.heap.size e s v n xs):cr x (x.xL w' v (n*s)) where
 size:=hs
 env:=he
 fz:=fun b o h=>⟨.inl h,by
  obtain⟨u,hu⟩:=hR.yP b o h
  exact cell_of_block (ho b (World.block_lt_of_cell? _ ⟨b,o,none⟩ hu)) o⟩
 Ld:=fun b o h=>h.imp id fun h => .inl (hr.lt b h.1).1
 old:=fun b hb _=>ho b hb
 len:=ai _
 cells:=fun id l h=>⟨rfl,l,h⟩
 eB:=fun id b h hb=>⟨rfl,⟨b,h,eX hb⟩,fun hd=>by
  obtain⟨o,h1,-⟩:=hR.eB id b h hb
  exact ho _ (aN.1 h1).1⟩
 en:=fun t e s n h=>⟨n,h,ai _,fun _=>⟨rfl,rfl⟩⟩
 live:=fun i h => .inl ⟨h,rfl⟩
 ops:=fun _ _ _ l z h=>⟨l,z,h,ai _,fun e=>⟨rfl,e⟩,fun _=>⟨rfl,rfl⟩⟩
theorem xh (hR:Rel x) (hs:x.w.heap.size≤w'.heap.size) (he:w'.os=x.w.os∧w'.output=x.w.output) (ho:∀ b,b<x.w.heap.size→w'.heap[b]? = x.w.heap[b]?) (hr:w'.ownsRow x.w.heap.size e s v n xs):Rel (x.xL w' v (n*s)):=by
 have M:=qf hR hs he ho hr
 have hlt:∀ {b:Nat} {o:Obj},x.w.heap[b]? = some o→b<x.w.heap.size:=fun h=>(aN.1 h).1
 have wD:∀ b o,Du v (n*s) b o→x.w.heap.size≤b:=fun b o h=>(hr.lt b h.1).1
 refine⟨fun id l hl => ?_,fun id e' s' n' hl => ?_,fun id b hl hb => ?_,hR.inj,fun b o h => ?_,fun id hl o h => ?_,fun id e' s' n' hl o h => ?_,fun id e' s' l z hl => ?_⟩
 ·obtain⟨arr,e',h1,h2,h3⟩:=hR.cells id l hl
  exact⟨arr,e',(ho _ (hlt h1)).trans h1,h2,fun j c hc=>(h3 j c hc).mono M⟩
 ·obtain⟨arr,h1,h2⟩:=hR.en id e' s' n' hl
  exact⟨arr,(ho _ (hlt h1)).trans h1,h2⟩
 ·obtain⟨o,h1,h2⟩:=hR.eB id b hl hb
  exact⟨o,(ho _ (hlt h1)).trans h1,h2.mono M⟩
 ·rcases h with h | h
  ·obtain⟨u,hu⟩:=hR.yP b o h
   exact⟨u,((M.fz b o h).2).trans hu⟩
  ·obtain⟨hv,hon⟩:=h
   rcases hr.2 with ⟨rfl,-⟩ | ⟨g,cap,cur,rfl,hb,hg,hn,hc,ov,ht⟩
   ·simp[Value.ownBlock] at hv
   ·simp only[Value.ownBlock,az] at hv
    subst hv
    have:o<cur.size:=by rw[ov]; exact cI hon (ew _ hn)
    exact⟨cur[o],by simp only[World.cell?,Cx.xL,hg]; exact bQ this⟩
 ·rcases h with h | h
  ·exact hR.sep id hl o h
  ·obtain⟨l,hl⟩:=hl
   obtain⟨arr,e',h1,-⟩:=hR.cells id l hl
   have:=wD _ _ h
   have:=hlt h1
   show False
   change x.w.heap.size≤x.μ id at *
   omega
 ·rcases h with h | h
  ·exact hR.ox id e' s' n' hl o h
  ·obtain⟨arr,h1,-⟩:=hR.en id e' s' n' hl
   have h3:=wD _ _ h
   have h4:=hlt h1
   change x.w.heap.size≤x.μ id at h3
   omega
 ·obtain⟨arr,h1,h2,h3,h4,h5,h6,h7⟩:=hR.ops id e' s' l z hl
  refine⟨arr,(ho _ (hlt h1)).trans h1,h2,h3,h4,fun j c hc=>⟨(h5 j c hc).1,(h5 j c hc).2.mono M⟩,fun hz j hj => .inl (h6 hz j hj),fun hz o h => ?_⟩
  rcases h with h | h
  ·exact h7 hz o h
  ·have h3:=wD _ _ h
   have h4:=hlt h1
   change x.w.heap.size≤x.μ id at h3
   omega
theorem Am {rows:List DV} (hn:rows.length=n) (ny:∀ r∈rows,r.cells.length=s) (uM:flat rows=xs.map .val) (xF:∀ u∈xs,wL u=true∧(DV.val u).bS=true) (hr:w'.ownsRow x.w.heap.size e s v n xs):RV (x.xL w' v (n*s)) (.sl rows none ⟨false,none⟩) v:=by
 have hlen:=hr.1
 have tj:∀ (j:Nat) (c:DV),(flat rows)[j]? = some c→∃ u,xs[j]? = some u∧c=DV.val u∧wL u=true∧c.bS=true:=by
  intro j c hc
  rw[uM,fQ,ah] at hc
  obtain⟨u,h1,rfl⟩:=hc
  have:=xF u (dL h1)
  exact⟨u,h1,rfl,this.1,this.2⟩
 subst hn
 rcases hr.2 with ⟨rfl,h0⟩ | ⟨g,cap,cur,rfl,hb,hg,hn,hc,ov,ht⟩
 ·have ZA:rows=[]:=dY h0
  subst ZA
  exact RV.sl (rows:=[]) (A:=none) (cap:=0) (s:=0) (vs:=fun _=>undef) ⟨by simp,by simp[flat]⟩ (by simp[flat]) (ai _) ⟨fun _=>rfl,fun b h=>nomatch h⟩ (fun _=>rfl) (fun _ h _=>by cases h) (fun t ht=>by cases ht)
 ·have bC:∀ j u,xs[j]? = some u→cur[j]? = some u∧j<rows.length*s:=by
   intro j u hu
   rw[← ht,mL] at hu
   split at hu
   ·exact⟨by simpa using hu,‹_›⟩
   ·cases hu
  refine RV.sl (s:=s) (vs:=fun j=>xs.getD j undef) ⟨ny,fun j c Ni => ?_⟩ (fun j c Ni => ?_) hn ⟨by simp,fun b h=>nomatch h⟩ (by simp) (fun ad h _=>by cases h; rfl) (fun t ht=>nomatch ht)
  ·obtain⟨u,h1,rfl,h2,h3⟩:=tj j c Ni
   obtain⟨h4,h5⟩:=bC j u h1
   refine⟨h3,g,0,rfl,.inr ⟨rfl,by omega⟩,?_⟩
   simp[World.cell?,Cx.xL,hg,h4,aL,h1]
  ·obtain⟨u,h1,rfl,h2,h3⟩:=tj j c Ni
   simp only[aL,h1,Option.getD_some]
   exact .val h2
end
def xR:List DV→Option (List Int)
 | []=>some []
 | .val (.int .i64 n)::l=>(xR l).map (n::·)
 | _=>none
def Ln:DV→Option (List Int)
 | .sl rows _ _=>xR rows
 | _=>none
def Cf:List DV→Option (List (List Int))
 | []=>some []
 | d::l=>match Ln d,Cf l with
  | some r,some rs=>some (r::rs)
  | _,_=>none
def R6:DV→Option Wk
 | .agg [_,_,.val (.int .i64 cq),l,u0,l0,u1,l1,u2,l2,u3,l3]=>match Ln l,Cf [u0,u1,u2,u3],Cf [l0,l1,l2,l3] with
  | some l,some us,some ls=>some ⟨l,cq,fun i=>us.getD i [],fun i=>ls.getD i []⟩
  | _,_,_=>none
 | _=>none
def BO (l:List Int):Bool:=decide (l.length≤1000)&&l.all fun x=>decide (0≤x)&&decide (x≤9)
def HW:List Int→Bool
 | []=>true
 | a::l=>l.all (fun b=>decide (a<b))&&HW l
def Zo (d:Wk):Bool:=decide (d.aZ.length≤1000)&&d.aZ.all (fun x=>decide (0≤x)&&decide (x≤3))&&decide (0≤d.cq)&&decide (d.cq≤1000) &&
 (List.range 4).all (fun i=>BO (d.up i)&&BO (d.lo i))&&HW d.aZ
def Z2 (m:Sm):DV := .agg [.val (.int .i64 m.1),.val (.int .i64 m.2.1),.val (.int .i64 m.2.2)]
def DJ (a b:DV):Option DV:=match R6 a,R6 b with
 | some da,some db=>if Zo da&&Zo db then some (.sl ((dm da db).map Z2) none ⟨false,none⟩) else none
 | _,_=>none
theorem KV {l:List Int} (h:BO l=true):R2 l:=by
 simp only[BO,aG,bI,bh] at h
 exact⟨h.1,fun i x hx=>h.2 x (dL hx)⟩
theorem K3:∀ {l:List Int},HW l=true→R3 l
 | [],_=>List.Pairwise.nil
 | a::l,h=>by
  simp only[HW,aG,bh,bI] at h
  exact List.Pairwise.cons h.1 (K3 h.2)
theorem o9:∀ {l:List DV} {r:List (List Int)},Cf l=some r→r.length=l.length∧∀ i:Nat,∀ d,l[i]? = some d→Ln d=some (r.getD i [])
 | [],r,h=>by cases h; simp
 | d::l,r,h=>by
  simp only[Cf] at h
  split at h
  ·rename_i r1 rs h1 h2
   cases h
   obtain⟨h3,h4⟩:=o9 h2
   refine⟨by simp[h3],fun i d' hd => ?_⟩
   cases i with
   | zero=>simp at hd; subst hd; simpa using h1
   | succ i=>simp at hd; simpa using h4 i d' hd
  ·cases h
theorem sG:∀ {l:List DV} {r:List Int},xR l=some r→r.length=l.length∧(∀ (i:Nat) (n:Int),r[i]? = some n→l[i]? = some (.val (.int .i64 n)))∧flat l=l
 | [],r,h=>by cases h; simp[flat]
 | .val (.int .i64 n)::l,r,h=>by
  simp only[xR,ah] at h
  obtain⟨r',h1,rfl⟩:=h
  obtain⟨h2,h3,h4⟩:=sG h1
  refine⟨by simp[h2],fun i m hm => ?_,?_⟩
  ·cases i with
   | zero=>simp at hm; subst hm; rfl
   | succ i=>simp at hm; simpa using h3 i m hm
  ·simp only[flat,fP,DV.cells] at h4 ⊢
   rw[h4]
   rfl
def Xf (w:World):So:=(fun b=>b<w.heap.size,fun _=>False)
theorem pM {d:DV} {r:List Int} {v:Value} (hd:Ln d=some r) (h:RV x d v):wu (Xf x.w) x.w v r:=by
 unfold Ln at hd
 split at hd
 ·rename_i rows tok f
  obtain⟨h1,h2,h3⟩:=sG hd
  cases h with
  | @sl _ _ _ A cap s vs hv hr k1 k2 k3 k4 k5 =>
   refine⟨A,cap,by rw[h1],fun i n hn => ?_⟩
   have hc:(flat rows)[i]? = some (.val (.int .i64 n)):=by rw[h3]; exact h2 i n hn
   obtain⟨-,b,o,q1,q2,q3⟩:=hv.2 i _ hc
   have:=hr i _ hc
   generalize vs i=u at *
   cases this with
   | val _ =>
    refine⟨_,q1,?_⟩
    rw[gV]
    exact⟨.inl (World.block_lt_of_cell? _ ⟨b,o+i,none⟩ q3),q3⟩
 ·cases hd
theorem O0 {d:DV} {k:Wk} {v:Value} (hd:R6 d=some k) (h:RV x d v):∃ ca,v = .agg ca∧tw (Xf x.w) x.w ca k:=by
 unfold R6 at hd
 split at hd
 ·rename_i c0 c1 cq l u0 l0 u1 l1 u2 l2 u3 l3
  split at hd
  ·rename_i lr us ls h1 h2 h3
   cases hd
   cases h with
   | @agg _ ca hsz hc =>
    refine⟨ca,rfl,?_⟩
    have bC:∀ (j:Nat) d,([c0,c1,.val (.int .i64 cq),l,u0,l0,u1,l1,u2,l2,u3,l3]:List DV)[j]? = some d→∃ u,ca[j]? = some u∧RV x d u:=by
     intro j d hj
     have hlt:j<ca.size:=by rw[hsz]; exact(aJ.1 hj).1
     have:=hc j d hj
     simp only[aV,bQ hlt,Option.getD_some] at this
     exact⟨ca[j],bQ hlt,this⟩
    obtain⟨-,hu⟩:=o9 h2
    obtain⟨-,hl⟩:=o9 h3
    refine⟨?_,?_,fun i hi => ?_,fun i hi => ?_⟩
    ·obtain⟨u,q1,q2⟩:=bC 2 _ rfl
     cases q2
     exact q1
    ·obtain⟨u,q1,q2⟩:=bC 3 _ rfl
     exact⟨u,q1,pM h1 q2⟩
    ·have:i=0∨i=1∨i=2∨i=3:=by omega
     rcases this with rfl | rfl | rfl | rfl
     ·obtain⟨u,q1,q2⟩:=bC 4 _ rfl; exact⟨u,q1,pM (hu 0 _ rfl) q2⟩
     ·obtain⟨u,q1,q2⟩:=bC 6 _ rfl; exact⟨u,q1,pM (hu 1 _ rfl) q2⟩
     ·obtain⟨u,q1,q2⟩:=bC 8 _ rfl; exact⟨u,q1,pM (hu 2 _ rfl) q2⟩
     ·obtain⟨u,q1,q2⟩:=bC 10 _ rfl; exact⟨u,q1,pM (hu 3 _ rfl) q2⟩
    ·have:i=0∨i=1∨i=2∨i=3:=by omega
     rcases this with rfl | rfl | rfl | rfl
     ·obtain⟨u,q1,q2⟩:=bC 5 _ rfl; exact⟨u,q1,pM (hl 0 _ rfl) q2⟩
     ·obtain⟨u,q1,q2⟩:=bC 7 _ rfl; exact⟨u,q1,pM (hl 1 _ rfl) q2⟩
     ·obtain⟨u,q1,q2⟩:=bC 9 _ rfl; exact⟨u,q1,pM (hl 2 _ rfl) q2⟩
     ·obtain⟨u,q1,q2⟩:=bC 11 _ rfl; exact⟨u,q1,pM (hl 3 _ rfl) q2⟩
  ·cases hd
 ·cases hd
theorem Tj {d:DV} {k:Wk} (hd:R6 d=some k):∀ i,4≤i→k.up i=[]∧k.lo i=[]:=by
 unfold R6 at hd
 split at hd
 ·split at hd
  ·rename_i lr us ls h1 h2 h3
   cases hd
   have h4:=(o9 h2).1
   have h5:=(o9 h3).1
   simp only[List.length_cons,List.length_nil] at h4 h5
   intro i hi
   simp only[aL]
   rw[fE (by omega),fE (by omega)]
   exact⟨rfl,rfl⟩
  ·cases hd
 ·cases hd
theorem O1 {d:DV} {k:Wk} (hd:R6 d=some k) (h:Zo k=true):k.ok∧R3 k.aZ:=by
 simp only[Zo,aG,bI,bh] at h
 obtain⟨⟨⟨⟨⟨h1,h2⟩,h3⟩,h4⟩,h5⟩,h6⟩:=h
 have far:=Tj hd
 refine⟨⟨h1,fun i x hx=>h2 x (dL hx),⟨h3,h4⟩,fun i => ?_,fun i => ?_⟩,K3 h6⟩
 ·rcases Nat.lt_or_ge i 4 with hi | hi
  ·exact KV (h5 i (by simpa using hi)).1
  ·rw[(far i hi).1]; exact⟨by simp,by simp⟩
 ·rcases Nat.lt_or_ge i 4 with hi | hi
  ·exact KV (h5 i (by simpa using hi)).2
  ·rw[(far i hi).2]; exact⟨by simp,by simp⟩
theorem Rh (l:List Sm):flat (l.map Z2)=(l.flatMap pH).map .val:=by
 induction l with
 | nil=>rfl
 | cons m l ih =>
  simp only[flat,bT,fP,gM] at ih ⊢
  rw[ih]
  rfl
theorem GP {a b d:DV} (h:DJ a b=some d) {vals:Array Value} (hR:Rel x) (ha:gD x [a,b] vals):eH Tryz.prog aa x 60 vals fun y u=>y.S=x.S∧Rel y∧cr x y∧RV y d u:=by
 unfold DJ at h
 split at h
 ·rename_i da db h1 h2
  split at h
  ·rename_i hb
   cases h
   simp only[aG] at hb
   obtain⟨sP,haa⟩:=O1 h1 hb.1
   obtain⟨xG,pK⟩:=O1 h2 hb.2
   obtain⟨hsz,bC⟩:=ha
   have e:vals=#[vals.getD 0 undef,vals.getD 1 undef]:=by
    obtain⟨l⟩:=vals
    match l,hsz with
    | [u,v],_=>rfl
   obtain⟨ca,hca,hva⟩:=O0 h1 (bC 0 _ rfl)
   obtain⟨cb,hcb,hvb⟩:=O0 h2 (bC 1 _ rfl)
   rw[hca,hcb] at e
   subst e
   have key:=TQ (aa:=aa) sP xG haa pK hva hvb
   refine Hf jS (I8 (Post':=fun v w'=>x.w.heap.size≤w'.heap.size∧(w'.os=x.w.os∧w'.output=x.w.output)∧(∀ b,b<x.w.heap.size→w'.heap[b]? = x.w.heap[b]?)∧w'.ownsRow x.w.heap.size 79 3 v (dm da db).length ((dm da db).flatMap pH)) (fun γ' v w w1 hp _ r => ?_) key) fun v w' hp => ?_
   ·obtain⟨hk,ho⟩:=hp
    refine⟨aM hk.size r.1,⟨r.2.2.2.1.trans hk.env.1,r.2.2.2.2.trans hk.env.2⟩,fun b hb => ?_,(ho.rely r).1⟩
    have eL:(Xf x.w).all b := .inl hb
    exact(r.2.1 b (hk.all eL)).trans (hk.blk b eL hb)
   ·obtain⟨p1,p2,p3,p4⟩:=hp
    refine⟨x.xL w' v ((dm da db).length*3),rfl,rfl,xh hR p1 p2 p3 p4,qf hR p1 p2 p3 p4,Am (by simp) (fun r hr => ?_) (Rh _) (fun u hu => ?_) p4⟩
    ·simp only[eF] at hr
     obtain⟨m,-,rfl⟩:=hr
     rfl
    ·simp only[List.mem_flatMap,pH,bH,eu,or_false] at hu
     obtain⟨m,-,rfl | rfl | rfl⟩:=hu<;>exact⟨rfl,rfl⟩
  ·cases h
 ·cases h
end Go.Di
end
section
namespace Go.Proofs
open Go.Shelf Go.RowKit Go.Lib Go.Sort
def Tryz.EM:Go.Shelf.Ren:=⟨fun | 41=>91 | n=>n,fun | 22=>23 | 23=>3 | 4=>4 | n=>n,fun | n=>n⟩
theorem Tryz.AE:Go.Proofs.SlLaysN.n41 Tryz.prog Tryz.EM:={
  mixed:=by kernel_rfl
  f41:=⟨Tryz.f91.name,by decide,Tryz.func91.trans (congrArg some (by kernel_rfl))⟩
  t4:=Tryz.underlying4
  a4:=Tryz.isAgg4
  z4:=Tryz.sizeOf4
  v4:=Tryz.zeroValue4
  t22:=Tryz.underlying23
  a22:=Tryz.isAgg23
  z22:=Tryz.sizeOf23
  v22:=Tryz.zeroValue23
  t23:=Tryz.underlying3
  a23:=Tryz.isAgg3
  z23:=Tryz.sizeOf3
  v23:=Tryz.zeroValue3
  i23:=by kernel_rfl }
def Tryz.Bq:Go.Shelf.Ren:=⟨fun | 35=>153 | n=>n,fun | 22=>23 | 23=>3 | 3=>3 | 4=>4 | 0=>0 | n=>n,fun | n=>n⟩
theorem Tryz.uw:Go.Proofs.SlLaysN.n35 Tryz.prog Tryz.Bq:={
  mixed:=by kernel_rfl
  f35:=⟨Tryz.f153.name,by decide,Tryz.func153.trans (congrArg some (by kernel_rfl))⟩
  t0:=Tryz.underlying0
  a0:=Tryz.isAgg0
  z0:=Tryz.sizeOf0
  v0:=Tryz.zeroValue0
  t3:=Tryz.underlying3
  a3:=Tryz.isAgg3
  z3:=Tryz.sizeOf3
  v3:=Tryz.zeroValue3
  t4:=Tryz.underlying4
  a4:=Tryz.isAgg4
  z4:=Tryz.sizeOf4
  v4:=Tryz.zeroValue4
  t22:=Tryz.underlying23
  a22:=Tryz.isAgg23
  z22:=Tryz.sizeOf23
  v22:=Tryz.zeroValue23
  t23:=Tryz.underlying3
  a23:=Tryz.isAgg3
  z23:=Tryz.sizeOf3
  v23:=Tryz.zeroValue3 }
set_option maxHeartbeats 1000000 in
theorem Tryz.TZ (b off n c:Nat) (zs:List Int) (w:World) (hz:n≤zs.length) (SR:n*8≤140737488355328) (hc:∀ j,j<zs.length→w.cell? ⟨b,off+j,none⟩=some (.int .i64 (zs.getD j 0))) :
    Calls Tryz.prog 133 #[.slice (some ⟨b,off,none⟩) n c] w fun e w'=>∃ v',e = .returned v'∧w'.ownsRow w.heap.size 3 1 v' n ((zs.take n).reverse.map (Value.int .i64))∧Below w.heap.size w w':=by
  have Iu:=AnyG.slices_Clone_int Tryz.AE b off n c zs w hz SR hc
  clear hc
  go_enter Tryz.func133,Tryz.ntmps133
  go_wp2_with (first
    | (go_at_call 91; refine Iu.mono ?_; rintro e w1 ⟨v1,rfl,eN,Vf,zJ⟩
       obtain⟨g,cap,rfl,hbg,_,_,hcm,hlen,hH⟩:=Lib.holds_of_ownsRow eN Vf
       have aaq:=AnyG.slices_Reverse_int Tryz.uw g 0 cap (zs.take n) w1 hH (by unfold maxLen at hcm; omega)
       rw[hlen] at aaq
       have X:Aside (w1.ownsRow w.heap.size 3 1 (.slice (some ⟨g,0,none⟩) n cap) n ((zs.take n).map (Value.int .i64))∧Below w.heap.size w w1∧w.heap.size≤g):=⟨eN,zJ,hbg⟩
       clear eN zJ hH Vf)
    | (go_at_call 153; refine aaq.mono ?_; rintro e w2 ⟨rfl,q,rfl⟩))
  go_ret
  have hy:(zs.take n).reverse.length=n:=by simpa using hlen
  have h1:=Lib.ownsRow_putRow (q:=q) (ys:=(zs.take n).reverse) X.out.1 hy (ai n)
  rw[lB (Nat.le_of_eq hy)] at h1
  exact⟨_,rfl,by simpa [List.map_reverse,List.map_take] using h1,Lib.below_putRow X.out.2.1 X.out.2.2⟩
theorem Tryz.rev_zero (a:Addr) (c:Nat) (w:World) :
    Calls Tryz.prog 133 #[.slice (some a) 0 c] w fun e w'=>∃ v',e = .returned v'∧w'.ownsRow w.heap.size 3 1 v' 0 []∧Below w.heap.size w w':=by
  have Iu:=AnyG.slices_Clone_int_zero Tryz.AE a c w
  go_enter Tryz.func133,Tryz.ntmps133
  go_wp2_with (first
    | (go_at_call 91; refine Iu.mono ?_; rintro e w1 ⟨v1,rfl,eN,Vf,zJ⟩
       obtain⟨g,cap,rfl,_,_,_,_,_,_⟩:=Lib.holds_of_ownsRow (enc:=Value.int .i64) (zs:=[]) eN Vf
       have X:Aside (w1.ownsRow w.heap.size 3 1 (.slice (some ⟨g,0,none⟩) 0 cap) 0 []∧Below w.heap.size w w1):=⟨eN,zJ⟩
       clear eN zJ Vf)
    | (go_at_call 153; refine(AnyG.slices_Reverse_int_empty Tryz.uw _ _ _).mono ?_; rintro e w2 ⟨rfl,rfl⟩))
  go_ret
  exact⟨_,rfl,X.out.1,X.out.2⟩
theorem Tryz.TY (n c:Nat) (w:World) :
    Calls Tryz.prog 133 #[.slice none n c] w fun e w'=>e = .returned (.slice none 0 0)∧w'=w:=by
  go_enter Tryz.func133,Tryz.ntmps133
  go_wp2_with (first
    | (go_at_call 91; refine(AnyG.slices_Clone_int_nil Tryz.AE n c _).mono ?_; rintro e w' ⟨rfl,rfl⟩)
    | (go_at_call 153; refine(AnyG.slices_Reverse_int_empty Tryz.uw none 0 _).mono ?_; rintro e w' ⟨rfl,rfl⟩))
  go_ret
  exact⟨rfl,rfl⟩
end Go.Proofs
namespace Go.Di
open Go Go.Conc Go.Co Go.Proofs
variable {P:Program} {aa:Machine→Trace→Prop} {x:Cx}
theorem yw {g:FuncId} {vals:Array Value} {fn:Func} {c:Code} {R:Value→World→Prop} (hP:Plain P) (hf:P.funcs[g]? = some fn) (hb:fn.body=some c) (nB:∀ τ,Calls P g vals (x.w.re τ 0) fun e w'=>∃ v,e = .returned v∧R v w')
    {Post:Cx→Value→Prop} (hq:∀ v w',R v w'→∀ τ d,∃ y:Cx,y.w=w'.re τ d∧Post y v):eH P aa x g vals Post:=by
  refine⟨⟨fn,c,hf,hb⟩,fun fr cs hc=>KT hP fun _ τ => ?_⟩
  obtain⟨e,w',fr',⟨v,rfl,hR⟩,It,NF,jJ⟩:=nB τ (fr::cs)
  obtain⟨n,hn⟩:=Steps.trans It (Steps.one (step_leave_returned jJ))
  refine⟨n,_,w',hn,rfl,rfl,fun τ d => ?_⟩
  obtain⟨y,hy,hp⟩:=hq v w' hR τ d
  have:=hc y v hp
  rw[hy] at this
  exact this
def SG:DV→Option DV
  | .sl rows _ _=>match xR rows with
    | some l=>if l.length≤1000000 then some (.sl (l.reverse.map fun n => .val (.int .i64 n)) none ⟨false,none⟩) else none
    | none=>none
  | _=>none
theorem CY (l:List Value):flat (l.map DV.val)=l.map DV.val:=by
  induction l with
  | nil=>rfl
  | cons m l ih =>
    simp only[flat,bT,fP] at ih ⊢
    rw[ih]
    rfl
theorem L8 {a d:DV} (h:SG a=some d) {vals:Array Value} (hR:Rel x) (ha:gD x [a] vals):eH Tryz.prog aa x 133 vals fun y u=>y.S=x.S∧Rel y∧cr x y∧RV y d u:=by
  unfold SG at h
  split at h
  · rename_i rows tok f
    split at h
    · rename_i l hl
      split at h
      · rename_i hlen
        cases h
        obtain⟨h1,h2,h3⟩:=sG hl
        obtain⟨hsz,bC⟩:=ha
        have e:vals=#[vals.getD 0 undef]:=by
          obtain⟨l⟩:=vals
          match l,hsz with
          | [u],_=>rfl
        have hv:=bC 0 _ rfl
        generalize vals.getD 0 undef=u at e hv
        subst e
        cases hv with
        | @sl _ _ _ A cap s vs hv hr k1 k2 k3 k4 k5 =>
          have nB:∀ τ,Calls Tryz.prog 133 #[.slice A rows.length cap] (x.w.re τ 0) fun e w'=>∃ v,e = .returned v∧(x.w.heap.size≤w'.heap.size∧(w'.os=x.w.os∧w'.output=x.w.output)∧(∀ b,b<x.w.heap.size→w'.heap[b]? = x.w.heap[b]?)∧w'.ownsRow x.w.heap.size 3 1 v l.length (l.reverse.map (Value.int .i64))):=by
            intro τ
            cases A with
            | none =>
              have h0:rows.length=0:=by have:=k3 rfl; omega
              have WJ:l=[]:=dY (by omega)
              subst WJ
              refine(Tryz.TY rows.length cap (x.w.re τ 0)).mono ?_
              rintro e w' ⟨rfl,rfl⟩
              exact⟨_,rfl,ai _,⟨rfl,rfl⟩,fun _ _=>rfl,World.ownsRow_nil _ _ _ _⟩
            | some ad =>
              have hz:rows.length=l.length:=h1.symm
              by_cases h0:l.length=0
              · have WJ:l=[]:=dY h0
                subst WJ
                rw[hz]
                refine(Tryz.rev_zero ad cap (x.w.re τ 0)).mono ?_
                rintro e w' ⟨v,rfl,ho,hb⟩
                exact⟨_,rfl,hb.size,⟨hb.os,hb.output⟩,hb.block,ho⟩
              · have hs:=k4 ad rfl (by omega)
                obtain⟨b,o,sp⟩:=ad
                simp only at hs
                subst hs
                rw[hz]
                refine(Tryz.TZ b o l.length cap l (x.w.re τ 0) (ai _) (by omega) fun j hj => ?_).mono ?_
                · have hc:(flat rows)[j]? = some (.val (.int .i64 (l.getD j 0))):=by
                    rw[h3]
                    refine h2 j _ ?_
                    simp[aL,hj]
                  obtain⟨-,b',o',q1,q2,q3⟩:=hv.2 j _ hc
                  cases q1
                  have:=hr j _ hc
                  generalize vs j=u at *
                  cases this with
                  | val _=>exact q3
                · rintro e w' ⟨v,rfl,ho,hb⟩
                  rw[dc] at ho
                  exact⟨_,rfl,hb.size,⟨hb.os,hb.output⟩,hb.block,ho⟩
          refine yw jS Tryz.func133 rfl nB fun v w' hp τ d => ?_
          obtain⟨p1,p2,p3,p4⟩:x.w.heap.size≤(w'.re τ d).heap.size∧((w'.re τ d).os=x.w.os∧(w'.re τ d).output=x.w.output)∧(∀ b,b<x.w.heap.size→(w'.re τ d).heap[b]? = x.w.heap[b]?)∧(w'.re τ d).ownsRow x.w.heap.size 3 1 v l.length (l.reverse.map (Value.int .i64)):=hp
          refine⟨x.xL (w'.re τ d) v (l.length*1),rfl,rfl,xh hR p1 p2 p3 p4,qf hR p1 p2 p3 p4,Am (by simp) (fun r hr => ?_) ?_ (fun u hu => ?_) p4⟩
          · simp only[eF] at hr
            obtain⟨m,-,rfl⟩:=hr
            rfl
          · have:=CY (l.reverse.map (Value.int .i64))
            simpa only [List.map_map,Function.comp_def] using this
          · simp only[eF] at hu
            obtain⟨m,-,rfl⟩:=hu
            exact⟨rfl,rfl⟩
      · cases h
    · cases h
  · cases h
end Go.Di
end
section
namespace Go.Proofs
open Go.RowKit
theorem UK {l:List Int} {k:Nat} (hk:k<l.length):((l.take k).map (Value.int .i64)++List.replicate (l.length-k) (Value.int .i64 0)).set k (.int .i64 (l.getD k 0))=(l.take (k+1)).map (Value.int .i64)++List.replicate (l.length-(k+1)) (.int .i64 0):=by
 have e:((l.take k).map (Value.int .i64)).length=k:=by rw[gp,gq]; omega
 rw[List.set_append_right _ _ (by omega),e,Nat.sub_self,show l.length-k=(l.length-(k+1))+1 by omega,List.replicate_succ,List.set_cons_zero,List.take_add_one,gM,eV]
 congr 1
 simp[aL,hk]
theorem Tryz.UW {w:World} {a:Addr} {v:Value} (h:w.cell? a=some v):a.block<w.heap.size:=by
 by_cases hb:a.block<w.heap.size
 ·exact hb
 ·simp[World.cell?,ki (Nat.le_of_not_lt hb)] at h
set_option maxRecDepth 100000 in
set_option maxHeartbeats 1000000 in
theorem Tryz.UL (A:Option Addr) (cap:Nat) (l:List Int) (w:World) (hl:l.length≤1000) (hR:l≠[]→∃ b off,A=some ⟨b,off,none⟩∧∀ j,j<l.length→w.cell? ⟨b,off+j,none⟩=some (.int .i64 (l.getD j 0))) :
  Calls Tryz.prog 43 #[.slice A l.length cap] w fun e w'=>e = .returned (.slice (some ⟨w.heap.size,0,none⟩) l.length l.length)∧w'.ownsRow w.heap.size 3 1 (.slice (some ⟨w.heap.size,0,none⟩) l.length l.length) l.length (l.map (Value.int .i64))∧Below w.heap.size w w':=by
 obtain⟨i0,hi,E7,M9,Zt⟩:=info_parts Co.Oz
 have lR:=Lib.hid hR
 clear hR
 have hm:l.length≤maxLen:=by unfold maxLen; omega
 go_enter Tryz.func43,Tryz.ntmps43
 go_wp2_with (first | (at_make; go_loud (refine wpList_make_full _ rfl _ _ 23 rfl w.heap.size 3 i0 (.int .i64 0) 1 Tryz.underlying23 hi E7 M9 _ _ _ _ l.length rfl rfl rfl rfl (by rw[Zt]; omega) hm (ai _) ?_)))
 intro w1 eN OG
 go_wp2
 go_loopw [4] (fun i wr=>∃ k:Nat,k≤l.length∧i = .int .i64 (k:Int)∧wr.ownsRow w.heap.size 3 1 (.slice (some ⟨w.heap.size,0,none⟩) l.length l.length) l.length ((l.take k).map (Value.int .i64)++List.replicate (l.length-k) (.int .i64 0))∧Below w.heap.size w wr) (fun i _=>l.length-(intOf i).toNat)
 ·refine⟨0,jD _,rfl,?_,(Below.refl _ _).grown OG (ai _) (fun g h=>by cases h)⟩
  rw[toList_madeCells_one] at eN
  simpa using eN
 ·obtain⟨k,hk,rfl,tO,zJ⟩:=hrel
  by_cases WM:k<l.length
  ·obtain⟨b,off,rfl,hc⟩:=lR.out (fun e=>by subst e; simp at WM)
   have tj:wr.cell? ⟨b,off+k,none⟩=some (.int .i64 (l.getD k 0)):=(zJ.cell (p:=⟨b,off+k,none⟩) (Tryz.UW (hc k WM))).trans (hc k WM)
   have HH:=tO.frozenAt k
   have sQ:wr.cell? ⟨w.heap.size,k,none⟩=some (.int .i64 0):=by
    rw[tO.cellAt k (by omega),gr (by rw[gp,gq]; omega),mN,if_pos (by rw[gp,gq]; omega)]
   have st:=Lib.hid (tO.stored k (.int .i64 (l.getD k 0)))
   have mU:=Lib.hid zJ
   clear tO zJ hc eN OG
   go_wp2
   refine⟨⟨k+1,by omega,by go_num,?_,?_⟩,by simp[intOf]; omega⟩
   ·have:=st.out.1
    rw[UK WM] at this
    simpa [aL,WM] using this
   ·exact mU.out.setCell (ai _) _
  ·clear eN OG
   rw[show k=l.length by omega,dc,Nat.sub_self,List.replicate_zero,eU] at tO
   have st:=Lib.hid tO
   have mU:=Lib.hid zJ
   clear tO zJ
   go_wp2
   go_ret
   exact⟨rfl,st.out,mU.out⟩
end Go.Proofs
namespace Go.Di
open Go Go.Conc Go.Co Go.Proofs
variable {P:Program} {aa:Machine→Trace→Prop} {x:Cx}
def SX:DV→Option DV
 | .sl rows _ _=>match xR rows with
  | some l=>if l.length≤1000 then some (.sl (l.map fun n => .val (.int .i64 n)) none ⟨false,none⟩) else none
  | none=>none
 | _=>none
theorem MR {a d:DV} (h:SX a=some d) {vals:Array Value} (hR:Rel x) (ha:gD x [a] vals):eH Tryz.prog aa x 43 vals fun y u=>y.S=x.S∧Rel y∧cr x y∧RV y d u:=by
 unfold SX at h
 split at h
 ·rename_i rows tok f
  split at h
  ·rename_i l hl
   split at h
   ·rename_i hlen
    cases h
    obtain⟨h1,h2,h3⟩:=sG hl
    obtain⟨hsz,bC⟩:=ha
    have e:vals=#[vals.getD 0 undef]:=by
     obtain⟨l⟩:=vals
     match l,hsz with
     | [u],_=>rfl
    have hv:=bC 0 _ rfl
    generalize vals.getD 0 undef=u at e hv
    subst e
    cases hv with
    | @sl _ _ _ A cap s vs hv hr k1 k2 k3 k4 k5 =>
     have nB:∀ τ,Calls Tryz.prog 43 #[.slice A rows.length cap] (x.w.re τ 0) fun e w'=>∃ v,e = .returned v∧(x.w.heap.size≤w'.heap.size∧(w'.os=x.w.os∧w'.output=x.w.output)∧(∀ b,b<x.w.heap.size→w'.heap[b]? = x.w.heap[b]?)∧w'.ownsRow x.w.heap.size 3 1 v l.length (l.map (Value.int .i64))):=by
      intro τ
      have hz:rows.length=l.length:=h1.symm
      rw[hz]
      refine(Tryz.UL A cap l (x.w.re τ 0) hlen fun hne => ?_).mono ?_
      ·have zH:0<l.length:=List.length_pos_iff.2 hne
       have hc:∀ j,j<l.length→(flat rows)[j]? = some (.val (.int .i64 (l.getD j 0))):=fun j hj=>by
        rw[h3]
        refine h2 j _ ?_
        simp[aL,hj]
       obtain⟨-,b,o,q1,-,-⟩:=hv.2 0 _ (hc 0 zH)
       refine⟨b,o,q1,fun j hj => ?_⟩
       obtain⟨-,b',o',q2,q3,q4⟩:=hv.2 j _ (hc j hj)
       rw[q1] at q2
       cases q2
       have:=hr j _ (hc j hj)
       generalize vs j=u at *
       cases this with
       | val _=>exact q4
      ·rintro e w' ⟨rfl,ho,hb⟩
       exact⟨_,rfl,hb.size,⟨hb.os,hb.output⟩,hb.block,ho⟩
     refine yw jS Tryz.func43 rfl nB fun v w' hp τ d => ?_
     obtain⟨p1,p2,p3,p4⟩:x.w.heap.size≤(w'.re τ d).heap.size∧((w'.re τ d).os=x.w.os∧(w'.re τ d).output=x.w.output)∧(∀ b,b<x.w.heap.size→(w'.re τ d).heap[b]? = x.w.heap[b]?)∧(w'.re τ d).ownsRow x.w.heap.size 3 1 v l.length (l.map (Value.int .i64)):=hp
     refine⟨x.xL (w'.re τ d) v (l.length*1),rfl,rfl,xh hR p1 p2 p3 p4,qf hR p1 p2 p3 p4,Am (by simp) (fun r hr => ?_) ?_ (fun u hu => ?_) p4⟩
     ·simp only[eF] at hr
      obtain⟨m,-,rfl⟩:=hr
      rfl
     ·have:=CY (l.map (Value.int .i64))
      simpa only [List.map_map,Function.comp_def] using this
     ·simp only[eF] at hu
      obtain⟨m,-,rfl⟩:=hu
      exact⟨rfl,rfl⟩
   ·cases h
  ·cases h
 ·cases h
end Go.Di
end
