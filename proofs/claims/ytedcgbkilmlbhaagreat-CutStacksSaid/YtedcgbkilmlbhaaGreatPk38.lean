import Derived.Test.YtedcgbkilmlbhaaGreatPk37
import Derived.Test.YtedcgbkilmlbhaaGreatPk33
import Derived.WalkKit
import Derived.Deep.LoopGhost
import Derived.Ground.SlgnProg
import Derived.Shelf.Lay
import Derived.Shelf.SlicesG.Clone
import Derived.Shelf.SlicesG.Reverse
import Derived.Lib.OwnBridge
import Derived.OwnWalk
set_option maxHeartbeats 1000000
set_option maxRecDepth 100000
section
namespace Go.Proofs
open Go.Shelf Go.RowKit Go.Lib Go.Sort Go.Co
theorem Tryz.afx (g cap:Nat)(d:Array Sm)(w:World)(hH:HoldsK sX 3 w g 0 d)(hg:g<w.heap.size)(hsz:d.size<4611686018427387904):
  Calls Tryz.prog 105 #[.slice (some ⟨g,0,none⟩) d.size cap,.func (.func 106) #[] #[]] w λe w'=>e=.returned (.tuple #[])/\∃d' n os,PermIn 0 d.size d d'/\SortedIn (ltOf yZ) 0 d.size d'/\w'=sortWorldK sX 3 w g 0 n d' os:=by
 have eg:∀args w,(callFunc 106 args).run Tryz.prog w=.ok (.enter 106 args) w:=enters_of Tryz.func106 (by kernel_rfl) rfl;exact AnyQ.slices_SortFunc Tryz.Lt 3 Tryz.isAgg79 Tryz.sizeOf79 sX (λ_=>rfl) (λx v hv=>by simp[sX]at hv;rcases hv with rfl|rfl|rfl<;>rfl) yZ aht 106 #[] g 0 cap d w eg (λ_ _ _ _ x y=>Tryz.Ug x y _) hH hg hsz
end Go.Proofs
namespace Go.Co
open Go Go.Conc Go.Proofs Go.Sort Go.Shelf
variable {P:Program} {aa:Machine->Trace->Prop} {γ:So} {w:World}
theorem ED{Γ:Type}{main:Bool}{K:Γ->Goroutine->World->Prop}{Rl:Γ->World->World->Prop}{St:Γ->World->Γ->World->Array Event->Prop}{fn:FuncId}{Q:Γ->Exit->Act->World->Prop}{a:Act}{ops:Array Oper}{i:Nat}{rest:cy}{o:Oper}(C:KC P main K Rl St){γ:Γ}{v:Value}(ho:ops[i]? =some o)(hw:Region.wanted o (yielded ops a.tmps)=true)(hrun:∀w,(execOp a.eval o).run P w=.ok (.value v) w)(xh:∀w,(execOp a.eval o).events P w #[]=#[])
  (h:KO K fn γ ops rest Q (a.put o.dst v) w):KO K fn γ ops (i::rest) Q a w:=
 zk C ho hw λw₁ r=>by rw[hrun w₁];exact⟨γ,by rw[listed_nil (xh w₁)];exact C.idle _ _,JD C r h⟩
def BO(A:Nat->Prop)(B0:Nat)(w0:World)(R:List Sm)(out:Value)(w:World):Prop:=Old A B0 w0 w/\w.ownsRow B0 79 3 out R.length (R.flatMap sX)
theorem XJ{A:Nat->Prop}{B0:Nat}{w0:World}{R got:List Sm}{out:Value}(hR:R.Pairwise Uo)(hlen:R.length<=4294967296)(hA:∀b,A b->b<B0)(hO:Old A B0 w0 w)(hp:got.Perm R)(xT:w.ownsRow B0 79 3 out got.length (got.flatMap sX)):
  Calls Tryz.prog 105 #[out,.func (.func 106) #[] #[]] w λe w'=>∃v,e=.returned v/\BO A B0 w0 R out w':=by
 have hl:=hp.length_eq;rcases xT.2 with ⟨rfl,h0⟩|⟨g,cap,cur,rfl,hb,hg,hn,hc,rS,ht⟩;have ajz:got=[]:=eR h0;have hRn:R=[]:=eR ab;subst ajz;subst hRn;exact(Tryz.OB _ w).mono λe w' ⟨he,hw⟩=>⟨_,he,by subst hw;exact⟨hO,xT⟩⟩;have hlt:g<w.heap.size:=(aN.1 hg).1;have hH:HoldsK sX 3 w g 0 got.toArray:=OZ hg (by simpa using ht);have h:=Tryz.afx g cap got.toArray w hH hlt (by simp;omega);simp only[mO]at h;refine h.mono ?_;rintro e w' ⟨he,d',n,os,hpm,hs,rfl⟩;obtain⟨hsz,-,hpm⟩:=hpm;have hsz':d'.size=got.length:=by simpa using hsz
 have hd:d'.toList=R:=by
  refine SL ?_ (by rw[hsz'];exact hs) hR;have h1:(d'.extract 0 got.length)=d':=by rw[<-hsz'];simp
  have h2:(got.toArray.extract 0 got.length)=got.toArray:=ae
  rw[h1,h2]at hpm;exact hpm.trans hp
 have hgr:=Ka (w:=w) (g:=g) (n:=n) (os:=os) d';refine⟨_,he,⟨λb uj=>?_,bt hO.2.1 hgr.size,hgr.os.trans hO.2.2.1,hgr.output.trans hO.2.2.2⟩,?_⟩;have:=hA b uj;exact(hgr.block b (dD this hO.2.1) (λe=>by cases e;omega)).trans (hO.1 b uj);have:=J4 (n:=n) (os:=os) (d:=d') hb hg ab hc rS;rw[hsz',hd]at this;rw[<-hl];exact this
theorem aba{da db:Wk}(xK:da.ok)(BR:db.ok)(haa:ZF da.bJ)(qA:ZF db.bJ):Xk aa (eA da db):=by
 intro A B0 w0 γ' a' w' hE;obtain⟨-,-,hS,got,out,hp,xT,u,rfl⟩:=hE;have C:=zo (aa:=aa) lX;unfold V8;show KJ _ _ _ (.seq (.region _ _ false) (.seq (.region _ _ false) .ret)) _ _ _;refine bp C (BC C ?_);simp only[mO,di,lB,Nat.reduceAdd,iw,List.range,List.range.loop];refine ED C (v:=?v1) rfl (by rfl) (λw=>run_eq_of λK hK=>?r1) (λw=>?e1) ?h1
 case r1=>go_simp;exact hK
 case e1=>simp[go_sem]
 try walk_nrm
 refine abR lX (R:=λ_ w=>BO A B0 w0 (eA da db) out w) rfl (by rfl) rfl Tryz.func105 rfl (λτ=>?_) (λv w2 hR τ d=>?_);simp only[List.map_toArray,aY,eO];have hO:Old A B0 w0 (w'.re τ 0):=⟨hS.blk,hS.size,hS.env.1,hS.env.2⟩;exact XJ (SN haa qA) (E0 xK BR) hS.lt hO hp xT;have mY:BO A B0 w0 (eA da db) out (w2.re τ d):=hR;generalize w2.re τ d=w3 at*;try walk_nrm
 refine aW C ?_;co_then;refine bp C (BC C ?_);simp only[mO,di,lB,Nat.reduceAdd,iw,List.range,List.range.loop];refine ED C (v:=?v2) rfl (by rfl) (λw=>run_eq_of λK hK=>?r2) (λw=>?e2) ?h2
 case r2=>go_simp;exact hK
 case e2=>simp[go_sem]
 try walk_nrm
 refine ED C (v:=?v3) rfl (by rfl) (λw=>run_eq_of λK hK=>?r3) (λw=>?e3) ?h3
 case r3=>go_simp;exact hK
 case e3=>simp[go_sem]
 try walk_nrm
 refine aW C ?_;co_then;refine D7 C ?_;exact⟨rfl,rfl,mY.1,mY.2⟩
theorem abl{ca cb:Array Value}{da db:Wk}(xK:da.ok)(BR:db.ok)(haa:ZF da.bJ)(qA:ZF db.bJ)(hva:xB γ w ca da)(hvb:xB γ w cb db):
  za (Sj Tryz.prog aa) Tryz.prog (.bad,γ) 60 #[.agg ca,.agg cb] w λγ' v w'=>γ'.1=.bad/\Kept γ w γ'.2 w'/\mC γ'.2 w' w.heap.size 79 3 v (eA da db).length ((eA da db).flatMap sX):=
 MO lX xK BR hva hvb (aba xK BR haa qA)
end Go.Co
end
namespace Go.Di
open Go Go.Conc Go.Co Go.Proofs
variable {P:Program} {aa:Machine->Trace->Prop} {x:Cx}
theorem M0{g:FuncId}{vals:Array Value}{Post':Value->World->Prop}(hP:Plain P)(h:za (jh P aa) P () g vals x.w (λ_=>Post')){Post:Cx->Value->Prop}(hq:∀v w',Post' v w'->∃y:Cx,y.w=w'/\Post y v):fS P aa x g vals Post:=by
 obtain⟨vV,c,hf,-,PN,hwp⟩:=h;refine⟨⟨vV,c,hf,PN⟩,λfr cs hc=>?_⟩;have C:=zo (aa:=aa) hP;rw[enter_at vals hf PN];have lK:∀(a':Act)(w':World)(todo:List Item),(a'.defers=[]/\∃v,ResultsC P vV a'.tmps v/\Post' v w')->
   jh P aa () (G {(base g).at a' todo with mode:=.returning} (fr::cs)) w':=by
  rintro a' w' todo ⟨hd,v,hr,hp⟩;obtain⟨y,rfl,hy⟩:=hq v w' hp;refine C.go (λw₁=>?_) (hc y v hy);rw[stepG_leave (b:=base g) rfl hd hf (hr w₁).1 (hr w₁).2]
 refine hwp (base g) [] _ rfl (by simp[base]) λγ' e a' w' q=>?_;cases e with
 |normal=>exact C.go (λ_=>stepG_end) (lK a' w' [] q)
 |ret=>exactλtodo=>lK a' w' todo q
 |exit id=>exact q.elim
 |goto l=>exact q.elim
 |panic ch=>exact q.elim
 |outgrown=>exact q.elim
def AR(v:Value)(n:Nat)(b o:Nat):Prop:=v.ownBlock=some b/\o<n
def Cx.BW (x:Cx)(w':World)(v:Value)(n:Nat):Cx:={x with w:=w',Fz:=λb o=>x.Fz b o\/AR v n b o}
section
variable {w':World} {v:Value} {e:TypeId} {s n:Nat} {xs:List Value}
theorem tU(hR:Rel x)(hs:x.w.heap.size<=w'.heap.size)(he:w'.os=x.w.os/\w'.output=x.w.output)(ho:∀b,b<x.w.heap.size->w'.heap[b]? =x.w.heap[b]?)(hr:w'.ownsRow x.w.heap.size e s v n xs):cg x (x.BW w' v (n*s)) where
 size:=hs
 env:=he
 fz:=λb o h=>⟨.inl h,by obtain⟨u,hu⟩:=hR.AE b o h;exact cell_of_block (ho b (World.block_lt_of_cell? _ ⟨b,o,none⟩ hu)) o⟩
 Ke:=λb o h=>h.imp id λh=>.inl (hr.lt b h.1).1
 old:=λb hb _=>ho b hb
 len:=ak _
 cells:=λid l h=>⟨rfl,l,h⟩
 eH:=λid b h hb=>⟨rfl,⟨b,h,fD hb⟩,λhd=>by obtain⟨o,h1,-⟩:=hR.eH id b h hb;exact ho _ (aN.1 h1).1⟩
 ej:=λt e s n h=>⟨n,h,ak _,λ_=>⟨rfl,rfl⟩⟩
 live:=λi h=>.inl ⟨h,rfl⟩
 ops:=λ_ _ _ l z h=>⟨l,z,h,ak _,λe=>⟨rfl,e⟩,λ_=>⟨rfl,rfl⟩⟩
theorem Br(hR:Rel x)(hs:x.w.heap.size<=w'.heap.size)(he:w'.os=x.w.os/\w'.output=x.w.output)(ho:∀b,b<x.w.heap.size->w'.heap[b]? =x.w.heap[b]?)(hr:w'.ownsRow x.w.heap.size e s v n xs):Rel (x.BW w' v (n*s)):=by
 have M:=tU hR hs he ho hr;have hlt:∀{b:Nat}{o:Obj},x.w.heap[b]? =some o->b<x.w.heap.size:=λh=>(aN.1 h).1;have yP:∀b o,AR v (n*s) b o->x.w.heap.size<=b:=λb o h=>(hr.lt b h.1).1;refine⟨λid l hl=>?_,λid e' s' n' hl=>?_,λid b hl hb=>?_,hR.inj,λb o h=>?_,λid hl o h=>?_,λid e' s' n' hl o h=>?_,λid e' s' l z hl=>?_⟩;obtain⟨arr,e',h1,h2,h3⟩:=hR.cells id l hl;exact⟨arr,e',(ho _ (hlt h1)).trans h1,h2,λj c hc=>(h3 j c hc).mono M⟩;obtain⟨arr,h1,h2⟩:=hR.ej id e' s' n' hl;exact⟨arr,(ho _ (hlt h1)).trans h1,h2⟩;obtain⟨o,h1,h2⟩:=hR.eH id b hl hb;exact⟨o,(ho _ (hlt h1)).trans h1,h2.mono M⟩;rcases h with h|h;obtain⟨u,hu⟩:=hR.AE b o h;exact⟨u,((M.fz b o h).2).trans hu⟩;obtain⟨hv,hon⟩:=h;rcases hr.2 with ⟨rfl,-⟩|⟨g,cap,cur,rfl,hb,hg,hn,hc,rS,ht⟩;simp[Value.ownBlock]at hv;simp only[Value.ownBlock,aG]at hv;subst hv;have:o<cur.size:=by rw[rS];exact dD hon (fH _ hn)
 exact⟨cur[o],by simp only[World.cell?,Cx.BW,hg];exact cD this⟩;rcases h with h|h;exact hR.sep id hl o h;obtain⟨l,hl⟩:=hl;obtain⟨arr,e',h1,-⟩:=hR.cells id l hl;have:=yP _ _ h;have:=hlt h1;show False;change x.w.heap.size<=x.μ id at*;omega;rcases h with h|h;exact hR.oV id e' s' n' hl o h;obtain⟨arr,h1,-⟩:=hR.ej id e' s' n' hl;have h3:=yP _ _ h;have h4:=hlt h1;change x.w.heap.size<=x.μ id at h3;omega;obtain⟨arr,h1,h2,h3,h4,h5,h6,h7⟩:=hR.ops id e' s' l z hl;refine⟨arr,(ho _ (hlt h1)).trans h1,h2,h3,h4,λj c hc=>⟨(h5 j c hc).1,(h5 j c hc).2.mono M⟩,λhz j hj=>.inl (h6 hz j hj),λhz o h=>?_⟩;rcases h with h|h;exact h7 hz o h;have h3:=yP _ _ h;have h4:=hlt h1;change x.w.heap.size<=x.μ id at h3;omega
theorem Ei{rows:cj}(hn:rows.length=n)(qc:∀r∈rows,r.cells.length=s)(AM:flat rows=xs.map .val)(CI:∀u∈xs,A3 u=true/\(DV.val u).ct=true)(hr:w'.ownsRow x.w.heap.size e s v n xs):RV (x.BW w' v (n*s)) (.sl rows none ⟨false,none⟩) v:=by
 have hlen:=hr.1;have kW:∀(j:Nat)(c:DV),(flat rows)[j]? =some c->∃u,xs[j]? =some u/\c=DV.val u/\A3 u=true/\c.ct=true:=by grind
 subst hn;rcases hr.2 with ⟨rfl,h0⟩|⟨g,cap,cur,rfl,hb,hg,hn,hc,rS,ht⟩;have hrn:rows=[]:=eR h0;subst hrn;exact RV.sl (rows:=[]) (A:=none) (cap:=0) (s:=0) (vs:=λ_=>undef) ⟨ae,by simp[flat]⟩ (by simp[flat]) (ak _) ⟨λ_=>rfl,λb h=>nomatch h⟩ (λ_=>rfl) (λ_ h _=>ao) (λt ht=>by cases ht);have bz:∀j u,xs[j]? =some u->cur[j]? =some u/\j<rows.length*s:=by
  intro j u hu;rw[<-ht,wD]at hu;split at hu
  grind
  cases hu
 refine RV.sl (s:=s) (vs:=λj=>xs.getD j undef) ⟨qc,λj c hcj=>?_⟩ (λj c hcj=>?_) hn ⟨ae,λb h=>nomatch h⟩ ae (λad h _=>by cases h;rfl) (λt ht=>nomatch ht);obtain⟨u,h1,rfl,h2,h3⟩:=kW j c hcj;obtain⟨h4,h5⟩:=bz j u h1;refine⟨h3,g,0,rfl,.inr ⟨rfl,ab⟩,?_⟩;simp[World.cell?,Cx.BW,hg,h4,aU,h1];obtain⟨u,h1,rfl,h2,h3⟩:=kW j c hcj;simp only[aU,h1,tI];exact .val h2
end
def B2:cj->Option br
 |[]=>some []
 |.val (.int .i64 n)::l=>(B2 l).map (n::·)
 |_=>none
def R7:DV->Option br
 |.sl rows _ _=>B2 rows
 |_=>none
def Gu:cj->Option (List br)
 |[]=>some []
 |d::l=>match R7 d,Gu l with
  |some r,some rs=>some (r::rs)
  |_,_=>none
def ZJ:DV->Option Wk
 |.agg [_,_,.val (.int .i64 cS),l,u0,l0,u1,l1,u2,l2,u3,l3]=>match R7 l,Gu [u0,u1,u2,u3],Gu [l0,l1,l2,l3]with
  |some l,some us,some ls=>some ⟨l,cS,λi=>us.getD i [],λi=>ls.getD i []⟩
  |_,_,_=>none
 |_=>none
def FV(l:br):Bool:=decide (l.length<=1000)&&l.all λx=>decide (0<=x)&&decide (x<=9)
def NN:br->Bool
 |[]=>true
 |a::l=>l.all (λb=>decide (a<b))&&NN l
def wkB(d:Wk):Bool:=decide (d.bJ.length<=1000)&&d.bJ.all (λx=>decide (0<=x)&&decide (x<=3))&&decide (0<=d.cS)&&decide (d.cS<=1000)&&
 (List.range 4).all (λi=>FV (d.up i)&&FV (d.lo i))&&NN d.bJ
def smD(m:Sm):DV:=.agg [.val (.int .i64 m.1),.val (.int .i64 m.2.1),.val (.int .i64 m.2.2)]
def II(a b:DV):Option DV:=match ZJ a,ZJ b with
 |some da,some db=>if wkB da&&wkB db then some (.sl ((eA da db).map smD) none ⟨false,none⟩)else none
 |_,_=>none
theorem Ra{l:br}(h:FV l=true):ZE l:=by simp only[FV,aD,cA,aX]at h;exact⟨h.1,λi x hx=>h.2 x (cB hx)⟩
theorem RE:∀{l:br},NN l=true->ZF l
 |[],_=>List.Pairwise.nil
 |a::l,h=>by simp only[NN,aD,aX,cA]at h;exact List.Pairwise.cons h.1 (RE h.2)
theorem sH:∀{l:cj}{r:List br},Gu l=some r->r.length=l.length/\∀i:Nat,∀d,l[i]? =some d->R7 d=some (r.getD i [])
 |[],r,h=>by cases h;simp
 |d::l,r,h=>by
  simp only[Gu]at h;split at h;rename_i r1 rs h1 h2;cases h;obtain⟨h3,h4⟩:=sH h2;refine⟨by simp[h3],λi d' hd=>?_⟩;cases i with
  |zero=>simp at hd;subst hd;simpa using h1
  |succ i=>simp at hd;simpa using h4 i d' hd
  cases h
theorem wP:∀{l:cj}{r:br},B2 l=some r->r.length=l.length/\(∀(i:Nat)(n:Int),r[i]? =some n->l[i]? =some (.val (.int .i64 n)))/\flat l=l
 |[],r,h=>by cases h;simp[flat]
 |.val (.int .i64 n)::l,r,h=>by
  simp only[B2,ah]at h;obtain⟨r',h1,rfl⟩:=h;obtain⟨h2,h3,h4⟩:=wP h1;refine⟨by simp[h2],λi m hm=>?_,?_⟩
  grind
  simp only[flat,cz,DV.cells]at h4⊢;rw[h4];rfl
def ad0(w:World):So:=(λb=>b<w.heap.size,λ_=>False)
theorem s8{d:DV}{r:br}{v:Value}(hd:R7 d=some r)(h:RV x d v):AG (ad0 x.w) x.w v r:=by
 unfold R7 at hd;split at hd;rename_i rows tok f;obtain⟨h1,h2,h3⟩:=wP hd;cases h with
 |@sl _ _ _ A cap s vs hv hr k1 k2 k3 k4 k5=>
  refine⟨A,cap,by rw[h1],λi n hn=>?_⟩;have hc:(flat rows)[i]? =some (.val (.int .i64 n)):=by rw[h3];exact h2 i n hn
  obtain⟨-,b,o,q1,q2,q3⟩:=hv.2 i _ hc;have:=hr i _ hc;generalize vs i=u at*;cases this with
  |val _=>refine⟨_,q1,?_⟩;rw[iY];exact⟨.inl (World.block_lt_of_cell? _ ⟨b,o+i,none⟩ q3),q3⟩
 cases hd
theorem Wo{d:DV}{k:Wk}{v:Value}(hd:ZJ d=some k)(h:RV x d v):∃ca,v=.agg ca/\xB (ad0 x.w) x.w ca k:=by
 unfold ZJ at hd;split at hd;rename_i c0 c1 cS l u0 l0 u1 l1 u2 l2 u3 l3;split at hd;rename_i lr us ls h1 h2 h3;cases hd;cases h with
 |@agg _ ca hsz hc=>
  refine⟨ca,rfl,?_⟩;have bz:∀(j:Nat) d,([c0,c1,.val (.int .i64 cS),l,u0,l0,u1,l1,u2,l2,u3,l3]:cj)[j]? =some d->∃u,ca[j]? =some u/\RV x d u:=by
   intro j d hj;have hlt:j<ca.size:=by rw[hsz];exact(aM.1 hj).1
   have:=hc j d hj;simp only[bF,cD hlt,tI]at this;exact⟨ca[j],cD hlt,this⟩
  obtain⟨-,hu⟩:=sH h2;obtain⟨-,hl⟩:=sH h3;refine⟨?_,?_,λi hi=>?_,λi hi=>?_⟩;obtain⟨u,q1,q2⟩:=bz 2 _ rfl;cases q2;exact q1;obtain⟨u,q1,q2⟩:=bz 3 _ rfl;exact⟨u,q1,s8 h1 q2⟩;have:i=0\/i=1\/i=2\/i=3:=ab
  rcases this with rfl|rfl|rfl|rfl;obtain⟨u,q1,q2⟩:=bz 4 _ rfl;exact⟨u,q1,s8 (hu 0 _ rfl) q2⟩
  obtain⟨u,q1,q2⟩:=bz 6 _ rfl;exact⟨u,q1,s8 (hu 1 _ rfl) q2⟩
  obtain⟨u,q1,q2⟩:=bz 8 _ rfl;exact⟨u,q1,s8 (hu 2 _ rfl) q2⟩
  obtain⟨u,q1,q2⟩:=bz 10 _ rfl;exact⟨u,q1,s8 (hu 3 _ rfl) q2⟩
  have:i=0\/i=1\/i=2\/i=3:=ab
  rcases this with rfl|rfl|rfl|rfl;obtain⟨u,q1,q2⟩:=bz 5 _ rfl;exact⟨u,q1,s8 (hl 0 _ rfl) q2⟩
  obtain⟨u,q1,q2⟩:=bz 7 _ rfl;exact⟨u,q1,s8 (hl 1 _ rfl) q2⟩
  obtain⟨u,q1,q2⟩:=bz 9 _ rfl;exact⟨u,q1,s8 (hl 2 _ rfl) q2⟩
  obtain⟨u,q1,q2⟩:=bz 11 _ rfl;exact⟨u,q1,s8 (hl 3 _ rfl) q2⟩
 cases hd;cases hd
theorem aaW{d:DV}{k:Wk}(hd:ZJ d=some k):∀i,4<=i->k.up i=[]/\k.lo i=[]:=by unfold ZJ at hd;split at hd;split at hd;rename_i lr us ls h1 h2 h3;cases hd;have h4:=(sH h2).1;have h5:=(sH h3).1;simp only[di,lB]at h4 h5;intro i hi;simp only[aU];rw[pH ab,pH ab];exact⟨rfl,rfl⟩;cases hd;cases hd
theorem Wp{d:DV}{k:Wk}(hd:ZJ d=some k)(h:wkB k=true):k.ok/\ZF k.bJ:=by
 simp only[wkB,aD,cA,aX]at h;obtain⟨⟨⟨⟨⟨h1,h2⟩,h3⟩,h4⟩,h5⟩,h6⟩:=h;have far:=aaW hd;refine⟨⟨h1,λi x hx=>h2 x (cB hx),⟨h3,h4⟩,λi=>?_,λi=>?_⟩,RE h6⟩;rcases tG i 4 with hi|hi;exact Ra (h5 i (by simpa using hi)).1;rw[(far i hi).1];exact⟨ae,ae⟩
 rcases tG i 4 with hi|hi;exact Ra (h5 i (by simpa using hi)).2;rw[(far i hi).2];exact⟨ae,ae⟩
theorem YY(l:List Sm):flat (l.map smD)=(l.flatMap sX).map .val:=by
 induction l with
 |nil=>rfl
 |cons m l ih=>simp only[flat,aY,cz,fG]at ih⊢;rw[ih];rfl
theorem MN{a b d:DV}(h:II a b=some d){vals:Array Value}(hR:Rel x)(ha:ig x [a,b] vals):fS Tryz.prog aa x 60 vals λy u=>y.S=x.S/\Rel y/\cg x y/\RV y d u:=by
 unfold II at h;split at h;rename_i da db h1 h2;split at h;rename_i hb;cases h;simp only[aD]at hb;obtain⟨xK,haa⟩:=Wp h1 hb.1;obtain⟨BR,qA⟩:=Wp h2 hb.2;obtain⟨hsz,bz⟩:=ha;have e:vals=#[vals.getD 0 undef,vals.getD 1 undef]:=by
  obtain⟨l⟩:=vals
  match l,hsz with
  |[u,v],_=>rfl
 obtain⟨ca,hca,hva⟩:=Wo h1 (bz 0 _ rfl);obtain⟨cb,hcb,hvb⟩:=Wo h2 (bz 1 _ rfl);rw[hca,hcb]at e;subst e;have key:=abl (aa:=aa) xK BR haa qA hva hvb;refine M0 lX (OX (Post':=λv w'=>x.w.heap.size<=w'.heap.size/\(w'.os=x.w.os/\w'.output=x.w.output)/\(∀b,b<x.w.heap.size->w'.heap[b]? =x.w.heap[b]?)/\w'.ownsRow x.w.heap.size 79 3 v (eA da db).length ((eA da db).flatMap sX)) (λγ' v w w1 hp _ r=>?_) key) λv w' hp=>?_;obtain⟨hk,ho⟩:=hp;refine⟨bt hk.size r.1,⟨r.2.2.2.1.trans hk.env.1,r.2.2.2.2.trans hk.env.2⟩,λb hb=>?_,(ho.rely r).1⟩;have gd:(ad0 x.w).all b:=.inl hb;exact(r.2.1 b (hk.all gd)).trans (hk.blk b gd hb);obtain⟨p1,p2,p3,p4⟩:=hp;refine⟨x.BW w' v ((eA da db).length*3),rfl,rfl,Br hR p1 p2 p3 p4,tU hR p1 p2 p3 p4,Ei ae (λr hr=>?_) (YY _) (λu hu=>?_) p4⟩;simp only[er]at hr;obtain⟨m,-,rfl⟩:=hr;rfl;simp only[rm,sX,bE,eP,or_false]at hu;obtain⟨m,-,rfl|rfl|rfl⟩:=hu<;>exact⟨rfl,rfl⟩;cases h;cases h
end Go.Di
section
namespace Go.Proofs
open Go.Shelf Go.RowKit Go.Lib Go.Sort
def Tryz.J8:Go.Shelf.Ren:=⟨λ|41=>91|n=>n,λ|22=>23|23=>3|4=>4|n=>n,λ|n=>n⟩
theorem Tryz.EC:Go.Proofs.SlLaysN.n41 Tryz.prog Tryz.J8:={
 mixed:=by kernel_rfl
 f41:=⟨Tryz.f91.name,an,Tryz.func91.trans (congrArg some (by kernel_rfl))⟩
 t4:=Tryz.underlying4
 a4:=Tryz.isAgg4
 z4:=Tryz.sizeOf4
 v4:=Tryz.zeroValue4
 t22:=Tryz.underlying23
 a22:=Tryz.isAgg23
 z22:=Tryz.sizeOf23
 v22:=Tryz.zeroValue23
 t23:=Tryz.underlying3
 a23:=Tryz.isAgg3
 z23:=Tryz.sizeOf3
 v23:=Tryz.zeroValue3
 i23:=by kernel_rfl}
def Tryz.FA:Go.Shelf.Ren:=⟨λ|35=>153|n=>n,λ|22=>23|23=>3|3=>3|4=>4|0=>0|n=>n,λ|n=>n⟩
theorem Tryz.yx:Go.Proofs.SlLaysN.n35 Tryz.prog Tryz.FA:={
 mixed:=by kernel_rfl
 f35:=⟨Tryz.f153.name,an,Tryz.func153.trans (congrArg some (by kernel_rfl))⟩
 t0:=Tryz.underlying0
 a0:=Tryz.isAgg0
 z0:=Tryz.sizeOf0
 v0:=Tryz.zeroValue0
 t3:=Tryz.underlying3
 a3:=Tryz.isAgg3
 z3:=Tryz.sizeOf3
 v3:=Tryz.zeroValue3
 t4:=Tryz.underlying4
 a4:=Tryz.isAgg4
 z4:=Tryz.sizeOf4
 v4:=Tryz.zeroValue4
 t22:=Tryz.underlying23
 a22:=Tryz.isAgg23
 z22:=Tryz.sizeOf23
 v22:=Tryz.zeroValue23
 t23:=Tryz.underlying3
 a23:=Tryz.isAgg3
 z23:=Tryz.sizeOf3
 v23:=Tryz.zeroValue3}
theorem Tryz.abq (b off n c:Nat)(zs:br)(w:World)(hz:n<=zs.length)(aaw:n*8<=140737488355328)(hc:∀j,j<zs.length->w.cell? ⟨b,off+j,none⟩=some (.int .i64 (zs.getD j 0))):
  Calls Tryz.prog 133 #[.slice (some ⟨b,off,none⟩) n c] w λe w'=>∃v',e=.returned v'/\w'.ownsRow w.heap.size 3 1 v' n ((zs.take n).reverse.map (Value.int .i64))/\Below w.heap.size w w':=by
 have Ol:=AnyG.slices_Clone_int Tryz.EC b off n c zs w hz aaw hc;clear hc
 go_enter Tryz.func133,Tryz.ntmps133
 go_wp2_with (first
  |(go_at_call 91;refine Ol.mono ?_;rintro e w1 ⟨v1,rfl,gC,UQ,DK⟩;obtain⟨g,cap,rfl,hbg,_,_,hcm,hlen,hH⟩:=Lib.holds_of_ownsRow gC UQ;have agO:=AnyG.slices_Reverse_int Tryz.yx g 0 cap (zs.take n) w1 hH (by unfold maxLen at hcm;omega);rw[hlen]at agO;have X:Aside (w1.ownsRow w.heap.size 3 1 (.slice (some ⟨g,0,none⟩) n cap) n ((zs.take n).map (Value.int .i64))/\Below w.heap.size w w1/\w.heap.size<=g):=⟨gC,DK,hbg⟩;clear gC DK hH UQ)
  |(go_at_call 153;refine agO.mono ?_;rintro e w2 ⟨rfl,q,rfl⟩))
 go_ret
 have hy:(zs.take n).reverse.length=n:=by simpa using hlen
 have h1:=Lib.ownsRow_putRow (q:=q) (ys:=(zs.take n).reverse) X.out.1 hy (ak n);rw[List.take_of_length_le (Nat.le_of_eq hy)]at h1;exact⟨_,rfl,by simpa [List.map_reverse,List.map_take]using h1,Lib.below_putRow X.out.2.1 X.out.2.2⟩
theorem Tryz.rev_zero (a:Addr)(c:Nat)(w:World):
  Calls Tryz.prog 133 #[.slice (some a) 0 c] w λe w'=>∃v',e=.returned v'/\w'.ownsRow w.heap.size 3 1 v' 0 []/\Below w.heap.size w w':=by
 have Ol:=AnyG.slices_Clone_int_zero Tryz.EC a c w
 go_enter Tryz.func133,Tryz.ntmps133
 go_wp2_with (first
  |(go_at_call 91;refine Ol.mono ?_;rintro e w1 ⟨v1,rfl,gC,UQ,DK⟩;obtain⟨g,cap,rfl,_,_,_,_,_,_⟩:=Lib.holds_of_ownsRow (enc:=Value.int .i64) (zs:=[]) gC UQ;have X:Aside (w1.ownsRow w.heap.size 3 1 (.slice (some ⟨g,0,none⟩) 0 cap) 0 []/\Below w.heap.size w w1):=⟨gC,DK⟩;clear gC DK UQ)
  |(go_at_call 153;refine(AnyG.slices_Reverse_int_empty Tryz.yx _ _ _).mono ?_;rintro e w2 ⟨rfl,rfl⟩))
 go_ret
 exact⟨_,rfl,X.out.1,X.out.2⟩
theorem Tryz.abp (n c:Nat)(w:World):
  Calls Tryz.prog 133 #[.slice none n c] w λe w'=>e=.returned (.slice none 0 0)/\w'=w:=by
 go_enter Tryz.func133,Tryz.ntmps133
 go_wp2_with (first
  |(go_at_call 91;refine(AnyG.slices_Clone_int_nil Tryz.EC n c _).mono ?_;rintro e w' ⟨rfl,rfl⟩)
  |(go_at_call 153;refine(AnyG.slices_Reverse_int_empty Tryz.yx none 0 _).mono ?_;rintro e w' ⟨rfl,rfl⟩))
 go_ret
 exact⟨rfl,rfl⟩
end Go.Proofs
namespace Go.Di
open Go Go.Conc Go.Co Go.Proofs
variable {P:Program} {aa:Machine->Trace->Prop} {x:Cx}
theorem CD{g:FuncId}{vals:Array Value}{fn:Func}{c:Code}{R:Value->World->Prop}(hP:Plain P)(hf:P.funcs[g]? =some fn)(hb:fn.body=some c)(mH:∀τ,Calls P g vals (x.w.re τ 0) λe w'=>∃v,e=.returned v/\R v w')
  {Post:Cx->Value->Prop} (hq:∀v w',R v w'->∀τ d,∃y:Cx,y.w=w'.re τ d/\Post y v):fS P aa x g vals Post:=by
 refine⟨⟨fn,c,hf,hb⟩,λfr cs hc=>Q7 hP λ_ τ=>?_⟩;obtain⟨e,w',fr',⟨v,rfl,hR⟩,Oj,UU,lK⟩:=mH τ (fr::cs);obtain⟨n,hn⟩:=Steps.trans Oj (Steps.one (step_leave_returned lK));refine⟨n,_,w',hn,rfl,rfl,λτ d=>?_⟩;obtain⟨y,hy,hp⟩:=hq v w' hR τ d;have:=hc y v hp;rw[hy]at this;exact this
def aag:DV->Option DV
 |.sl rows _ _=>match B2 rows with
  |some l=>if l.length<=1000000 then some (.sl (l.reverse.map λn=>.val (.int .i64 n)) none ⟨false,none⟩)else none
  |none=>none
 |_=>none
theorem HJ(l:List Value):flat (l.map DV.val)=l.map DV.val:=by
 induction l with
 |nil=>rfl
 |cons m l ih=>simp only[flat,aY,cz]at ih⊢;rw[ih];rfl
theorem SS{a d:DV}(h:aag a=some d){vals:Array Value}(hR:Rel x)(ha:ig x [a] vals):fS Tryz.prog aa x 133 vals λy u=>y.S=x.S/\Rel y/\cg x y/\RV y d u:=by
 unfold aag at h;split at h;rename_i rows tok f;split at h;rename_i l hl;split at h;rename_i hlen;cases h;obtain⟨h1,h2,h3⟩:=wP hl;obtain⟨hsz,bz⟩:=ha;have e:vals=#[vals.getD 0 undef]:=by
  obtain⟨l⟩:=vals
  match l,hsz with
  |[u],_=>rfl
 have hv:=bz 0 _ rfl;generalize vals.getD 0 undef=u at e hv;subst e;cases hv with
 |@sl _ _ _ A cap s vs hv hr k1 k2 k3 k4 k5=>
  have mH:∀τ,Calls Tryz.prog 133 #[.slice A rows.length cap] (x.w.re τ 0) λe w'=>∃v,e=.returned v/\(x.w.heap.size<=w'.heap.size/\(w'.os=x.w.os/\w'.output=x.w.output)/\(∀b,b<x.w.heap.size->w'.heap[b]? =x.w.heap[b]?)/\w'.ownsRow x.w.heap.size 3 1 v l.length (l.reverse.map (Value.int .i64))):=by
   intro τ;cases A with
   |none=>
    have h0:rows.length=0:=by have:=k3 rfl;omega
    have hl0:l=[]:=eR ab;subst hl0;refine(Tryz.abp rows.length cap (x.w.re τ 0)).mono ?_;rintro e w' ⟨rfl,rfl⟩;exact⟨_,rfl,ak _,⟨rfl,rfl⟩,λ_ _=>rfl,World.ownsRow_nil _ _ _ _⟩
   |some ad=>
    have hz:rows.length=l.length:=h1.symm;by_cases h0:l.length=0;have hl0:l=[]:=eR h0;subst hl0;rw[hz];refine(Tryz.rev_zero ad cap (x.w.re τ 0)).mono ?_;rintro e w' ⟨v,rfl,ho,hb⟩;exact⟨_,rfl,hb.size,⟨hb.os,hb.output⟩,hb.block,ho⟩;have hs:=k4 ad rfl ab;obtain⟨b,o,sp⟩:=ad;simp only at hs;subst hs;rw[hz];refine(Tryz.abq b o l.length cap l (x.w.re τ 0) (ak _) ab λj hj=>?_).mono ?_;have hc:(flat rows)[j]? =some (.val (.int .i64 (l.getD j 0))):=by rw[h3];refine h2 j _ ?_;simp[aU,hj]
    obtain⟨-,b',o',q1,q2,q3⟩:=hv.2 j _ hc;cases q1;have:=hr j _ hc;generalize vs j=u at*;cases this with
    |val _=>exact q3
    rintro e w' ⟨v,rfl,ho,hb⟩;rw[fR]at ho;exact⟨_,rfl,hb.size,⟨hb.os,hb.output⟩,hb.block,ho⟩
  refine CD lX Tryz.func133 rfl mH λv w' hp τ d=>?_;obtain⟨p1,p2,p3,p4⟩:x.w.heap.size<=(w'.re τ d).heap.size/\((w'.re τ d).os=x.w.os/\(w'.re τ d).output=x.w.output)/\(∀b,b<x.w.heap.size->(w'.re τ d).heap[b]? =x.w.heap[b]?)/\(w'.re τ d).ownsRow x.w.heap.size 3 1 v l.length (l.reverse.map (Value.int .i64)):=hp;refine⟨x.BW (w'.re τ d) v (l.length*1),rfl,rfl,Br hR p1 p2 p3 p4,tU hR p1 p2 p3 p4,Ei ae (λr hr=>?_) ?_ (λu hu=>?_) p4⟩;simp only[er]at hr;obtain⟨m,-,rfl⟩:=hr;rfl;have:=HJ (l.reverse.map (Value.int .i64));simpa only[jm,Function.comp_def]using this;simp only[er]at hu;obtain⟨m,-,rfl⟩:=hu;exact⟨rfl,rfl⟩
 cases h;cases h;cases h
end Go.Di
end
section
namespace Go.Proofs
open Go.RowKit
theorem acj{l:br}{k:Nat}(hk:k<l.length):((l.take k).map (Value.int .i64)++List.replicate (l.length-k) (Value.int .i64 0)).set k (.int .i64 (l.getD k 0))=(l.take (k+1)).map (Value.int .i64)++List.replicate (l.length-(k+1)) (.int .i64 0):=by
 have e:((l.take k).map (Value.int .i64)).length=k:=by rw[List.length_map,List.length_take];omega
 rw[List.set_append_right _ _ ab,e,Nat.sub_self,show l.length-k=(l.length-(k+1))+1 by omega,zJ,List.set_cons_zero,List.take_add_one,fG,iO];congr 1;simp[aU,hk]
theorem Tryz.acz {w:World}{a:Addr}{v:Value}(h:w.cell? a=some v):a.block<w.heap.size:=by by_cases hb:a.block<w.heap.size;exact hb;simp[World.cell?,JP (zC hb)]at h
theorem Tryz.ack (A:Option Addr)(cap:Nat)(l:br)(w:World)(hl:l.length<=1000)(hR:l≠[]->∃b off,A=some ⟨b,off,none⟩/\∀j,j<l.length->w.cell? ⟨b,off+j,none⟩=some (.int .i64 (l.getD j 0))):
  Calls Tryz.prog 43 #[.slice A l.length cap] w λe w'=>e=.returned (.slice (some ⟨w.heap.size,0,none⟩) l.length l.length)/\w'.ownsRow w.heap.size 3 1 (.slice (some ⟨w.heap.size,0,none⟩) l.length l.length) l.length (l.map (Value.int .i64))/\Below w.heap.size w w':=by
 obtain⟨i0,hi,Kn,Ur,hz2⟩:=info_parts Co.VW;have mY:=Lib.hid hR;clear hR;have hm:l.length<=maxLen:=by unfold maxLen;omega
 go_enter Tryz.func43,Tryz.ntmps43
 go_wp2_with (first|(at_make;go_loud (refine wpList_make_full _ rfl _ _ 23 rfl w.heap.size 3 i0 (.int .i64 0) 1 Tryz.underlying23 hi Kn Ur _ _ _ _ l.length rfl rfl rfl rfl (by rw[hz2];omega) hm (ak _) ?_)))
 intro w1 gC V1
 go_wp2
 go_loopw [4] (λi wr=>∃k:Nat,k<=l.length/\i=.int .i64 (k:Int)/\wr.ownsRow w.heap.size 3 1 (.slice (some ⟨w.heap.size,0,none⟩) l.length l.length) l.length ((l.take k).map (Value.int .i64)++List.replicate (l.length-k) (.int .i64 0))/\Below w.heap.size w wr) (λi _=>l.length-(intOf i).toNat)
 refine⟨0,j7 _,rfl,?_,(Below.refl _ _).grown V1 (ak _) (λg h=>ao)⟩;rw[toList_madeCells_one]at gC;simpa using gC;obtain⟨k,hk,rfl,xT,DK⟩:=hrel;by_cases hkn:k<l.length;obtain⟨b,off,rfl,hc⟩:=mY.out (λe=>by subst e;simp at hkn);have kW:wr.cell? ⟨b,off+k,none⟩=some (.int .i64 (l.getD k 0)):=(DK.cell (p:=⟨b,off+k,none⟩) (Tryz.acz (hc k hkn))).trans (hc k hkn);have Nq:=xT.frozenAt k;have sV:wr.cell? ⟨w.heap.size,k,none⟩=some (.int .i64 0):=by rw[xT.cellAt k ab,jr (by rw[List.length_map,List.length_take];omega),zN,if_pos (by rw[List.length_map,List.length_take];omega)]
 have st:=Lib.hid (xT.stored k (.int .i64 (l.getD k 0)));have uj:=Lib.hid DK;clear xT DK hc gC V1
 go_wp2
 refine⟨⟨k+1,ab,by go_num,?_,?_⟩,by simp[intOf];omega⟩;have:=st.out.1;rw[acj hkn]at this;simpa [aU,hkn]using this;exact uj.out.setCell (ak _) _;clear gC V1;rw[show k=l.length by omega,fR,Nat.sub_self,List.replicate_zero,dW]at xT;have st:=Lib.hid xT;have uj:=Lib.hid DK;clear xT DK
 go_wp2
 go_ret
 exact⟨rfl,st.out,uj.out⟩
end Go.Proofs
namespace Go.Di
open Go Go.Conc Go.Co Go.Proofs
variable {P:Program} {aa:Machine->Trace->Prop} {x:Cx}
def aaD:DV->Option DV
 |.sl rows _ _=>match B2 rows with
  |some l=>if l.length<=1000 then some (.sl (l.map λn=>.val (.int .i64 n)) none ⟨false,none⟩)else none
  |none=>none
 |_=>none
theorem Ud{a d:DV}(h:aaD a=some d){vals:Array Value}(hR:Rel x)(ha:ig x [a] vals):fS Tryz.prog aa x 43 vals λy u=>y.S=x.S/\Rel y/\cg x y/\RV y d u:=by
 unfold aaD at h;split at h;rename_i rows tok f;split at h;rename_i l hl;split at h;rename_i hlen;cases h;obtain⟨h1,h2,h3⟩:=wP hl;obtain⟨hsz,bz⟩:=ha;have e:vals=#[vals.getD 0 undef]:=by
  obtain⟨l⟩:=vals
  match l,hsz with
  |[u],_=>rfl
 have hv:=bz 0 _ rfl;generalize vals.getD 0 undef=u at e hv;subst e;cases hv with
 |@sl _ _ _ A cap s vs hv hr k1 k2 k3 k4 k5=>
  have mH:∀τ,Calls Tryz.prog 43 #[.slice A rows.length cap] (x.w.re τ 0) λe w'=>∃v,e=.returned v/\(x.w.heap.size<=w'.heap.size/\(w'.os=x.w.os/\w'.output=x.w.output)/\(∀b,b<x.w.heap.size->w'.heap[b]? =x.w.heap[b]?)/\w'.ownsRow x.w.heap.size 3 1 v l.length (l.map (Value.int .i64))):=by
   intro τ;have hz:rows.length=l.length:=h1.symm;rw[hz];refine(Tryz.ack A cap l (x.w.re τ 0) hlen λhne=>?_).mono ?_;have FW:0<l.length:=List.length_pos_iff.2 hne;have hc:∀j,j<l.length->(flat rows)[j]? =some (.val (.int .i64 (l.getD j 0))):=λj hj=>by rw[h3];refine h2 j _ ?_;simp[aU,hj]
   obtain⟨-,b,o,q1,-,-⟩:=hv.2 0 _ (hc 0 FW);refine⟨b,o,q1,λj hj=>?_⟩;obtain⟨-,b',o',q2,q3,q4⟩:=hv.2 j _ (hc j hj);rw[q1]at q2;cases q2;have:=hr j _ (hc j hj);generalize vs j=u at*;cases this with
   |val _=>exact q4
   rintro e w' ⟨rfl,ho,hb⟩;exact⟨_,rfl,hb.size,⟨hb.os,hb.output⟩,hb.block,ho⟩
  refine CD lX Tryz.func43 rfl mH λv w' hp τ d=>?_;obtain⟨p1,p2,p3,p4⟩:x.w.heap.size<=(w'.re τ d).heap.size/\((w'.re τ d).os=x.w.os/\(w'.re τ d).output=x.w.output)/\(∀b,b<x.w.heap.size->(w'.re τ d).heap[b]? =x.w.heap[b]?)/\(w'.re τ d).ownsRow x.w.heap.size 3 1 v l.length (l.map (Value.int .i64)):=hp;refine⟨x.BW (w'.re τ d) v (l.length*1),rfl,rfl,Br hR p1 p2 p3 p4,tU hR p1 p2 p3 p4,Ei ae (λr hr=>?_) ?_ (λu hu=>?_) p4⟩;simp only[er]at hr;obtain⟨m,-,rfl⟩:=hr;rfl;have:=HJ (l.map (Value.int .i64));simpa only[jm,Function.comp_def]using this;simp only[er]at hu;obtain⟨m,-,rfl⟩:=hu;exact⟨rfl,rfl⟩
 cases h;cases h;cases h
end Go.Di
end
