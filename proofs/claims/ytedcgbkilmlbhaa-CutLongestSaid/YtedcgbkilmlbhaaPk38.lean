import Derived.Test.YtedcgbkilmlbhaaPk37
import Derived.Test.YtedcgbkilmlbhaaPk33
import Derived.WalkKit
import Derived.Deep.LoopGhost
import Derived.Ground.SlgnProg
import Derived.Shelf.Lay
import Derived.Shelf.SlicesG.Clone
import Derived.Shelf.SlicesG.Reverse
import Derived.Lib.OwnBridge
import Derived.OwnWalk
set_option maxHeartbeats 1000000
set_option maxRecDepth 100000
section
namespace Go.Proofs
open Go.Shelf Go.RowKit Go.Lib Go.Sort Go.Co
theorem Try.aef (g cap:Nat)(d:Array Sm)(w:World)(hH:HoldsK sN 3 w g 0 d)(hg:g<w.heap.size)(hsz:d.size<4611686018427387904):
  Calls Try.prog 61 #[.slice (some ⟨g,0,none⟩) d.size cap,.func (.func 62) #[] #[]] w λe w'=>e=.returned (.tuple #[])/\∃d' n os,PermIn 0 d.size d d'/\SortedIn (ltOf yQ) 0 d.size d'/\w'=sortWorldK sN 3 w g 0 n d' os:=by
 have eg:∀args w,(callFunc 62 args).run Try.prog w=.ok (.enter 62 args) w:=enters_of Try.func62 (by kernel_rfl) rfl;exact AnyQ.slices_SortFunc Try.KX 3 Try.isAgg56 Try.sizeOf56 sN (λ_=>rfl) (λx v hv=>by simp[sN]at hv;rcases hv with rfl|rfl|rfl<;>rfl) yQ af0 62 #[] g 0 cap d w eg (λ_ _ _ _ x y=>Try.SK x y _) hH hg hsz
end Go.Proofs
namespace Go.Co
open Go Go.Conc Go.Proofs Go.Sort Go.Shelf
variable {P:Program} {aa:Machine->Trace->Prop} {γ:So} {w:World}
theorem Ew{Γ:Type}{main:Bool}{K:Γ->Goroutine->World->Prop}{Rl:Γ->World->World->Prop}{St:Γ->World->Γ->World->Array Event->Prop}{fn:FuncId}{Q:Γ->Exit->Act->World->Prop}{a:Act}{ops:Array Oper}{i:Nat}{rest:List Nat}{o:Oper}(C:KC P main K Rl St){γ:Γ}{v:Value}(ho:ops[i]? =some o)(hw:Region.wanted o (yielded ops a.tmps)=true)(hrun:∀w,(execOp a.eval o).run P w=.ok (.value v) w)(wU:∀w,(execOp a.eval o).events P w #[]=#[])
  (h:KO K fn γ ops rest Q (a.put o.dst v) w):KO K fn γ ops (i::rest) Q a w:=
 y9 C ho hw λw₁ r=>by rw[hrun w₁];exact⟨γ,by rw[listed_nil (wU w₁)];exact C.idle _ _,Ji C r h⟩
def BC(A:Nat->Prop)(B0:Nat)(w0:World)(R:List Sm)(out:Value)(w:World):Prop:=Old A B0 w0 w/\w.ownsRow B0 56 3 out R.length (R.flatMap sN)
theorem Wv{A:Nat->Prop}{B0:Nat}{w0:World}{R got:List Sm}{out:Value}(hR:R.Pairwise SQ)(hlen:R.length<=4294967296)(hA:∀b,A b->b<B0)(hO:Old A B0 w0 w)(hp:got.Perm R)(xK:w.ownsRow B0 56 3 out got.length (got.flatMap sN)):
  Calls Try.prog 61 #[out,.func (.func 62) #[] #[]] w λe w'=>∃v,e=.returned v/\BC A B0 w0 R out w':=by
 have hl:=hp.length_eq;rcases xK.2 with ⟨rfl,h0⟩|⟨g,cap,cur,rfl,hb,hg,hn,hc,ov,ht⟩;.have ahW:got=[]:=fA h0;have hRn:R=[]:=fA (by omega);subst ahW;subst hRn;exact(Try.NT _ w).mono λe w' ⟨he,hw⟩=>⟨_,he,by subst hw;exact⟨hO,xK⟩⟩
 have hlt:g<w.heap.size:=(aL.1 hg).1;have hH:HoldsK sN 3 w g 0 got.toArray:=Of hg (by simpa using ht);have h:=Try.aef g cap got.toArray w hH hlt (by simp;omega);simp only[mF]at h;refine h.mono ?_;rintro e w' ⟨he,d',n,os,hpm,hs,rfl⟩;obtain⟨hsz,-,hpm⟩:=hpm;have hsz':d'.size=got.length:=by simpa using hsz
 have hd:d'.toList=R:=by
  refine RB ?_ (by rw[hsz'];exact hs) hR;have h1:(d'.extract 0 got.length)=d':=by rw[<-hsz'];simp
  have h2:(got.toArray.extract 0 got.length)=got.toArray:=by simp
  rw[h1,h2]at hpm;exact hpm.trans hp
 have hgr:=JJ (w:=w) (g:=g) (n:=n) (os:=os) d';refine⟨_,he,⟨λb pE=>?_,bp hO.2.1 hgr.size,hgr.os.trans hO.2.2.1,hgr.output.trans hO.2.2.2⟩,?_⟩;.have:=hA b pE;exact(hgr.block b (dM this hO.2.1) (λe=>by cases e;omega)).trans (hO.1 b pE)
 have:=JD (n:=n) (os:=os) (d:=d') hb hg (by omega) hc ov;rw[hsz',hd]at this;rw[<-hl];exact this
theorem ZW{da db:Wk}(wN:da.ok)(BH:db.ok)(haa:Yz da.bw)(qC:Yz db.bw):V0 aa (ez da db):=by
 intro A B0 w0 γ' a' w' hE;obtain⟨-,-,hS,got,out,hp,xK,u,rfl⟩:=hE;have C:=zb (aa:=aa) lP;unfold U0;show KJ _ _ _ (.seq (.region _ _ false) (.seq (.region _ _ false) .ret)) _ _ _;refine bk C (Bq C ?_);simp only[mF,dw,kX,Nat.reduceAdd,jr,List.range,List.range.loop];refine Ew C (v:=?v1) rfl (by rfl) (λw=>run_eq_of λK hK=>?r1) (λw=>?e1) ?h1
 case r1=>go_simp;exact hK
 case e1=>simp[go_sem]
 try walk_nrm
 refine aay lP (R:=λ_ w=>BC A B0 w0 (ez da db) out w) rfl (by rfl) rfl Try.func61 rfl (λτ=>?_) (λv w2 hR τ d=>?_);.simp only[List.map_toArray,aV,fe];have hO:Old A B0 w0 (w'.re τ 0):=⟨hS.blk,hS.size,hS.env.1,hS.env.2⟩;exact Wv (RE haa qC) (ES wN BH) hS.lt hO hp xK
 have mS:BC A B0 w0 (ez da db) out (w2.re τ d):=hR;generalize w2.re τ d=w3 at*;try walk_nrm
 refine aU C ?_;co_then;refine bk C (Bq C ?_);simp only[mF,dw,kX,Nat.reduceAdd,jr,List.range,List.range.loop];refine Ew C (v:=?v2) rfl (by rfl) (λw=>run_eq_of λK hK=>?r2) (λw=>?e2) ?h2
 case r2=>go_simp;exact hK
 case e2=>simp[go_sem]
 try walk_nrm
 refine Ew C (v:=?v3) rfl (by rfl) (λw=>run_eq_of λK hK=>?r3) (λw=>?e3) ?h3
 case r3=>go_simp;exact hK
 case e3=>simp[go_sem]
 try walk_nrm
 refine aU C ?_;co_then;refine DY C ?_;exact⟨rfl,rfl,mS.1,mS.2⟩
theorem Z7{ca cb:Array Value}{da db:Wk}(wN:da.ok)(BH:db.ok)(haa:Yz da.bw)(qC:Yz db.bw)(hva:xl γ w ca da)(hvb:xl γ w cb db):
  yU (Rg Try.prog aa) Try.prog (.bad,γ) 33 #[.agg ca,.agg cb] w λγ' v w'=>γ'.1=.bad/\Kept γ w γ'.2 w'/\lZ γ'.2 w' w.heap.size 56 3 v (ez da db).length ((ez da db).flatMap sN):=
 Mc lP wN BH hva hvb (ZW wN BH haa qC)
end Go.Co
end
namespace Go.Di
open Go Go.Conc Go.Co Go.Proofs
variable {P:Program} {aa:Machine->Trace->Prop} {x:Cx}
theorem Mm{g:FuncId}{vals:Array Value}{Post':Value->World->Prop}(hP:Plain P)(h:yU (jk P aa) P () g vals x.w (λ_=>Post')){Post:Cx->Value->Prop}(hq:∀v w',Post' v w'->∃y:Cx,y.w=w'/\Post y v):fL P aa x g vals Post:=by
 obtain⟨vB,c,hf,-,O4,hwp⟩:=h;refine⟨⟨vB,c,hf,O4⟩,λfr cs hc=>?_⟩;have C:=zb (aa:=aa) hP;rw[enter_at vals hf O4];have lE:∀(a':Act)(w':World)(todo:List Item),(a'.defers=[]/\∃v,ResultsC P vB a'.tmps v/\Post' v w')->
   jk P aa () (G {(base g).at a' todo with mode:=.returning} (fr::cs)) w':=by
  rintro a' w' todo ⟨hd,v,hr,hp⟩;obtain⟨y,rfl,hy⟩:=hq v w' hp;refine C.go (λw₁=>?_) (hc y v hy);rw[stepG_leave (b:=base g) rfl hd hf (hr w₁).1 (hr w₁).2]
 refine hwp (base g) [] _ rfl (by simp[base]) λγ' e a' w' q=>?_;cases e with
 |normal=>exact C.go (λ_=>stepG_end) (lE a' w' [] q)
 |ret=>exactλtodo=>lE a' w' todo q
 |exit id=>exact q.elim
 |goto l=>exact q.elim
 |panic ch=>exact q.elim
 |outgrown=>exact q.elim
def Az(v:Value)(n:Nat)(b o:Nat):Prop:=v.ownBlock=some b/\o<n
def Cx.BN (x:Cx)(w':World)(v:Value)(n:Nat):Cx:={x with w:=w',Fz:=λb o=>x.Fz b o\/Az v n b o}
section
variable {w':World} {v:Value} {e:TypeId} {s n:Nat} {xs:List Value}
theorem tq(hR:Rel x)(hs:x.w.heap.size<=w'.heap.size)(he:w'.os=x.w.os/\w'.output=x.w.output)(ho:∀b,b<x.w.heap.size->w'.heap[b]? =x.w.heap[b]?)(hr:w'.ownsRow x.w.heap.size e s v n xs):bU x (x.BN w' v (n*s)) where
 size:=hs
 env:=he
 fz:=λb o h=>⟨.inl h,by obtain⟨u,hu⟩:=hR.As b o h;exact cell_of_block (ho b (World.block_lt_of_cell? _ ⟨b,o,none⟩ hu)) o⟩
 JM:=λb o h=>h.imp id λh=>.inl (hr.lt b h.1).1
 old:=λb hb _=>ho b hb
 len:=aj _
 cells:=λid l h=>⟨rfl,l,h⟩
 eF:=λid b h hb=>⟨rfl,⟨b,h,eX hb⟩,λhd=>by obtain⟨o,h1,-⟩:=hR.eF id b h hb;exact ho _ (aL.1 h1).1⟩
 dZ:=λt e s n h=>⟨n,h,aj _,λ_=>⟨rfl,rfl⟩⟩
 live:=λi h=>.inl ⟨h,rfl⟩
 ops:=λ_ _ _ l z h=>⟨l,z,h,aj _,λe=>⟨rfl,e⟩,λ_=>⟨rfl,rfl⟩⟩
theorem Bf(hR:Rel x)(hs:x.w.heap.size<=w'.heap.size)(he:w'.os=x.w.os/\w'.output=x.w.output)(ho:∀b,b<x.w.heap.size->w'.heap[b]? =x.w.heap[b]?)(hr:w'.ownsRow x.w.heap.size e s v n xs):Rel (x.BN w' v (n*s)):=by
 have M:=tq hR hs he ho hr;have hlt:∀{b:Nat}{o:Obj},x.w.heap[b]? =some o->b<x.w.heap.size:=λh=>(aL.1 h).1;have yG:∀b o,Az v (n*s) b o->x.w.heap.size<=b:=λb o h=>(hr.lt b h.1).1;refine⟨λid l hl=>?_,λid e' s' n' hl=>?_,λid b hl hb=>?_,hR.inj,λb o h=>?_,λid hl o h=>?_,λid e' s' n' hl o h=>?_,λid e' s' l z hl=>?_⟩;.obtain⟨arr,e',h1,h2,h3⟩:=hR.cells id l hl;exact⟨arr,e',(ho _ (hlt h1)).trans h1,h2,λj c hc=>(h3 j c hc).mono M⟩
 .obtain⟨arr,h1,h2⟩:=hR.dZ id e' s' n' hl;exact⟨arr,(ho _ (hlt h1)).trans h1,h2⟩
 .obtain⟨o,h1,h2⟩:=hR.eF id b hl hb;exact⟨o,(ho _ (hlt h1)).trans h1,h2.mono M⟩
 .rcases h with h|h;.obtain⟨u,hu⟩:=hR.As b o h;exact⟨u,((M.fz b o h).2).trans hu⟩
  obtain⟨hv,hon⟩:=h;rcases hr.2 with ⟨rfl,-⟩|⟨g,cap,cur,rfl,hb,hg,hn,hc,ov,ht⟩;.simp[Value.ownBlock]at hv
  simp only[Value.ownBlock,aB]at hv;subst hv;have:o<cur.size:=by rw[ov];exact dM hon (fZ _ hn)
  exact⟨cur[o],by simp only[World.cell?,Cx.BN,hg];exact cr this⟩
 .rcases h with h|h;.exact hR.sep id hl o h
  obtain⟨l,hl⟩:=hl;obtain⟨arr,e',h1,-⟩:=hR.cells id l hl;have:=yG _ _ h;have:=hlt h1;show False;change x.w.heap.size<=x.μ id at*;omega
 .rcases h with h|h;.exact hR.pL id e' s' n' hl o h
  obtain⟨arr,h1,-⟩:=hR.dZ id e' s' n' hl;have h3:=yG _ _ h;have h4:=hlt h1;change x.w.heap.size<=x.μ id at h3;omega
 obtain⟨arr,h1,h2,h3,h4,h5,h6,h7⟩:=hR.ops id e' s' l z hl;refine⟨arr,(ho _ (hlt h1)).trans h1,h2,h3,h4,λj c hc=>⟨(h5 j c hc).1,(h5 j c hc).2.mono M⟩,λhz j hj=>.inl (h6 hz j hj),λhz o h=>?_⟩;rcases h with h|h;.exact h7 hz o h
 have h3:=yG _ _ h;have h4:=hlt h1;change x.w.heap.size<=x.μ id at h3;omega
theorem Ed{rows:List DV}(hn:rows.length=n)(pW:∀r∈rows,r.cells.length=s)(uh:flat rows=xs.map .val)(BF:∀u∈xs,AO u=true/\(DV.val u).bY=true)(hr:w'.ownsRow x.w.heap.size e s v n xs):RV (x.BN w' v (n*s)) (.sl rows none ⟨false,none⟩) v:=by
 have hlen:=hr.1;have jm:∀(j:Nat)(c:DV),(flat rows)[j]? =some c->∃u,xs[j]? =some u/\c=DV.val u/\AO u=true/\c.bY=true:=by intro j c hc;rw[uh,cR,af]at hc;obtain⟨u,h1,rfl⟩:=hc;have:=BF u (b9 h1);exact⟨u,h1,rfl,this.1,this.2⟩
 subst hn;rcases hr.2 with ⟨rfl,h0⟩|⟨g,cap,cur,rfl,hb,hg,hn,hc,ov,ht⟩;.have hrn:rows=[]:=fA h0;subst hrn;exact RV.sl (rows:=[]) (A:=none) (cap:=0) (s:=0) (vs:=λ_=>undef) ⟨by simp,by simp[flat]⟩ (by simp[flat]) (aj _) ⟨λ_=>rfl,λb h=>nomatch h⟩ (λ_=>rfl) (λ_ h _=>by cases h) (λt ht=>by cases ht)
 have bh:∀j u,xs[j]? =some u->cur[j]? =some u/\j<rows.length*s:=by
  intro j u hu;rw[<-ht,qS]at hu;split at hu;.exact⟨by simpa using hu,‹_›⟩
  cases hu
 refine RV.sl (s:=s) (vs:=λj=>xs.getD j undef) ⟨pW,λj c S5=>?_⟩ (λj c S5=>?_) hn ⟨by simp,λb h=>nomatch h⟩ (by simp) (λad h _=>by cases h;rfl) (λt ht=>nomatch ht);.obtain⟨u,h1,rfl,h2,h3⟩:=jm j c S5;obtain⟨h4,h5⟩:=bh j u h1;refine⟨h3,g,0,rfl,.inr ⟨rfl,by omega⟩,?_⟩;simp[World.cell?,Cx.BN,hg,h4,aR,h1]
 obtain⟨u,h1,rfl,h2,h3⟩:=jm j c S5;simp only[aR,h1,mC];exact .val h2
end
def BR:List DV->Option (List Int)
 |[]=>some []
 |.val (.int .i64 n)::l=>(BR l).map (n::·)
 |_=>none
def Q2:DV->Option (List Int)
 |.sl rows _ _=>BR rows
 |_=>none
def Gj:List DV->Option (List (List Int))
 |[]=>some []
 |d::l=>match Q2 d,Gj l with
  |some r,some rs=>some (r::rs)
  |_,_=>none
def YD:DV->Option Wk
 |.agg [_,_,.val (.int .i64 cH),l,u0,l0,u1,l1,u2,l2,u3,l3]=>match Q2 l,Gj [u0,u1,u2,u3],Gj [l0,l1,l2,l3]with
  |some l,some us,some ls=>some ⟨l,cH,λi=>us.getD i [],λi=>ls.getD i []⟩
  |_,_,_=>none
 |_=>none
def FM(l:List Int):Bool:=decide (l.length<=1000)&&l.all λx=>decide (0<=x)&&decide (x<=9)
def M3:List Int->Bool
 |[]=>true
 |a::l=>l.all (λb=>decide (a<b))&&M3 l
def wkB(d:Wk):Bool:=decide (d.bw.length<=1000)&&d.bw.all (λx=>decide (0<=x)&&decide (x<=3))&&decide (0<=d.cH)&&decide (d.cH<=1000)&&
 (List.range 4).all (λi=>FM (d.up i)&&FM (d.lo i))&&M3 d.bw
def smD(m:Sm):DV:=.agg [.val (.int .i64 m.1),.val (.int .i64 m.2.1),.val (.int .i64 m.2.2)]
def Il(a b:DV):Option DV:=match YD a,YD b with
 |some da,some db=>if wkB da&&wkB db then some (.sl ((ez da db).map smD) none ⟨false,none⟩)else none
 |_,_=>none
theorem Ql{l:List Int}(h:FM l=true):Yy l:=by simp only[FM,aA,cC,aT]at h;exact⟨h.1,λi x hx=>h.2 x (b9 hx)⟩
theorem QI:∀{l:List Int},M3 l=true->Yz l
 |[],_=>List.Pairwise.nil
 |a::l,h=>by simp only[M3,aA,aT,cC]at h;exact List.Pairwise.cons h.1 (QI h.2)
theorem sC:∀{l:List DV}{r:List (List Int)},Gj l=some r->r.length=l.length/\∀i:Nat,∀d,l[i]? =some d->Q2 d=some (r.getD i [])
 |[],r,h=>by cases h;simp
 |d::l,r,h=>by
  simp only[Gj]at h;split at h
  .rename_i r1 rs h1 h2;cases h;obtain⟨h3,h4⟩:=sC h2;refine⟨by simp[h3],λi d' hd=>?_⟩;cases i with
   |zero=>simp at hd;subst hd;simpa using h1
   |succ i=>simp at hd;simpa using h4 i d' hd
  cases h
theorem wF:∀{l:List DV}{r:List Int},BR l=some r->r.length=l.length/\(∀(i:Nat)(n:Int),r[i]? =some n->l[i]? =some (.val (.int .i64 n)))/\flat l=l
 |[],r,h=>by cases h;simp[flat]
 |.val (.int .i64 n)::l,r,h=>by
  simp only[BR,af]at h;obtain⟨r',h1,rfl⟩:=h;obtain⟨h2,h3,h4⟩:=wF h1;refine⟨by simp[h2],λi m hm=>?_,?_⟩
  .cases i with
   |zero=>simp at hm;subst hm;rfl
   |succ i=>simp at hm;simpa using h3 i m hm
  simp only[flat,cM,DV.cells]at h4⊢;rw[h4];rfl
def acM(w:World):So:=(λb=>b<w.heap.size,λ_=>False)
theorem sV{d:DV}{r:List Int}{v:Value}(hd:Q2 d=some r)(h:RV x d v):Au (acM x.w) x.w v r:=by
 unfold Q2 at hd;split at hd
 .rename_i rows tok f;obtain⟨h1,h2,h3⟩:=wF hd;cases h with
  |@sl _ _ _ A cap s vs hv hr k1 k2 k3 k4 k5=>
   refine⟨A,cap,by rw[h1],λi n hn=>?_⟩;have hc:(flat rows)[i]? =some (.val (.int .i64 n)):=by rw[h3];exact h2 i n hn
   obtain⟨-,b,o,q1,q2,q3⟩:=hv.2 i _ hc;have:=hr i _ hc;generalize vs i=u at*;cases this with
   |val _=>refine⟨_,q1,?_⟩;rw[jb];exact⟨.inl (World.block_lt_of_cell? _ ⟨b,o+i,none⟩ q3),q3⟩
 cases hd
theorem Vc{d:DV}{k:Wk}{v:Value}(hd:YD d=some k)(h:RV x d v):∃ca,v=.agg ca/\xl (acM x.w) x.w ca k:=by
 unfold YD at hd;split at hd
 .rename_i c0 c1 cH l u0 l0 u1 l1 u2 l2 u3 l3;split at hd
  .rename_i lr us ls h1 h2 h3;cases hd;cases h with
   |@agg _ ca hsz hc=>
    refine⟨ca,rfl,?_⟩;have bh:∀(j:Nat) d,([c0,c1,.val (.int .i64 cH),l,u0,l0,u1,l1,u2,l2,u3,l3]:List DV)[j]? =some d->∃u,ca[j]? =some u/\RV x d u:=by
     intro j d hj;have hlt:j<ca.size:=by rw[hsz];exact(az.1 hj).1
     have:=hc j d hj;simp only[bq,cr hlt,mC]at this;exact⟨ca[j],cr hlt,this⟩
    obtain⟨-,hu⟩:=sC h2;obtain⟨-,hl⟩:=sC h3;refine⟨?_,?_,λi hi=>?_,λi hi=>?_⟩;.obtain⟨u,q1,q2⟩:=bh 2 _ rfl;cases q2;exact q1
    .obtain⟨u,q1,q2⟩:=bh 3 _ rfl;exact⟨u,q1,sV h1 q2⟩
    .have:i=0\/i=1\/i=2\/i=3:=by omega
     rcases this with rfl|rfl|rfl|rfl;.obtain⟨u,q1,q2⟩:=bh 4 _ rfl;exact⟨u,q1,sV (hu 0 _ rfl) q2⟩
     .obtain⟨u,q1,q2⟩:=bh 6 _ rfl;exact⟨u,q1,sV (hu 1 _ rfl) q2⟩
     .obtain⟨u,q1,q2⟩:=bh 8 _ rfl;exact⟨u,q1,sV (hu 2 _ rfl) q2⟩
     obtain⟨u,q1,q2⟩:=bh 10 _ rfl;exact⟨u,q1,sV (hu 3 _ rfl) q2⟩
    have:i=0\/i=1\/i=2\/i=3:=by omega
    rcases this with rfl|rfl|rfl|rfl;.obtain⟨u,q1,q2⟩:=bh 5 _ rfl;exact⟨u,q1,sV (hl 0 _ rfl) q2⟩
    .obtain⟨u,q1,q2⟩:=bh 7 _ rfl;exact⟨u,q1,sV (hl 1 _ rfl) q2⟩
    .obtain⟨u,q1,q2⟩:=bh 9 _ rfl;exact⟨u,q1,sV (hl 2 _ rfl) q2⟩
    obtain⟨u,q1,q2⟩:=bh 11 _ rfl;exact⟨u,q1,sV (hl 3 _ rfl) q2⟩
  cases hd
 cases hd
theorem ZI{d:DV}{k:Wk}(hd:YD d=some k):∀i,4<=i->k.up i=[]/\k.lo i=[]:=by
 unfold YD at hd;split at hd
 .split at hd;.rename_i lr us ls h1 h2 h3;cases hd;have h4:=(sC h2).1;have h5:=(sC h3).1;simp only[dw,kX]at h4 h5;intro i hi;simp only[aR];rw[fu (by omega),fu (by omega)];exact⟨rfl,rfl⟩
  cases hd
 cases hd
theorem Vd{d:DV}{k:Wk}(hd:YD d=some k)(h:wkB k=true):k.ok/\Yz k.bw:=by
 simp only[wkB,aA,cC,aT]at h;obtain⟨⟨⟨⟨⟨h1,h2⟩,h3⟩,h4⟩,h5⟩,h6⟩:=h;have far:=ZI hd;refine⟨⟨h1,λi x hx=>h2 x (b9 hx),⟨h3,h4⟩,λi=>?_,λi=>?_⟩,QI h6⟩
 .rcases qN i 4 with hi|hi;.exact Ql (h5 i (by simpa using hi)).1
  rw[(far i hi).1];exact⟨by simp,by simp⟩
 rcases qN i 4 with hi|hi;.exact Ql (h5 i (by simpa using hi)).2
 rw[(far i hi).2];exact⟨by simp,by simp⟩
theorem XS(l:List Sm):flat (l.map smD)=(l.flatMap sN).map .val:=by
 induction l with
 |nil=>rfl
 |cons m l ih=>simp only[flat,aV,cM,dW]at ih⊢;rw[ih];rfl
theorem Mb{a b d:DV}(h:Il a b=some d){vals:Array Value}(hR:Rel x)(ha:iw x [a,b] vals):fL Try.prog aa x 33 vals λy u=>y.S=x.S/\Rel y/\bU x y/\RV y d u:=by
 unfold Il at h;split at h
 .rename_i da db h1 h2;split at h
  .rename_i hb;cases h;simp only[aA]at hb;obtain⟨wN,haa⟩:=Vd h1 hb.1;obtain⟨BH,qC⟩:=Vd h2 hb.2;obtain⟨hsz,bh⟩:=ha;have e:vals=#[vals.getD 0 undef,vals.getD 1 undef]:=by
    obtain⟨l⟩:=vals
    match l,hsz with
    |[u,v],_=>rfl
   obtain⟨ca,hca,hva⟩:=Vc h1 (bh 0 _ rfl);obtain⟨cb,hcb,hvb⟩:=Vc h2 (bh 1 _ rfl);rw[hca,hcb]at e;subst e;have key:=Z7 (aa:=aa) wN BH haa qC hva hvb;refine Mm lP (Od (Post':=λv w'=>x.w.heap.size<=w'.heap.size/\(w'.os=x.w.os/\w'.output=x.w.output)/\(∀b,b<x.w.heap.size->w'.heap[b]? =x.w.heap[b]?)/\w'.ownsRow x.w.heap.size 56 3 v (ez da db).length ((ez da db).flatMap sN)) (λγ' v w w1 hp _ r=>?_) key) λv w' hp=>?_;.obtain⟨hk,ho⟩:=hp;refine⟨bp hk.size r.1,⟨r.2.2.2.1.trans hk.env.1,r.2.2.2.2.trans hk.env.2⟩,λb hb=>?_,(ho.rely r).1⟩;have fN:(acM x.w).all b:=.inl hb;exact(r.2.1 b (hk.all fN)).trans (hk.blk b fN hb)
   obtain⟨p1,p2,p3,p4⟩:=hp;refine⟨x.BN w' v ((ez da db).length*3),rfl,rfl,Bf hR p1 p2 p3 p4,tq hR p1 p2 p3 p4,Ed (by simp) (λr hr=>?_) (XS _) (λu hu=>?_) p4⟩;.simp only[dL]at hr;obtain⟨m,-,rfl⟩:=hr;rfl
   simp only[nN,sN,bz,fq,or_false]at hu;obtain⟨m,-,rfl|rfl|rfl⟩:=hu<;>exact⟨rfl,rfl⟩
  cases h
 cases h
end Go.Di
section
namespace Go.Proofs
open Go.Shelf Go.RowKit Go.Lib Go.Sort
def Try.JH:Go.Shelf.Ren:=⟨λ|41=>95|n=>n,λ|22=>22|23=>3|4=>4|n=>n,λ|n=>n⟩
theorem Try.Ev:Go.Proofs.SlLaysN.n41 Try.prog Try.JH:={
 mixed:=by kernel_rfl
 f41:=⟨Try.f95.name,by decide,Try.func95.trans (congrArg some (by kernel_rfl))⟩
 t4:=Try.underlying4
 a4:=Try.isAgg4
 z4:=Try.sizeOf4
 v4:=Try.zeroValue4
 t22:=Try.underlying22
 a22:=Try.isAgg22
 z22:=Try.sizeOf22
 v22:=Try.zeroValue22
 t23:=Try.underlying3
 a23:=Try.isAgg3
 z23:=Try.sizeOf3
 v23:=Try.zeroValue3
 i23:=by kernel_rfl}
def Try.Fp:Go.Shelf.Ren:=⟨λ|35=>96|n=>n,λ|22=>22|23=>3|3=>3|4=>4|0=>0|n=>n,λ|n=>n⟩
theorem Try.ye:Go.Proofs.SlLaysN.n35 Try.prog Try.Fp:={
 mixed:=by kernel_rfl
 f35:=⟨Try.f96.name,by decide,Try.func96.trans (congrArg some (by kernel_rfl))⟩
 t0:=Try.underlying0
 a0:=Try.isAgg0
 z0:=Try.sizeOf0
 v0:=Try.zeroValue0
 t3:=Try.underlying3
 a3:=Try.isAgg3
 z3:=Try.sizeOf3
 v3:=Try.zeroValue3
 t4:=Try.underlying4
 a4:=Try.isAgg4
 z4:=Try.sizeOf4
 v4:=Try.zeroValue4
 t22:=Try.underlying22
 a22:=Try.isAgg22
 z22:=Try.sizeOf22
 v22:=Try.zeroValue22
 t23:=Try.underlying3
 a23:=Try.isAgg3
 z23:=Try.sizeOf3
 v23:=Try.zeroValue3}
theorem Try.aad (b off n c:Nat)(zs:List Int)(w:World)(hz:n<=zs.length)(Ud:n*8<=140737488355328)(hc:∀j,j<zs.length->w.cell? ⟨b,off+j,none⟩=some (.int .i64 (zs.getD j 0))):
  Calls Try.prog 83 #[.slice (some ⟨b,off,none⟩) n c] w λe w'=>∃v',e=.returned v'/\w'.ownsRow w.heap.size 3 1 v' n ((zs.take n).reverse.map (Value.int .i64))/\Below w.heap.size w w':=by
 have NC:=AnyG.slices_Clone_int Try.Ev b off n c zs w hz Ud hc;clear hc
 go_enter Try.func83,Try.ntmps83
 go_wp2_with (first
  |(go_at_call 95;refine NC.mono ?_;rintro e w1 ⟨v1,rfl,fR,Ts,Dx⟩;obtain⟨g,cap,rfl,hbg,_,_,hcm,hlen,hH⟩:=Lib.holds_of_ownsRow fR Ts;have afr:=AnyG.slices_Reverse_int Try.ye g 0 cap (zs.take n) w1 hH (by unfold maxLen at hcm;omega);rw[hlen]at afr;have X:Aside (w1.ownsRow w.heap.size 3 1 (.slice (some ⟨g,0,none⟩) n cap) n ((zs.take n).map (Value.int .i64))/\Below w.heap.size w w1/\w.heap.size<=g):=⟨fR,Dx,hbg⟩;clear fR Dx hH Ts)
  |(go_at_call 96;refine afr.mono ?_;rintro e w2 ⟨rfl,q,rfl⟩))
 go_ret
 have hy:(zs.take n).reverse.length=n:=by simpa using hlen
 have h1:=Lib.ownsRow_putRow (q:=q) (ys:=(zs.take n).reverse) X.out.1 hy (aj n);rw[List.take_of_length_le (Nat.le_of_eq hy)]at h1;exact⟨_,rfl,by simpa [List.map_reverse,List.map_take]using h1,Lib.below_putRow X.out.2.1 X.out.2.2⟩
theorem Try.rev_zero (a:Addr)(c:Nat)(w:World):
  Calls Try.prog 83 #[.slice (some a) 0 c] w λe w'=>∃v',e=.returned v'/\w'.ownsRow w.heap.size 3 1 v' 0 []/\Below w.heap.size w w':=by
 have NC:=AnyG.slices_Clone_int_zero Try.Ev a c w
 go_enter Try.func83,Try.ntmps83
 go_wp2_with (first
  |(go_at_call 95;refine NC.mono ?_;rintro e w1 ⟨v1,rfl,fR,Ts,Dx⟩;obtain⟨g,cap,rfl,_,_,_,_,_,_⟩:=Lib.holds_of_ownsRow (enc:=Value.int .i64) (zs:=[]) fR Ts;have X:Aside (w1.ownsRow w.heap.size 3 1 (.slice (some ⟨g,0,none⟩) 0 cap) 0 []/\Below w.heap.size w w1):=⟨fR,Dx⟩;clear fR Dx Ts)
  |(go_at_call 96;refine(AnyG.slices_Reverse_int_empty Try.ye _ _ _).mono ?_;rintro e w2 ⟨rfl,rfl⟩))
 go_ret
 exact⟨_,rfl,X.out.1,X.out.2⟩
theorem Try.aac (n c:Nat)(w:World):
  Calls Try.prog 83 #[.slice none n c] w λe w'=>e=.returned (.slice none 0 0)/\w'=w:=by
 go_enter Try.func83,Try.ntmps83
 go_wp2_with (first
  |(go_at_call 95;refine(AnyG.slices_Clone_int_nil Try.Ev n c _).mono ?_;rintro e w' ⟨rfl,rfl⟩)
  |(go_at_call 96;refine(AnyG.slices_Reverse_int_empty Try.ye none 0 _).mono ?_;rintro e w' ⟨rfl,rfl⟩))
 go_ret
 exact⟨rfl,rfl⟩
end Go.Proofs
namespace Go.Di
open Go Go.Conc Go.Co Go.Proofs
variable {P:Program} {aa:Machine->Trace->Prop} {x:Cx}
theorem Cu{g:FuncId}{vals:Array Value}{fn:Func}{c:Code}{R:Value->World->Prop}(hP:Plain P)(hf:P.funcs[g]? =some fn)(hb:fn.body=some c)(mh:∀τ,Calls P g vals (x.w.re τ 0) λe w'=>∃v,e=.returned v/\R v w')
  {Post:Cx->Value->Prop} (hq:∀v w',R v w'->∀τ d,∃y:Cx,y.w=w'.re τ d/\Post y v):fL P aa x g vals Post:=by
 refine⟨⟨fn,c,hf,hb⟩,λfr cs hc=>Qj hP λ_ τ=>?_⟩;obtain⟨e,w',fr',⟨v,rfl,hR⟩,NB,Tw,lE⟩:=mh τ (fr::cs);obtain⟨n,hn⟩:=Steps.trans NB (Steps.one (step_leave_returned lE));refine⟨n,_,w',hn,rfl,rfl,λτ d=>?_⟩;obtain⟨y,hy,hp⟩:=hq v w' hR τ d;have:=hc y v hp;rw[hy]at this;exact this
def Y7:DV->Option DV
 |.sl rows _ _=>match BR rows with
  |some l=>if l.length<=1000000 then some (.sl (l.reverse.map λn=>.val (.int .i64 n)) none ⟨false,none⟩)else none
  |none=>none
 |_=>none
theorem Hs(l:List Value):flat (l.map DV.val)=l.map DV.val:=by
 induction l with
 |nil=>rfl
 |cons m l ih=>simp only[flat,aV,cM]at ih⊢;rw[ih];rfl
theorem RJ{a d:DV}(h:Y7 a=some d){vals:Array Value}(hR:Rel x)(ha:iw x [a] vals):fL Try.prog aa x 83 vals λy u=>y.S=x.S/\Rel y/\bU x y/\RV y d u:=by
 unfold Y7 at h;split at h
 .rename_i rows tok f;split at h
  .rename_i l hl;split at h
   .rename_i hlen;cases h;obtain⟨h1,h2,h3⟩:=wF hl;obtain⟨hsz,bh⟩:=ha;have e:vals=#[vals.getD 0 undef]:=by
     obtain⟨l⟩:=vals
     match l,hsz with
     |[u],_=>rfl
    have hv:=bh 0 _ rfl;generalize vals.getD 0 undef=u at e hv;subst e;cases hv with
    |@sl _ _ _ A cap s vs hv hr k1 k2 k3 k4 k5=>
     have mh:∀τ,Calls Try.prog 83 #[.slice A rows.length cap] (x.w.re τ 0) λe w'=>∃v,e=.returned v/\(x.w.heap.size<=w'.heap.size/\(w'.os=x.w.os/\w'.output=x.w.output)/\(∀b,b<x.w.heap.size->w'.heap[b]? =x.w.heap[b]?)/\w'.ownsRow x.w.heap.size 3 1 v l.length (l.reverse.map (Value.int .i64))):=by
      intro τ;cases A with
      |none=>
       have h0:rows.length=0:=by have:=k3 rfl;omega
       have hl0:l=[]:=fA (by omega);subst hl0;refine(Try.aac rows.length cap (x.w.re τ 0)).mono ?_;rintro e w' ⟨rfl,rfl⟩;exact⟨_,rfl,aj _,⟨rfl,rfl⟩,λ_ _=>rfl,World.ownsRow_nil _ _ _ _⟩
      |some ad=>
       have hz:rows.length=l.length:=h1.symm;by_cases h0:l.length=0;· have hl0:l=[]:=fA h0;subst hl0;rw[hz];refine(Try.rev_zero ad cap (x.w.re τ 0)).mono ?_;rintro e w' ⟨v,rfl,ho,hb⟩;exact⟨_,rfl,hb.size,⟨hb.os,hb.output⟩,hb.block,ho⟩
       have hs:=k4 ad rfl (by omega);obtain⟨b,o,sp⟩:=ad;simp only at hs;subst hs;rw[hz];refine(Try.aad b o l.length cap l (x.w.re τ 0) (aj _) (by omega) λj hj=>?_).mono ?_
       .have hc:(flat rows)[j]? =some (.val (.int .i64 (l.getD j 0))):=by rw[h3];refine h2 j _ ?_;simp[aR,hj]
        obtain⟨-,b',o',q1,q2,q3⟩:=hv.2 j _ hc;cases q1;have:=hr j _ hc;generalize vs j=u at*;cases this with
        |val _=>exact q3
       rintro e w' ⟨v,rfl,ho,hb⟩;rw[fW]at ho;exact⟨_,rfl,hb.size,⟨hb.os,hb.output⟩,hb.block,ho⟩
     refine Cu lP Try.func83 rfl mh λv w' hp τ d=>?_;obtain⟨p1,p2,p3,p4⟩:x.w.heap.size<=(w'.re τ d).heap.size/\((w'.re τ d).os=x.w.os/\(w'.re τ d).output=x.w.output)/\(∀b,b<x.w.heap.size->(w'.re τ d).heap[b]? =x.w.heap[b]?)/\(w'.re τ d).ownsRow x.w.heap.size 3 1 v l.length (l.reverse.map (Value.int .i64)):=hp;refine⟨x.BN (w'.re τ d) v (l.length*1),rfl,rfl,Bf hR p1 p2 p3 p4,tq hR p1 p2 p3 p4,Ed (by simp) (λr hr=>?_) ?_ (λu hu=>?_) p4⟩;· simp only[dL]at hr;obtain⟨m,-,rfl⟩:=hr;rfl
     .have:=Hs (l.reverse.map (Value.int .i64));simpa only[kW,Function.comp_def]using this
     simp only[dL]at hu;obtain⟨m,-,rfl⟩:=hu;exact⟨rfl,rfl⟩
   cases h
  cases h
 cases h
end Go.Di
end
section
namespace Go.Proofs
open Go.RowKit
theorem aa2{l:List Int}{k:Nat}(hk:k<l.length):((l.take k).map (Value.int .i64)++List.replicate (l.length-k) (Value.int .i64 0)).set k (.int .i64 (l.getD k 0))=(l.take (k+1)).map (Value.int .i64)++List.replicate (l.length-(k+1)) (.int .i64 0):=by
 have e:((l.take k).map (Value.int .i64)).length=k:=by rw[List.length_map,List.length_take];omega
 rw[List.set_append_right _ _ (by omega),e,Nat.sub_self,show l.length-k=(l.length-(k+1))+1 by omega,zx,List.set_cons_zero,List.take_add_one,dW,iO];congr 1;simp[aR,hk]
theorem Try.abf {w:World}{a:Addr}{v:Value}(h:w.cell? a=some v):a.block<w.heap.size:=by
 by_cases hb:a.block<w.heap.size;.exact hb
 simp[World.cell?,mG (zn hb)]at h
theorem Try.aa3 (A:Option Addr)(cap:Nat)(l:List Int)(w:World)(hl:l.length<=1000)(hR:l≠[]->∃b off,A=some ⟨b,off,none⟩/\∀j,j<l.length->w.cell? ⟨b,off+j,none⟩=some (.int .i64 (l.getD j 0))):
  Calls Try.prog 67 #[.slice A l.length cap] w λe w'=>e=.returned (.slice (some ⟨w.heap.size,0,none⟩) l.length l.length)/\w'.ownsRow w.heap.size 3 1 (.slice (some ⟨w.heap.size,0,none⟩) l.length l.length) l.length (l.map (Value.int .i64))/\Below w.heap.size w w':=by
 obtain⟨i0,hi,JU,SU,hz2⟩:=info_parts Co.UK;have mS:=Lib.hid hR;clear hR;have hm:l.length<=maxLen:=by unfold maxLen;omega
 go_enter Try.func67,Try.ntmps67
 go_wp2_with (first|(at_make;go_loud (refine wpList_make_full _ rfl _ _ 22 rfl w.heap.size 3 i0 (.int .i64 0) 1 Try.underlying22 hi JU SU _ _ _ _ l.length rfl rfl rfl rfl (by rw[hz2];omega) hm (aj _) ?_)))
 intro w1 fR UR
 go_wp2
 go_loopw [4] (λi wr=>∃k:Nat,k<=l.length/\i=.int .i64 (k:Int)/\wr.ownsRow w.heap.size 3 1 (.slice (some ⟨w.heap.size,0,none⟩) l.length l.length) l.length ((l.take k).map (Value.int .i64)++List.replicate (l.length-k) (.int .i64 0))/\Below w.heap.size w wr) (λi _=>l.length-(intOf i).toNat)
 .refine⟨0,mw _,rfl,?_,(Below.refl _ _).grown UR (aj _) (λg h=>by cases h)⟩;rw[toList_madeCells_one]at fR;simpa using fR
 obtain⟨k,hk,rfl,xK,Dx⟩:=hrel;by_cases hkn:k<l.length
 .obtain⟨b,off,rfl,hc⟩:=mS.out (λe=>by subst e;simp at hkn);have jm:wr.cell? ⟨b,off+k,none⟩=some (.int .i64 (l.getD k 0)):=(Dx.cell (p:=⟨b,off+k,none⟩) (Try.abf (hc k hkn))).trans (hc k hkn);have MF:=xK.frozenAt k;have tY:wr.cell? ⟨w.heap.size,k,none⟩=some (.int .i64 0):=by rw[xK.cellAt k (by omega),iu (by rw[List.length_map,List.length_take];omega),qW,if_pos (by rw[List.length_map,List.length_take];omega)]
  have st:=Lib.hid (xK.stored k (.int .i64 (l.getD k 0)));have pE:=Lib.hid Dx;clear xK Dx hc fR UR
  go_wp2
  refine⟨⟨k+1,by omega,by go_num,?_,?_⟩,by simp[intOf];omega⟩;.have:=st.out.1;rw[aa2 hkn]at this;simpa [aR,hkn]using this
  exact pE.out.setCell (aj _) _
 clear fR UR;rw[show k=l.length by omega,fW,Nat.sub_self,List.replicate_zero,cV]at xK;have st:=Lib.hid xK;have pE:=Lib.hid Dx;clear xK Dx
 go_wp2
 go_ret
 exact⟨rfl,st.out,pE.out⟩
end Go.Proofs
namespace Go.Di
open Go Go.Conc Go.Co Go.Proofs
variable {P:Program} {aa:Machine->Trace->Prop} {x:Cx}
def adp:DV->Option DV
 |.sl rows _ _=>match BR rows with
  |some l=>if l.length<=1000 then some (.sl (l.map λn=>.val (.int .i64 n)) none ⟨false,none⟩)else none
  |none=>none
 |_=>none
theorem SH{a d:DV}(h:adp a=some d){vals:Array Value}(hR:Rel x)(ha:iw x [a] vals):fL Try.prog aa x 67 vals λy u=>y.S=x.S/\Rel y/\bU x y/\RV y d u:=by
 unfold adp at h;split at h
 .rename_i rows tok f;split at h
  .rename_i l hl;split at h
   .rename_i hlen;cases h;obtain⟨h1,h2,h3⟩:=wF hl;obtain⟨hsz,bh⟩:=ha;have e:vals=#[vals.getD 0 undef]:=by
     obtain⟨l⟩:=vals
     match l,hsz with
     |[u],_=>rfl
    have hv:=bh 0 _ rfl;generalize vals.getD 0 undef=u at e hv;subst e;cases hv with
    |@sl _ _ _ A cap s vs hv hr k1 k2 k3 k4 k5=>
     have mh:∀τ,Calls Try.prog 67 #[.slice A rows.length cap] (x.w.re τ 0) λe w'=>∃v,e=.returned v/\(x.w.heap.size<=w'.heap.size/\(w'.os=x.w.os/\w'.output=x.w.output)/\(∀b,b<x.w.heap.size->w'.heap[b]? =x.w.heap[b]?)/\w'.ownsRow x.w.heap.size 3 1 v l.length (l.map (Value.int .i64))):=by
      intro τ;have hz:rows.length=l.length:=h1.symm;rw[hz];refine(Try.aa3 A cap l (x.w.re τ 0) hlen λhne=>?_).mono ?_
      .have FO:0<l.length:=List.length_pos_iff.2 hne;have hc:∀j,j<l.length->(flat rows)[j]? =some (.val (.int .i64 (l.getD j 0))):=λj hj=>by rw[h3];refine h2 j _ ?_;simp[aR,hj]
       obtain⟨-,b,o,q1,-,-⟩:=hv.2 0 _ (hc 0 FO);refine⟨b,o,q1,λj hj=>?_⟩;obtain⟨-,b',o',q2,q3,q4⟩:=hv.2 j _ (hc j hj);rw[q1]at q2;cases q2;have:=hr j _ (hc j hj);generalize vs j=u at*;cases this with
       |val _=>exact q4
      rintro e w' ⟨rfl,ho,hb⟩;exact⟨_,rfl,hb.size,⟨hb.os,hb.output⟩,hb.block,ho⟩
     refine Cu lP Try.func67 rfl mh λv w' hp τ d=>?_;obtain⟨p1,p2,p3,p4⟩:x.w.heap.size<=(w'.re τ d).heap.size/\((w'.re τ d).os=x.w.os/\(w'.re τ d).output=x.w.output)/\(∀b,b<x.w.heap.size->(w'.re τ d).heap[b]? =x.w.heap[b]?)/\(w'.re τ d).ownsRow x.w.heap.size 3 1 v l.length (l.map (Value.int .i64)):=hp;refine⟨x.BN (w'.re τ d) v (l.length*1),rfl,rfl,Bf hR p1 p2 p3 p4,tq hR p1 p2 p3 p4,Ed (by simp) (λr hr=>?_) ?_ (λu hu=>?_) p4⟩;.simp only[dL]at hr;obtain⟨m,-,rfl⟩:=hr;rfl
     .have:=Hs (l.map (Value.int .i64));simpa only[kW,Function.comp_def]using this
     simp only[dL]at hu;obtain⟨m,-,rfl⟩:=hu;exact⟨rfl,rfl⟩
   cases h
  cases h
 cases h
end Go.Di
end
