import Derived.Test.YtedcgbkilmlbhaaPk30
import Derived.Test.YtedcgbkilmlbhaaPk31
import Derived.Test.YtedcgbkilmlbhaaPk28
namespace Go.Di
open Go Go.Conc Go.Co
variable {P:Program} {aa:Machine->Trace->Prop} {x y:Cx} {i:Nat} {l l0 l':List DV} {T:ai}
def Cx.only (x:Cx)(i:Nat)(l:List DV):Cx:={x with μ:=λ_=>x.μ i,κ:=λ_=>0,S:=[.cells l]}
theorem EF{x y:Cx}(hF:∀b o,x.Fz b o->y.Fz b o/\y.w.cell? ⟨b,o,none⟩=x.w.cell? ⟨b,o,none⟩){l:List DV}{arr:Array Value}(hl:(l.map DV.aO).all DV.ck=true)(h:ia x l arr):ia y (l.map DV.aO) arr:=by refine⟨by simpa using h.1,λj c hj=>?_⟩;have hm:=aX.1 hl c (cr hj);simp only[cM,af]at hj;obtain⟨c',h2,rfl⟩:=hj;exact(h.2 j c' h2).aO.nv hF hm
theorem GA{x y:Cx}(hF:∀b o,x.Fz b o->y.Fz b o/\y.w.cell? ⟨b,o,none⟩=x.w.cell? ⟨b,o,none⟩){l:List DV}(hl:(l.map DV.strip).all DV.pure=true){j:Nat}{c:DV}{v:Value}(hj:(l.map DV.strip)[j]? =some c)(h:∀c',l[j]? =some c'->RV x c' v):RV y c v:=by have hm:=aX.1 hl c (cr hj);simp only[cM,af]at hj;obtain⟨c',h2,rfl⟩:=hj;exact(h c' h2).strip.pure_mono hF hm
theorem qc{l:List DV}{k:Nat}{b:DB}(h:([.cells l]:ai)[k]? =some b):k=0/\b=.cells l:=by
 cases k with
 |zero=>simp at h;exact⟨rfl,h.symm⟩
 |succ k=>simp at h
theorem Wx(hR:Rel x)(hi:x.S[i]? =some (.cells l))(hl:(l.map DV.aO).all DV.ck=true):Rel (x.only i (l.map DV.aO)):=by
 refine⟨λid l2 h=>?_,λid e s n h=>?_,λid b h hb=>?_,λj k hj hk _=>?_,hR.Ae,λid h o hF=>?_,λid e s n h=>?_,λid e s l z h=>?_⟩;.obtain⟨rfl,h2⟩:=qc h;cases h2;obtain⟨arr,e,h1,h2,h3⟩:=hR.cells i l hi;refine⟨arr,e,h1,?_⟩;exact EF (x:=x) (y:=x.only i (l.map DV.aO)) (λb o h=>⟨h,rfl⟩) hl ⟨h2,h3⟩
 .exact nomatch (qc h).2
 .obtain⟨-,rfl⟩:=qc h;cases hb
 .obtain⟨b,hb,-⟩:=hj;obtain⟨c,hc,-⟩:=hk;rw[(qc hb).1,(qc hc).1]
 .exact hR.sep i ⟨l,hi⟩ o hF
 .exact nomatch (qc h).2
 exact nomatch (qc h).2
def Cx.back (x y:Cx)(i:Nat)(l':List DV):Cx:={w:=y.w,μ:=x.μ,κ:=x.κ,Fz:=y.Fz,S:=x.S.set i (.cells l')}
theorem fP{S:ai}{i k:Nat}{b c d:DB}(hi:S[i]? =some d)(h:(S.set i c)[k]? =some b):(k=i/\b=c)\/(k≠i/\S[k]? =some b):=by
 rw[aH]at h;split at h;.rename_i he;subst he;rw[if_pos (aA.1 hi).1]at h;cases h;exact .inl ⟨rfl,rfl⟩
 rename_i he;exact .inr ⟨λe=>he e.symm,h⟩
theorem lI{S:ai}{i k:Nat}{c:DB}(h:k≠i):(S.set i c)[k]? =S[k]? :=by rw[aH,if_neg λe=>h e.symm]
theorem Gy{S:ai}{i:Nat}{c d:DB}(hi:S[i]? =some d):(S.set i c)[i]? =some c:=by rw[aH,if_pos rfl,if_pos (aA.1 hi).1]
theorem uR(hR:Rel x)(hi:x.S[i]? =some (.cells l))(M:bV (x.only i l0) y){id:Nat}{b:DB}{o:Obj}(hb:x.S[id]? =some b)(hne:b≠.none)(hid:id≠i)(ho:x.w.heap[x.μ id]? =some o):y.w.heap[x.μ id]? =x.w.heap[x.μ id]? :=by refine M.old _ (aN.1 ho).1 λk _ he=>?_;exact hid (hR.inj i id ⟨_,hi,by simp⟩ ⟨b,hb,hne⟩ he).symm
theorem GV(hR:Rel x)(hi:x.S[i]? =some (.cells l))(M:bV (x.only i l0) y):bV x (x.back y i l') where
 size:=M.size
 env:=M.env
 fz:=M.fz
 JA:=λb o h=>(M.JA b o h).imp id λh=>h.imp id λ⟨k,_,he⟩=>⟨i,⟨_,hi,by simp⟩,he⟩
 old:=λb hb hn=>M.old b hb λk _ he=>hn i ⟨_,hi,by simp⟩ he
 len:=by simp[Cx.back]
 cells:=λid l2 h=>⟨rfl,by
  by_cases he:id=i;.subst he;exact⟨l',Gy hi⟩
  exact⟨l2,(lI he).trans h⟩⟩
 eC:=λid b h hb=>by
  have he:id≠i:=by rintro rfl;rw[hi]at h;cases h;cases hb
  obtain⟨o,ho,-⟩:=hR.eC id b h hb;exact⟨rfl,⟨b,(lI he).trans h,eV hb⟩,λ_=>uR hR hi M h (fo hb) he ho⟩
 dR:=λt e s n h=>by
  have he:t≠i:=by rintro rfl;rw[hi]at h;cases h
  exact⟨n,(lI he).trans h,ak _,λ_=>⟨rfl,rfl⟩⟩
 live:=λk ⟨b,hb,hne⟩=>.inl ⟨by
  rcases fP hi hb with ⟨rfl,-⟩|⟨-,h⟩;.exact⟨_,hi,by simp⟩
  exact⟨b,h,hne⟩,rfl⟩
 ops:=λt e s l z h=>by
  have he:t≠i:=by rintro rfl;rw[hi]at h;cases h
  exact⟨l,z,(lI he).trans h,ak _,λe=>⟨rfl,e⟩,λ_=>⟨rfl,rfl⟩⟩
theorem WC(hR:Rel x)(hi:x.S[i]? =some (.cells l))(Db:Rel y)(M:bV (x.only i l0) y)(hy:y.S[0]? =some (.cells l'))(iN:(l'.map DV.aO).all DV.ck=true):Rel (x.back y i (l'.map DV.aO)):=by
 have MB:=GV (l':=l'.map DV.aO) hR hi M;have hμ:y.μ 0=x.μ i:=(M.cells 0 l0 rfl).1;have hF:∀b o,y.Fz b o->x.Fz b o\/x.w.heap.size<=b\/b=x.μ i:=λb o h=>(M.JA b o h).imp id λh=>h.imp id λ⟨_,_,he⟩=>he.symm;refine⟨λid l2 h=>?_,λid e s n h=>?_,λid b h hb=>?_,λj k hj hk he=>?_,Db.Ae,λid h o hf=>?_,λid e s n h o hf=>?_,λid e s l1 z h=>?_⟩
 .rcases fP hi h with ⟨rfl,h2⟩|⟨he,h2⟩;.cases h2;obtain⟨arr,e,h1,h2,h3⟩:=Db.cells 0 l' hy;exact⟨arr,e,by rw[hμ]at h1;exact h1,EF (x:=y) (y:=x.back y id (l'.map DV.aO)) (λb o h=>⟨h,rfl⟩) iN ⟨h2,h3⟩⟩
  obtain⟨arr,e,h1,h3,h4⟩:=hR.cells id l2 h2;exact⟨arr,e,(uR hR hi M h2 (by simp) he h1).trans h1,h3,λj c hc=>(h4 j c hc).mono MB⟩
 .rcases fP hi h with ⟨rfl,h2⟩|⟨he,h2⟩;.cases h2
  obtain⟨arr,h1,h3⟩:=hR.dR id e s n h2;exact⟨arr,(uR hR hi M h2 (by simp) he h1).trans h1,h3⟩
 .rcases fP hi h with ⟨rfl,h2⟩|⟨he,h2⟩;.subst h2;cases hb
  obtain⟨o,h1,h3⟩:=hR.eC id b h2 hb;exact⟨o,(uR hR hi M h2 (fo hb) he h1).trans h1,h3.mono MB⟩
 .have lv:∀{k},Live (x.back y i (l'.map DV.aO)).S k->Live x.S k:=λ{k}⟨b,hb,hne⟩=>by
   rcases fP hi hb with ⟨rfl,-⟩|⟨-,h⟩;.exact⟨_,hi,by simp⟩
   exact⟨b,h,hne⟩
  exact hR.inj j k (lv hj) (lv hk) he
 .obtain⟨l2,h⟩:=h;obtain⟨l3,h3⟩:∃l3,x.S[id]? =some (.cells l3):=by
   rcases fP hi h with ⟨rfl,-⟩|⟨-,h2⟩;.exact⟨l,hi⟩
   exact⟨l2,h2⟩
  obtain⟨arr,e,h4,-⟩:=hR.cells id l3 h3;rcases hF _ _ hf with h5|h5|h5;.exact hR.sep id ⟨l3,h3⟩ o h5
  .have:=(aN.1 h4).1;change x.w.heap.size<=x.μ id at h5;omega
  refine Db.sep 0 ⟨l',hy⟩ o ?_;rw[hμ,<-h5];exact hf
 .rcases fP hi h with ⟨rfl,h2⟩|⟨he,h2⟩;.cases h2
  obtain⟨arr,h4,-⟩:=hR.dR id e s n h2;rcases hF _ _ hf with h5|h5|h5;.exact hR.oH id e s n h2 o h5
  .have:=(aN.1 h4).1;change x.w.heap.size<=x.μ id at h5;omega
  exact absurd (hR.inj id i ⟨_,h2,by simp⟩ ⟨_,hi,by simp⟩ h5) he
 rcases fP hi h with ⟨rfl,h2⟩|⟨he,h2⟩;.cases h2
 obtain⟨arr,h4,h3,h6,h7,h8,h9,ue⟩:=hR.ops id e s l1 z h2;refine⟨arr,(uR hR hi M h2 (by simp) he h4).trans h4,h3,h6,h7,λj c hc=>⟨(h8 j c hc).1,(h8 j c hc).2.mono MB⟩,λhz j hj=>(M.fz _ _ (h9 hz j hj)).1,λhz o hf=>?_⟩;rcases hF _ _ hf with h5|h5|h5;.exact ue hz o h5
 .have:=(aN.1 h4).1;change x.w.heap.size<=x.μ id at h5;omega
 exact absurd (hR.inj id i ⟨_,h2,by simp⟩ ⟨_,hi,by simp⟩ h5) he
theorem N6{f:FuncId}{off:Nat}{rest:List DV}{vals:Array Value}{v:DV}(hR:Rel x)(hi:x.S[i]? =some (.cells l))(hp:(rest.map DV.strip).all DV.pure=true)(ha:ia x (.ptr i off::rest) vals)
  (h:ia (x.only i l0) (.ptr 0 off::rest.map DV.strip) vals->fJ P aa (x.only i l0) f vals λy u=>y.S=.cells l'::T/\Rel y/\bV (x.only i l0) y/\RV y v u) (iN:(l'.map DV.aO).all DV.ck=true) (hv:v.strip.pure=true):
  fJ P aa x f vals λz u=>z.S=x.S.set i (.cells (l'.map DV.aO))/\Rel z/\bV x z/\RV z v.strip u:=by
 have ha':ia (x.only i l0) (.ptr 0 off::rest.map DV.strip) vals:=by
  refine⟨by simpa using ha.1,λj c hc=>?_⟩;cases j with
  |zero=>
   simp only[bY,aB]at hc;subst hc;have:=ha.2 0 _ rfl;generalize vals.getD 0 undef=u at this;cases this with
   |ptr _=>exact RV.ptr (x:=x.only i l0) (id:=0) (l:=l0) rfl
  |succ j=>exact GA (x:=x) (y:=x.only i l0) (λb o h=>⟨h,rfl⟩) hp (by simpa using hc) λc' h1=>ha.2 (j+1) c' (by simpa using h1)
 obtain⟨h1,h2⟩:=h ha';refine⟨h1,λfr cs hn=>h2 fr cs λy u ⟨q1,q2,q3,q4⟩=>?_⟩;have hy:y.S[0]? =some (.cells l'):=by rw[q1];rfl
 exact hn (x.back y i (l'.map DV.aO)) u ⟨rfl,WC hR hi q2 q3 hy iN,GV hR hi q3,q4.strip.pure_mono (x:=y) (y:=x.back y i (l'.map DV.aO)) (λb o h=>⟨h,rfl⟩) hv⟩
theorem XW{call:bt}(hc:ir P aa call):ir P aa (Kj call):=by
 intro f args S v S' h x vals hR hS ha;subst hS;unfold Kj at h;split at h
 .rename_i i v1 l1 ho;cases h;unfold pQ at ho;split at ho
  .rename_i i off rest;split at ho
   .rename_i l hi;split at ho
    .rename_i Tc;simp only[aC]at Tc;split at ho
     .rename_i v2 l' T lZ;split at ho;.rename_i hq;simp only[aC]at hq;cases ho;exact N6 (l0:=l.map DV.aO) hR hi Tc.1 ha (λOx=>hc _ _ _ _ _ lZ (x.only _ _) vals (Wx hR hi Tc.2) rfl Ox) hq.2 hq.1
      cases ho
     cases ho
    cases ho
   cases ho
  cases ho
 exact XU hc _ _ _ _ _ h x vals hR rfl ha
def Cx.opn (x y:Cx)(aF t:Nat)(b:DB)(F:Nat->Nat->Prop):Cx:={w:=y.w,μ:=λi=>if i=aF then y.μ t else x.μ i,κ:=λi=>if i=aF then y.κ t else x.κ i,Fz:=F,S:=x.S.set aF b}
section
variable {aF t n sz:Nat} {e:TypeId} {rows:List DV} {bl:DB} {F:Nat->Nat->Prop}
theorem PA(M:bV x.bare y)(ht:y.S[t]? =some (.tail e sz n)):x.w.heap.size<=y.μ t:=by
 rcases M.live t ⟨_,ht,by simp⟩with ⟨⟨b,hb,-⟩,-⟩|h;.simp[Cx.bare]at hb
 exact h
theorem vE(M:bV x.bare y){b:Nat}(hb:b<x.w.heap.size):y.w.heap[b]? =x.w.heap[b]? :=M.old b hb λi ⟨c,hc,_⟩=>by simp[Cx.bare]at hc
theorem Pz(M:bV x.bare y){b o:Nat}(h:y.Fz b o):x.Fz b o\/x.w.heap.size<=b:=by
 rcases M.JA b o h with h|h|⟨i,⟨c,hc,-⟩,-⟩;.exact .inl h
 .exact .inr h
 simp[Cx.bare]at hc
theorem K8(hR:Rel x)(M:bV x.bare y)(hn:x.S[aF]? =some .none)(ht:y.S[t]? =some (.tail e sz n))(hF:(∀b o,F b o->y.Fz b o)/\∀b o,y.Fz b o->b<x.w.heap.size->F b o):bV x (x.opn y aF t bl F) where
 size:=M.size
 env:=M.env
 fz:=λb o h=>by obtain⟨v,hv⟩:=hR.Ae b o h;have h1:=World.block_lt_of_cell? x.w ⟨b,o,none⟩ hv;exact⟨hF.2 _ _ (M.fz b o h).1 h1,(M.fz b o h).2⟩
 JA:=λb o h=>(Pz M (hF.1 _ _ h)).imp id .inl
 old:=λb hb _=>vE M hb
 len:=by simp[Cx.opn]
 cells:=λid l h=>by
  have he:id≠aF:=by rintro rfl;rw[hn]at h;cases h
  exact⟨if_neg he,l,(lI he).trans h⟩
 eC:=λid b h hb=>by
  have he:id≠aF:=by rintro rfl;rw[hn]at h;cases h;cases hb
  obtain⟨o,ho,-⟩:=hR.eC id b h hb;exact⟨if_neg he,⟨b,(lI he).trans h,eV hb⟩,λ_=>vE M (aN.1 ho).1⟩
 dR:=λk e s n h=>by
  have he:k≠aF:=by rintro rfl;rw[hn]at h;cases h
  exact⟨n,(lI he).trans h,ak _,λ_=>⟨if_neg he,if_neg he⟩⟩
 live:=λk ⟨b,hb,hne⟩=>by
  rcases fP hn hb with ⟨rfl,-⟩|⟨he,h⟩;.exact .inr (by show _<=(if k=k then _ else _);rw[if_pos rfl];exact PA M ht)
  exact .inl ⟨⟨b,h,hne⟩,if_neg he⟩
 ops:=λk e s l z h=>by
  have he:k≠aF:=by rintro rfl;rw[hn]at h;cases h
  exact⟨l,z,(lI he).trans h,ak _,λe=>⟨rfl,e⟩,λ_=>⟨if_neg he,if_neg he⟩⟩
def ahd(y:Cx)(t:Nat)(F:Nat->Nat->Prop):DB->Prop
 |.tail e s m=>(∃arr,y.w.heap[y.μ t]? =some (.cells arr e (0,0))/\arr.size=y.κ t*s/\m<=arr.size/\y.κ t<=maxLen)/\∀o,F (y.μ t) o->o<m
 |_=>False
theorem Z5(hR:Rel x)(M:bV x.bare y)(Db:Rel y)(hn:x.S[aF]? =some .none)(ht:y.S[t]? =some (.tail e sz n))(hF:(∀b o,F b o->y.Fz b o)/\∀b o,y.Fz b o->b<x.w.heap.size->F b o)(hnw:ahd y t F bl):Rel (x.opn y aF t bl F):=by
 have MB:=K8 (bl:=bl) hR M hn ht hF;have yq:=PA M ht;have mu:∀{id},id≠aF->(x.opn y aF t bl F).μ id=x.μ id:=λhe=>if_neg he;have ka:∀{id},id≠aF->(x.opn y aF t bl F).κ id=x.κ id:=λhe=>if_neg he;have mun:(x.opn y aF t bl F).μ aF=y.μ t:=if_pos rfl;have kan:(x.opn y aF t bl F).κ aF=y.κ t:=if_pos rfl;have hF0:=hF;have hF:∀{b o},(x.opn y aF t bl F).Fz b o->b<x.w.heap.size->x.Fz b o:=λh hb=>(Pz M (hF.1 _ _ h)).elim id λh=>by omega
 have lv:∀{k},Live (x.opn y aF t bl F).S k->k=aF\/(k≠aF/\Live x.S k):=λ{k}⟨b,hb,hne⟩=>by
  rcases fP hn hb with ⟨rfl,-⟩|⟨he,h⟩;.exact .inl rfl
  exact .inr ⟨he,b,h,hne⟩
 have lt:∀{k},Live x.S k->x.μ k<x.w.heap.size:=λ{k}⟨b,hb,hne⟩=>by
  cases b with
  |none=>exact absurd rfl hne
  |cells l=>obtain⟨arr,e,h1,-⟩:=hR.cells k l hb;exact(aN.1 h1).1
  |tail e s n=>obtain⟨arr,h1,-⟩:=hR.dR k e s n hb;exact(aN.1 h1).1
  |map es=>obtain⟨o,h1,-⟩:=hR.eC k _ hb rfl;exact(aN.1 h1).1
  |defer=>obtain⟨o,h1,-⟩:=hR.eC k _ hb rfl;exact(aN.1 h1).1
  |loop r=>obtain⟨o,h1,-⟩:=hR.eC k _ hb rfl;exact(aN.1 h1).1
  |op e s l z=>obtain⟨arr,h1,-⟩:=hR.ops k e s l z hb;exact(aN.1 h1).1
 refine⟨λid l h=>?_,λid e s m h=>?_,λid b h hb=>?_,λj k hj hk he=>?_,λb o h=>Db.Ae b o (hF0.1 _ _ h),λid h o hf=>?_,λid e s m h o hf=>?_,λid e1 s l1 z h=>?_⟩
 .rcases fP hn h with ⟨rfl,h2⟩|⟨he,h2⟩;.subst h2;exact hnw.elim
  obtain⟨arr,e1,h3,h4,h5⟩:=hR.cells id l h2;exact⟨arr,e1,by rw[mu he];exact(vE M (aN.1 h3).1).trans h3,h4,λj c hj=>(h5 j c hj).mono MB⟩
 .rcases fP hn h with ⟨rfl,h2⟩|⟨he,h2⟩;.subst h2;rw[mun,kan];exact hnw.1
  obtain⟨arr,h3,h4⟩:=hR.dR id e s m h2;exact⟨arr,by rw[mu he];exact(vE M (aN.1 h3).1).trans h3,by rw[ka he];exact h4⟩
 .rcases fP hn h with ⟨rfl,h2⟩|⟨he,h2⟩;.subst h2;cases b<;>first|exact False.elim hnw|cases hb
  obtain⟨o,h3,h4⟩:=hR.eC id b h2 hb;exact⟨o,by rw[mu he];exact(vE M (aN.1 h3).1).trans h3,h4.mono MB⟩
 .rcases lv hj with rfl|⟨hj1,hj2⟩<;>rcases lv hk with rfl|⟨tZ,JB⟩;.rfl
  .rw[mun,mu tZ]at he;have:=lt JB;omega
  .rw[mun,mu hj1]at he;have:=lt hj2;omega
  rw[mu hj1,mu tZ]at he;exact hR.inj j k hj2 JB he
 .obtain⟨l,h⟩:=h;rcases fP hn h with ⟨rfl,h2⟩|⟨he,h2⟩;.subst h2;exact hnw.elim
  rw[mu he]at hf;exact hR.sep id ⟨l,h2⟩ o (hF hf (lt ⟨_,h2,by simp⟩))
 .rcases fP hn h with ⟨rfl,h2⟩|⟨he,h2⟩;.subst h2;rw[mun]at hf;exact hnw.2 o hf
  rw[mu he]at hf;exact hR.oH id e s m h2 o (hF hf (lt ⟨_,h2,by simp⟩))
 rcases fP hn h with ⟨rfl,h2⟩|⟨he,h2⟩;.subst h2;exact hnw.elim
 obtain⟨arr,h3,h4,h5,h6,h7,h8,h9⟩:=hR.ops id e1 s l1 z h2;have hlt:x.μ id<x.w.heap.size:=lt ⟨_,h2,by simp⟩;refine⟨arr,by rw[mu he];exact(vE M (aN.1 h3).1).trans h3,by rw[ka he];exact h4,h5,by rw[ka he];exact h6,λj c hj=>⟨(h7 j c hj).1,(h7 j c hj).2.mono MB⟩,λhz j hj=>by rw[mu he];exact(MB.fz _ _ (h8 hz j hj)).1,λhz o hf=>?_⟩;rw[mu he]at hf;exact h9 hz o (hF hf hlt)
end
theorem W3{call:bt}{aF:Nat}(hc:ir P aa call):ir P aa (yB call aF):=by
 intro g args S v S' h x vals hR hS ha;subst hS;unfold yB at h;split at h
 .rename_i rows e s hn ho;cases h;unfold acB at ho;split at ho
  .rename_i hp;unfold YU at ho;split at ho
   .rename_i rs t ff S1 lZ;split at ho
    .rename_i e1 s1 n ht;split at ho
     .rename_i hq;cases ho;have ha':ia x.bare (args.map DV.strip) vals:=⟨by simpa using ha.1,λj c hj=>GA (x:=x) (y:=x.bare) (λb o h=>⟨h,rfl⟩) hp hj λc' h1=>ha.2 j c' h1⟩;obtain⟨h1,h2⟩:=hc _ _ _ _ _ lZ x.bare vals hR.bare rfl ha';refine⟨h1,λfr cs hx=>h2 fr cs λy u ⟨q1,q2,q3,q4⟩=>?_⟩;rw[<-q1]at ht;cases q4 with
      |@sl _ _ _ A cap s' vs hv hr k1 k2 k3 ksp k4=>obtain⟨e2,s2,n2,t1,t2,t3,t4⟩:=k4 t rfl;rw[ht]at t1;cases t1;have hF:(∀b o,y.Fz b o->y.Fz b o)/\∀b o,y.Fz b o->b<x.w.heap.size->y.Fz b o:=⟨λ_ _ h=>h,λ_ _ h _=>h⟩;have hS:(x.opn y aF t (.tail e s (rows.length*s)) y.Fz).S[aF]? =some (.tail e s (rows.length*s)):=Gy hn;obtain⟨z1,z2,z3,z4,z5⟩:=q2.dR t e s n ht;refine hx (x.opn y aF t (.tail e s (rows.length*s)) y.Fz) _ ⟨rfl,Z5 hR q3 q2 hn ht hF ⟨⟨z1,z2,z3,by omega,z5⟩,λo h=>by have:=q2.oH t e s n ht o h;omega⟩,K8 hR q3 hn ht hF,.sl (s:=s') (vs:=vs) ⟨hv.1,λj c hj=>hv.2 j c hj⟩ (λj c hj=>RV.nv (x:=y) (y:=x.opn y aF t (.tail e s (rows.length*s)) y.Fz) (λb o h=>⟨h,rfl⟩) (hr j c hj) (hv.2 j c hj).1) k1 ⟨by simp,λb hb=>by cases hb⟩ k3 ksp λk hk=>?_⟩;cases hk;refine⟨e,s,_,hS,ak _,t3,λ_=>?_⟩;obtain⟨hA,JS⟩:=t4 hq.symm;exact⟨by rw[hA];show _=some (Addr.mk (if aF=aF then _ else _) _ _);rw[if_pos rfl],by rw[JS];show _=(if aF=aF then _ else _);rw[if_pos rfl]⟩
     cases ho
    cases ho
   cases ho
  cases ho
 cases h
end Go.Di
namespace Go.Di
open Go Go.Conc Go.Co
open Go.ConcN (upd upd_same upd_ne)
variable {P:Program} {aa:Machine->Trace->Prop} {ty:fR} {x:Cx} {aK:bR} {call:bt} {yf:ej}
structure OU (ops:Array Oper) (M:Nat->ai) (F:Nat->de) (L:Nat->Bool) (S:ai):Prop where
 get:∀id,S[id]? =nU (λj=>touch F j id) (λj=>(M (j+1))[id]?) ((M 0)[id]?) L ops.size
 len:S.length=nU (top F) (λj=>(M (j+1)).length) (M 0).length L ops.size
theorem XK{ops:Array Oper}{n0:Nat}{E:Nat->List DV}{V:Nat->DV}{M:Nat->ai}{F:Nat->de}(h:UQ P ty aK call yf ops n0 E V M F)(rE:Km ops)(ac3:∀i j,i<ops.size->j<ops.size->i≠j->(F i).meets (F j)=true->((Region.before ops).getD j 0).testBit i=true\/((Region.before ops).getD i 0).testBit j=true)
  {L:Nat->Bool} (hL:Closed ops L) {i:Nat} {o:Oper} (ho:ops[i]? =some o) (hi:L i=false) (yo:∀e∈o.after,Region.binds .any e=true->L e.on=true) {T:ai} (hT:OU ops M F L T) (hw:cD ops (E i) o=true):
  ∃T',aM P ty aK call yf (jr (E i)) o T (n0+i)=some (V i,T',F i)/\OU ops M F (upd L i true) T':=by
 have hio:i<ops.size:=(aN.1 ho).1;have hs:=h.yes i o ho hw;have acQ:∀j,j<ops.size->j≠i->(F i).meets (F j)=true->(L j=true↔j<i):=λj hj hne hm=>Py rE hL ho hi yo (Ne.symm hne) (ac3 i j hio hj (Ne.symm hne) hm);have up1:∀j,j<ops.size->(j≠i->(F i).meets (F j)=true)->(upd L i true j=true↔j<i+1):=by
  intro j hj hm;by_cases gR:j=i;.subst gR;simp[upd_same]
  rw[upd_ne _ _ gR,acQ j hj gR (hm gR)];omega
 have mJ:∀id,(∀j,j<ops.size->j≠i->touch F j id=true->(F i).meets (F j)=true)->T[id]? =(M i)[id]? :=by
  intro id hm;rw[hT.get id,(run_store h id i (by omega)).1];refine iB (by omega) λj hj ht=>?_;by_cases gR:j=i;.subst gR;simp[hi]
  exact acQ j hj gR (hm j hj gR ht)
 have ahv:(∀j,j<ops.size->j≠i->top F j=true->(F i).meets (F j)=true)->T.length=(M i).length:=by
  intro hm;rw[hT.len,(run_store h 0 i (by omega)).2];refine iB (by omega) λj hj ht=>?_;by_cases gR:j=i;.subst gR;simp[hi]
  exact acQ j hj gR (hm j hj gR ht)
 have tch:∀j id,touch F j id=true->(F j).wr=true/\((F j).ids=none\/∃l,(F j).ids=some l/\id∈l):=by
  intro j id ht;unfold touch at ht;simp only[aC]at ht;refine⟨ht.1,?_⟩;cases rF:(F j).ids with
  |none=>exact .inl rfl
  |some l=>rw[rF]at ht;exact .inr ⟨l,rfl,by simpa using ht.2⟩
 have tp:∀j,top F j=true->(F j).wr=true/\(F j).ids=none:=by intro j ht;unfold top at ht;simpa using ht
 cases rF:(F i).ids with
 |none=>
  have hwr:=VD hs rF;have fL:∀j id,touch F j id=true->(F i).meets (F j)=true:=by
   intro j id ht;obtain⟨h1,h2⟩:=tch j id ht;unfold de.meets;rw[hwr,rF];rcases h2 with h2|⟨l,h2,h3⟩;.simp[h2]
   simp[h2];exact List.ne_nil_of_mem h3
  have hTM:T=M i:=mA λid=>mJ id λj _ _ ht=>fL j id ht;subst hTM;refine⟨M (i+1),hs,⟨λid=>?_,?_⟩⟩
  .have ht:touch F i id=true:=by simp[touch,hwr,rF]
   rw[iB (i:=i+1) (by omega) λj hj htj=>up1 j hj λ_=>fL j id htj,xV (W:=λj=>touch F j id) ht]
  have ht:top F i=true:=by simp[top,hwr,rF]
  rw[iB (i:=i+1) (by omega) λj hj htj=>up1 j hj λ_=>by obtain⟨h1,h2⟩:=tp j htj;simp[de.meets,hwr,rF,h2],xV (W:=top F) ht]
 |some l=>
  obtain⟨A,w⟩:=VE hs rF;have rA:∀j id,id∈l->touch F j id=true->(F i).meets (F j)=true:=by
   intro j id hid ht;obtain⟨h1,h2⟩:=tch j id ht;unfold de.meets;rw[h1,rF];rcases h2 with h2|⟨l',h2,h3⟩;.simp[h2];exact List.ne_nil_of_mem hid
   simp[h2];exact⟨id,hid,h3⟩
  have hlen:l≠[]->T.length=(M i).length:=λhne=>ahv λj hj gR ht=>by obtain⟨h1,h2⟩:=tp j ht;simp[de.meets,h1,rF,h2,hne]
  have hrun:=w.loc T hlen λid hid=>mJ id λj _ _ ht=>rA j id hid ht;refine⟨A T,hrun,⟨λid=>?_,?_⟩⟩
  .cases ht:touch F i id with
   |true=>
    obtain⟨h1,h2⟩:=tch i id ht;have hid:id∈l:=by
     rcases h2 with h2|⟨l',h2,h3⟩;.rw[rF]at h2;cases h2
     rw[rF]at h2;cases h2;exact h3
    rw[iB (i:=i+1) (by omega) λj hj htj=>up1 j hj λ_=>rA j id hid htj,xV (W:=λj=>touch F j id) ht,w.res];exact w.inn T id hid (hlen (List.ne_nil_of_mem hid)) (mJ id λj _ _ htj=>rA j id hid htj)
   |false=>rw[nX (W:=λj=>touch F j id) ht,<-hT.get id];exact w.out T id hlen λ⟨q2,q1⟩=>by simp[touch,q2,rF,q1]at ht
  have ht:top F i=false:=by simp[top,rF]
  rw[nX (W:=top F) ht,w.len];exact hT.len
def Cx.pad (x:Cx)(n:Nat):Cx:={x with S:=x.S++List.replicate n .none}
theorem oM{S:ai}{n id:Nat}{b:DB}(h:(S++List.replicate n DB.none)[id]? =some b)(hb:b≠.none):S[id]? =some b:=by
 rw[qK]at h;split at h;.exact h
 rw[nK]at h;split at h;.cases h;exact absurd rfl hb
 cases h
theorem zA{S:ai}{n id:Nat}{b:DB}(h:S[id]? =some b):(S++List.replicate n DB.none)[id]? =some b:=by rw[ee (aA.1 h).1];exact h
theorem zC(x:Cx)(n:Nat):bV x (x.pad n):=
 ⟨ak _,⟨rfl,rfl⟩,λ_ _ h=>⟨h,rfl⟩,λ_ _ h=>.inl h,λ_ _ _=>rfl,by simp[Cx.pad],λ_ l h=>⟨rfl,l,zA h⟩,λ_ b h hb=>⟨rfl,⟨b,zA h,eV hb⟩,λ_=>rfl⟩,λ_ _ _ n h=>⟨n,zA h,ak _,λ_=>⟨rfl,rfl⟩⟩,λ_ ⟨b,h,hb⟩=>.inl ⟨⟨b,oM h hb,hb⟩,rfl⟩,λ_ _ _ l z h=>⟨l,z,zA h,ak _,λe=>⟨rfl,e⟩,λ_=>⟨rfl,rfl⟩⟩⟩
theorem Z4(hR:Rel x)(n:Nat):Rel (x.pad n) where
 cells:=λid l hl=>by obtain⟨arr,e,h1,h2,h3⟩:=hR.cells id l (oM hl (by simp));exact⟨arr,e,h1,h2,λj c hc=>(h3 j c hc).mono (zC x n)⟩
 dR:=λid e s m hl=>hR.dR id e s m (oM hl (by simp))
 eC:=λid b hl hb=>by obtain⟨o,h1,h2⟩:=hR.eC id b (oM hl (fo hb)) hb;exact⟨o,h1,h2.mono (zC x n)⟩
 inj:=λi j ⟨b,h,hb⟩⟨c,k,kb⟩ he=>hR.inj i j ⟨b,oM h hb,hb⟩ ⟨c,oM k kb,kb⟩ he
 Ae:=hR.Ae
 sep:=λid ⟨l,hl⟩=>hR.sep id ⟨l,oM hl (by simp)⟩
 oH:=λid e s m hl=>hR.oH id e s m (oM hl (by simp))
 ops:=λid e s l z hl=>by obtain⟨arr,h1,h2,h3,h4,h5,h6⟩:=hR.ops id e s l z (oM hl (by simp));exact⟨arr,h1,h2,h3,h4,λj c hc=>⟨(h5 j c hc).1,(h5 j c hc).2.mono (zC x n)⟩,h6⟩
theorem NJ(hP:Plain P)(fu:kC P ty)(hc:ir P aa call)(hi:BJ P aa aK)(CI:BH P aa yf){ops:Array Oper}{b:Frame}{k:List Item}{cs:List Frame}(hk:b.kind≠.early)(HF:mg ops (Region.before ops)=true)
  {env aL:List DV} {S':ai} {fs:List de} {n0:Nat} {a:Act} (h:tG P ty aK call yf ops n0 ops.toList 0 env x.S=some (aL,S',fs)) (hmt:ur (Region.before ops) fs=true) (hR:Rel x) (he:ia x env a.tmps)
  (hn:∀y a',y.S=S'->Rel y->bV x y->ia y aL a'.tmps->a'.defers=a.defers->jf P aa () (G (b.atR a' k) cs) y.w) (t:Nat):jf P aa () (G (b.atR a (.inRegion ops (Region.linearise .any ops t)::k)) cs) x.w:=by
 have rE:=KY HF;obtain⟨E,V,M,F,hrun,e1,e2,e3,e4,e5⟩:=aee h;have ac3:∀i j,i<ops.size->j<ops.size->i≠j->(F i).meets (F j)=true->((Region.before ops).getD j 0).testBit i=true\/((Region.before ops).getD i 0).testBit j=true:=λi j hi hj hne hm=>aex hmt (e5 i hi) (e5 j hj) hne hm;have dm:∀{α:Type}(W:Nat->Bool)(R:Nat->α)(d:α) n,nU W R d (λ_=>false) n=d:=by
  intro α W R d n;induction n with
  |zero=>rfl
  |succ n ih=>unfold nU;simp[ih]
 refine wW rE (σ:=Act×Cx) (λtodo s=>Rel s.2->bV x s.2->s.1.defers=a.defers->jf P aa () (G (b.atR s.1 (.inRegion ops todo::k)) cs) s.2.w)
  (λL s=>OU ops M F L s.2.S/\∃qo,ia s.2 qo s.1.tmps/\Gn ops V L ops.size (E 0) qo) ?_ ?_ t (a,x) ⟨⟨λid=>by rw[dm,e3],by rw[dm,e3]⟩,env,he,λt=>?_⟩ hR (bV.refl x) rfl
 .rintro L ⟨a1,y⟩ i o ⟨Mh,qo,ye,YK⟩ ud ho SP yo rest Dm Db Ts Mt;simp only at ye Db Ts Mt Mh⊢;obtain⟨q1,q2⟩:=BW rE HF hrun.env ud YK ho SP yo;have hw:=zL q1;have X6:=AH ye ops o;have hE2:=Hp (V:=V) ho YK q2;by_cases hwt:cD ops (E i) o=true
  .obtain⟨T',hT1,hT2⟩:=XK hrun rE ac3 ud ho SP yo Mh hwt;rw[<-Jk (Hl q1)]at hT1;obtain⟨qm,cl,ud,QU,hstep⟩:=aaW hT1;have hcc:ir P aa cl:=by
    rcases ud with rfl|rfl;.exact XW hc
    exact W3 hc
   refine Ur hP fu hcc hi CI hk ho (by rw[X6,hw];exact hwt) Db QU ye hstep λz u zS zR zM zV=>?_;have pH:=Au (ye.mono zM) (dst:=o.dst) zV;exact Dm (a1.put o.dst u,z) ⟨by rw[zS];exact hT2,_,pH.1,hE2⟩ zR (Ts.trans zM) (pH.2.trans Mt)
  have hwf:cD ops (E i) o=false:=by simpa using hwt
  obtain⟨hv,hM,hF⟩:=hrun.no i o ho hwf;have pH:=Au ye (dst:=o.dst) (d:=V i) (v:=undef) (by rw[hv];exact .val rfl);have ah5:OU ops M F (upd L i true) y.S:=by
   refine⟨λid=>?_,?_⟩;.rw[nX (W:=λj=>touch F j id) (by simp[touch,hF])];exact Mh.get id
   rw[nX (W:=top F) (by simp[top,hF])];exact Mh.len
  exact gd hP (λw=>⟨_,u6 ho (by rw[X6,hw];exact hwf)⟩) (Dm (a1.put o.dst undef,y) ⟨ah5,_,pH.1,hE2⟩ Db Ts (pH.2.trans Mt))
 .rintro L ⟨a1,y⟩ ⟨Mh,qo,ye,YK⟩ fL Db Ts Mt;have ahR:qo=aL:=by refine mA λt=>?_;rw[YK t,<-e2,CO hrun.env ops.size (ak _) t];congr 1;funext d;rw[lQ (i:=ops.size) (ak _) λj hj _=>by simp[fL j hj,hj]]
  have ahz:y.S=S':=by refine mA λid=>?_;have:=Mh.get id;simp only at this;rw[this,<-e4,(run_store hrun id ops.size (ak _)).1];exact iB (ak _) λj hj _=>by simp[fL j hj,hj]
  subst ahR;exact gd hP (λw=>⟨_,ry⟩) (hn y a1 ahz Db Ts ye Mt)
 rw[e1];have:∀n,nS ops V (λ_=>false) t n=none:=by
  intro n;induction n with
  |zero=>rfl
  |succ n ih=>unfold nS;simp[ih]
 rw[this];simp
theorem Vb(hP:Plain P)(hm:P.follows .mixedOrders=true)(fu:kC P ty)(hc:ir P aa call)(hi:BJ P aa aK)(CI:BH P aa yf)(id:Nat)(ops:Array Oper)(draw:Bool):yJ P aa ty aK call yf id ops draw:=by
 cases draw with
 |false=>exact Ry hP fu hc hi CI id ops
 |true=>
  intro env aL S' x a b k cs h hk hR he hn;simp only[qC,if_true]at h;split at h;.cases h
  rename_i hd;have HF:mg ops (Region.before ops)=true:=by simpa using hd
  refine jj hP λn=>?_;refine⟨_,_,_,_,NL hm,?_⟩;split at h
  .rename_i qo h1;cases h;split at h1;.cases h1
   exact NK (x:=x.dr _) hP fu hc hi CI hk HF h1 (hR.dr _) (he.mono (fE x _)) (λy a' q1 q2 q3 q4 q5=>hn y a' q1 q2 ((fE x _).trans q3) q4 q5) _
  split at h
  .rename_i qo S1 fs h1;split at h;.rename_i hmt;cases h;have M1:=(fE x ((x.w.at n).drawn+1)).trans (zC _ ops.size);exact NJ (x:=(x.dr ((x.w.at n).drawn+1)).pad ops.size) hP fu hc hi CI hk HF h1 hmt (Z4 (hR.dr _) _) (he.mono M1) (λy a' q1 q2 q3 q4 q5=>hn y a' q1 q2 (M1.trans q3) q4 q5) _
   cases h
  cases h
def uD(P:Program)(aa:Machine->Trace->Prop)(bH:bR):Prop:=
 ∀f args v,bH f args=some v->args.all DV.pure=true->v.pure=true->∀x vals,Rel x->ia x args vals->fJ P aa x f vals λy u=>y.S=x.S/\Rel y/\bV x y/\RV y v u
theorem Nh{bH:bR}(ht:uD P aa bH)(hc:ir P aa call):BJ P aa (kJ bH call):=by
 intro f args v h hp;unfold kJ at h;split at h
 .rename_i v' h1;split at h;.rename_i hv;cases h;exact⟨hv,ht f args v h1 hp hv⟩
  cases h
 split at h
 .rename_i v' S' h1;split at h
  .rename_i hv;cases h;refine⟨hv,λx vals hR ha=>?_⟩;have ha':ia x.bare args vals:=⟨ha.1,λj c hj=>(ha.2 j c hj).pure_mono (x:=x) (y:=x.bare) (λb o h=>⟨h,rfl⟩) (aX.1 hp c (cr hj))⟩;obtain⟨h2,h3⟩:=hc f args [] v' S' h1 x.bare vals hR.bare rfl ha';refine⟨h2,λfr cs hn=>h3 fr cs λy0 u ⟨p1,p2,p3,p4⟩=>?_⟩;obtain⟨y,r1,r2,q2,r4⟩:=aaP p2 v';have q3:=p3.trans r4;have q4:RV y (uu (HW S' v') v') u:=by rw[<-p1,<-r2];exact Xr q2 (p4.mono r4)
   have hb:=hR.behind q3 q2;rw[<-r1];exact hn (x.behind y) u ⟨rfl,hb,BX hR q3,q4.strip.pure_mono (x:=y) (y:=x.behind y) (λb o h=>⟨h,rfl⟩) hv⟩
  cases h
 cases h
theorem Et(hP:Plain P)(hm:P.follows .mixedOrders=true)(fu:kC P ty){bH:bR}(ht:uD P aa bH){L:Nat}:∀n,ir P aa (dx P ty bH L n).1/\BH P aa (dx P ty bH L n).2
 |0=>⟨λf args S v S' h=>by simp[dx]at h,λid args S v S' h=>by simp[dx]at h⟩
 |n+1=>by
  obtain⟨ihc,ihy⟩:=Et hP hm fu ht (L:=L) n;have hi:=Nh ht ihc;have mN:∀id ops draw,yJ P aa ty (kJ bH (dx P ty bH L n).1) (dx P ty bH L n).1 (dx P ty bH L n).2 id ops draw:=λid ops draw=>Vb hP hm fu ihc hi ihy id ops draw;refine⟨λf args S v S' h x vals hR hS ha=>?_,Rr hP ihc mN⟩;simp only[dx]at h;split at h;.rename_i fn hf;exact XZ hP fu ihc mN hf h hR hS ha
  cases h
end Go.Di
namespace Go.Co
open Go Go.Conc
open Go.ConcN (sumTo sumTo_upd sumTo_congr le_sumTo upd upd_same upd_ne)
open Classical
variable {cf cl:Nat} {tv z z2:Value} {rB:Bool}
def wk(cf cl:Nat)(tv:Value):List Value->Pc
 |[]=>.send cl tv .stop
 |v::vs=>.send cf v (wk cf cl tv vs)
def JE(cf cl:Nat)(z2:Value)(rB:Bool):Nat->Pc
 |0=>.close cf .stop
 |k+1=>.recv cl rB z2 λx=>match x with|some _=>JE cf cl z2 rB k|none=>.bad
noncomputable def Zi (cf:Nat)(z:Value):Nat->List Value->Pc
 |0,_=>.recv cf true z λx=>match x with|some _=>.bad|none=>.ret
 |n+1,rem=>.recv cf true z λx=>match x with|some v=>if v∈rem then Zi cf z n (rem.erase v)else .bad|none=>.bad
noncomputable def CL (cf:Nat)(z:Value)(rem:List Value):Pc:=Zi cf z rem.length rem
def chain(cf cl:Nat)(tv z2:Value)(rB:Bool)(K:Nat)(p:Pc):List (List Value)->Pc
 |[]=>.go (JE cf cl z2 rB K) p
 |vs::todo=>.go (wk cf cl tv vs) (chain cf cl tv z2 rB K p todo)
inductive Ro where
 |gone
 |work (vs:List Value)
def Ro.pc (cf cl:Nat)(tv:Value):Ro->Pc
 |gone=>.stop
 |work vs=>wk cf cl tv vs
def Ro.vals:Ro->List Value
 |gone=>[]
 |work vs=>vs
def Ro.one:Ro->Nat
 |gone=>0
 |work _=>1
theorem PT(N:Net)(i j:Nat)(k k':Pc):(N.meet i j k k').pr j=k':=upd_same _ _ _
theorem V8(N:Net)(i:Nat)(ch k:Pc):(N.start i ch k).pr N.n=ch:=upd_same _ _ _
theorem Q7:Ro.gone.vals=[]:=rfl
theorem AJ(vs:List Value):(Ro.work vs).vals=vs:=rfl
theorem W7:Ro.gone.one=0:=rfl
theorem KZ(vs:List Value):(Ro.work vs).one=1:=rfl
theorem rL(vs:List Value):∃c v k,wk cf cl tv vs=.send c v k/\(c=cf\/c=cl):=by
 cases vs with
 |nil=>exact⟨_,_,_,rfl,.inr rfl⟩
 |cons v vs=>exact⟨_,_,_,rfl,.inl rfl⟩
theorem wm(k:Nat):(∃p,JE cf cl z2 rB k=.recv cl rB z2 p)\/JE cf cl z2 rB k=.close cf .stop:=by
 cases k with
 |zero=>exact .inr rfl
 |succ k=>exact .inl ⟨_,rfl⟩
theorem wj(rem:List Value):∃p,CL cf z rem=.recv cf true z p:=by
 unfold CL;cases rem.length with
 |zero=>exact⟨_,rfl⟩
 |succ k=>exact⟨_,rfl⟩
theorem L6(K:Nat)(p:Pc)(todo:List (List Value)):∃a b,chain cf cl tv z2 rB K p todo=.go a b:=by
 cases todo with
 |nil=>exact⟨_,_,rfl⟩
 |cons vs todo=>exact⟨_,_,rfl⟩
theorem D9(r:Ro):(r=.gone/\r.pc cf cl tv=.stop)\/∃vs,r=.work vs/\r.pc cf cl tv=wk cf cl tv vs:=by
 cases r with
 |gone=>exact .inl ⟨rfl,rfl⟩
 |work vs=>exact .inr ⟨vs,rfl,rfl⟩
theorem afS{N:Net}{E:Nat->Prop}(hn:0<N.n)(h0:N.pr 0=CL cf z [])(hst:∀j,0<j->j<N.n->N.pr j=.stop)(hc:N.cl cf=some E)(hE:∀j,0<j->j<N.n->E j):Dd (λc=>c=cf\/c=cl) N:=by
 have SQ:N.pr 0=.recv cf true z λx=>match x with|some _=>.bad|none=>.ret:=h0
 have cQ:∀j,j<N.n->j=0\/N.pr j=.stop:=λj hj=>(oZ j).imp id λh=>hst j h hj;refine .step N (λj hj=>?_) (by rw[SQ];simp) (λi c v k hi hp=>?_) (λj c ok z k hj hp=>?_) (.inr (.inr (.inl ⟨0,_,_,_,_,E,hn,SQ,hc⟩)))
  (λi j c v k ok z k' hi hj hp _=>?_) (λi c k hi hp=>?_) (λi c k hi hp=>?_) (λj c ok z k E' hj hp Cj=>?_) (λi ch k hi hp=>?_)
 .rcases cQ j hj with rfl|h;.rw[SQ];simp
  rw[h];simp
 .rcases cQ i hi with rfl|h;.rw[SQ]at hp;cases hp
  rw[h]at hp;cases hp
 .rcases cQ j hj with rfl|h;.rw[SQ]at hp;cases hp;exact .inl rfl
  rw[h]at hp;cases hp
 .rcases cQ i hi with rfl|h;.rw[SQ]at hp;cases hp
  rw[h]at hp;cases hp
 .rcases cQ i hi with rfl|h;.rw[SQ]at hp;cases hp
  rw[h]at hp;cases hp
 .rcases cQ i hi with rfl|h;.rw[SQ]at hp;cases hp
  rw[h]at hp;cases hp
 .rcases cQ j hj with rfl|h;.rw[SQ]at hp;cases hp;rw[hc]at Cj;cases Cj;refine .done _ (show upd N.pr 0 _ 0=_ from upd_same _ _ _) λj hj nZ=>⟨?_,.inr (hE j hj nZ)⟩;show upd N.pr 0 _ j=.stop;rw[upd_ne _ _ (by omega)];exact hst j hj nZ
  rw[h]at hp;cases hp
 rcases cQ i hi with rfl|h;.rw[SQ]at hp;cases hp
 rw[h]at hp;cases hp
structure aif (cf cl:Nat) (tv z z2:Value) (rB:Bool) (N:Net) (s:Nat->Ro) (jc k:Nat) (rem:List Value):Prop where
 jc0:0<jc
 jcn:jc<N.n
 main:N.pr 0=CL cf z rem
 FK:N.pr jc=JE cf cl z2 rB k
 gone:s jc=.gone
 other:∀j,0<j->j<N.n->j≠jc->N.pr j=(s j).pc cf cl tv
 zero:s 0=.gone
 cnt:∀v,rem.count v=sumTo N.n λj=>(s j).vals.count v
 live:k=sumTo N.n λj=>(s j).one
 opn:∀c,N.cl c=none
 MG:∀j,0<j->j<N.n->s j=.gone->j≠jc->N.D jc j
theorem sZ{f:Nat->Nat}{n:Nat}(h:∀i,i<n->f i=0):sumTo n f=0:=by
 induction n with
 |zero=>rfl
 |succ n ih=>simp[sumTo,ih λi hi=>h i (by omega),h n (by omega)]
theorem Rg{f:Nat->Nat}{n:Nat}(h:sumTo n f≠0):∃i,i<n/\f i≠0:=by
 by_cases hx:∃i,i<n/\f i≠0;.exact hx
 exact absurd (sZ λi hi=>by
  by_cases h0:f i=0;.exact h0
  exact absurd ⟨i,hi,h0⟩ hx) h
theorem afT(hne:cf≠cl):∀(M:Nat)(N:Net)(s:Nat->Ro)(jc k:Nat)(rem:List Value),rem.length+k<M->aif cf cl tv z z2 rB N s jc k rem->Dd (λc=>c=cf\/c=cl) N:=by
 intro M;induction M with
 |zero=>exactλ_ _ _ _ _ h=>absurd h (Nat.not_lt_zero _)
 |succ M ih=>
  intro N s jc k rem hM I;have hn:0<N.n:=dH I.jc0 (Nat.le_of_lt I.jcn);obtain⟨pc,QB⟩:=wj (cf:=cf) (z:=z) rem;have cQ:∀j,j<N.n->j=0\/j=jc\/(0<j/\j≠jc/\((s j=.gone/\N.pr j=.stop)\/∃vs,s j=.work vs/\N.pr j=wk cf cl tv vs)):=by
   intro j hj;rcases oZ j with rfl|hp;.exact .inl rfl
   by_cases hjc:j=jc;.exact .inr (.inl hjc)
   refine .inr (.inr ⟨hp,hjc,?_⟩);have:=I.other j hp hj hjc;rcases D9 (cf:=cf) (cl:=cl) (tv:=tv) (s j)with ⟨h1,h2⟩|⟨vs,h1,h2⟩;.exact .inl ⟨h1,this.trans h2⟩
   exact .inr ⟨vs,h1,this.trans h2⟩
  have afm:∀i c v p,i<N.n->N.pr i=.send c v p->0<i/\i≠jc/\((∃vs,s i=.work (v::vs)/\c=cf/\p=wk cf cl tv vs)\/(s i=.work []/\c=cl/\p=.stop)):=by
   intro i c v p hi hp;rcases cQ i hi with rfl|rfl|⟨h1,h2,⟨h3,h4⟩|⟨vs,h3,h4⟩⟩;.rw[I.main,QB]at hp;cases hp
   .rw[I.FK]at hp;rcases wm (cf:=cf) (cl:=cl) (z2:=z2) (rB:=rB) k with ⟨p',h⟩|h<;>rw[h]at hp<;>cases hp
   .rw[h4]at hp;cases hp
   refine⟨h1,h2,?_⟩;rw[h4]at hp;cases vs with
   |nil=>cases hp;exact .inr ⟨h3,rfl,rfl⟩
   |cons v' vs=>cases hp;exact .inl ⟨vs,h3,rfl,rfl⟩
  have acZ:∀j c ok z' p,j<N.n->N.pr j=.recv c ok z' p->(j=0/\c=cf)\/(j=jc/\c=cl):=by
   intro j c ok z' p hj hp;rcases cQ j hj with rfl|rfl|⟨h1,h2,⟨h3,h4⟩|⟨vs,h3,h4⟩⟩;.rw[I.main,QB]at hp;cases hp;exact .inl ⟨rfl,rfl⟩
   .rw[I.FK]at hp;rcases wm (cf:=cf) (cl:=cl) (z2:=z2) (rB:=rB) k with ⟨p',h⟩|h<;>rw[h]at hp<;>cases hp;exact .inr ⟨rfl,rfl⟩
   .rw[h4]at hp;cases hp
   rw[h4]at hp;obtain⟨_,_,_,h,_⟩:=rL (cf:=cf) (cl:=cl) (tv:=tv) vs;rw[h]at hp;cases hp
  have afA:∀j c p,j<N.n->N.pr j=.close c p->j=jc/\c=cf/\p=.stop/\k=0:=by
   intro j c p hj hp;rcases cQ j hj with rfl|rfl|⟨h1,h2,⟨h3,h4⟩|⟨vs,h3,h4⟩⟩;.rw[I.main,QB]at hp;cases hp
   .rw[I.FK]at hp;cases k with
    |zero=>cases hp;exact⟨rfl,rfl,rfl,rfl⟩
    |succ k=>cases hp
   .rw[h4]at hp;cases hp
   rw[h4]at hp;obtain⟨_,_,_,h,_⟩:=rL (cf:=cf) (cl:=cl) (tv:=tv) vs;rw[h]at hp;cases hp
  have hgo:∀j a p,j<N.n->N.pr j≠.go a p:=by
   intro j a p hj hp;rcases cQ j hj with rfl|rfl|⟨h1,h2,⟨h3,h4⟩|⟨vs,h3,h4⟩⟩;.rw[I.main,QB]at hp;cases hp
   .rw[I.FK]at hp;rcases wm (cf:=cf) (cl:=cl) (z2:=z2) (rB:=rB) k with ⟨p',h⟩|h<;>rw[h]at hp<;>cases hp
   .rw[h4]at hp;cases hp
   rw[h4]at hp;obtain⟨_,_,_,h,_⟩:=rL (cf:=cf) (cl:=cl) (tv:=tv) vs;rw[h]at hp;cases hp
  have aiQ:=I.jc0;refine .step N (λj hj=>?_) (by rw[I.main,QB];simp) (λi c v p hi hp=>⟨I.opn c,?_⟩) (λj c ok z' p hj hp=>?_) ?_
   (λi j c v p ok z' p' hi hj hp hq=>?_) (λi c p hi hp=>⟨I.opn c,.inl (afA i c p hi hp).2.1⟩) (λi c p hi hp=>?_) (λj c ok z' p E' hj hp Cj=>?_) (λi ch p hi hp=>absurd hp (hgo i ch p hi))
  .rcases cQ j hj with rfl|rfl|⟨h1,h2,⟨h3,h4⟩|⟨vs,h3,h4⟩⟩;.rw[I.main,QB];simp
   .rw[I.FK];rcases wm (cf:=cf) (cl:=cl) (z2:=z2) (rB:=rB) k with ⟨p',h⟩|h<;>rw[h]<;>simp
   .rw[h4];simp
   rw[h4];obtain⟨_,_,_,h,_⟩:=rL (cf:=cf) (cl:=cl) (tv:=tv) vs;rw[h];simp
  .rcases(afm i c v p hi hp).2.2 with ⟨_,_,h,_⟩|⟨_,h,_⟩;.exact .inl h
   exact .inr h
  .rcases acZ j c ok z' p hj hp with ⟨_,h⟩|⟨_,h⟩;.exact .inl h
   exact .inr h
  .by_cases hk:k=0;.exact .inr (.inl ⟨jc,cf,.stop,I.jcn,by rw[I.FK,hk];rfl⟩)
   obtain⟨i,hi,ac1⟩:=Rg (f:=λj=>(s j).one) (n:=N.n) (by rw[<-I.live];exact hk);obtain⟨k',rfl⟩:=Nat.exists_eq_succ_of_ne_zero hk;rcases cQ i hi with rfl|rfl|⟨h1,h2,⟨h3,h4⟩|⟨vs,h3,h4⟩⟩;.simp[I.zero,Ro.one]at ac1
   .simp[I.gone,Ro.one]at ac1
   .simp[h3,Ro.one]at ac1
   cases vs with
   |nil=>exact .inl ⟨i,jc,cl,_,_,_,_,_,hi,I.jcn,h4,I.FK⟩
   |cons v vs=>exact .inl ⟨i,0,cf,_,_,_,_,_,hi,hn,h4,by rw[I.main];exact QB⟩
  .obtain⟨C9,ac5,hs⟩:=afm i c v p hi hp;rcases hs with ⟨vs,hs,rfl,rfl⟩|⟨hs,rfl,rfl⟩
   .obtain rfl:j=0:=by
     rcases acZ j _ ok z' p' hj hq with ⟨h,_⟩|⟨_,h⟩;.exact h
     exact absurd h hne
    have hv:v∈rem:=by have h1:=I.cnt v;have h2:=le_sumTo (f:=λj=>(s j).vals.count v) hi;simp only[hs,AJ,List.count_cons_self]at h2;exact List.count_pos_iff.1 (by omega)
    have hlen:rem.length=(rem.erase v).length+1:=by rw[C2 hv];have:=List.length_pos_of_mem hv;omega
    have tA:p' (some v)=CL c z (rem.erase v):=by have hm:=I.main;rw[hq]at hm;unfold CL at hm;rw[hlen]at hm;cases hm;show(if v∈rem then Zi c z (rem.erase v).length (rem.erase v)else .bad)=_;rw[if_pos hv];rfl
    rw[tA];refine ih _ (upd s i (.work vs)) jc k (rem.erase v) (by omega) ⟨I.jc0,I.jcn,PT _ _ _ _ _,?_,?_,λj hj nZ Fp=>?_,?_,λv'=>?_,?_,I.opn,λj hj nZ hg Fp=>?_⟩;.show upd (upd N.pr i _) 0 _ jc=_;rw[upd_ne _ _ (by omega),upd_ne _ _ (Ne.symm ac5)];exact I.FK
    .rw[upd_ne _ _ (Ne.symm ac5)];exact I.gone
    .show upd (upd N.pr i _) 0 _ j=_;rw[upd_ne _ _ (by omega)];by_cases gR:j=i;.subst gR;rw[upd_same,upd_same];rfl
     rw[upd_ne _ _ gR,upd_ne _ _ gR];exact I.other j hj nZ Fp
    .rw[upd_ne _ _ (by omega)];exact I.zero
    .have h1:=I.cnt v';have h2:=sumTo_upd s (.work vs) (λr=>r.vals.count v') hi;show(rem.erase v).count v'=sumTo N.n _;simp only[hs,AJ,List.count_cons]at h2;rw[List.count_erase];split at h2<;>rename_i h3;.rw[if_pos h3];omega
     rw[if_neg h3];omega
    .have h2:=sumTo_upd s (.work vs) Ro.one hi;have h1:=I.live;simp only[hs,KZ]at h2;show k=sumTo N.n _;omega
    by_cases gR:j=i;.subst gR;rw[upd_same]at hg;cases hg
    rw[upd_ne _ _ gR]at hg;show if jc=i\/jc=0 then _ else N.D jc j;rw[if_neg (by omega)];exact I.MG j hj nZ hg Fp
   obtain rfl:j=jc:=by
    rcases acZ j _ ok z' p' hj hq with ⟨_,h⟩|⟨h,_⟩;.exact absurd h.symm hne
    exact h
   obtain⟨k',rfl⟩:∃k',k=k'+1:=by
    cases k with
    |zero=>rw[I.FK]at hq;cases hq
    |succ k=>exact⟨k,rfl⟩
   have tA:p' (some v)=JE cf c z2 rB k':=by have:=I.FK;rw[hq]at this;cases this;rfl
   rw[tA];refine ih _ (upd s i .gone) j k' rem (by omega) ⟨I.jc0,I.jcn,?_,PT _ _ _ _ _,?_,λx hx FW S7=>?_,?_,λv'=>?_,?_,I.opn,λx hx FW hg S7=>?_⟩;.show upd (upd N.pr i _) j _ 0=_;rw[upd_ne _ _ (by omega),upd_ne _ _ (by omega)];exact I.main
   .rw[upd_ne _ _ (Ne.symm ac5)];exact I.gone
   .show upd (upd N.pr i _) j _ x=_;rw[upd_ne _ _ S7];by_cases hxi:x=i;.subst hxi;rw[upd_same,upd_same];rfl
    rw[upd_ne _ _ hxi,upd_ne _ _ hxi];exact I.other x hx FW S7
   .rw[upd_ne _ _ (by omega)];exact I.zero
   .have h1:=I.cnt v';have h2:=sumTo_upd s .gone (λr=>r.vals.count v') hi;show rem.count v'=sumTo N.n _;simp only[hs,AJ,Q7,List.count_nil]at h2;omega
   .have h2:=sumTo_upd s .gone Ro.one hi;have h1:=I.live;simp only[hs,KZ,W7]at h2;show k'=sumTo N.n _;omega
   show if j=i\/j=j then _ else _;rw[if_pos (.inr rfl)];by_cases hxi:x=i;.exact .inr (.inr (.inl ⟨hxi,rfl⟩))
   rw[upd_ne _ _ hxi]at hg;exact .inr (.inl (I.MG x hx FW hg S7))
  .obtain⟨rfl,rfl,rfl,rfl⟩:=afA i c p hi hp;have fL:∀j,j<N.n->s j=.gone:=by
    intro j hj;have h1:=le_sumTo (f:=λj=>(s j).one) hj;rw[<-I.live]at h1;cases h:s j with
    |gone=>rfl
    |work vs=>simp[h,Ro.one]at h1
   have ahE:rem=[]:=by
    cases hr:rem with
    |nil=>rfl
    |cons v vs=>have h1:=I.cnt v;rw[sZ λj hj=>by simp[fL j hj,Ro.vals],hr]at h1;simp at h1
   subst ahE;refine afS (z:=z) (E:=λy=>N.D i y\/(y=i/\Pc.stop=Pc.stop)) hn ?_ (λj hj nZ=>?_) (upd_same _ _ _) (λj hj nZ=>?_);.show upd N.pr i _ 0=_;rw[upd_ne _ _ (by omega)];exact I.main
   .show upd N.pr i _ j=_;by_cases gR:j=i;.subst gR;rw[upd_same]
    rw[upd_ne _ _ gR,I.other j hj nZ gR,fL j nZ];rfl
   by_cases gR:j=i;.exact .inr ⟨gR,rfl⟩
   exact .inl (I.MG j hj nZ (fL j nZ) gR)
  rw[I.opn c]at Cj;cases Cj
structure aih (cf cl:Nat) (tv z z2:Value) (rB:Bool) (K:Nat) (R:List Value) (N:Net) (s:Nat->Ro) (todo:List (List Value)):Prop where
 n0:0<N.n
 main:N.pr 0=chain cf cl tv z2 rB K (CL cf z R) todo
 other:∀j,0<j->j<N.n->N.pr j=(s j).pc cf cl tv
 zero:s 0=.gone
 cnt:∀v,R.count v=todo.flatten.count v+sumTo N.n λj=>(s j).vals.count v
 live:K=todo.length+sumTo N.n λj=>(s j).one
 opn:∀c,N.cl c=none
 MG:∀j,0<j->j<N.n->s j=.gone->N.D 0 j
theorem s4{s:Nat->Ro}{r:Ro}{n:Nat}(φ:Ro->Nat):sumTo (n+1) (λj=>φ (upd s n r j))=sumTo n (λj=>φ (s j))+φ r:=by simp only[sumTo,upd_same];rw[sumTo_congr (g:=λj=>φ (s j)) λj hj=>by rw[upd_ne _ _ (by omega)]]
theorem afU(hne:cf≠cl){K:Nat}{R:List Value}:∀(todo:List (List Value))(N:Net)(s:Nat->Ro),aih cf cl tv z z2 rB K R N s todo->Dd (λc=>c=cf\/c=cl) N:=by
 intro todo;induction todo with
 |nil=>
  intro N s I;have lY:N.pr 0=.go (JE cf cl z2 rB K) (CL cf z R):=I.main;have cQ:∀j,j<N.n->j=0\/(0<j/\((s j=.gone/\N.pr j=.stop)\/∃vs c v k,s j=.work vs/\N.pr j=.send c v k/\(c=cf\/c=cl))):=by
   intro j hj;refine(oZ j).imp id λhp=>⟨hp,?_⟩;have:=I.other j hp hj;rcases D9 (cf:=cf) (cl:=cl) (tv:=tv) (s j)with ⟨h1,h2⟩|⟨vs,h1,h2⟩;.exact .inl ⟨h1,this.trans h2⟩
   obtain⟨c,v,k,h3,h4⟩:=rL (cf:=cf) (cl:=cl) (tv:=tv) vs;exact .inr ⟨vs,c,v,k,h1,(this.trans h2).trans h3,h4⟩
  refine .step N (λj hj=>?_) (by rw[lY];simp) (λi c v p hi hp=>⟨I.opn c,?_⟩) (λj c ok z' p hj hp=>?_) (.inr (.inr (.inr ⟨0,_,_,I.n0,lY⟩)))
   (λi j c v p ok z' p' hi hj hp hq=>?_) (λi c p hi hp=>?_) (λi c p hi hp=>?_) (λj c ok z' p E' hj hp Cj=>?_) (λi ch p hi hp=>?_)
  .rcases cQ j hj with rfl|⟨_,⟨_,h⟩|⟨_,_,_,_,_,h,_⟩⟩;.rw[lY];simp
   .rw[h];simp
   rw[h];simp
  .rcases cQ i hi with rfl|⟨_,⟨_,h⟩|⟨_,_,_,_,_,h,h'⟩⟩;.rw[lY]at hp;cases hp
   .rw[h]at hp;cases hp
   rw[h]at hp;cases hp;exact h'
  .rcases cQ j hj with rfl|⟨_,⟨_,h⟩|⟨_,_,_,_,_,h,_⟩⟩;.rw[lY]at hp;cases hp
   .rw[h]at hp;cases hp
   rw[h]at hp;cases hp
  .rcases cQ j hj with rfl|⟨_,⟨_,h⟩|⟨_,_,_,_,_,h,_⟩⟩;.rw[lY]at hq;cases hq
   .rw[h]at hq;cases hq
   rw[h]at hq;cases hq
  .rcases cQ i hi with rfl|⟨_,⟨_,h⟩|⟨_,_,_,_,_,h,_⟩⟩;.rw[lY]at hp;cases hp
   .rw[h]at hp;cases hp
   rw[h]at hp;cases hp
  .rcases cQ i hi with rfl|⟨_,⟨_,h⟩|⟨_,_,_,_,_,h,_⟩⟩;.rw[lY]at hp;cases hp
   .rw[h]at hp;cases hp
   rw[h]at hp;cases hp
  .rw[I.opn c]at Cj;cases Cj
  rcases cQ i hi with rfl|⟨_,⟨_,h⟩|⟨_,_,_,_,_,h,_⟩⟩
  .rw[lY]at hp;cases hp;have hn:=I.n0;refine afT (tv:=tv) (z:=z) (z2:=z2) (rB:=rB) hne (R.length+K+1) _ (upd s N.n .gone) N.n K R (vM _) ⟨hn,vM _,?_,V8 _ _ _ _,upd_same _ _ _,λj hj nZ Fp=>?_,?_,λv=>?_,?_,I.opn,λj hj nZ hg Fp=>?_⟩;.show upd (upd N.pr 0 _) N.n _ 0=_;rw[upd_ne _ _ (by omega),upd_same]
   .show upd (upd N.pr 0 _) N.n _ j=_;have MK:j<N.n:=by have:j<N.n+1:=nZ;omega
    rw[upd_ne _ _ Fp,upd_ne _ _ (by omega),upd_ne _ _ Fp];exact I.other j hj MK
   .rw[upd_ne _ _ (by omega)];exact I.zero
   .show R.count v=sumTo (N.n+1) _;rw[s4 (s:=s) (r:=.gone) λr=>r.vals.count v];have:=I.cnt v;simpa [Ro.vals]using this
   .show K=sumTo (N.n+1) _;rw[s4 (s:=s) (r:=.gone) Ro.one];have:=I.live;simpa [Ro.one]using this
   show if N.n=N.n then N.D 0 j else _;rw[if_pos rfl];have MK:j<N.n:=by have:j<N.n+1:=nZ;omega
   rw[upd_ne _ _ Fp]at hg;exact I.MG j hj MK hg
  .rw[h]at hp;cases hp
  rw[h]at hp;cases hp
 |cons vs todo ih=>
  intro N s I;have lY:N.pr 0=.go (wk cf cl tv vs) (chain cf cl tv z2 rB K (CL cf z R) todo):=I.main;have cQ:∀j,j<N.n->j=0\/(0<j/\((s j=.gone/\N.pr j=.stop)\/∃vs c v k,s j=.work vs/\N.pr j=.send c v k/\(c=cf\/c=cl))):=by
   intro j hj;refine(oZ j).imp id λhp=>⟨hp,?_⟩;have:=I.other j hp hj;rcases D9 (cf:=cf) (cl:=cl) (tv:=tv) (s j)with ⟨h1,h2⟩|⟨vs,h1,h2⟩;.exact .inl ⟨h1,this.trans h2⟩
   obtain⟨c,v,k,h3,h4⟩:=rL (cf:=cf) (cl:=cl) (tv:=tv) vs;exact .inr ⟨vs,c,v,k,h1,(this.trans h2).trans h3,h4⟩
  refine .step N (λj hj=>?_) (by rw[lY];simp) (λi c v p hi hp=>⟨I.opn c,?_⟩) (λj c ok z' p hj hp=>?_) (.inr (.inr (.inr ⟨0,_,_,I.n0,lY⟩)))
   (λi j c v p ok z' p' hi hj hp hq=>?_) (λi c p hi hp=>?_) (λi c p hi hp=>?_) (λj c ok z' p E' hj hp Cj=>?_) (λi ch p hi hp=>?_)
  .rcases cQ j hj with rfl|⟨_,⟨_,h⟩|⟨_,_,_,_,_,h,_⟩⟩;.rw[lY];simp
   .rw[h];simp
   rw[h];simp
  .rcases cQ i hi with rfl|⟨_,⟨_,h⟩|⟨_,_,_,_,_,h,h'⟩⟩;.rw[lY]at hp;cases hp
   .rw[h]at hp;cases hp
   rw[h]at hp;cases hp;exact h'
  .rcases cQ j hj with rfl|⟨_,⟨_,h⟩|⟨_,_,_,_,_,h,_⟩⟩;.rw[lY]at hp;cases hp
   .rw[h]at hp;cases hp
   rw[h]at hp;cases hp
  .rcases cQ j hj with rfl|⟨_,⟨_,h⟩|⟨_,_,_,_,_,h,_⟩⟩;.rw[lY]at hq;cases hq
   .rw[h]at hq;cases hq
   rw[h]at hq;cases hq
  .rcases cQ i hi with rfl|⟨_,⟨_,h⟩|⟨_,_,_,_,_,h,_⟩⟩;.rw[lY]at hp;cases hp
   .rw[h]at hp;cases hp
   rw[h]at hp;cases hp
  .rcases cQ i hi with rfl|⟨_,⟨_,h⟩|⟨_,_,_,_,_,h,_⟩⟩;.rw[lY]at hp;cases hp
   .rw[h]at hp;cases hp
   rw[h]at hp;cases hp
  .rw[I.opn c]at Cj;cases Cj
  rcases cQ i hi with rfl|⟨_,⟨_,h⟩|⟨_,_,_,_,_,h,_⟩⟩
  .rw[lY]at hp;cases hp;have hn:=I.n0;refine ih _ (upd s N.n (.work vs)) ⟨Nat.succ_pos _,?_,λj hj nZ=>?_,?_,λv=>?_,?_,I.opn,λj hj nZ hg=>?_⟩;.show upd (upd N.pr 0 _) N.n _ 0=_;rw[upd_ne _ _ (by omega),upd_same]
   .show upd (upd N.pr 0 _) N.n _ j=_;by_cases Fp:j=N.n;.rw[Fp,upd_same,upd_same];rfl
    have MK:j<N.n:=by have:j<N.n+1:=nZ;omega
    rw[upd_ne _ _ Fp,upd_ne _ _ (by omega),upd_ne _ _ Fp];exact I.other j hj MK
   .rw[upd_ne _ _ (by omega)];exact I.zero
   .show R.count v=_+sumTo (N.n+1) _;rw[s4 (s:=s) (r:=.work vs) λr=>r.vals.count v];have:=I.cnt v;simp only[List.flatten_cons,List.count_append]at this;show _=_+(_+vs.count v);omega
   .show K=_+sumTo (N.n+1) _;rw[s4 (s:=s) (r:=.work vs) Ro.one];have:=I.live;simp only[dN]at this;show _=_+(_+1);omega
   by_cases Fp:j=N.n;.subst Fp;rw[upd_same]at hg;cases hg
   have MK:j<N.n:=by have:j<N.n+1:=nZ;omega
   rw[upd_ne _ _ Fp]at hg;show if 0=N.n then _ else N.D 0 j;rw[if_neg (by omega)];exact I.MG j hj MK hg
  .rw[h]at hp;cases hp
  rw[h]at hp;cases hp
theorem LH(hne:cf≠cl)(todo:List (List Value)){n:Nat}(hn:0<n):Dd (λc=>c=cf\/c=cl) (entry n (chain cf cl tv z2 rB todo.length (CL cf z todo.flatten) todo)):=by
 refine afU (tv:=tv) (z:=z) (z2:=z2) (rB:=rB) hne todo _ (λ_=>.gone) ⟨hn,rfl,λj hj nZ=>?_,rfl,λv=>?_,?_,λ_=>rfl,λj hj nZ _=>⟨hj,nZ⟩⟩
 .have:j≠0:=by omega
  simp[entry,this,Ro.pc]
 .rw[sZ λj hj=>by simp[Ro.vals]];simp
 rw[sZ λj hj=>by simp[Ro.one]];simp
end Go.Co
