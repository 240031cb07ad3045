import Derived.Test.YtedcgbkilmlbhaaPk31
import Derived.Test.YtedcgbkilmlbhaaPk32
namespace Go.Di
open Go Go.Conc Go.Co
variable {P:Program} {aa:Machine->Trace->Prop} {x y:Cx} {i:Nat} {l l0 l':List DV} {T:ai}
def Cx.only (x:Cx)(i:Nat)(l:List DV):Cx:={x with μ:=λ_=>x.μ i,κ:=λ_=>0,S:=[.cells l]}
theorem ET{x y:Cx}(hF:∀b o,x.Fz b o->y.Fz b o/\y.w.cell? ⟨b,o,none⟩=x.w.cell? ⟨b,o,none⟩){l:List DV}{arr:Array Value}(hl:(l.map DV.aM).all DV.bY=true)(h:iw x l arr):iw y (l.map DV.aM) arr:=by refine⟨by simpa using h.1,λj c hj=>?_⟩;have hm:=aT.1 hl c (b9 hj);simp only[cR,af]at hj;obtain⟨c',h2,rfl⟩:=hj;exact(h.2 j c' h2).aM.qn hF hm
theorem GK{x y:Cx}(hF:∀b o,x.Fz b o->y.Fz b o/\y.w.cell? ⟨b,o,none⟩=x.w.cell? ⟨b,o,none⟩){l:List DV}(hl:(l.map DV.strip).all DV.pure=true){j:Nat}{c:DV}{v:Value}(hj:(l.map DV.strip)[j]? =some c)(h:∀c',l[j]? =some c'->RV x c' v):RV y c v:=by have hm:=aT.1 hl c (b9 hj);simp only[cR,af]at hj;obtain⟨c',h2,rfl⟩:=hj;exact(h c' h2).strip.pure_mono hF hm
theorem qg{l:List DV}{k:Nat}{b:DB}(h:([.cells l]:ai)[k]? =some b):k=0/\b=.cells l:=by
 cases k with
 |zero=>simp at h;exact⟨rfl,h.symm⟩
 |succ k=>simp at h
theorem WV(hR:Rel x)(hi:x.S[i]? =some (.cells l))(hl:(l.map DV.aM).all DV.bY=true):Rel (x.only i (l.map DV.aM)):=by
 refine⟨λid l2 h=>?_,λid e s n h=>?_,λid b h hb=>?_,λj k hj hk _=>?_,hR.As,λid h o hF=>?_,λid e s n h=>?_,λid e s l z h=>?_⟩;.obtain⟨rfl,h2⟩:=qg h;cases h2;obtain⟨arr,e,h1,h2,h3⟩:=hR.cells i l hi;refine⟨arr,e,h1,?_⟩;exact ET (x:=x) (y:=x.only i (l.map DV.aM)) (λb o h=>⟨h,rfl⟩) hl ⟨h2,h3⟩
 .exact nomatch (qg h).2
 .obtain⟨-,rfl⟩:=qg h;cases hb
 .obtain⟨b,hb,-⟩:=hj;obtain⟨c,hc,-⟩:=hk;rw[(qg hb).1,(qg hc).1]
 .exact hR.sep i ⟨l,hi⟩ o hF
 .exact nomatch (qg h).2
 exact nomatch (qg h).2
def Cx.back (x y:Cx)(i:Nat)(l':List DV):Cx:={w:=y.w,μ:=x.μ,κ:=x.κ,Fz:=y.Fz,S:=x.S.set i (.cells l')}
theorem fT{S:ai}{i k:Nat}{b c d:DB}(hi:S[i]? =some d)(h:(S.set i c)[k]? =some b):(k=i/\b=c)\/(k≠i/\S[k]? =some b):=by
 rw[aF]at h;split at h;.rename_i he;subst he;rw[if_pos (az.1 hi).1]at h;cases h;exact .inl ⟨rfl,rfl⟩
 rename_i he;exact .inr ⟨λe=>he e.symm,h⟩
theorem lM{S:ai}{i k:Nat}{c:DB}(h:k≠i):(S.set i c)[k]? =S[k]? :=by rw[aF,if_neg λe=>h e.symm]
theorem GI{S:ai}{i:Nat}{c d:DB}(hi:S[i]? =some d):(S.set i c)[i]? =some c:=by rw[aF,if_pos rfl,if_pos (az.1 hi).1]
theorem uY(hR:Rel x)(hi:x.S[i]? =some (.cells l))(M:bU (x.only i l0) y){id:Nat}{b:DB}{o:Obj}(hb:x.S[id]? =some b)(hne:b≠.none)(hid:id≠i)(ho:x.w.heap[x.μ id]? =some o):y.w.heap[x.μ id]? =x.w.heap[x.μ id]? :=by refine M.old _ (aL.1 ho).1 λk _ he=>?_;exact hid (hR.inj i id ⟨_,hi,by simp⟩ ⟨b,hb,hne⟩ he).symm
theorem G6(hR:Rel x)(hi:x.S[i]? =some (.cells l))(M:bU (x.only i l0) y):bU x (x.back y i l') where
 size:=M.size
 env:=M.env
 fz:=M.fz
 JM:=λb o h=>(M.JM b o h).imp id λh=>h.imp id λ⟨k,_,he⟩=>⟨i,⟨_,hi,by simp⟩,he⟩
 old:=λb hb hn=>M.old b hb λk _ he=>hn i ⟨_,hi,by simp⟩ he
 len:=by simp[Cx.back]
 cells:=λid l2 h=>⟨rfl,by
  by_cases he:id=i;.subst he;exact⟨l',GI hi⟩
  exact⟨l2,(lM he).trans h⟩⟩
 eF:=λid b h hb=>by
  have he:id≠i:=by rintro rfl;rw[hi]at h;cases h;cases hb
  obtain⟨o,ho,-⟩:=hR.eF id b h hb;exact⟨rfl,⟨b,(lM he).trans h,eX hb⟩,λ_=>uY hR hi M h (fE hb) he ho⟩
 dZ:=λt e s n h=>by
  have he:t≠i:=by rintro rfl;rw[hi]at h;cases h
  exact⟨n,(lM he).trans h,aj _,λ_=>⟨rfl,rfl⟩⟩
 live:=λk ⟨b,hb,hne⟩=>.inl ⟨by
  rcases fT hi hb with ⟨rfl,-⟩|⟨-,h⟩;.exact⟨_,hi,by simp⟩
  exact⟨b,h,hne⟩,rfl⟩
 ops:=λt e s l z h=>by
  have he:t≠i:=by rintro rfl;rw[hi]at h;cases h
  exact⟨l,z,(lM he).trans h,aj _,λe=>⟨rfl,e⟩,λ_=>⟨rfl,rfl⟩⟩
theorem W0(hR:Rel x)(hi:x.S[i]? =some (.cells l))(CW:Rel y)(M:bU (x.only i l0) y)(hy:y.S[0]? =some (.cells l'))(iU:(l'.map DV.aM).all DV.bY=true):Rel (x.back y i (l'.map DV.aM)):=by
 have MB:=G6 (l':=l'.map DV.aM) hR hi M;have hμ:y.μ 0=x.μ i:=(M.cells 0 l0 rfl).1;have hF:∀b o,y.Fz b o->x.Fz b o\/x.w.heap.size<=b\/b=x.μ i:=λb o h=>(M.JM b o h).imp id λh=>h.imp id λ⟨_,_,he⟩=>he.symm;refine⟨λid l2 h=>?_,λid e s n h=>?_,λid b h hb=>?_,λj k hj hk he=>?_,CW.As,λid h o hf=>?_,λid e s n h o hf=>?_,λid e s l1 z h=>?_⟩
 .rcases fT hi h with ⟨rfl,h2⟩|⟨he,h2⟩;.cases h2;obtain⟨arr,e,h1,h2,h3⟩:=CW.cells 0 l' hy;exact⟨arr,e,by rw[hμ]at h1;exact h1,ET (x:=y) (y:=x.back y id (l'.map DV.aM)) (λb o h=>⟨h,rfl⟩) iU ⟨h2,h3⟩⟩
  obtain⟨arr,e,h1,h3,h4⟩:=hR.cells id l2 h2;exact⟨arr,e,(uY hR hi M h2 (by simp) he h1).trans h1,h3,λj c hc=>(h4 j c hc).mono MB⟩
 .rcases fT hi h with ⟨rfl,h2⟩|⟨he,h2⟩;.cases h2
  obtain⟨arr,h1,h3⟩:=hR.dZ id e s n h2;exact⟨arr,(uY hR hi M h2 (by simp) he h1).trans h1,h3⟩
 .rcases fT hi h with ⟨rfl,h2⟩|⟨he,h2⟩;.subst h2;cases hb
  obtain⟨o,h1,h3⟩:=hR.eF id b h2 hb;exact⟨o,(uY hR hi M h2 (fE hb) he h1).trans h1,h3.mono MB⟩
 .have lv:∀{k},Live (x.back y i (l'.map DV.aM)).S k->Live x.S k:=λ{k}⟨b,hb,hne⟩=>by
   rcases fT hi hb with ⟨rfl,-⟩|⟨-,h⟩;.exact⟨_,hi,by simp⟩
   exact⟨b,h,hne⟩
  exact hR.inj j k (lv hj) (lv hk) he
 .obtain⟨l2,h⟩:=h;obtain⟨l3,h3⟩:∃l3,x.S[id]? =some (.cells l3):=by
   rcases fT hi h with ⟨rfl,-⟩|⟨-,h2⟩;.exact⟨l,hi⟩
   exact⟨l2,h2⟩
  obtain⟨arr,e,h4,-⟩:=hR.cells id l3 h3;rcases hF _ _ hf with h5|h5|h5;.exact hR.sep id ⟨l3,h3⟩ o h5
  .have:=(aL.1 h4).1;change x.w.heap.size<=x.μ id at h5;omega
  refine CW.sep 0 ⟨l',hy⟩ o ?_;rw[hμ,<-h5];exact hf
 .rcases fT hi h with ⟨rfl,h2⟩|⟨he,h2⟩;.cases h2
  obtain⟨arr,h4,-⟩:=hR.dZ id e s n h2;rcases hF _ _ hf with h5|h5|h5;.exact hR.pL id e s n h2 o h5
  .have:=(aL.1 h4).1;change x.w.heap.size<=x.μ id at h5;omega
  exact absurd (hR.inj id i ⟨_,h2,by simp⟩ ⟨_,hi,by simp⟩ h5) he
 rcases fT hi h with ⟨rfl,h2⟩|⟨he,h2⟩;.cases h2
 obtain⟨arr,h4,h3,h6,h7,h8,h9,wO⟩:=hR.ops id e s l1 z h2;refine⟨arr,(uY hR hi M h2 (by simp) he h4).trans h4,h3,h6,h7,λj c hc=>⟨(h8 j c hc).1,(h8 j c hc).2.mono MB⟩,λhz j hj=>(M.fz _ _ (h9 hz j hj)).1,λhz o hf=>?_⟩;rcases hF _ _ hf with h5|h5|h5;.exact wO hz o h5
 .have:=(aL.1 h4).1;change x.w.heap.size<=x.μ id at h5;omega
 exact absurd (hR.inj id i ⟨_,h2,by simp⟩ ⟨_,hi,by simp⟩ h5) he
theorem Ol{f:FuncId}{off:Nat}{rest:List DV}{vals:Array Value}{v:DV}(hR:Rel x)(hi:x.S[i]? =some (.cells l))(hp:(rest.map DV.strip).all DV.pure=true)(ha:iw x (.ptr i off::rest) vals)
  (h:iw (x.only i l0) (.ptr 0 off::rest.map DV.strip) vals->fL P aa (x.only i l0) f vals λy u=>y.S=.cells l'::T/\Rel y/\bU (x.only i l0) y/\RV y v u) (iU:(l'.map DV.aM).all DV.bY=true) (hv:v.strip.pure=true):
  fL P aa x f vals λz u=>z.S=x.S.set i (.cells (l'.map DV.aM))/\Rel z/\bU x z/\RV z v.strip u:=by
 have ha':iw (x.only i l0) (.ptr 0 off::rest.map DV.strip) vals:=by
  refine⟨by simpa using ha.1,λj c hc=>?_⟩;cases j with
  |zero=>
   simp only[cg,aB]at hc;subst hc;have:=ha.2 0 _ rfl;generalize vals.getD 0 undef=u at this;cases this with
   |ptr _=>exact RV.ptr (x:=x.only i l0) (id:=0) (l:=l0) rfl
  |succ j=>exact GK (x:=x) (y:=x.only i l0) (λb o h=>⟨h,rfl⟩) hp (by simpa using hc) λc' h1=>ha.2 (j+1) c' (by simpa using h1)
 obtain⟨h1,h2⟩:=h ha';refine⟨h1,λfr cs hn=>h2 fr cs λy u ⟨q1,q2,q3,q4⟩=>?_⟩;have hy:y.S[0]? =some (.cells l'):=by rw[q1];rfl
 exact hn (x.back y i (l'.map DV.aM)) u ⟨rfl,W0 hR hi q2 q3 hy iU,G6 hR hi q3,q4.strip.pure_mono (x:=y) (y:=x.back y i (l'.map DV.aM)) (λb o h=>⟨h,rfl⟩) hv⟩
theorem X9{call:bt}(hc:iC P aa call):iC P aa (KA call):=by
 intro f args S v S' h x vals hR hS ha;subst hS;unfold KA at h;split at h
 .rename_i i v1 l1 ho;cases h;unfold pV at ho;split at ho
  .rename_i i off rest;split at ho
   .rename_i l hi;split at ho
    .rename_i Tq;simp only[aA]at Tq;split at ho
     .rename_i v2 l' T mh;split at ho;.rename_i hq;simp only[aA]at hq;cases ho;exact Ol (l0:=l.map DV.aM) hR hi Tq.1 ha (λOP=>hc _ _ _ _ _ mh (x.only _ _) vals (WV hR hi Tq.2) rfl OP) hq.2 hq.1
      cases ho
     cases ho
    cases ho
   cases ho
  cases ho
 exact X7 hc _ _ _ _ _ h x vals hR rfl ha
def Cx.opn (x y:Cx)(aD t:Nat)(e:TypeId)(rows:List DV):Cx:={w:=y.w,μ:=λi=>if i=aD then y.μ t else x.μ i,κ:=λi=>if i=aD then y.κ t else x.κ i,Fz:=λb o=>y.Fz b o/\b≠y.μ t,S:=x.S.set aD (.op e 1 rows false)}
section
variable {aD t n:Nat} {e:TypeId} {rows:List DV}
theorem I9(M:bU x.bare y)(ht:y.S[t]? =some (.tail e 1 n)):x.w.heap.size<=y.μ t:=by
 rcases M.live t ⟨_,ht,by simp⟩with ⟨⟨b,hb,-⟩,-⟩|h;.simp[Cx.bare]at hb
 exact h
theorem vL(M:bU x.bare y){b:Nat}(hb:b<x.w.heap.size):y.w.heap[b]? =x.w.heap[b]? :=M.old b hb λi ⟨c,hc,_⟩=>by simp[Cx.bare]at hc
theorem PV(M:bU x.bare y){b o:Nat}(h:y.Fz b o):x.Fz b o\/x.w.heap.size<=b:=by
 rcases M.JM b o h with h|h|⟨i,⟨c,hc,-⟩,-⟩;.exact .inl h
 .exact .inr h
 simp[Cx.bare]at hc
theorem Lr(hR:Rel x)(M:bU x.bare y)(hn:x.S[aD]? =some .none)(ht:y.S[t]? =some (.tail e 1 n)):bU x (x.opn y aD t e rows) where
 size:=M.size
 env:=M.env
 fz:=λb o h=>by obtain⟨v,hv⟩:=hR.As b o h;have h1:=World.block_lt_of_cell? x.w ⟨b,o,none⟩ hv;have h2:=I9 M ht;exact⟨⟨(M.fz b o h).1,λhe=>by change b<_ at h1;omega⟩,(M.fz b o h).2⟩
 JM:=λb o h=>(PV M h.1).imp id .inl
 old:=λb hb _=>vL M hb
 len:=by simp[Cx.opn]
 cells:=λid l h=>by
  have he:id≠aD:=by rintro rfl;rw[hn]at h;cases h
  exact⟨if_neg he,l,(lM he).trans h⟩
 eF:=λid b h hb=>by
  have he:id≠aD:=by rintro rfl;rw[hn]at h;cases h;cases hb
  obtain⟨o,ho,-⟩:=hR.eF id b h hb;exact⟨if_neg he,⟨b,(lM he).trans h,eX hb⟩,λ_=>vL M (aL.1 ho).1⟩
 dZ:=λk e s n h=>by
  have he:k≠aD:=by rintro rfl;rw[hn]at h;cases h
  exact⟨n,(lM he).trans h,aj _,λ_=>⟨if_neg he,if_neg he⟩⟩
 live:=λk ⟨b,hb,hne⟩=>by
  rcases fT hn hb with ⟨rfl,-⟩|⟨he,h⟩;.exact .inr (by show _<=(if k=k then _ else _);rw[if_pos rfl];exact I9 M ht)
  exact .inl ⟨⟨b,h,hne⟩,if_neg he⟩
 ops:=λk e s l z h=>by
  have he:k≠aD:=by rintro rfl;rw[hn]at h;cases h
  exact⟨l,z,(lM he).trans h,aj _,λe=>⟨rfl,e⟩,λ_=>⟨if_neg he,if_neg he⟩⟩
theorem aaf(hR:Rel x)(M:bU x.bare y)(CW:Rel y)(hn:x.S[aD]? =some .none)(ht:y.S[t]? =some (.tail e 1 n))(hl:rows.length=n)
  (hc:∀arr,y.w.heap[y.μ t]? =some (.cells arr e (0,0))->∀j c,rows[j]? =some c->c.bY=true/\∀z:Cx,RV z c (arr.getD j undef)):Rel (x.opn y aD t e rows):=by
 have MB:=Lr (rows:=rows) hR M hn ht;have yG:=I9 M ht;have mu:∀{id},id≠aD->(x.opn y aD t e rows).μ id=x.μ id:=λhe=>if_neg he;have ka:∀{id},id≠aD->(x.opn y aD t e rows).κ id=x.κ id:=λhe=>if_neg he;have mun:(x.opn y aD t e rows).μ aD=y.μ t:=if_pos rfl;have kan:(x.opn y aD t e rows).κ aD=y.κ t:=if_pos rfl;have hF:∀{b o},(x.opn y aD t e rows).Fz b o->b<x.w.heap.size->x.Fz b o:=λh hb=>(PV M h.1).elim id λh=>by omega
 have lv:∀{k},Live (x.opn y aD t e rows).S k->k=aD\/(k≠aD/\Live x.S k):=λ{k}⟨b,hb,hne⟩=>by
  rcases fT hn hb with ⟨rfl,-⟩|⟨he,h⟩;.exact .inl rfl
  exact .inr ⟨he,b,h,hne⟩
 have lt:∀{k},Live x.S k->x.μ k<x.w.heap.size:=λ{k}⟨b,hb,hne⟩=>by
  cases b with
  |none=>exact absurd rfl hne
  |cells l=>obtain⟨arr,e,h1,-⟩:=hR.cells k l hb;exact(aL.1 h1).1
  |tail e s n=>obtain⟨arr,h1,-⟩:=hR.dZ k e s n hb;exact(aL.1 h1).1
  |map es=>obtain⟨o,h1,-⟩:=hR.eF k _ hb rfl;exact(aL.1 h1).1
  |defer=>obtain⟨o,h1,-⟩:=hR.eF k _ hb rfl;exact(aL.1 h1).1
  |loop r=>obtain⟨o,h1,-⟩:=hR.eF k _ hb rfl;exact(aL.1 h1).1
  |op e s l z=>obtain⟨arr,h1,-⟩:=hR.ops k e s l z hb;exact(aL.1 h1).1
 refine⟨λid l h=>?_,λid e s m h=>?_,λid b h hb=>?_,λj k hj hk he=>?_,λb o h=>CW.As b o h.1,λid h o hf=>?_,λid e s m h o hf=>?_,λid e1 s l1 z h=>?_⟩
 .rcases fT hn h with ⟨rfl,h2⟩|⟨he,h2⟩;.cases h2
  obtain⟨arr,e1,h3,h4,h5⟩:=hR.cells id l h2;exact⟨arr,e1,by rw[mu he];exact(vL M (aL.1 h3).1).trans h3,h4,λj c hj=>(h5 j c hj).mono MB⟩
 .rcases fT hn h with ⟨rfl,h2⟩|⟨he,h2⟩;.cases h2
  obtain⟨arr,h3,h4⟩:=hR.dZ id e s m h2;exact⟨arr,by rw[mu he];exact(vL M (aL.1 h3).1).trans h3,by rw[ka he];exact h4⟩
 .rcases fT hn h with ⟨rfl,h2⟩|⟨he,h2⟩;.subst h2;cases hb
  obtain⟨o,h3,h4⟩:=hR.eF id b h2 hb;exact⟨o,by rw[mu he];exact(vL M (aL.1 h3).1).trans h3,h4.mono MB⟩
 .rcases lv hj with rfl|⟨hj1,hj2⟩<;>rcases lv hk with rfl|⟨uk,JY⟩;.rfl
  .rw[mun,mu uk]at he;have:=lt JY;omega
  .rw[mun,mu hj1]at he;have:=lt hj2;omega
  rw[mu hj1,mu uk]at he;exact hR.inj j k hj2 JY he
 .obtain⟨l,h⟩:=h;rcases fT hn h with ⟨rfl,h2⟩|⟨he,h2⟩;.cases h2
  rw[mu he]at hf;exact hR.sep id ⟨l,h2⟩ o (hF hf (lt ⟨_,h2,by simp⟩))
 .rcases fT hn h with ⟨rfl,h2⟩|⟨he,h2⟩;.cases h2
  rw[mu he]at hf;exact hR.pL id e s m h2 o (hF hf (lt ⟨_,h2,by simp⟩))
 rcases fT hn h with ⟨rfl,h2⟩|⟨he,h2⟩;.cases h2;obtain⟨arr,h3,h4,h5,h6⟩:=CW.dZ t e 1 n ht;exact⟨arr,by rw[mun];exact h3,by rw[kan];exact h4,by omega,by rw[kan];exact h6,λj c hj=>⟨(hc arr h3 j c hj).1,(hc arr h3 j c hj).2 _⟩,λhz=>(by cases hz),λ_ o hf=>hf.2 mun⟩
 obtain⟨arr,h3,h4,h5,h6,h7,h8,h9⟩:=hR.ops id e1 s l1 z h2;have hlt:x.μ id<x.w.heap.size:=lt ⟨_,h2,by simp⟩;refine⟨arr,by rw[mu he];exact(vL M (aL.1 h3).1).trans h3,by rw[ka he];exact h4,h5,by rw[ka he];exact h6,λj c hj=>⟨(h7 j c hj).1,(h7 j c hj).2.mono MB⟩,λhz j hj=>by rw[mu he];exact(MB.fz _ _ (h8 hz j hj)).1,λhz o hf=>?_⟩;rw[mu he]at hf;exact h9 hz o (hF hf hlt)
end
theorem M9{d:DV}(h:d.vl=true):∃v,d=.val v/\DV.bY (.val v)=true:=by cases d<;>first|exact⟨_,rfl,h⟩|cases h
theorem Qv{rows:List DV}(h:rows.all DV.vl=true):flat rows=rows:=by
 induction rows with
 |nil=>rfl
 |cons d rows ih=>simp only[cA,aA]at h;obtain⟨v,rfl,-⟩:=M9 h.1;have:=ih h.2;simp only[flat,cM,DV.cells]at this⊢;rw[this];rfl
theorem IY{z:Cx}{v u:Value}(h:RV x (.val v) u):RV z (.val v) u:=by
 cases h with
 |val h=>exact .val h
theorem Z9{aD t n:Nat}{e:TypeId}{rows:List DV}{d:DV}{u:Value}(hR:Rel y)(ht:y.S[t]? =some (.tail e 1 n))(hd:acN y.S t d=true)(h:RV y d u):RV (x.opn y aD t e rows) d.aM u:=by
 unfold acN at hd;split at hd;.exact IY h
 .rename_i rs tok f;cases h with
  |@sl _ _ _ A cap s vs hv hr h1 h2 h3 hsp h4=>
   simp only[gP]at hd;have hno:∀k,(none:Option Nat)=some k->∃e s n,(x.opn y aD t e rows).S[k]? =some (.tail e s n)/\rs.length*s<=n/\(∀r∈rs,r.cells.length=s)/\(rs.length*s=n->A=some ⟨(x.opn y aD t e rows).μ k,0,none⟩/\cap=(x.opn y aD t e rows).κ k):=λk hk=>nomatch hk;rcases hd with he|hd
   .have he:rs=[]:=by simpa using he
    subst he;exact .sl (s:=s) (vs:=vs) ⟨by simp,λj c hc=>by simp[flat]at hc⟩ (λj c hc=>by simp[flat]at hc) h1 ⟨by simp,h2.2⟩ h3 hsp (λk hk=>nomatch hk)
   split at hd
   .rename_i k;simp only[aA,bne_iff_ne,ne_eq]at hd;obtain⟨⟨YM,hne⟩,hk⟩:=hd;split at hk
    .rename_i e' s' n' hS;obtain⟨e2,s2,n2,k1,k2,k3,k4⟩:=h4 k rfl;rw[hS]at k1;cases k1;have hA:=(k4 (by have:=hk;simp only[dU]at this;exact this.symm)).1;have uh:=Qv YM;refine .sl (s:=s) (vs:=vs) ⟨hv.1,λj c hc=>?_⟩ (λj c hc=>?_) h1 ⟨by simp,h2.2⟩ h3 hsp (λk hk=>nomatch hk);.obtain⟨p1,b,o,p2,p3,p4⟩:=hv.2 j c hc;refine⟨p1,b,o,p2,⟨p3,λhb=>?_⟩,p4⟩;rw[hA]at p2;cases p2;exact hne (hR.inj k t ⟨_,hS,by simp⟩ ⟨_,ht,by simp⟩ hb)
     rw[uh]at hc;obtain⟨v,rfl,-⟩:=M9 (aT.1 YM c (b9 hc));exact IY (hr j _ (by rw[uh];exact hc))
    cases hk
   cases hd
 cases hd
theorem Xk{call:bt}{f aD:Nat}(hc:iC P aa call):iC P aa (yL call f aD):=by
 intro g args S v S' h x vals hR hS ha;subst hS;unfold yL at h;split at h
 .rename_i l e rows hn ho;cases h;unfold UB at ho;split at ho
  .rename_i hp;unfold acK at ho;split at ho
   .rename_i l0 S1 mh;split at ho
    .rename_i rs t ff hf;split at ho
     .rename_i e1 n ht;split at ho
      .rename_i hq;cases ho;simp only[aA,dU,aT,o5,gP]at hq;obtain⟨⟨hlen,YM⟩,ahM⟩:=hq;have ha':iw x.bare (args.map DV.strip) vals:=⟨by simpa using ha.1,λj c hj=>GK (x:=x) (y:=x.bare) (λb o h=>⟨h,rfl⟩) hp hj λc' h1=>ha.2 j c' h1⟩;obtain⟨h1,h2⟩:=hc _ _ _ _ _ mh x.bare vals hR.bare rfl ha';refine⟨h1,λfr cs hx=>h2 fr cs λy u ⟨q1,q2,q3,q4⟩=>?_⟩;rw[<-q1]at ht;have ahB:rows.all DV.vl=true:=aT.2 YM;have uh:=Qv ahB;cases q4 with
       |@agg _ vs hsz hvs=>
        have hfs:=hvs f _ hf;generalize hu:vs.getD f undef=uf at hfs;cases hfs with
        |@sl _ _ _ A cap s SO hv hr k1 k2 k3 ksp k4=>
         obtain⟨e2,s2,n2,t1,t2,t3,t4⟩:=k4 t rfl;rw[ht]at t1;cases t1;obtain⟨hA,J8⟩:=t4 (by omega);refine hx (x.opn y aD t e rows) _ ⟨rfl,aaf hR q3 q2 hn ht hlen.symm (λarr CL j c hj=>?_),Lr hR q3 hn ht,.agg (by simpa using hsz) λj c hj=>?_⟩
         .obtain⟨w,rfl,hw⟩:=M9 (YM c (b9 hj));refine⟨hw,λz=>?_⟩;rw[<-uh]at hj;obtain⟨-,b,o,p2,-,p4⟩:=hv.2 j _ hj;rw[hA]at p2;cases p2;have Ar:=hr j _ hj;have p4:arr[j]? =some (SO j):=by simpa [World.cell?,CL]using p4
          have:arr.getD j undef=SO j:=by rw[bq,p4];rfl
          rw[this];exact IY Ar
         rw[aF]at hj;split at hj
         .rename_i he;subst he;split at hj;.cases hj;rw[hu];exact .jx (x:=x.opn y aD t e rows) (e:=e) (s:=1) (l:=rows) (z:=false) (GI hn) (by omega) λ_=>⟨by rw[hA];show _=some (Addr.mk (if aD=aD then _ else _) _ _);rw[if_pos rfl],by rw[J8];show _=(if aD=aD then _ else _);rw[if_pos rfl]⟩
          cases hj
         rename_i he;simp only[cR,af]at hj;obtain⟨c',hj,rfl⟩:=hj;have hlt:=(az.1 hj).1;have:=(ahM j hlt).resolve_left (λh=>he h.symm);rw[aR,hj,mC]at this;rw[<-q1]at this;exact Z9 q2 ht this (hvs j c' hj)
      cases ho
     cases ho
    cases ho
   cases ho
  cases ho
 cases h
end Go.Di
namespace Go.Di
open Go Go.Conc Go.Co
open Go.ConcN (upd upd_same upd_ne)
variable {P:Program} {aa:Machine->Trace->Prop} {ty:fP} {x:Cx} {aI:bS} {call:bt} {yf:ew}
structure Pe (ops:Array Oper) (M:Nat->ai) (F:Nat->dm) (L:Nat->Bool) (S:ai):Prop where
 get:∀id,S[id]? =oc (λj=>touch F j id) (λj=>(M (j+1))[id]?) ((M 0)[id]?) L ops.size
 len:S.length=oc (top F) (λj=>(M (j+1)).length) (M 0).length L ops.size
theorem XX{ops:Array Oper}{n0:Nat}{E:Nat->List DV}{V:Nat->DV}{M:Nat->ai}{F:Nat->dm}(h:U7 P ty aI call yf ops n0 E V M F)(rO:KE ops)(ac7:∀i j,i<ops.size->j<ops.size->i≠j->(F i).meets (F j)=true->((Region.before ops).getD j 0).testBit i=true\/((Region.before ops).getD i 0).testBit j=true)
  {L:Nat->Bool} (hL:Closed ops L) {i:Nat} {o:Oper} (ho:ops[i]? =some o) (hi:L i=false) (yF:∀e∈o.after,Region.binds .any e=true->L e.on=true) {T:ai} (hT:Pe ops M F L T) (hw:cI ops (E i) o=true):
  ∃T',aJ P ty aI call yf (jy (E i)) o T (n0+i)=some (V i,T',F i)/\Pe ops M F (upd L i true) T':=by
 have hio:i<ops.size:=(aL.1 ho).1;have hs:=h.yes i o ho hw;have acU:∀j,j<ops.size->j≠i->(F i).meets (F j)=true->(L j=true↔j<i):=λj hj hne hm=>PU rO hL ho hi yF (Ne.symm hne) (ac7 i j hio hj (Ne.symm hne) hm);have up1:∀j,j<ops.size->(j≠i->(F i).meets (F j)=true)->(upd L i true j=true↔j<i+1):=by
  intro j hj hm;by_cases ic:j=i;.subst ic;simp[upd_same]
  rw[upd_ne _ _ ic,acU j hj ic (hm ic)];omega
 have kJ:∀id,(∀j,j<ops.size->j≠i->touch F j id=true->(F i).meets (F j)=true)->T[id]? =(M i)[id]? :=by
  intro id hm;rw[hT.get id,(run_store h id i (by omega)).1];refine iI (by omega) λj hj ht=>?_;by_cases ic:j=i;.subst ic;simp[hi]
  exact acU j hj ic (hm j hj ic ht)
 have ahz:(∀j,j<ops.size->j≠i->top F j=true->(F i).meets (F j)=true)->T.length=(M i).length:=by
  intro hm;rw[hT.len,(run_store h 0 i (by omega)).2];refine iI (by omega) λj hj ht=>?_;by_cases ic:j=i;.subst ic;simp[hi]
  exact acU j hj ic (hm j hj ic ht)
 have tch:∀j id,touch F j id=true->(F j).wr=true/\((F j).ids=none\/∃l,(F j).ids=some l/\id∈l):=by
  intro j id ht;unfold touch at ht;simp only[aA]at ht;refine⟨ht.1,?_⟩;cases rP:(F j).ids with
  |none=>exact .inl rfl
  |some l=>rw[rP]at ht;exact .inr ⟨l,rfl,by simpa using ht.2⟩
 have tp:∀j,top F j=true->(F j).wr=true/\(F j).ids=none:=by intro j ht;unfold top at ht;simpa using ht
 cases rP:(F i).ids with
 |none=>
  have hwr:=VU hs rP;have fN:∀j id,touch F j id=true->(F i).meets (F j)=true:=by
   intro j id ht;obtain⟨h1,h2⟩:=tch j id ht;unfold dm.meets;rw[hwr,rP];rcases h2 with h2|⟨l,h2,h3⟩;.simp[h2]
   simp[h2];exact List.ne_nil_of_mem h3
  have hTM:T=M i:=mD λid=>kJ id λj _ _ ht=>fN j id ht;subst hTM;refine⟨M (i+1),hs,⟨λid=>?_,?_⟩⟩
  .have ht:touch F i id=true:=by simp[touch,hwr,rP]
   rw[iI (i:=i+1) (by omega) λj hj htj=>up1 j hj λ_=>fN j id htj,yg (W:=λj=>touch F j id) ht]
  have ht:top F i=true:=by simp[top,hwr,rP]
  rw[iI (i:=i+1) (by omega) λj hj htj=>up1 j hj λ_=>by obtain⟨h1,h2⟩:=tp j htj;simp[dm.meets,hwr,rP,h2],yg (W:=top F) ht]
 |some l=>
  obtain⟨A,w⟩:=VV hs rP;have tX:∀j id,id∈l->touch F j id=true->(F i).meets (F j)=true:=by
   intro j id hid ht;obtain⟨h1,h2⟩:=tch j id ht;unfold dm.meets;rw[h1,rP];rcases h2 with h2|⟨l',h2,h3⟩;.simp[h2];exact List.ne_nil_of_mem hid
   simp[h2];exact⟨id,hid,h3⟩
  have hlen:l≠[]->T.length=(M i).length:=λhne=>ahz λj hj ic ht=>by obtain⟨h1,h2⟩:=tp j ht;simp[dm.meets,h1,rP,h2,hne]
  have hrun:=w.loc T hlen λid hid=>kJ id λj _ _ ht=>tX j id hid ht;refine⟨A T,hrun,⟨λid=>?_,?_⟩⟩
  .cases ht:touch F i id with
   |true=>
    obtain⟨h1,h2⟩:=tch i id ht;have hid:id∈l:=by
     rcases h2 with h2|⟨l',h2,h3⟩;.rw[rP]at h2;cases h2
     rw[rP]at h2;cases h2;exact h3
    rw[iI (i:=i+1) (by omega) λj hj htj=>up1 j hj λ_=>tX j id hid htj,yg (W:=λj=>touch F j id) ht,w.res];exact w.inn T id hid (hlen (List.ne_nil_of_mem hid)) (kJ id λj _ _ htj=>tX j id hid htj)
   |false=>rw[oe (W:=λj=>touch F j id) ht,<-hT.get id];exact w.out T id hlen λ⟨q2,q1⟩=>by simp[touch,q2,rP,q1]at ht
  have ht:top F i=false:=by simp[top,rP]
  rw[oe (W:=top F) ht,w.len];exact hT.len
def Cx.pad (x:Cx)(n:Nat):Cx:={x with S:=x.S++List.replicate n .none}
theorem oQ{S:ai}{n id:Nat}{b:DB}(h:(S++List.replicate n DB.none)[id]? =some b)(hb:b≠.none):S[id]? =some b:=by
 rw[qT]at h;split at h;.exact h
 rw[qW]at h;split at h;.cases h;exact absurd rfl hb
 cases h
theorem zJ{S:ai}{n id:Nat}{b:DB}(h:S[id]? =some b):(S++List.replicate n DB.none)[id]? =some b:=by rw[er (az.1 h).1];exact h
theorem zL(x:Cx)(n:Nat):bU x (x.pad n):=
 ⟨aj _,⟨rfl,rfl⟩,λ_ _ h=>⟨h,rfl⟩,λ_ _ h=>.inl h,λ_ _ _=>rfl,by simp[Cx.pad],λ_ l h=>⟨rfl,l,zJ h⟩,λ_ b h hb=>⟨rfl,⟨b,zJ h,eX hb⟩,λ_=>rfl⟩,λ_ _ _ n h=>⟨n,zJ h,aj _,λ_=>⟨rfl,rfl⟩⟩,λ_ ⟨b,h,hb⟩=>.inl ⟨⟨b,oQ h hb,hb⟩,rfl⟩,λ_ _ _ l z h=>⟨l,z,zJ h,aj _,λe=>⟨rfl,e⟩,λ_=>⟨rfl,rfl⟩⟩⟩
theorem aae(hR:Rel x)(n:Nat):Rel (x.pad n) where
 cells:=λid l hl=>by obtain⟨arr,e,h1,h2,h3⟩:=hR.cells id l (oQ hl (by simp));exact⟨arr,e,h1,h2,λj c hc=>(h3 j c hc).mono (zL x n)⟩
 dZ:=λid e s m hl=>hR.dZ id e s m (oQ hl (by simp))
 eF:=λid b hl hb=>by obtain⟨o,h1,h2⟩:=hR.eF id b (oQ hl (fE hb)) hb;exact⟨o,h1,h2.mono (zL x n)⟩
 inj:=λi j ⟨b,h,hb⟩⟨c,k,kb⟩ he=>hR.inj i j ⟨b,oQ h hb,hb⟩ ⟨c,oQ k kb,kb⟩ he
 As:=hR.As
 sep:=λid ⟨l,hl⟩=>hR.sep id ⟨l,oQ hl (by simp)⟩
 pL:=λid e s m hl=>hR.pL id e s m (oQ hl (by simp))
 ops:=λid e s l z hl=>by obtain⟨arr,h1,h2,h3,h4,h5,h6⟩:=hR.ops id e s l z (oQ hl (by simp));exact⟨arr,h1,h2,h3,h4,λj c hc=>⟨(h5 j c hc).1,(h5 j c hc).2.mono (zL x n)⟩,h6⟩
theorem NZ(hP:Plain P)(fG:kG P ty)(hc:iC P aa call)(hi:B2 P aa aI)(lX:BZ P aa yf){ops:Array Oper}{b:Frame}{k:List Item}{cs:List Frame}(hk:b.kind≠.early)(HR:mm ops (Region.before ops)=true)
  {env aK:List DV} {S':ai} {fs:List dm} {n0:Nat} {a:Act} (h:tL P ty aI call yf ops n0 ops.toList 0 env x.S=some (aK,S',fs)) (hmt:uA (Region.before ops) fs=true) (hR:Rel x) (he:iw x env a.tmps)
  (hn:∀y a',y.S=S'->Rel y->bU x y->iw y aK a'.tmps->a'.defers=a.defers->jk P aa () (G (b.atR a' k) cs) y.w) (t:Nat):jk P aa () (G (b.atR a (.inRegion ops (Region.linearise .any ops t)::k)) cs) x.w:=by
 have rO:=Lg HR;obtain⟨E,V,M,F,hrun,e1,e2,e3,e4,e5⟩:=ael h;have ac7:∀i j,i<ops.size->j<ops.size->i≠j->(F i).meets (F j)=true->((Region.before ops).getD j 0).testBit i=true\/((Region.before ops).getD i 0).testBit j=true:=λi j hi hj hne hm=>aeC hmt (e5 i hi) (e5 j hj) hne hm;have dA:∀{α:Type}(W:Nat->Bool)(R:Nat->α)(d:α) n,oc W R d (λ_=>false) n=d:=by
  intro α W R d n;induction n with
  |zero=>rfl
  |succ n ih=>unfold oc;simp[ih]
 refine xx rO (σ:=Act×Cx) (λtodo s=>Rel s.2->bU x s.2->s.1.defers=a.defers->jk P aa () (G (b.atR s.1 (.inRegion ops todo::k)) cs) s.2.w)
  (λL s=>Pe ops M F L s.2.S/\∃qz,iw s.2 qz s.1.tmps/\Gx ops V L ops.size (E 0) qz) ?_ ?_ t (a,x) ⟨⟨λid=>by rw[dA,e3],by rw[dA,e3]⟩,env,he,λt=>?_⟩ hR (bU.refl x) rfl
 .rintro L ⟨a1,y⟩ i o ⟨Mx,qz,wM,YW⟩ tY ho S8 yF rest DF CW TE MH;simp only at wM CW TE MH Mx⊢;obtain⟨q1,q2⟩:=Ce rO HR hrun.env tY YW ho S8 yF;have hw:=zY q1;have Yh:=A1 wM ops o;have hE2:=HD (V:=V) ho YW q2;by_cases hwt:cI ops (E i) o=true
  .obtain⟨T',hT1,hT2⟩:=XX hrun rO ac7 tY ho S8 yF Mx hwt;rw[<-Jw (HA q1)]at hT1;obtain⟨qx,cl,tY,Ra,hstep⟩:=aa4 hT1;have hcc:iC P aa cl:=by
    rcases tY with rfl|rfl;.exact X9 hc
    exact Xk hc
   refine UF hP fG hcc hi lX hk ho (by rw[Yh,hw];exact hwt) CW Ra wM hstep λz u zS zR zM zV=>?_;have pM:=AM (wM.mono zM) (dst:=o.dst) zV;exact DF (a1.put o.dst u,z) ⟨by rw[zS];exact hT2,_,pM.1,hE2⟩ zR (TE.trans zM) (pM.2.trans MH)
  have hwf:cI ops (E i) o=false:=by simpa using hwt
  obtain⟨hv,hM,hF⟩:=hrun.no i o ho hwf;have pM:=AM wM (dst:=o.dst) (d:=V i) (v:=undef) (by rw[hv];exact .val rfl);have aic:Pe ops M F (upd L i true) y.S:=by
   refine⟨λid=>?_,?_⟩;.rw[oe (W:=λj=>touch F j id) (by simp[touch,hF])];exact Mx.get id
   rw[oe (W:=top F) (by simp[top,hF])];exact Mx.len
  exact gl hP (λw=>⟨_,vg ho (by rw[Yh,hw];exact hwf)⟩) (DF (a1.put o.dst undef,y) ⟨aic,_,pM.1,hE2⟩ CW TE (pM.2.trans MH))
 .rintro L ⟨a1,y⟩ ⟨Mx,qz,wM,YW⟩ fN CW TE MH;have ahY:qz=aK:=by refine mD λt=>?_;rw[YW t,<-e2,C1 hrun.env ops.size (aj _) t];congr 1;funext d;rw[lT (i:=ops.size) (aj _) λj hj _=>by simp[fN j hj,hj]]
  have ahE:y.S=S':=by refine mD λid=>?_;have:=Mx.get id;simp only at this;rw[this,<-e4,(run_store hrun id ops.size (aj _)).1];exact iI (aj _) λj hj _=>by simp[fN j hj,hj]
  subst ahY;exact gl hP (λw=>⟨_,rI⟩) (hn y a1 ahE CW TE wM MH)
 rw[e1];have:∀n,nZ ops V (λ_=>false) t n=none:=by
  intro n;induction n with
  |zero=>rfl
  |succ n ih=>unfold nZ;simp[ih]
 rw[this];simp
theorem Vn(hP:Plain P)(hm:P.follows .mixedOrders=true)(fG:kG P ty)(hc:iC P aa call)(hi:B2 P aa aI)(lX:BZ P aa yf)(id:Nat)(ops:Array Oper)(draw:Bool):yT P aa ty aI call yf id ops draw:=by
 cases draw with
 |false=>exact RP hP fG hc hi lX id ops
 |true=>
  intro env aK S' x a b k cs h hk hR he hn;simp only[qJ,if_true]at h;split at h;.cases h
  rename_i hd;have HR:mm ops (Region.before ops)=true:=by simpa using hd
  refine jq hP λn=>?_;refine⟨_,_,_,_,N1 hm,?_⟩;split at h
  .rename_i qz h1;cases h;split at h1;.cases h1
   exact N0 (x:=x.dr _) hP fG hc hi lX hk HR h1 (hR.dr _) (he.mono (fJ x _)) (λy a' q1 q2 q3 q4 q5=>hn y a' q1 q2 ((fJ x _).trans q3) q4 q5) _
  split at h
  .rename_i qz S1 fs h1;split at h;.rename_i hmt;cases h;have M1:=(fJ x ((x.w.at n).drawn+1)).trans (zL _ ops.size);exact NZ (x:=(x.dr ((x.w.at n).drawn+1)).pad ops.size) hP fG hc hi lX hk HR h1 hmt (aae (hR.dr _) _) (he.mono M1) (λy a' q1 q2 q3 q4 q5=>hn y a' q1 q2 (M1.trans q3) q4 q5) _
   cases h
  cases h
def uJ(P:Program)(aa:Machine->Trace->Prop)(bM:bS):Prop:=
 ∀f args v,bM f args=some v->args.all DV.pure=true->v.pure=true->∀x vals,Rel x->iw x args vals->fL P aa x f vals λy u=>y.S=x.S/\Rel y/\bU x y/\RV y v u
theorem Ny{bM:bS}(ht:uJ P aa bM)(hc:iC P aa call):B2 P aa (mc bM call):=by
 intro f args v h hp;unfold mc at h;split at h
 .rename_i v' h1;split at h;.rename_i hv;cases h;exact⟨hv,ht f args v h1 hp hv⟩
  cases h
 split at h
 .rename_i v' S' h1;split at h
  .rename_i hv;cases h;refine⟨hv,λx vals hR ha=>?_⟩;have ha':iw x.bare args vals:=⟨ha.1,λj c hj=>(ha.2 j c hj).pure_mono (x:=x) (y:=x.bare) (λb o h=>⟨h,rfl⟩) (aT.1 hp c (b9 hj))⟩;obtain⟨h2,h3⟩:=hc f args [] v' S' h1 x.bare vals hR.bare rfl ha';refine⟨h2,λfr cs hn=>h3 fr cs λy0 u ⟨p1,p2,p3,p4⟩=>?_⟩;obtain⟨y,r1,r2,q2,r4⟩:=aaV p2 v';have q3:=p3.trans r4;have q4:RV y (uB (Ig S' v') v') u:=by rw[<-p1,<-r2];exact XE q2 (p4.mono r4)
   have hb:=hR.behind q3 q2;rw[<-r1];exact hn (x.behind y) u ⟨rfl,hb,Cf hR q3,q4.strip.pure_mono (x:=y) (y:=x.behind y) (λb o h=>⟨h,rfl⟩) hv⟩
  cases h
 cases h
theorem EG(hP:Plain P)(hm:P.follows .mixedOrders=true)(fG:kG P ty){bM:bS}(ht:uJ P aa bM){L:Nat}:∀n,iC P aa (ej P ty bM L n).1/\BZ P aa (ej P ty bM L n).2
 |0=>⟨λf args S v S' h=>by simp[ej]at h,λid args S v S' h=>by simp[ej]at h⟩
 |n+1=>by
  obtain⟨ihc,ihy⟩:=EG hP hm fG ht (L:=L) n;have hi:=Ny ht ihc;have mR:∀id ops draw,yT P aa ty (mc bM (ej P ty bM L n).1) (ej P ty bM L n).1 (ej P ty bM L n).2 id ops draw:=λid ops draw=>Vn hP hm fG ihc hi ihy id ops draw;refine⟨λf args S v S' h x vals hR hS ha=>?_,RH hP ihc mR⟩;simp only[ej]at h;split at h;.rename_i fn hf;exact Yb hP fG ihc mR hf h hR hS ha
  cases h
end Go.Di
