import Derived.Test.YtedcgbkilmlbhaaGreatPk26
import Derived.Test.YtedcgbkilmlbhaaGreatPk24
section
namespace Go.Di
open Go Go.Conc Go.Co
variable {P:Program} {af:Machine→Trace→Prop} {x y:Cx} {i:Nat} {l l0 l':List DV} {T:ak}
def Cx.only (x:Cx) (i:Nat) (l:List DV):Cx:={ x with μ:=fun _=>x.μ i,κ:=fun _=>0,S:=[.cells l] }
theorem zf {x y:Cx} (hF:∀ b o,x.Fz b o→y.Fz b o∧y.w.cell? ⟨b,o,none⟩=x.w.cell? ⟨b,o,none⟩) {l:List DV} {arr:Array Value} (hl:(l.map DV.aI).all DV.bt=true) (h:dR x l arr):dR y (l.map DV.aI) arr:=by
 refine⟨by simpa using h.1,fun j c hj => ?_⟩
 have hm:=List.all_eq_true.1 hl c (List.mem_of_getElem? hj)
 simp only[List.getElem?_map,Option.map_eq_some_iff] at hj
 obtain⟨c',h2,rfl⟩:=hj
 exact(h.2 j c' h2).aI.sr hF hm
theorem JR {x y:Cx} (hF:∀ b o,x.Fz b o→y.Fz b o∧y.w.cell? ⟨b,o,none⟩=x.w.cell? ⟨b,o,none⟩) {l:List DV} (hl:(l.map DV.strip).all DV.pure=true) {j:Nat} {c:DV} {v:Value} (hj:(l.map DV.strip)[j]? = some c) (h:∀ c',l[j]? = some c'→RV x c' v):RV y c v:=by
 have hm:=List.all_eq_true.1 hl c (List.mem_of_getElem? hj)
 simp only[List.getElem?_map,Option.map_eq_some_iff] at hj
 obtain⟨c',h2,rfl⟩:=hj
 exact(h c' h2).strip.pure_mono hF hm
theorem lu {l:List DV} {k:Nat} {b:DB} (h:([.cells l]:ak)[k]? = some b):k=0∧b = .cells l:=by
 cases k with
 | zero=>simp at h; exact⟨rfl,h.symm⟩
 | succ k=>simp at h
theorem Ob (hR:Rel x) (hi:x.S[i]? = some (.cells l)) (hl:(l.map DV.aI).all DV.bt=true):Rel (x.only i (l.map DV.aI)):=by
 refine⟨fun id l2 h => ?_,fun id e s n h => ?_,fun id b h hb => ?_,fun j k hj hk _ => ?_,hR.uI,fun id h o hF => ?_,fun id e s n h => ?_,fun id e s l z h => ?_⟩
 ·obtain⟨rfl,h2⟩:=lu h
  cases h2
  obtain⟨arr,e,h1,h2,h3⟩:=hR.cells i l hi
  refine⟨arr,e,h1,?_⟩
  exact zf (x:=x) (y:=x.only i (l.map DV.aI)) (fun b o h=>⟨h,rfl⟩) hl ⟨h2,h3⟩
 ·exact nomatch (lu h).2
 ·obtain⟨-,rfl⟩:=lu h
  cases hb
 ·obtain⟨b,hb,-⟩:=hj
  obtain⟨c,hc,-⟩:=hk
  rw[(lu hb).1,(lu hc).1]
 ·exact hR.sep i ⟨l,hi⟩ o hF
 ·exact nomatch (lu h).2
 ·exact nomatch (lu h).2
def Cx.back (x y:Cx) (i:Nat) (l':List DV):Cx:={ w:=y.w,μ:=x.μ,κ:=x.κ,Fz:=y.Fz,S:=x.S.set i (.cells l') }
theorem jJ {S:ak} {i k:Nat} {b c d:DB} (hi:S[i]? = some d) (h:(S.set i c)[k]? = some b):(k=i∧b=c)∨(k≠i∧S[k]? = some b):=by
 rw[List.getElem?_set] at h
 split at h
 ·rename_i he
  subst he
  rw[if_pos (List.getElem?_eq_some_iff.1 hi).1] at h
  cases h
  exact .inl ⟨rfl,rfl⟩
 ·rename_i he
  exact .inr ⟨fun e=>he e.symm,h⟩
theorem qg {S:ak} {i k:Nat} {c:DB} (h:k≠i):(S.set i c)[k]? = S[k]? := by
 rw[List.getElem?_set,if_neg fun e=>h e.symm]
theorem JP {S:ak} {i:Nat} {c d:DB} (hi:S[i]? = some d):(S.set i c)[i]? = some c:=by
 rw[List.getElem?_set,if_pos rfl,if_pos (List.getElem?_eq_some_iff.1 hi).1]
theorem o5 (hR:Rel x) (hi:x.S[i]? = some (.cells l)) (M:bk (x.only i l0) y) {id:Nat} {b:DB} {o:Obj} (hb:x.S[id]? = some b) (hne:b ≠ .none) (hid:id≠i) (ho:x.w.heap[x.μ id]? = some o):y.w.heap[x.μ id]? = x.w.heap[x.μ id]? := by
 refine M.old _ (Array.getElem?_eq_some_iff.1 ho).1 fun k _ he => ?_
 exact hid (hR.inj i id ⟨_,hi,by simp⟩ ⟨b,hb,hne⟩ he).symm
theorem Bn (hR:Rel x) (hi:x.S[i]? = some (.cells l)) (M:bk (x.only i l0) y):bk x (x.back y i l') where
 size:=M.size
 env:=M.env
 fz:=M.fz
 Hx:=fun b o h=>(M.Hx b o h).imp id fun h=>h.imp id fun⟨k,_,he⟩=>⟨i,⟨_,hi,by simp⟩,he⟩
 old:=fun b hb hn=>M.old b hb fun k _ he=>hn i ⟨_,hi,by simp⟩ he
 len:=by simp[Cx.back]
 cells:=fun id l2 h=>⟨rfl,by
  by_cases he:id=i
  ·subst he; exact⟨l',JP hi⟩
  ·exact⟨l2,(qg he).trans h⟩⟩
 c9:=fun id b h hb=>by
  have he:id≠i:=by rintro rfl; rw[hi] at h; cases h; cases hb
  obtain⟨o,ho,-⟩:=hR.c9 id b h hb
  exact⟨rfl,⟨b,(qg he).trans h,dw hb⟩,fun _=>o5 hR hi M h (ep hb) he ho⟩
 cN:=fun t e s n h=>by
  have he:t≠i:=by rintro rfl; rw[hi] at h; cases h
  exact⟨n,(qg he).trans h,Nat.le_refl _,fun _=>⟨rfl,rfl⟩⟩
 live:=fun k ⟨b,hb,hne⟩ => .inl ⟨by
  rcases jJ hi hb with ⟨rfl,-⟩ | ⟨-,h⟩
  ·exact⟨_,hi,by simp⟩
  ·exact⟨b,h,hne⟩,rfl⟩
 ops:=fun t e s l z h=>by
  have he:t≠i:=by rintro rfl; rw[hi] at h; cases h
  exact⟨l,z,(qg he).trans h,Nat.le_refl _,fun e=>⟨rfl,e⟩,fun _=>⟨rfl,rfl⟩⟩
theorem Oe (hR:Rel x) (hi:x.S[i]? = some (.cells l)) (FV:Rel y) (M:bk (x.only i l0) y) (hy:y.S[0]? = some (.cells l')) (gF:(l'.map DV.aI).all DV.bt=true):Rel (x.back y i (l'.map DV.aI)):=by
 have MB:=Bn (l':=l'.map DV.aI) hR hi M
 have hμ:y.μ 0=x.μ i:=(M.cells 0 l0 rfl).1
 have hF:∀ b o,y.Fz b o→x.Fz b o∨x.w.heap.size≤b∨b=x.μ i:=fun b o h=>(M.Hx b o h).imp id fun h=>h.imp id fun⟨_,_,he⟩=>he.symm
 refine⟨fun id l2 h => ?_,fun id e s n h => ?_,fun id b h hb => ?_,fun j k hj hk he => ?_,FV.uI,fun id h o hf => ?_,fun id e s n h o hf => ?_,fun id e s l1 z h => ?_⟩
 ·rcases jJ hi h with ⟨rfl,h2⟩ | ⟨he,h2⟩
  ·cases h2
   obtain⟨arr,e,h1,h2,h3⟩:=FV.cells 0 l' hy
   exact⟨arr,e,by rw[hμ] at h1; exact h1,zf (x:=y) (y:=x.back y id (l'.map DV.aI)) (fun b o h=>⟨h,rfl⟩) gF ⟨h2,h3⟩⟩
  ·obtain⟨arr,e,h1,h3,h4⟩:=hR.cells id l2 h2
   exact⟨arr,e,(o5 hR hi M h2 (by simp) he h1).trans h1,h3,fun j c hc=>(h4 j c hc).mono MB⟩
 ·rcases jJ hi h with ⟨rfl,h2⟩ | ⟨he,h2⟩
  ·cases h2
  ·obtain⟨arr,h1,h3⟩:=hR.cN id e s n h2
   exact⟨arr,(o5 hR hi M h2 (by simp) he h1).trans h1,h3⟩
 ·rcases jJ hi h with ⟨rfl,h2⟩ | ⟨he,h2⟩
  ·subst h2; cases hb
  ·obtain⟨o,h1,h3⟩:=hR.c9 id b h2 hb
   exact⟨o,(o5 hR hi M h2 (ep hb) he h1).trans h1,h3.mono MB⟩
 ·have lv:∀ {k},Live (x.back y i (l'.map DV.aI)).S k→Live x.S k:=fun {k} ⟨b,hb,hne⟩=>by
   rcases jJ hi hb with ⟨rfl,-⟩ | ⟨-,h⟩
   ·exact⟨_,hi,by simp⟩
   ·exact⟨b,h,hne⟩
  exact hR.inj j k (lv hj) (lv hk) he
 ·obtain⟨l2,h⟩:=h
  obtain⟨l3,h3⟩:∃ l3,x.S[id]? = some (.cells l3):=by
   rcases jJ hi h with ⟨rfl,-⟩ | ⟨-,h2⟩
   ·exact⟨l,hi⟩
   ·exact⟨l2,h2⟩
  obtain⟨arr,e,h4,-⟩:=hR.cells id l3 h3
  rcases hF _ _ hf with h5 | h5 | h5
  ·exact hR.sep id ⟨l3,h3⟩ o h5
  ·have:=(Array.getElem?_eq_some_iff.1 h4).1
   change x.w.heap.size≤x.μ id at h5
   omega
  ·refine FV.sep 0 ⟨l',hy⟩ o ?_
   rw[hμ,← h5]
   exact hf
 ·rcases jJ hi h with ⟨rfl,h2⟩ | ⟨he,h2⟩
  ·cases h2
  ·obtain⟨arr,h4,-⟩:=hR.cN id e s n h2
   rcases hF _ _ hf with h5 | h5 | h5
   ·exact hR.lF id e s n h2 o h5
   ·have:=(Array.getElem?_eq_some_iff.1 h4).1
    change x.w.heap.size≤x.μ id at h5
    omega
   ·exact absurd (hR.inj id i ⟨_,h2,by simp⟩ ⟨_,hi,by simp⟩ h5) he
 ·rcases jJ hi h with ⟨rfl,h2⟩ | ⟨he,h2⟩
  ·cases h2
  ·obtain⟨arr,h4,h3,h6,h7,h8,h9,qZ⟩:=hR.ops id e s l1 z h2
   refine⟨arr,(o5 hR hi M h2 (by simp) he h4).trans h4,h3,h6,h7,fun j c hc=>⟨(h8 j c hc).1,(h8 j c hc).2.mono MB⟩,fun hz j hj=>(M.fz _ _ (h9 hz j hj)).1,fun hz o hf => ?_⟩
   rcases hF _ _ hf with h5 | h5 | h5
   ·exact qZ hz o h5
   ·have:=(Array.getElem?_eq_some_iff.1 h4).1
    change x.w.heap.size≤x.μ id at h5
    omega
   ·exact absurd (hR.inj id i ⟨_,h2,by simp⟩ ⟨_,hi,by simp⟩ h5) he
theorem Hi {f:FuncId} {off:Nat} {rest:List DV} {vals:Array Value} {v:DV} (hR:Rel x) (hi:x.S[i]? = some (.cells l)) (hp:(rest.map DV.strip).all DV.pure=true) (ha:dR x (.ptr i off::rest) vals)
  (h:dR (x.only i l0) (.ptr 0 off::rest.map DV.strip) vals→cT P af (x.only i l0) f vals fun y u=>y.S = .cells l'::T∧Rel y∧bk (x.only i l0) y∧RV y v u) (gF:(l'.map DV.aI).all DV.bt=true) (hv:v.strip.pure=true) :
  cT P af x f vals fun z u=>z.S=x.S.set i (.cells (l'.map DV.aI))∧Rel z∧bk x z∧RV z v.strip u:=by
 have ha':dR (x.only i l0) (.ptr 0 off::rest.map DV.strip) vals:=by
  refine⟨by simpa using ha.1,fun j c hc => ?_⟩
  cases j with
  | zero =>
   simp only[List.getElem?_cons_zero,Option.some.injEq] at hc
   subst hc
   have:=ha.2 0 _ rfl
   generalize vals.getD 0 undef=u at this
   cases this with
   | ptr _=>exact RV.ptr (x:=x.only i l0) (id:=0) (l:=l0) rfl
  | succ j =>
   exact JR (x:=x) (y:=x.only i l0) (fun b o h=>⟨h,rfl⟩) hp (by simpa using hc) fun c' h1=>ha.2 (j+1) c' (by simpa using h1)
 obtain⟨h1,h2⟩:=h ha'
 refine⟨h1,fun fr cs hn=>h2 fr cs fun y u ⟨q1,q2,q3,q4⟩ => ?_⟩
 have hy:y.S[0]? = some (.cells l'):=by rw[q1]; rfl
 exact hn (x.back y i (l'.map DV.aI)) u ⟨rfl,Oe hR hi q2 q3 hy gF,Bn hR hi q3,q4.strip.pure_mono (x:=y) (y:=x.back y i (l'.map DV.aI)) (fun b o h=>⟨h,rfl⟩) hv⟩
theorem Pd {call:aW} (hc:gq P af call):gq P af (Ic call):=by
 intro f args S v S' h x vals hR hS ha
 subst hS
 unfold Ic at h
 split at h
 ·rename_i i v1 l1 ho
  cases h
  unfold vP at ho
  split at ho
  ·rename_i i off rest
   split at ho
   ·rename_i l hi
    split at ho
    ·rename_i Lz
     simp only[Bool.and_eq_true] at Lz
     split at ho
     ·rename_i v2 l' T gh
      split at ho
      ·rename_i hq
       simp only[Bool.and_eq_true] at hq
       cases ho
       exact Hi (l0:=l.map DV.aI) hR hi Lz.1 ha (fun xd=>hc _ _ _ _ _ gh (x.only _ _) vals (Ob hR hi Lz.2) rfl xd) hq.2 hq.1
      ·cases ho
     ·cases ho
    ·cases ho
   ·cases ho
  ·cases ho
 ·exact hc _ _ _ _ _ h x vals hR rfl ha
end Go.Di
end
section
namespace Go.Di
open Go Go.Conc Go.Co
open Go.ConcN (upd upd_same upd_ne)
variable {P:Program} {af:Machine→Trace→Prop} {ty:eV} {x:Cx} {aD:bn} {call:aW} {yf:dH}
structure Ih (ops:Array Oper) (M:Nat→ak) (F:Nat→cu) (L:Nat→Bool) (S:ak):Prop where
 get:∀ id,S[id]? = jI (fun j=>touch F j id) (fun j=>(M (j+1))[id]?) ((M 0)[id]?) L ops.size
 len:S.length=jI (top F) (fun j=>(M (j+1)).length) (M 0).length L ops.size
theorem O1 {ops:Array Oper} {n0:Nat} {E:Nat→List DV} {V:Nat→DV} {M:Nat→ak} {F:Nat→cu} (h:ML P ty aD call yf ops n0 E V M F) (mA:Ec ops) (VF:∀ i j,i<ops.size→j<ops.size→i≠j→(F i).meets (F j)=true→((Region.before ops).getD j 0).testBit i=true∨((Region.before ops).getD i 0).testBit j=true)
  {L:Nat→Bool} (hL:Closed ops L) {i:Nat} {o:Oper} (ho:ops[i]? = some o) (hi:L i=false) (sZ:∀ e∈o.after,Region.binds .any e=true→L e.on=true) {T:ak} (hT:Ih ops M F L T) (hw:bD ops (E i) o=true) :
  ∃ T',aC P ty aD call yf (ga (E i)) o T (n0+i)=some (V i,T',F i)∧Ih ops M F (upd L i true) T':=by
 have XY:i<ops.size:=(Array.getElem?_eq_some_iff.1 ho).1
 have hs:=h.yes i o ho hw
 have Vr:∀ j,j<ops.size→j≠i→(F i).meets (F j)=true→(L j=true↔j<i):=fun j hj hne hm=>II mA hL ho hi sZ (Ne.symm hne) (VF i j XY hj (Ne.symm hne) hm)
 have up1:∀ j,j<ops.size→(j≠i→(F i).meets (F j)=true)→(upd L i true j=true↔j<i+1):=by
  intro j hj hm
  by_cases eB:j=i
  ·subst eB; simp[upd_same]
  ·rw[upd_ne _ _ eB,Vr j hj eB (hm eB)]; omega
 have eU:∀ id,(∀ j,j<ops.size→j≠i→touch F j id=true→(F i).meets (F j)=true)→T[id]? = (M i)[id]? := by
  intro id hm
  rw[hT.get id,(run_store h id i (by omega)).1]
  refine eX (by omega) fun j hj ht => ?_
  by_cases eB:j=i
  ·subst eB; simp[hi]
  ·exact Vr j hj eB (hm j hj eB ht)
 have abm:(∀ j,j<ops.size→j≠i→top F j=true→(F i).meets (F j)=true)→T.length=(M i).length:=by
  intro hm
  rw[hT.len,(run_store h 0 i (by omega)).2]
  refine eX (by omega) fun j hj ht => ?_
  by_cases eB:j=i
  ·subst eB; simp[hi]
  ·exact Vr j hj eB (hm j hj eB ht)
 have tch:∀ j id,touch F j id=true→(F j).wr=true∧((F j).ids=none∨∃ l,(F j).ids=some l∧id∈l):=by
  intro j id ht
  unfold touch at ht
  simp only[Bool.and_eq_true] at ht
  refine⟨ht.1,?_⟩
  cases mB:(F j).ids with
  | none=>exact .inl rfl
  | some l=>rw[mB] at ht; exact .inr ⟨l,rfl,by simpa using ht.2⟩
 have tp:∀ j,top F j=true→(F j).wr=true∧(F j).ids=none:=by
  intro j ht
  unfold top at ht
  simpa using ht
 cases mB:(F i).ids with
 | none =>
  have XN:=Nt hs mB
  have dx:∀ j id,touch F j id=true→(F i).meets (F j)=true:=by
   intro j id ht
   obtain⟨h1,h2⟩:=tch j id ht
   unfold cu.meets
   rw[XN,mB]
   rcases h2 with h2 | ⟨l,h2,h3⟩
   ·simp[h2]
   ·simp[h2]
    exact List.ne_nil_of_mem h3
  have hTM:T=M i:=List.ext_getElem? fun id=>eU id fun j _ _ ht=>dx j id ht
  subst hTM
  refine⟨M (i+1),hs,⟨fun id => ?_,?_⟩⟩
  ·have ht:touch F i id=true:=by simp[touch,XN,mB]
   rw[eX (i:=i+1) (by omega) fun j hj UH=>up1 j hj fun _=>dx j id UH,sD (W:=fun j=>touch F j id) ht]
  ·have ht:top F i=true:=by simp[top,XN,mB]
   rw[eX (i:=i+1) (by omega) fun j hj UH=>up1 j hj fun _=>by
    obtain⟨h1,h2⟩:=tp j UH
    simp[cu.meets,XN,mB,h2],sD (W:=top F) ht]
 | some l =>
  obtain⟨w,w1,w2,w3⟩:=Nu hs mB
  have Py:∀ j id,id∈l→touch F j id=true→(F i).meets (F j)=true:=by
   intro j id hid ht
   obtain⟨h1,h2⟩:=tch j id ht
   unfold cu.meets
   rw[h1,mB]
   rcases h2 with h2 | ⟨l',h2,h3⟩
   ·simp[h2]
    exact List.ne_nil_of_mem hid
   ·simp[h2]
    exact⟨id,hid,h3⟩
  have hlen:l≠[]→T.length=(M i).length:=fun hne=>abm fun j hj eB ht=>by
   obtain⟨h1,h2⟩:=tp j ht
   simp[cu.meets,h1,mB,h2,hne]
  have hrun:=w3 T hlen fun id hid=>eU id fun j _ _ ht=>Py j id hid ht
  have ZH:∀ k b,w=some (k,b)→k<T.length:=fun k b hw=>by
   obtain⟨q1,q2,q3⟩:=w2 k b hw
   rw[hlen (List.ne_nil_of_mem q1)]
   exact q3
  refine⟨appW w T,hrun,⟨fun id => ?_,?_⟩⟩
  ·cases ht:touch F i id with
   | true =>
    obtain⟨h1,h2⟩:=tch i id ht
    have hid:id∈l:=by
     rcases h2 with h2 | ⟨l',h2,h3⟩
     ·rw[mB] at h2; cases h2
     ·rw[mB] at h2; cases h2; exact h3
    rw[eX (i:=i+1) (by omega) fun j hj UH=>up1 j hj fun _=>Py j id hid UH,sD (W:=fun j=>touch F j id) ht,w1]
    rw[xE ZH,xE fun k b hw=>(w2 k b hw).2.2]
    have:=eU id fun j _ _ UH=>Py j id hid UH
    cases w with
    | none=>exact this
    | some p=>simp only[this]
   | false =>
    rw[jL (W:=fun j=>touch F j id) ht,← hT.get id,xE ZH]
    cases w with
    | none=>rfl
    | some p =>
     obtain⟨k,b⟩:=p
     obtain⟨q1,q2,q3⟩:=w2 k b rfl
     have hne:id≠k:=by
      rintro rfl
      simp[touch,q2,mB,q1] at ht
     simp[hne]
  ·have ht:top F i=false:=by simp[top,mB]
   rw[jL (W:=top F) ht,I8]
   exact hT.len
def Cx.pad (x:Cx) (n:Nat):Cx:={ x with S:=x.S++List.replicate n .none }
theorem kz {S:ak} {n id:Nat} {b:DB} (h:(S++List.replicate n DB.none)[id]? = some b) (hb:b ≠ .none):S[id]? = some b:=by
 rw[List.getElem?_append] at h
 split at h
 ·exact h
 ·rw[List.getElem?_replicate] at h
  split at h
  ·cases h; exact absurd rfl hb
  ·cases h
theorem tW {S:ak} {n id:Nat} {b:DB} (h:S[id]? = some b):(S++List.replicate n DB.none)[id]? = some b:=by
 rw[List.getElem?_append_left (List.getElem?_eq_some_iff.1 h).1]; exact h
theorem tX (x:Cx) (n:Nat):bk x (x.pad n) :=
 ⟨Nat.le_refl _,⟨rfl,rfl⟩,fun _ _ h=>⟨h,rfl⟩,fun _ _ h => .inl h,fun _ _ _=>rfl,by simp[Cx.pad],fun _ l h=>⟨rfl,l,tW h⟩,fun _ b h hb=>⟨rfl,⟨b,tW h,dw hb⟩,fun _=>rfl⟩,fun _ _ _ n h=>⟨n,tW h,Nat.le_refl _,fun _=>⟨rfl,rfl⟩⟩,fun _ ⟨b,h,hb⟩ => .inl ⟨⟨b,kz h hb,hb⟩,rfl⟩,fun _ _ _ l z h=>⟨l,z,tW h,Nat.le_refl _,fun e=>⟨rfl,e⟩,fun _=>⟨rfl,rfl⟩⟩⟩
theorem Rr (hR:Rel x) (n:Nat):Rel (x.pad n) where
 cells:=fun id l hl=>by
  obtain⟨arr,e,h1,h2,h3⟩:=hR.cells id l (kz hl (by simp))
  exact⟨arr,e,h1,h2,fun j c hc=>(h3 j c hc).mono (tX x n)⟩
 cN:=fun id e s m hl=>hR.cN id e s m (kz hl (by simp))
 c9:=fun id b hl hb=>by
  obtain⟨o,h1,h2⟩:=hR.c9 id b (kz hl (ep hb)) hb
  exact⟨o,h1,h2.mono (tX x n)⟩
 inj:=fun i j ⟨b,h,hb⟩ ⟨c,k,kb⟩ he=>hR.inj i j ⟨b,kz h hb,hb⟩ ⟨c,kz k kb,kb⟩ he
 uI:=hR.uI
 sep:=fun id ⟨l,hl⟩=>hR.sep id ⟨l,kz hl (by simp)⟩
 lF:=fun id e s m hl=>hR.lF id e s m (kz hl (by simp))
 ops:=fun id e s l z hl=>by
  obtain⟨arr,h1,h2,h3,h4,h5,h6⟩:=hR.ops id e s l z (kz hl (by simp))
  exact⟨arr,h1,h2,h3,h4,fun j c hc=>⟨(h5 j c hc).1,(h5 j c hc).2.mono (tX x n)⟩,h6⟩
theorem GQ (hP:Plain P) (dh:gT P ty) (hc:gq P af call) (hi:tD P af aD) (FM:tB P af yf) {ops:Array Oper} {b:Frame} {k:List Item} {cs:List Frame} (hk:b.kind ≠ .early) (BP:iP ops (Region.before ops)=true)
  {env ay:List DV} {S':ak} {fs:List cu} {n0:Nat} {a:Act} (h:nZ P ty aD call yf ops n0 ops.toList 0 env x.S=some (ay,S',fs)) (hmt:oG (Region.before ops) fs=true) (hR:Rel x) (he:dR x env a.tmps)
  (hn:∀ y a',y.S=S'→Rel y→bk x y→dR y ay a'.tmps→a'.defers=a.defers→eY P af () (G (b.atR a' k) cs) y.w) (t:Nat):eY P af () (G (b.atR a (.inRegion ops (Region.linearise .any ops t)::k)) cs) x.w:=by
 have mA:=EE BP
 obtain⟨E,V,M,F,hrun,e1,e2,e3,e4,e5⟩:=WO h
 have VF:∀ i j,i<ops.size→j<ops.size→i≠j→(F i).meets (F j)=true→((Region.before ops).getD j 0).testBit i=true∨((Region.before ops).getD i 0).testBit j=true:=fun i j hi hj hne hm=>Xc hmt (e5 i hi) (e5 j hj) hne hm
 have dN:∀ {α:Type} (W:Nat→Bool) (R:Nat→α) (d:α) n,jI W R d (fun _=>false) n=d:=by
  intro α W R d n
  induction n with
  | zero=>rfl
  | succ n ih=>unfold jI; simp[ih]
 refine qV mA (σ:=Act×Cx) (fun todo s=>Rel s.2→bk x s.2→s.1.defers=a.defers→eY P af () (G (b.atR s.1 (.inRegion ops todo::k)) cs) s.2.w)
  (fun L s=>Ih ops M F L s.2.S∧∃ jG,dR s.2 jG s.1.tmps∧A0 ops V L ops.size (E 0) jG) ?_ ?_ t (a,x) ⟨⟨fun id=>by rw[dN,e3],by rw[dN,e3]⟩,env,he,fun t => ?_⟩ hR (bk.refl x) rfl
 ·rintro L ⟨a1,y⟩ i o ⟨FJ,jG,uG,P9⟩ uD ho hLi sZ rest x4 FV LH FT
  simp only at uG FV LH FT FJ ⊢
  obtain⟨q1,q2⟩:=wz mA BP hrun.env uD P9 ho hLi sZ
  have hw:=ue q1
  have Pp:=uZ uG ops o
  have YV:=BD (V:=V) ho P9 q2
  by_cases UC:bD ops (E i) o=true
  ·obtain⟨T',hT1,YR⟩:=O1 hrun mA VF uD ho hLi sZ FJ UC
   rw[← CX (BB q1)] at hT1
   obtain⟨qE,Qu,hstep⟩:=Si hT1
   refine DR hP dh (Pd hc) hi FM hk ho (by rw[Pp,hw]; exact UC) FV Qu uG hstep fun z u zS zR zM zV => ?_
   have kN:=nB (uG.mono zM) (dst:=o.dst) zV
   exact x4 (a1.put o.dst u,z) ⟨by rw[zS]; exact YR,_,kN.1,YV⟩ zR (LH.trans zM) (kN.2.trans FT)
  ·have UD:bD ops (E i) o=false:=by simpa using UC
   obtain⟨hv,hM,hF⟩:=hrun.no i o ho UD
   have kN:=nB uG (dst:=o.dst) (d:=V i) (v:=undef) (by rw[hv]; exact .val rfl)
   have ab0:Ih ops M F (upd L i true) y.S:=by
    refine⟨fun id => ?_,?_⟩
    ·rw[jL (W:=fun j=>touch F j id) (by simp[touch,hF])]; exact FJ.get id
    ·rw[jL (W:=top F) (by simp[top,hF])]; exact FJ.len
   exact cE hP (fun w=>⟨_,pE ho (by rw[Pp,hw]; exact UD)⟩) (x4 (a1.put o.dst undef,y) ⟨ab0,_,kN.1,YV⟩ FV LH (kN.2.trans FT))
 ·rintro L ⟨a1,y⟩ ⟨FJ,jG,uG,P9⟩ dx FV LH FT
  have abM:jG=ay:=by
   refine List.ext_getElem? fun t => ?_
   rw[P9 t,← e2,xm hrun.env ops.size (Nat.le_refl _) t]
   congr 1
   funext d
   rw[iH (i:=ops.size) (Nat.le_refl _) fun j hj _=>by simp[dx j hj,hj]]
  have abw:y.S=S':=by
   refine List.ext_getElem? fun id => ?_
   have:=FJ.get id
   simp only at this
   rw[this,← e4,(run_store hrun id ops.size (Nat.le_refl _)).1]
   exact eX (Nat.le_refl _) fun j hj _=>by simp[dx j hj,hj]
  subst abM
  exact cE hP (fun w=>⟨_,jC⟩) (hn y a1 abw FV LH uG FT)
 ·rw[e1]
  have:∀ n,jH ops V (fun _=>false) t n=none:=by
   intro n
   induction n with
   | zero=>rfl
   | succ n ih=>unfold jH; simp[ih]
  rw[this]
  simp
theorem Gj (hP:Plain P) (hm:P.follows .mixedOrders=true) (dh:gT P ty) (hc:gq P af call) (hi:tD P af aD) (FM:tB P af yf) (id:Nat) (ops:Array Oper) (draw:Bool):oK P af ty aD call yf id ops draw:=by
 cases draw with
 | false=>exact J3 hP dh hc hi FM id ops
 | true =>
  intro env ay S' x a b k cs h hk hR he hn
  simp only[lP,if_true] at h
  split at h
  ·cases h
  ·rename_i hd
   have BP:iP ops (Region.before ops)=true:=by simpa using hd
   refine fZ hP fun n => ?_
   refine⟨_,_,_,_,GU hm,?_⟩
   split at h
   ·rename_i jG h1
    cases h
    split at h1
    ·cases h1
    exact GR (x:=x.dr _) hP dh hc hi FM hk BP h1 (hR.dr _) (he.mono (dn x _)) (fun y a' q1 q2 q3 q4 q5=>hn y a' q1 q2 ((dn x _).trans q3) q4 q5) _
   ·split at h
    ·rename_i jG S1 fs h1
     split at h
     ·rename_i hmt
      cases h
      have M1:=(dn x ((x.w.at n).drawn+1)).trans (tX _ ops.size)
      exact GQ (x:=(x.dr ((x.w.at n).drawn+1)).pad ops.size) hP dh hc hi FM hk BP h1 hmt (Rr (hR.dr _) _) (he.mono M1) (fun y a' q1 q2 q3 q4 q5=>hn y a' q1 q2 (M1.trans q3) q4 q5) _
     ·cases h
    ·cases h
def oe (P:Program) (af:Machine→Trace→Prop) (aZ:bn):Prop :=
 ∀ f args v,aZ f args=some v→args.all DV.pure=true→v.pure=true→∀ x vals,Rel x→dR x args vals→cT P af x f vals fun y u=>y.S=x.S∧Rel y∧bk x y∧RV y v u
theorem Ci {aZ:bn} (ht:oe P af aZ) (hc:gq P af call):tD P af (je aZ call):=by
 intro f args v h hp
 unfold je at h
 split at h
 ·rename_i v' h1
  split at h
  ·rename_i hv
   cases h
   exact⟨hv,ht f args v h1 hp hv⟩
  ·cases h
 ·split at h
  ·rename_i v' S' h1
   split at h
   ·rename_i hv
    cases h
    refine⟨hv,fun x vals hR ha => ?_⟩
    have ha':dR x.bare args vals:=⟨ha.1,fun j c hj=>(ha.2 j c hj).pure_mono (x:=x) (y:=x.bare) (fun b o h=>⟨h,rfl⟩) (List.all_eq_true.1 hp c (List.mem_of_getElem? hj))⟩
    obtain⟨h2,h3⟩:=hc f args [] v' S' h1 x.bare vals hR.bare rfl ha'
    refine⟨h2,fun fr cs hn=>h3 fr cs fun y0 u ⟨p1,p2,p3,p4⟩ => ?_⟩
    obtain⟨y,r1,r2,q2,r4⟩:=Nk p2 v'
    have q3:=p3.trans r4
    have q4:RV y (jd (qJ S' v') v') u:=by
     rw[← p1,← r2]
     exact look_ok q2 (p4.mono r4)
    have hb:=hR.behind q3 q2
    rw[← r1]
    exact hn (x.behind y) u ⟨rfl,hb,pG hR q3,q4.strip.pure_mono (x:=y) (y:=x.behind y) (fun b o h=>⟨h,rfl⟩) hv⟩
   ·cases h
  ·cases h
theorem uc (hP:Plain P) (hm:P.follows .mixedOrders=true) (dh:gT P ty) {aZ:bn} (ht:oe P af aZ) {L:Nat}:∀ n,gq P af (cG P ty aZ L n).1∧tB P af (cG P ty aZ L n).2
 | 0=>⟨fun f args S v S' h=>by simp[cG] at h,fun id args S v S' h=>by simp[cG] at h⟩
 | n+1=>by
  obtain⟨SP,ihy⟩:=uc hP hm dh ht (L:=L) n
  have hi:=Ci ht SP
  have gd:∀ id ops draw,oK P af ty (je aZ (cG P ty aZ L n).1) (cG P ty aZ L n).1 (cG P ty aZ L n).2 id ops draw:=fun id ops draw=>Gj hP hm dh SP hi ihy id ops draw
  refine⟨fun f args S v S' h x vals hR hS ha => ?_,JV hP SP gd⟩
  simp only[cG] at h
  split at h
  ·rename_i fn hf
   exact Pg hP dh SP gd hf h hR hS ha
  ·cases h
end Go.Di
end
section
namespace Go.Co
open Go Go.Conc
open Go.ConcN (sumTo sumTo_upd sumTo_congr le_sumTo upd upd_same upd_ne)
open Classical
variable {cf cl:Nat} {tv z z2:Value} {mu:Bool}
def wk (cf cl:Nat) (tv:Value):List Value→Pc
 | [] => .send cl tv .stop
 | v::vs => .send cf v (wk cf cl tv vs)
def Dj (cf cl:Nat) (z2:Value) (mu:Bool):Nat→Pc
 | 0 => .close cf .stop
 | k+1 => .recv cl mu z2 fun x=>match x with | some _=>Dj cf cl z2 mu k | none => .bad
noncomputable def QE (cf:Nat) (z:Value):Nat→List Value→Pc
 | 0,_ => .recv cf true z fun x=>match x with | some _ => .bad | none => .ret
 | n+1,rem => .recv cf true z fun x=>match x with | some v=>if v∈rem then QE cf z n (rem.erase v) else .bad | none => .bad
noncomputable def xg (cf:Nat) (z:Value) (rem:List Value):Pc:=QE cf z rem.length rem
def chain (cf cl:Nat) (tv z2:Value) (mu:Bool) (K:Nat) (p:Pc):List (List Value)→Pc
 | [] => .go (Dj cf cl z2 mu K) p
 | vs::todo => .go (wk cf cl tv vs) (chain cf cl tv z2 mu K p todo)
inductive Ro where
 | gone
 | work (vs:List Value)
def Ro.pc (cf cl:Nat) (tv:Value):Ro→Pc
 | gone => .stop
 | work vs=>wk cf cl tv vs
def Ro.vals:Ro→List Value
 | gone=>[]
 | work vs=>vs
def Ro.one:Ro→Nat
 | gone=>0
 | work _=>1
theorem IQ (N:Net) (i j:Nat) (k k':Pc):(N.meet i j k k').pr j=k':=upd_same _ _ _
theorem NR (N:Net) (i:Nat) (ch k:Pc):(N.start i ch k).pr N.n=ch:=upd_same _ _ _
theorem JE:Ro.gone.vals=[]:=rfl
theorem u5 (vs:List Value):(Ro.work vs).vals=vs:=rfl
theorem OB:Ro.gone.one=0:=rfl
theorem EG (vs:List Value):(Ro.work vs).one=1:=rfl
theorem mI (vs:List Value):∃ c v k,wk cf cl tv vs = .send c v k∧(c=cf∨c=cl):=by
 cases vs with
 | nil=>exact⟨_,_,_,rfl,.inr rfl⟩
 | cons v vs=>exact⟨_,_,_,rfl,.inl rfl⟩
theorem qw (k:Nat):(∃ p,Dj cf cl z2 mu k = .recv cl mu z2 p)∨Dj cf cl z2 mu k = .close cf .stop:=by
 cases k with
 | zero=>exact .inr rfl
 | succ k=>exact .inl ⟨_,rfl⟩
theorem qv (rem:List Value):∃ p,xg cf z rem = .recv cf true z p:=by
 unfold xg
 cases rem.length with
 | zero=>exact⟨_,rfl⟩
 | succ k=>exact⟨_,rfl⟩
theorem FC (K:Nat) (p:Pc) (todo:List (List Value)):∃ a b,chain cf cl tv z2 mu K p todo = .go a b:=by
 cases todo with
 | nil=>exact⟨_,_,rfl⟩
 | cons vs todo=>exact⟨_,_,rfl⟩
theorem yH (r:Ro):(r = .gone∧r.pc cf cl tv = .stop)∨∃ vs,r = .work vs∧r.pc cf cl tv=wk cf cl tv vs:=by
 cases r with
 | gone=>exact .inl ⟨rfl,rfl⟩
 | work vs=>exact .inr ⟨vs,rfl,rfl⟩
theorem ZY {N:Net} {E:Nat→Prop} (hn:0<N.n) (h0:N.pr 0=xg cf z []) (hst:∀ j,0<j→j<N.n→N.pr j = .stop) (hc:N.cl cf=some E) (hE:∀ j,0<j→j<N.n→E j):xJ (fun c=>c=cf∨c=cl) N:=by
 have Lh:N.pr 0 = .recv cf true z fun x=>match x with | some _ => .bad | none => .ret:=h0
 have bQ:∀ j,j<N.n→j=0∨N.pr j = .stop:=fun j hj=>(Nat.eq_zero_or_pos j).imp id fun h=>hst j h hj
 refine .step N (fun j hj => ?_) (by rw[Lh]; simp) (fun i c v k hi hp => ?_) (fun j c ok z k hj hp => ?_) (.inr (.inr (.inl ⟨0,_,_,_,_,E,hn,Lh,hc⟩)))
  (fun i j c v k ok z k' hi hj hp _ => ?_) (fun i c k hi hp => ?_) (fun i c k hi hp => ?_) (fun j c ok z k E' hj hp wQ => ?_) (fun i ch k hi hp => ?_)
 ·rcases bQ j hj with rfl | h
  ·rw[Lh]; simp
  ·rw[h]; simp
 ·rcases bQ i hi with rfl | h
  ·rw[Lh] at hp; cases hp
  ·rw[h] at hp; cases hp
 ·rcases bQ j hj with rfl | h
  ·rw[Lh] at hp; cases hp; exact .inl rfl
  ·rw[h] at hp; cases hp
 ·rcases bQ i hi with rfl | h
  ·rw[Lh] at hp; cases hp
  ·rw[h] at hp; cases hp
 ·rcases bQ i hi with rfl | h
  ·rw[Lh] at hp; cases hp
  ·rw[h] at hp; cases hp
 ·rcases bQ i hi with rfl | h
  ·rw[Lh] at hp; cases hp
  ·rw[h] at hp; cases hp
 ·rcases bQ j hj with rfl | h
  ·rw[Lh] at hp
   cases hp
   rw[hc] at wQ
   cases wQ
   refine .done _ (show upd N.pr 0 _ 0=_ from upd_same _ _ _) fun j hj jM=>⟨?_,.inr (hE j hj jM)⟩
   show upd N.pr 0 _ j = .stop
   rw[upd_ne _ _ (by omega)]
   exact hst j hj jM
  ·rw[h] at hp; cases hp
 ·rcases bQ i hi with rfl | h
  ·rw[Lh] at hp; cases hp
  ·rw[h] at hp; cases hp
structure ace (cf cl:Nat) (tv z z2:Value) (mu:Bool) (N:Net) (s:Nat→Ro) (jc k:Nat) (rem:List Value):Prop where
 jc0:0<jc
 Ym:jc<N.n
 main:N.pr 0=xg cf z rem
 Aq:N.pr jc=Dj cf cl z2 mu k
 gone:s jc = .gone
 other:∀ j,0<j→j<N.n→j≠jc→N.pr j=(s j).pc cf cl tv
 zero:s 0 = .gone
 cnt:∀ v,rem.count v=sumTo N.n fun j=>(s j).vals.count v
 live:k=sumTo N.n fun j=>(s j).one
 opn:∀ c,N.cl c=none
 F1:∀ j,0<j→j<N.n→s j = .gone→j≠jc→N.D jc j
theorem nJ {f:Nat→Nat} {n:Nat} (h:∀ i,i<n→f i=0):sumTo n f=0:=by
 induction n with
 | zero=>rfl
 | succ n ih=>simp[sumTo,ih fun i hi=>h i (by omega),h n (by omega)]
theorem JH {f:Nat→Nat} {n:Nat} (h:sumTo n f≠0):∃ i,i<n∧f i≠0:=by
 by_cases hx:∃ i,i<n∧f i≠0
 ·exact hx
 ·exact absurd (nJ fun i hi=>by
   by_cases h0:f i=0
   ·exact h0
   ·exact absurd ⟨i,hi,h0⟩ hx) h
theorem ZZ (hne:cf≠cl):∀ (M:Nat) (N:Net) (s:Nat→Ro) (jc k:Nat) (rem:List Value),rem.length+k<M→ace cf cl tv z z2 mu N s jc k rem→xJ (fun c=>c=cf∨c=cl) N:=by
 intro M
 induction M with
 | zero=>exact fun _ _ _ _ _ h=>absurd h (Nat.not_lt_zero _)
 | succ M ih =>
  intro N s jc k rem hM I
  have hn:0<N.n:=Nat.lt_of_lt_of_le I.jc0 (Nat.le_of_lt I.Ym)
  obtain⟨pc,Jf⟩:=qv (cf:=cf) (z:=z) rem
  have bQ:∀ j,j<N.n→j=0∨j=jc∨(0<j∧j≠jc∧((s j = .gone∧N.pr j = .stop)∨∃ vs,s j = .work vs∧N.pr j=wk cf cl tv vs)):=by
   intro j hj
   rcases Nat.eq_zero_or_pos j with rfl | hp
   ·exact .inl rfl
   by_cases hjc:j=jc
   ·exact .inr (.inl hjc)
   refine .inr (.inr ⟨hp,hjc,?_⟩)
   have:=I.other j hp hj hjc
   rcases yH (cf:=cf) (cl:=cl) (tv:=tv) (s j) with ⟨h1,h2⟩ | ⟨vs,h1,h2⟩
   ·exact .inl ⟨h1,this.trans h2⟩
   ·exact .inr ⟨vs,h1,this.trans h2⟩
  have Zv:∀ i c v p,i<N.n→N.pr i = .send c v p→0<i∧i≠jc∧((∃ vs,s i = .work (v::vs)∧c=cf∧p=wk cf cl tv vs)∨(s i = .work []∧c=cl∧p = .stop)):=by
   intro i c v p hi hp
   rcases bQ i hi with rfl | rfl | ⟨h1,h2,⟨h3,h4⟩ | ⟨vs,h3,h4⟩⟩
   ·rw[I.main,Jf] at hp; cases hp
   ·rw[I.Aq] at hp
    rcases qw (cf:=cf) (cl:=cl) (z2:=z2) (mu:=mu) k with ⟨p',h⟩ | h<;>rw[h] at hp<;>cases hp
   ·rw[h4] at hp; cases hp
   ·refine⟨h1,h2,?_⟩
    rw[h4] at hp
    cases vs with
    | nil=>cases hp; exact .inr ⟨h3,rfl,rfl⟩
    | cons v' vs=>cases hp; exact .inl ⟨vs,h3,rfl,rfl⟩
  have Vz:∀ j c ok z' p,j<N.n→N.pr j = .recv c ok z' p→(j=0∧c=cf)∨(j=jc∧c=cl):=by
   intro j c ok z' p hj hp
   rcases bQ j hj with rfl | rfl | ⟨h1,h2,⟨h3,h4⟩ | ⟨vs,h3,h4⟩⟩
   ·rw[I.main,Jf] at hp; cases hp; exact .inl ⟨rfl,rfl⟩
   ·rw[I.Aq] at hp
    rcases qw (cf:=cf) (cl:=cl) (z2:=z2) (mu:=mu) k with ⟨p',h⟩ | h<;>rw[h] at hp<;>cases hp
    exact .inr ⟨rfl,rfl⟩
   ·rw[h4] at hp; cases hp
   ·rw[h4] at hp
    obtain⟨_,_,_,h,_⟩:=mI (cf:=cf) (cl:=cl) (tv:=tv) vs
    rw[h] at hp; cases hp
  have ZF:∀ j c p,j<N.n→N.pr j = .close c p→j=jc∧c=cf∧p = .stop∧k=0:=by
   intro j c p hj hp
   rcases bQ j hj with rfl | rfl | ⟨h1,h2,⟨h3,h4⟩ | ⟨vs,h3,h4⟩⟩
   ·rw[I.main,Jf] at hp; cases hp
   ·rw[I.Aq] at hp
    cases k with
    | zero=>cases hp; exact⟨rfl,rfl,rfl,rfl⟩
    | succ k=>cases hp
   ·rw[h4] at hp; cases hp
   ·rw[h4] at hp
    obtain⟨_,_,_,h,_⟩:=mI (cf:=cf) (cl:=cl) (tv:=tv) vs
    rw[h] at hp; cases hp
  have hgo:∀ j a p,j<N.n→N.pr j ≠ .go a p:=by
   intro j a p hj hp
   rcases bQ j hj with rfl | rfl | ⟨h1,h2,⟨h3,h4⟩ | ⟨vs,h3,h4⟩⟩
   ·rw[I.main,Jf] at hp; cases hp
   ·rw[I.Aq] at hp
    rcases qw (cf:=cf) (cl:=cl) (z2:=z2) (mu:=mu) k with ⟨p',h⟩ | h<;>rw[h] at hp<;>cases hp
   ·rw[h4] at hp; cases hp
   ·rw[h4] at hp
    obtain⟨_,_,_,h,_⟩:=mI (cf:=cf) (cl:=cl) (tv:=tv) vs
    rw[h] at hp; cases hp
  have ac0:=I.jc0
  refine .step N (fun j hj => ?_) (by rw[I.main,Jf]; simp) (fun i c v p hi hp=>⟨I.opn c,?_⟩) (fun j c ok z' p hj hp => ?_) ?_
   (fun i j c v p ok z' p' hi hj hp hq => ?_) (fun i c p hi hp=>⟨I.opn c,.inl (ZF i c p hi hp).2.1⟩) (fun i c p hi hp => ?_) (fun j c ok z' p E' hj hp wQ => ?_) (fun i ch p hi hp=>absurd hp (hgo i ch p hi))
  ·rcases bQ j hj with rfl | rfl | ⟨h1,h2,⟨h3,h4⟩ | ⟨vs,h3,h4⟩⟩
   ·rw[I.main,Jf]; simp
   ·rw[I.Aq]
    rcases qw (cf:=cf) (cl:=cl) (z2:=z2) (mu:=mu) k with ⟨p',h⟩ | h<;>rw[h]<;>simp
   ·rw[h4]; simp
   ·rw[h4]
    obtain⟨_,_,_,h,_⟩:=mI (cf:=cf) (cl:=cl) (tv:=tv) vs
    rw[h]; simp
  ·rcases (Zv i c v p hi hp).2.2 with ⟨_,_,h,_⟩ | ⟨_,h,_⟩
   ·exact .inl h
   ·exact .inr h
  ·rcases Vz j c ok z' p hj hp with ⟨_,h⟩ | ⟨_,h⟩
   ·exact .inl h
   ·exact .inr h
  ·
   by_cases hk:k=0
   ·exact .inr (.inl ⟨jc,cf,.stop,I.Ym,by rw[I.Aq,hk]; rfl⟩)
   ·obtain⟨i,hi,VB⟩:=JH (f:=fun j=>(s j).one) (n:=N.n) (by rw[← I.live]; exact hk)
    obtain⟨k',rfl⟩:=Nat.exists_eq_succ_of_ne_zero hk
    rcases bQ i hi with rfl | rfl | ⟨h1,h2,⟨h3,h4⟩ | ⟨vs,h3,h4⟩⟩
    ·simp[I.zero,Ro.one] at VB
    ·simp[I.gone,Ro.one] at VB
    ·simp[h3,Ro.one] at VB
    ·cases vs with
     | nil=>exact .inl ⟨i,jc,cl,_,_,_,_,_,hi,I.Ym,h4,I.Aq⟩
     | cons v vs=>exact .inl ⟨i,0,cf,_,_,_,_,_,hi,hn,h4,by rw[I.main]; exact Jf⟩
  ·
   obtain⟨xH,VJ,hs⟩:=Zv i c v p hi hp
   rcases hs with ⟨vs,hs,rfl,rfl⟩ | ⟨hs,rfl,rfl⟩
   ·
    obtain rfl:j=0:=by
     rcases Vz j _ ok z' p' hj hq with ⟨h,_⟩ | ⟨_,h⟩
     ·exact h
     ·exact absurd h hne
    have hv:v∈rem:=by
     have h1:=I.cnt v
     have h2:=le_sumTo (f:=fun j=>(s j).vals.count v) hi
     simp only[hs,u5,List.count_cons_self] at h2
     exact List.count_pos_iff.1 (by omega)
    have hlen:rem.length=(rem.erase v).length+1:=by
     rw[List.length_erase_of_mem hv]
     have:=List.length_pos_of_mem hv
     omega
    have nX:p' (some v)=xg c z (rem.erase v):=by
     have hm:=I.main
     rw[hq] at hm
     unfold xg at hm
     rw[hlen] at hm
     cases hm
     show (if v∈rem then QE c z (rem.erase v).length (rem.erase v) else .bad)=_
     rw[if_pos hv]
     rfl
    rw[nX]
    refine ih _ (upd s i (.work vs)) jc k (rem.erase v) (by omega) ⟨I.jc0,I.Ym,IQ _ _ _ _ _,?_,?_,fun j hj jM Ae => ?_,?_,fun v' => ?_,?_,I.opn,fun j hj jM hg Ae => ?_⟩
    ·show upd (upd N.pr i _) 0 _ jc=_
     rw[upd_ne _ _ (by omega),upd_ne _ _ (Ne.symm VJ)]
     exact I.Aq
    ·rw[upd_ne _ _ (Ne.symm VJ)]; exact I.gone
    ·show upd (upd N.pr i _) 0 _ j=_
     rw[upd_ne _ _ (by omega)]
     by_cases eB:j=i
     ·subst eB
      rw[upd_same,upd_same]; rfl
     ·rw[upd_ne _ _ eB,upd_ne _ _ eB]
      exact I.other j hj jM Ae
    ·rw[upd_ne _ _ (by omega)]; exact I.zero
    ·have h1:=I.cnt v'
     have h2:=sumTo_upd s (.work vs) (fun r=>r.vals.count v') hi
     show (rem.erase v).count v'=sumTo N.n _
     simp only[hs,u5,List.count_cons] at h2
     rw[List.count_erase]
     split at h2<;>rename_i h3
     ·rw[if_pos h3]; omega
     ·rw[if_neg h3]; omega
    ·have h2:=sumTo_upd s (.work vs) Ro.one hi
     have h1:=I.live
     simp only[hs,EG] at h2
     show k=sumTo N.n _
     omega
    ·by_cases eB:j=i
     ·subst eB; rw[upd_same] at hg; cases hg
     ·rw[upd_ne _ _ eB] at hg
      show if jc=i∨jc=0 then _ else N.D jc j
      rw[if_neg (by omega)]
      exact I.F1 j hj jM hg Ae
   ·
    obtain rfl:j=jc:=by
     rcases Vz j _ ok z' p' hj hq with ⟨_,h⟩ | ⟨h,_⟩
     ·exact absurd h.symm hne
     ·exact h
    obtain⟨k',rfl⟩:∃ k',k=k'+1:=by
     cases k with
     | zero=>rw[I.Aq] at hq; cases hq
     | succ k=>exact⟨k,rfl⟩
    have nX:p' (some v)=Dj cf c z2 mu k':=by
     have:=I.Aq
     rw[hq] at this
     cases this
     rfl
    rw[nX]
    refine ih _ (upd s i .gone) j k' rem (by omega) ⟨I.jc0,I.Ym,?_,IQ _ _ _ _ _,?_,fun x hx AE Lu => ?_,?_,fun v' => ?_,?_,I.opn,fun x hx AE hg Lu => ?_⟩
    ·show upd (upd N.pr i _) j _ 0=_
     rw[upd_ne _ _ (by omega),upd_ne _ _ (by omega)]
     exact I.main
    ·rw[upd_ne _ _ (Ne.symm VJ)]; exact I.gone
    ·show upd (upd N.pr i _) j _ x=_
     rw[upd_ne _ _ Lu]
     by_cases XM:x=i
     ·subst XM
      rw[upd_same,upd_same]; rfl
     ·rw[upd_ne _ _ XM,upd_ne _ _ XM]
      exact I.other x hx AE Lu
    ·rw[upd_ne _ _ (by omega)]; exact I.zero
    ·have h1:=I.cnt v'
     have h2:=sumTo_upd s .gone (fun r=>r.vals.count v') hi
     show rem.count v'=sumTo N.n _
     simp only[hs,u5,JE,List.count_nil] at h2
     omega
    ·have h2:=sumTo_upd s .gone Ro.one hi
     have h1:=I.live
     simp only[hs,EG,OB] at h2
     show k'=sumTo N.n _
     omega
    ·show if j=i∨j=j then _ else _
     rw[if_pos (.inr rfl)]
     by_cases XM:x=i
     ·exact .inr (.inr (.inl ⟨XM,rfl⟩))
     ·rw[upd_ne _ _ XM] at hg
      exact .inr (.inl (I.F1 x hx AE hg Lu))
  ·
   obtain⟨rfl,rfl,rfl,rfl⟩:=ZF i c p hi hp
   have dx:∀ j,j<N.n→s j = .gone:=by
    intro j hj
    have h1:=le_sumTo (f:=fun j=>(s j).one) hj
    rw[← I.live] at h1
    cases h:s j with
    | gone=>rfl
    | work vs=>simp[h,Ro.one] at h1
   have abB:rem=[]:=by
    cases hr:rem with
    | nil=>rfl
    | cons v vs =>
     have h1:=I.cnt v
     rw[nJ fun j hj=>by simp[dx j hj,Ro.vals],hr] at h1
     simp at h1
   subst abB
   refine ZY (z:=z) (E:=fun y=>N.D i y∨(y=i∧Pc.stop=Pc.stop)) hn ?_ (fun j hj jM => ?_) (upd_same _ _ _) (fun j hj jM => ?_)
   ·show upd N.pr i _ 0=_
    rw[upd_ne _ _ (by omega)]
    exact I.main
   ·show upd N.pr i _ j=_
    by_cases eB:j=i
    ·subst eB; rw[upd_same]
    ·rw[upd_ne _ _ eB,I.other j hj jM eB,dx j jM]; rfl
   ·by_cases eB:j=i
    ·exact .inr ⟨eB,rfl⟩
    ·exact .inl (I.F1 j hj jM (dx j jM) eB)
  ·rw[I.opn c] at wQ; cases wQ
structure acf (cf cl:Nat) (tv z z2:Value) (mu:Bool) (K:Nat) (R:List Value) (N:Net) (s:Nat→Ro) (todo:List (List Value)):Prop where
 n0:0<N.n
 main:N.pr 0=chain cf cl tv z2 mu K (xg cf z R) todo
 other:∀ j,0<j→j<N.n→N.pr j=(s j).pc cf cl tv
 zero:s 0 = .gone
 cnt:∀ v,R.count v=todo.flatten.count v+sumTo N.n fun j=>(s j).vals.count v
 live:K=todo.length+sumTo N.n fun j=>(s j).one
 opn:∀ c,N.cl c=none
 F1:∀ j,0<j→j<N.n→s j = .gone→N.D 0 j
theorem nK {s:Nat→Ro} {r:Ro} {n:Nat} (φ:Ro→Nat):sumTo (n+1) (fun j=>φ (upd s n r j))=sumTo n (fun j=>φ (s j))+φ r:=by
 simp only[sumTo,upd_same]
 rw[sumTo_congr (g:=fun j=>φ (s j)) fun j hj=>by rw[upd_ne _ _ (by omega)]]
theorem Z0 (hne:cf≠cl) {K:Nat} {R:List Value}:∀ (todo:List (List Value)) (N:Net) (s:Nat→Ro),acf cf cl tv z z2 mu K R N s todo→xJ (fun c=>c=cf∨c=cl) N:=by
 intro todo
 induction todo with
 | nil =>
  intro N s I
  have iO:N.pr 0 = .go (Dj cf cl z2 mu K) (xg cf z R):=I.main
  have bQ:∀ j,j<N.n→j=0∨(0<j∧((s j = .gone∧N.pr j = .stop)∨∃ vs c v k,s j = .work vs∧N.pr j = .send c v k∧(c=cf∨c=cl))):=by
   intro j hj
   refine(Nat.eq_zero_or_pos j).imp id fun hp=>⟨hp,?_⟩
   have:=I.other j hp hj
   rcases yH (cf:=cf) (cl:=cl) (tv:=tv) (s j) with ⟨h1,h2⟩ | ⟨vs,h1,h2⟩
   ·exact .inl ⟨h1,this.trans h2⟩
   ·obtain⟨c,v,k,h3,h4⟩:=mI (cf:=cf) (cl:=cl) (tv:=tv) vs
    exact .inr ⟨vs,c,v,k,h1,(this.trans h2).trans h3,h4⟩
  refine .step N (fun j hj => ?_) (by rw[iO]; simp) (fun i c v p hi hp=>⟨I.opn c,?_⟩) (fun j c ok z' p hj hp => ?_) (.inr (.inr (.inr ⟨0,_,_,I.n0,iO⟩)))
   (fun i j c v p ok z' p' hi hj hp hq => ?_) (fun i c p hi hp => ?_) (fun i c p hi hp => ?_) (fun j c ok z' p E' hj hp wQ => ?_) (fun i ch p hi hp => ?_)
  ·rcases bQ j hj with rfl | ⟨_,⟨_,h⟩ | ⟨_,_,_,_,_,h,_⟩⟩
   ·rw[iO]; simp
   ·rw[h]; simp
   ·rw[h]; simp
  ·rcases bQ i hi with rfl | ⟨_,⟨_,h⟩ | ⟨_,_,_,_,_,h,h'⟩⟩
   ·rw[iO] at hp; cases hp
   ·rw[h] at hp; cases hp
   ·rw[h] at hp; cases hp; exact h'
  ·rcases bQ j hj with rfl | ⟨_,⟨_,h⟩ | ⟨_,_,_,_,_,h,_⟩⟩
   ·rw[iO] at hp; cases hp
   ·rw[h] at hp; cases hp
   ·rw[h] at hp; cases hp
  ·rcases bQ j hj with rfl | ⟨_,⟨_,h⟩ | ⟨_,_,_,_,_,h,_⟩⟩
   ·rw[iO] at hq; cases hq
   ·rw[h] at hq; cases hq
   ·rw[h] at hq; cases hq
  ·rcases bQ i hi with rfl | ⟨_,⟨_,h⟩ | ⟨_,_,_,_,_,h,_⟩⟩
   ·rw[iO] at hp; cases hp
   ·rw[h] at hp; cases hp
   ·rw[h] at hp; cases hp
  ·rcases bQ i hi with rfl | ⟨_,⟨_,h⟩ | ⟨_,_,_,_,_,h,_⟩⟩
   ·rw[iO] at hp; cases hp
   ·rw[h] at hp; cases hp
   ·rw[h] at hp; cases hp
  ·rw[I.opn c] at wQ; cases wQ
  ·rcases bQ i hi with rfl | ⟨_,⟨_,h⟩ | ⟨_,_,_,_,_,h,_⟩⟩
   ·rw[iO] at hp
    cases hp
    have hn:=I.n0
    refine ZZ (tv:=tv) (z:=z) (z2:=z2) (mu:=mu) hne (R.length+K+1) _ (upd s N.n .gone) N.n K R (Nat.lt_succ_self _) ⟨hn,Nat.lt_succ_self _,?_,NR _ _ _ _,upd_same _ _ _,fun j hj jM Ae => ?_,?_,fun v => ?_,?_,I.opn,fun j hj jM hg Ae => ?_⟩
    ·show upd (upd N.pr 0 _) N.n _ 0=_
     rw[upd_ne _ _ (by omega),upd_same]
    ·show upd (upd N.pr 0 _) N.n _ j=_
     have F4:j<N.n:=by
      have:j<N.n+1:=jM
      omega
     rw[upd_ne _ _ Ae,upd_ne _ _ (by omega),upd_ne _ _ Ae]
     exact I.other j hj F4
    ·rw[upd_ne _ _ (by omega)]; exact I.zero
    ·show R.count v=sumTo (N.n+1) _
     rw[nK (s:=s) (r := .gone) fun r=>r.vals.count v]
     have:=I.cnt v
     simpa [Ro.vals] using this
    ·show K=sumTo (N.n+1) _
     rw[nK (s:=s) (r := .gone) Ro.one]
     have:=I.live
     simpa [Ro.one] using this
    ·show if N.n=N.n then N.D 0 j else _
     rw[if_pos rfl]
     have F4:j<N.n:=by
      have:j<N.n+1:=jM
      omega
     rw[upd_ne _ _ Ae] at hg
     exact I.F1 j hj F4 hg
   ·rw[h] at hp; cases hp
   ·rw[h] at hp; cases hp
 | cons vs todo ih =>
  intro N s I
  have iO:N.pr 0 = .go (wk cf cl tv vs) (chain cf cl tv z2 mu K (xg cf z R) todo):=I.main
  have bQ:∀ j,j<N.n→j=0∨(0<j∧((s j = .gone∧N.pr j = .stop)∨∃ vs c v k,s j = .work vs∧N.pr j = .send c v k∧(c=cf∨c=cl))):=by
   intro j hj
   refine(Nat.eq_zero_or_pos j).imp id fun hp=>⟨hp,?_⟩
   have:=I.other j hp hj
   rcases yH (cf:=cf) (cl:=cl) (tv:=tv) (s j) with ⟨h1,h2⟩ | ⟨vs,h1,h2⟩
   ·exact .inl ⟨h1,this.trans h2⟩
   ·obtain⟨c,v,k,h3,h4⟩:=mI (cf:=cf) (cl:=cl) (tv:=tv) vs
    exact .inr ⟨vs,c,v,k,h1,(this.trans h2).trans h3,h4⟩
  refine .step N (fun j hj => ?_) (by rw[iO]; simp) (fun i c v p hi hp=>⟨I.opn c,?_⟩) (fun j c ok z' p hj hp => ?_) (.inr (.inr (.inr ⟨0,_,_,I.n0,iO⟩)))
   (fun i j c v p ok z' p' hi hj hp hq => ?_) (fun i c p hi hp => ?_) (fun i c p hi hp => ?_) (fun j c ok z' p E' hj hp wQ => ?_) (fun i ch p hi hp => ?_)
  ·rcases bQ j hj with rfl | ⟨_,⟨_,h⟩ | ⟨_,_,_,_,_,h,_⟩⟩
   ·rw[iO]; simp
   ·rw[h]; simp
   ·rw[h]; simp
  ·rcases bQ i hi with rfl | ⟨_,⟨_,h⟩ | ⟨_,_,_,_,_,h,h'⟩⟩
   ·rw[iO] at hp; cases hp
   ·rw[h] at hp; cases hp
   ·rw[h] at hp; cases hp; exact h'
  ·rcases bQ j hj with rfl | ⟨_,⟨_,h⟩ | ⟨_,_,_,_,_,h,_⟩⟩
   ·rw[iO] at hp; cases hp
   ·rw[h] at hp; cases hp
   ·rw[h] at hp; cases hp
  ·rcases bQ j hj with rfl | ⟨_,⟨_,h⟩ | ⟨_,_,_,_,_,h,_⟩⟩
   ·rw[iO] at hq; cases hq
   ·rw[h] at hq; cases hq
   ·rw[h] at hq; cases hq
  ·rcases bQ i hi with rfl | ⟨_,⟨_,h⟩ | ⟨_,_,_,_,_,h,_⟩⟩
   ·rw[iO] at hp; cases hp
   ·rw[h] at hp; cases hp
   ·rw[h] at hp; cases hp
  ·rcases bQ i hi with rfl | ⟨_,⟨_,h⟩ | ⟨_,_,_,_,_,h,_⟩⟩
   ·rw[iO] at hp; cases hp
   ·rw[h] at hp; cases hp
   ·rw[h] at hp; cases hp
  ·rw[I.opn c] at wQ; cases wQ
  ·rcases bQ i hi with rfl | ⟨_,⟨_,h⟩ | ⟨_,_,_,_,_,h,_⟩⟩
   ·rw[iO] at hp
    cases hp
    have hn:=I.n0
    refine ih _ (upd s N.n (.work vs)) ⟨Nat.succ_pos _,?_,fun j hj jM => ?_,?_,fun v => ?_,?_,I.opn,fun j hj jM hg => ?_⟩
    ·show upd (upd N.pr 0 _) N.n _ 0=_
     rw[upd_ne _ _ (by omega),upd_same]
    ·show upd (upd N.pr 0 _) N.n _ j=_
     by_cases Ae:j=N.n
     ·rw[Ae,upd_same,upd_same]; rfl
     ·have F4:j<N.n:=by
       have:j<N.n+1:=jM
       omega
      rw[upd_ne _ _ Ae,upd_ne _ _ (by omega),upd_ne _ _ Ae]
      exact I.other j hj F4
    ·rw[upd_ne _ _ (by omega)]; exact I.zero
    ·show R.count v=_+sumTo (N.n+1) _
     rw[nK (s:=s) (r := .work vs) fun r=>r.vals.count v]
     have:=I.cnt v
     simp only[List.flatten_cons,List.count_append] at this
     show _=_+(_+vs.count v)
     omega
    ·show K=_+sumTo (N.n+1) _
     rw[nK (s:=s) (r := .work vs) Ro.one]
     have:=I.live
     simp only[List.length_cons] at this
     show _=_+(_+1)
     omega
    ·by_cases Ae:j=N.n
     ·subst Ae; rw[upd_same] at hg; cases hg
     ·have F4:j<N.n:=by
       have:j<N.n+1:=jM
       omega
      rw[upd_ne _ _ Ae] at hg
      show if 0=N.n then _ else N.D 0 j
      rw[if_neg (by omega)]
      exact I.F1 j hj F4 hg
   ·rw[h] at hp; cases hp
   ·rw[h] at hp; cases hp
theorem Fa (hne:cf≠cl) (todo:List (List Value)) {n:Nat} (hn:0<n):xJ (fun c=>c=cf∨c=cl) (entry n (chain cf cl tv z2 mu todo.length (xg cf z todo.flatten) todo)):=by
 refine Z0 (tv:=tv) (z:=z) (z2:=z2) (mu:=mu) hne todo _ (fun _ => .gone) ⟨hn,rfl,fun j hj jM => ?_,rfl,fun v => ?_,?_,fun _=>rfl,fun j hj jM _=>⟨hj,jM⟩⟩
 ·have:j≠0:=by omega
  simp[entry,this,Ro.pc]
 ·rw[nJ fun j hj=>by simp[Ro.vals]]; simp
 ·rw[nJ fun j hj=>by simp[Ro.one]]; simp
end Go.Co
end
