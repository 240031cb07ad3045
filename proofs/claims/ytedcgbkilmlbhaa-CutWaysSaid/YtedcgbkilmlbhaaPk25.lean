import Derived.Test.YtedcgbkilmlbhaaPk24
import Derived.Test.YtedcgbkilmlbhaaPk22
section
namespace Go.Di
open Go Go.Conc Go.Co
open Go.ConcN (upd upd_same upd_ne)
variable {P:Program} {Final:Machine→Trace→Prop} {ty:Tys} {x:Cx} {iso:IsoF} {call:CallF} {yf:YldF}
structure StoIs (ops:Array Oper) (M:Nat→Store) (F:Nat→Foot) (L:Nat→Bool) (S:Store):Prop where
 get:∀ id,S[id]? = lastG (fun j=>touch F j id) (fun j=>(M (j+1))[id]?) ((M 0)[id]?) L ops.size
 len:S.length=lastG (top F) (fun j=>(M (j+1)).length) (M 0).length L ops.size
theorem dr_agree {ops:Array Oper} {n0:Nat} {E:Nat→List DV} {V:Nat→DV} {M:Nat→Store} {F:Nat→Foot} (h:RunIs P ty iso call yf ops n0 E V M F) (hord:OrdOk ops) (hmet:∀ i j,i<ops.size→j<ops.size→i≠j→(F i).meets (F j)=true→((Region.before ops).getD j 0).testBit i=true∨((Region.before ops).getD i 0).testBit j=true)
  {L:Nat→Bool} (hL:Closed ops L) {i:Nat} {o:Oper} (ho:ops[i]? = some o) (hi:L i=false) (hpre:∀ e∈o.after,Region.binds .any e=true→L e.on=true) {T:Store} (hT:StoIs ops M F L T) (hw:wantedD ops (E i) o=true) :
  ∃ T',stepDr P ty iso call yf (evD (E i)) o T (n0+i)=some (V i,T',F i)∧StoIs ops M F (upd L i true) T':=by
 have hio:i<ops.size:=(Array.getElem?_eq_some_iff.1 ho).1
 have hs:=h.yes i o ho hw
 have iff1:∀ j,j<ops.size→j≠i→(F i).meets (F j)=true→(L j=true↔j<i):=fun j hj hne hm=>ord_iff hord hL ho hi hpre (Ne.symm hne) (hmet i j hio hj (Ne.symm hne) hm)
 have up1:∀ j,j<ops.size→(j≠i→(F i).meets (F j)=true)→(upd L i true j=true↔j<i+1):=by
  intro j hj hm
  by_cases hji:j=i
  ·subst hji; simp[upd_same]
  ·rw[upd_ne _ _ hji,iff1 j hj hji (hm hji)]; omega
 have at1:∀ id,(∀ j,j<ops.size→j≠i→touch F j id=true→(F i).meets (F j)=true)→T[id]? = (M i)[id]? := by
  intro id hm
  rw[hT.get id,(run_store h id i (by omega)).1]
  refine lastG_congr (by omega) fun j hj ht => ?_
  by_cases hji:j=i
  ·subst hji; simp[hi]
  ·exact iff1 j hj hji (hm j hj hji ht)
 have len1:(∀ j,j<ops.size→j≠i→top F j=true→(F i).meets (F j)=true)→T.length=(M i).length:=by
  intro hm
  rw[hT.len,(run_store h 0 i (by omega)).2]
  refine lastG_congr (by omega) fun j hj ht => ?_
  by_cases hji:j=i
  ·subst hji; simp[hi]
  ·exact iff1 j hj hji (hm j hj hji ht)
 have tch:∀ j id,touch F j id=true→(F j).wr=true∧((F j).ids=none∨∃ l,(F j).ids=some l∧id∈l):=by
  intro j id ht
  unfold touch at ht
  simp only[Bool.and_eq_true] at ht
  refine⟨ht.1,?_⟩
  cases hids:(F j).ids with
  | none=>exact .inl rfl
  | some l=>rw[hids] at ht; exact .inr ⟨l,rfl,by simpa using ht.2⟩
 have tp:∀ j,top F j=true→(F j).wr=true∧(F j).ids=none:=by
  intro j ht
  unfold top at ht
  simpa using ht
 cases hids:(F i).ids with
 | none =>
  have hwr:=dr_top hs hids
  have hall:∀ j id,touch F j id=true→(F i).meets (F j)=true:=by
   intro j id ht
   obtain⟨h1,h2⟩:=tch j id ht
   unfold Foot.meets
   rw[hwr,hids]
   rcases h2 with h2 | ⟨l,h2,h3⟩
   ·simp[h2]
   ·simp[h2]
    exact List.ne_nil_of_mem h3
  have hTM:T=M i:=List.ext_getElem? fun id=>at1 id fun j _ _ ht=>hall j id ht
  subst hTM
  refine⟨M (i+1),hs,⟨fun id => ?_,?_⟩⟩
  ·have ht:touch F i id=true:=by simp[touch,hwr,hids]
   rw[lastG_congr (i:=i+1) (by omega) fun j hj htj=>up1 j hj fun _=>hall j id htj,lastG_last (W:=fun j=>touch F j id) ht]
  ·have ht:top F i=true:=by simp[top,hwr,hids]
   rw[lastG_congr (i:=i+1) (by omega) fun j hj htj=>up1 j hj fun _=>by
    obtain⟨h1,h2⟩:=tp j htj
    simp[Foot.meets,hwr,hids,h2],lastG_last (W:=top F) ht]
 | some l =>
  obtain⟨w,w1,w2,w3⟩:=dr_eff hs hids
  have hme:∀ j id,id∈l→touch F j id=true→(F i).meets (F j)=true:=by
   intro j id hid ht
   obtain⟨h1,h2⟩:=tch j id ht
   unfold Foot.meets
   rw[h1,hids]
   rcases h2 with h2 | ⟨l',h2,h3⟩
   ·simp[h2]
    exact List.ne_nil_of_mem hid
   ·simp[h2]
    exact⟨id,hid,h3⟩
  have hlen:l≠[]→T.length=(M i).length:=fun hne=>len1 fun j hj hji ht=>by
   obtain⟨h1,h2⟩:=tp j ht
   simp[Foot.meets,h1,hids,h2,hne]
  have hrun:=w3 T hlen fun id hid=>at1 id fun j _ _ ht=>hme j id hid ht
  have hTlt:∀ k b,w=some (k,b)→k<T.length:=fun k b hw=>by
   obtain⟨q1,q2,q3⟩:=w2 k b hw
   rw[hlen (List.ne_nil_of_mem q1)]
   exact q3
  refine⟨appW w T,hrun,⟨fun id => ?_,?_⟩⟩
  ·cases ht:touch F i id with
   | true =>
    obtain⟨h1,h2⟩:=tch i id ht
    have hid:id∈l:=by
     rcases h2 with h2 | ⟨l',h2,h3⟩
     ·rw[hids] at h2; cases h2
     ·rw[hids] at h2; cases h2; exact h3
    rw[lastG_congr (i:=i+1) (by omega) fun j hj htj=>up1 j hj fun _=>hme j id hid htj,lastG_last (W:=fun j=>touch F j id) ht,w1]
    rw[app_get hTlt,app_get fun k b hw=>(w2 k b hw).2.2]
    have:=at1 id fun j _ _ htj=>hme j id hid htj
    cases w with
    | none=>exact this
    | some p=>simp only[this]
   | false =>
    rw[lastG_other (W:=fun j=>touch F j id) ht,← hT.get id,app_get hTlt]
    cases w with
    | none=>rfl
    | some p =>
     obtain⟨k,b⟩:=p
     obtain⟨q1,q2,q3⟩:=w2 k b rfl
     have hne:id≠k:=by
      rintro rfl
      simp[touch,q2,hids,q1] at ht
     simp[hne]
  ·have ht:top F i=false:=by simp[top,hids]
   rw[lastG_other (W:=top F) ht,app_len]
   exact hT.len
def Cx.pad (x:Cx) (n:Nat):Cx:={ x with S:=x.S++List.replicate n .none }
theorem pad_get {S:Store} {n id:Nat} {b:DB} (h:(S++List.replicate n DB.none)[id]? = some b) (hb:b ≠ .none):S[id]? = some b:=by
 rw[List.getElem?_append] at h
 split at h
 ·exact h
 ·rw[List.getElem?_replicate] at h
  split at h
  ·cases h; exact absurd rfl hb
  ·cases h
theorem pad_get' {S:Store} {n id:Nat} {b:DB} (h:S[id]? = some b):(S++List.replicate n DB.none)[id]? = some b:=by
 rw[List.getElem?_append_left (List.getElem?_eq_some_iff.1 h).1]; exact h
theorem mono_pad (x:Cx) (n:Nat):Mono x (x.pad n) :=
 ⟨Nat.le_refl _,⟨rfl,rfl⟩,fun _ _ h=>⟨h,rfl⟩,fun _ _ h => .inl h,fun _ _ _=>rfl,by simp[Cx.pad],fun _ l h=>⟨rfl,l,pad_get' h⟩,fun _ b h hb=>⟨rfl,⟨b,pad_get' h,like_refl hb⟩,fun _=>rfl⟩,fun _ _ _ n h=>⟨n,pad_get' h,Nat.le_refl _,fun _=>⟨rfl,rfl⟩⟩,fun _ ⟨b,h,hb⟩ => .inl ⟨⟨b,pad_get h hb,hb⟩,rfl⟩⟩
theorem rel_pad (hR:Rel x) (n:Nat):Rel (x.pad n) where
 cells:=fun id l hl=>by
  obtain⟨arr,e,h1,h2,h3⟩:=hR.cells id l (pad_get hl (by simp))
  exact⟨arr,e,h1,h2,fun j c hc=>(h3 j c hc).mono (mono_pad x n)⟩
 tails:=fun id e s m hl=>hR.tails id e s m (pad_get hl (by simp))
 objs:=fun id b hl hb=>by
  obtain⟨o,h1,h2⟩:=hR.objs id b (pad_get hl (obj_live hb)) hb
  exact⟨o,h1,h2.mono (mono_pad x n)⟩
 inj:=fun i j ⟨b,h,hb⟩ ⟨c,k,kb⟩ he=>hR.inj i j ⟨b,pad_get h hb,hb⟩ ⟨c,pad_get k kb,kb⟩ he
 frz:=hR.frz
 sep:=fun id ⟨l,hl⟩=>hR.sep id ⟨l,pad_get hl (by simp)⟩
 sept:=fun id e s m hl=>hR.sept id e s m (pad_get hl (by simp))
theorem regionW_ok (hP:Plain P) (hty:TyOk P ty) (hc:CallOK P Final call) (hi:IsoOK P Final iso) (hyl:YldOK P Final yf) {ops:Array Oper} {b:Frame} {k:List Item} {cs:List Frame} (hk:b.kind ≠ .early) (hdr:drawOk ops (Region.before ops)=true)
  {env env':List DV} {S':Store} {fs:List Foot} {n0:Nat} {a:Act} (h:runDr P ty iso call yf ops n0 ops.toList 0 env x.S=some (env',S',fs)) (hmt:metOk (Region.before ops) fs=true) (hR:Rel x) (he:RVs x env a.tmps)
  (hn:∀ y a',y.S=S'→Rel y→Mono x y→RVs y env' a'.tmps→a'.defers=a.defers→KMu P Final () (G (b.atR a' k) cs) y.w) (t:Nat):KMu P Final () (G (b.atR a (.inRegion ops (Region.linearise .any ops t)::k)) cs) x.w:=by
 have hord:=ordOk_of hdr
 obtain⟨E,V,M,F,hrun,e1,e2,e3,e4,e5⟩:=run_is h
 have hmet:∀ i j,i<ops.size→j<ops.size→i≠j→(F i).meets (F j)=true→((Region.before ops).getD j 0).testBit i=true∨((Region.before ops).getD i 0).testBit j=true:=fun i j hi hj hne hm=>met_of hmt (e5 i hi) (e5 j hj) hne hm
 have hnone:∀ {α:Type} (W:Nat→Bool) (R:Nat→α) (d:α) n,lastG W R d (fun _=>false) n=d:=by
  intro α W R d n
  induction n with
  | zero=>rfl
  | succ n ih=>unfold lastG; simp[ih]
 refine linearise_ind hord (σ:=Act×Cx) (fun todo s=>Rel s.2→Mono x s.2→s.1.defers=a.defers→KMu P Final () (G (b.atR s.1 (.inRegion ops todo::k)) cs) s.2.w)
  (fun L s=>StoIs ops M F L s.2.S∧∃ env1,RVs s.2 env1 s.1.tmps∧EnvIs ops V L ops.size (E 0) env1) ?_ ?_ t (a,x) ⟨⟨fun id=>by rw[hnone,e3],by rw[hnone,e3]⟩,env,he,fun t => ?_⟩ hR (Mono.refl x) rfl
 ·rintro L ⟨a1,y⟩ i o ⟨hSt,env1,hr1,hE1⟩ hcl ho hLi hpre rest hrest hRy hMy hdf
  simp only at hr1 hRy hMy hdf hSt ⊢
  obtain⟨q1,q2⟩:=names_agree hord hdr hrun.env hcl hE1 ho hLi hpre
  have hw:=wanted_agree q1
  have hwe:=wanted_ok hr1 ops o
  have hE2:=envIs_put (V:=V) ho hE1 q2
  by_cases hwt:wantedD ops (E i) o=true
  ·obtain⟨T',hT1,hT2⟩:=dr_agree hrun hord hmet hcl ho hLi hpre hSt hwt
   rw[← stepDr_congr (evD_agree q1)] at hT1
   obtain⟨nid',hnid,hstep⟩:=dr_step hT1
   refine mu_op hP hty (call1_ok hc) hi hyl hk ho (by rw[hwe,hw]; exact hwt) hRy hnid hr1 hstep fun z u zS zR zM zV => ?_
   have hput:=put_ok (hr1.mono zM) (dst:=o.dst) zV
   exact hrest (a1.put o.dst u,z) ⟨by rw[zS]; exact hT2,_,hput.1,hE2⟩ zR (hMy.trans zM) (hput.2.trans hdf)
  ·have hwf:wantedD ops (E i) o=false:=by simpa using hwt
   obtain⟨hv,hM,hF⟩:=hrun.no i o ho hwf
   have hput:=put_ok hr1 (dst:=o.dst) (d:=V i) (v:=undef) (by rw[hv]; exact .val rfl)
   have hSt2:StoIs ops M F (upd L i true) y.S:=by
    refine⟨fun id => ?_,?_⟩
    ·rw[lastG_other (W:=fun j=>touch F j id) (by simp[touch,hF])]; exact hSt.get id
    ·rw[lastG_other (W:=top F) (by simp[top,hF])]; exact hSt.len
   exact mu_ctl hP (fun w=>⟨_,rG_unwanted ho (by rw[hwe,hw]; exact hwf)⟩) (hrest (a1.put o.dst undef,y) ⟨hSt2,_,hput.1,hE2⟩ hRy hMy (hput.2.trans hdf))
 ·rintro L ⟨a1,y⟩ ⟨hSt,env1,hr1,hE1⟩ hall hRy hMy hdf
  have henv:env1=env':=by
   refine List.ext_getElem? fun t => ?_
   rw[hE1 t,← e2,seq_env hrun.env ops.size (Nat.le_refl _) t]
   congr 1
   funext d
   rw[lastV_congr (i:=ops.size) (Nat.le_refl _) fun j hj _=>by simp[hall j hj,hj]]
  have hsto:y.S=S':=by
   refine List.ext_getElem? fun id => ?_
   have:=hSt.get id
   simp only at this
   rw[this,← e4,(run_store hrun id ops.size (Nat.le_refl _)).1]
   exact lastG_congr (Nat.le_refl _) fun j hj _=>by simp[hall j hj,hj]
  subst henv
  exact mu_ctl hP (fun w=>⟨_,rG_end_region⟩) (hn y a1 hsto hRy hMy hr1 hdf)
 ·rw[e1]
  have:∀ n,lastV ops V (fun _=>false) t n=none:=by
   intro n
   induction n with
   | zero=>rfl
   | succ n ih=>unfold lastV; simp[ih]
  rw[this]
  simp
theorem reg_ok (hP:Plain P) (hm:P.follows .mixedOrders=true) (hty:TyOk P ty) (hc:CallOK P Final call) (hi:IsoOK P Final iso) (hyl:YldOK P Final yf) (id:Nat) (ops:Array Oper) (draw:Bool):RegOK P Final ty iso call yf id ops draw:=by
 cases draw with
 | false=>exact reg_plain hP hty hc hi hyl id ops
 | true =>
  intro env env' S' x a b k cs h hk hR he hn
  simp only[regionD,if_true] at h
  split at h
  ·cases h
  ·rename_i hd
   have hdr:drawOk ops (Region.before ops)=true:=by simpa using hd
   refine mu_step hP fun n => ?_
   refine⟨_,_,_,_,rG_regionD hm,?_⟩
   split at h
   ·rename_i env1 h1
    cases h
    split at h1
    ·cases h1
    exact regionQ_ok (x:=x.dr _) hP hty hc hi hyl hk hdr h1 (hR.dr _) (he.mono (mono_dr x _)) (fun y a' q1 q2 q3 q4 q5=>hn y a' q1 q2 ((mono_dr x _).trans q3) q4 q5) _
   ·split at h
    ·rename_i env1 S1 fs h1
     split at h
     ·rename_i hmt
      cases h
      have M1:=(mono_dr x ((x.w.at n).drawn+1)).trans (mono_pad _ ops.size)
      exact regionW_ok (x:=(x.dr ((x.w.at n).drawn+1)).pad ops.size) hP hty hc hi hyl hk hdr h1 hmt (rel_pad (hR.dr _) _) (he.mono M1) (fun y a' q1 q2 q3 q4 q5=>hn y a' q1 q2 (M1.trans q3) q4 q5) _
     ·cases h
    ·cases h
def TabOK (P:Program) (Final:Machine→Trace→Prop) (tab:IsoF):Prop :=
 ∀ f args v,tab f args=some v→args.all DV.pure=true→v.pure=true→∀ x vals,Rel x→RVs x args vals→EnterOK P Final x f vals fun y u=>y.S=x.S∧Rel y∧Mono x y∧RV y v u
theorem iso_ok {tab:IsoF} (ht:TabOK P Final tab) (hc:CallOK P Final call):IsoOK P Final (isoOf tab call):=by
 intro f args v h hp
 unfold isoOf at h
 split at h
 ·rename_i v' h1
  split at h
  ·rename_i hv
   cases h
   exact⟨hv,ht f args v h1 hp hv⟩
  ·cases h
 ·split at h
  ·rename_i v' S' h1
   split at h
   ·rename_i hv
    cases h
    refine⟨hv,fun x vals hR ha => ?_⟩
    have ha':RVs x.bare args vals:=⟨ha.1,fun j c hj=>(ha.2 j c hj).pure_mono (x:=x) (y:=x.bare) (fun b o h=>⟨h,rfl⟩) (List.all_eq_true.1 hp c (List.mem_of_getElem? hj))⟩
    obtain⟨h2,h3⟩:=hc f args [] v' S' h1 x.bare vals hR.bare rfl ha'
    refine⟨h2,fun fr cs hn=>h3 fr cs fun y u ⟨q1,q2,q3,q4⟩ => ?_⟩
    have hb:=hR.behind q3 q2
    exact hn (x.behind y) u ⟨rfl,hb,mono_behind hR q3,q4.strip.pure_mono (x:=y) (y:=x.behind y) (fun b o h=>⟨h,rfl⟩) hv⟩
   ·cases h
  ·cases h
theorem deepP_ok (hP:Plain P) (hm:P.follows .mixedOrders=true) (hty:TyOk P ty) {tab:IsoF} (ht:TabOK P Final tab) {L:Nat}:∀ n,CallOK P Final (deepP P ty tab L n).1∧YldOK P Final (deepP P ty tab L n).2
 | 0=>⟨fun f args S v S' h=>by simp[deepP] at h,fun id args S v S' h=>by simp[deepP] at h⟩
 | n+1=>by
  obtain⟨ihc,ihy⟩:=deepP_ok hP hm hty ht (L:=L) n
  have hi:=iso_ok ht ihc
  have hreg:∀ id ops draw,RegOK P Final ty (isoOf tab (deepP P ty tab L n).1) (deepP P ty tab L n).1 (deepP P ty tab L n).2 id ops draw:=fun id ops draw=>reg_ok hP hm hty ihc hi ihy id ops draw
  refine⟨fun f args S v S' h x vals hR hS ha => ?_,roundD_ok hP ihc hreg⟩
  simp only[deepP] at h
  split at h
  ·rename_i fn hf
   exact bodyD_ok hP hty ihc hreg hf h hR hS ha
  ·cases h
end Go.Di
end
section
namespace Go.Co
open Go Go.Conc
open Go.ConcN (sumTo sumTo_upd sumTo_congr le_sumTo upd upd_same upd_ne)
open Classical
variable {cf cl:Nat} {tv z z2:Value} {ok2:Bool}
def wk (cf cl:Nat) (tv:Value):List Value→Pc
 | [] => .send cl tv .stop
 | v::vs => .send cf v (wk cf cl tv vs)
def clo (cf cl:Nat) (z2:Value) (ok2:Bool):Nat→Pc
 | 0 => .close cf .stop
 | k+1 => .recv cl ok2 z2 fun x=>match x with | some _=>clo cf cl z2 ok2 k | none => .bad
noncomputable def colN (cf:Nat) (z:Value):Nat→List Value→Pc
 | 0,_ => .recv cf true z fun x=>match x with | some _ => .bad | none => .ret
 | n+1,rem => .recv cf true z fun x=>match x with | some v=>if v∈rem then colN cf z n (rem.erase v) else .bad | none => .bad
noncomputable def col (cf:Nat) (z:Value) (rem:List Value):Pc:=colN cf z rem.length rem
def chain (cf cl:Nat) (tv z2:Value) (ok2:Bool) (K:Nat) (p:Pc):List (List Value)→Pc
 | [] => .go (clo cf cl z2 ok2 K) p
 | vs::todo => .go (wk cf cl tv vs) (chain cf cl tv z2 ok2 K p todo)
inductive Ro where
 | gone
 | work (vs:List Value)
def Ro.pc (cf cl:Nat) (tv:Value):Ro→Pc
 | gone => .stop
 | work vs=>wk cf cl tv vs
def Ro.vals:Ro→List Value
 | gone=>[]
 | work vs=>vs
def Ro.one:Ro→Nat
 | gone=>0
 | work _=>1
theorem meet_at (N:Net) (i j:Nat) (k k':Pc):(N.meet i j k k').pr j=k':=upd_same _ _ _
theorem start_at (N:Net) (i:Nat) (ch k:Pc):(N.start i ch k).pr N.n=ch:=upd_same _ _ _
theorem vals_gone:Ro.gone.vals=[]:=rfl
theorem vals_work (vs:List Value):(Ro.work vs).vals=vs:=rfl
theorem one_gone:Ro.gone.one=0:=rfl
theorem one_work (vs:List Value):(Ro.work vs).one=1:=rfl
theorem wk_shape (vs:List Value):∃ c v k,wk cf cl tv vs = .send c v k∧(c=cf∨c=cl):=by
 cases vs with
 | nil=>exact⟨_,_,_,rfl,.inr rfl⟩
 | cons v vs=>exact⟨_,_,_,rfl,.inl rfl⟩
theorem clo_shape (k:Nat):(∃ p,clo cf cl z2 ok2 k = .recv cl ok2 z2 p)∨clo cf cl z2 ok2 k = .close cf .stop:=by
 cases k with
 | zero=>exact .inr rfl
 | succ k=>exact .inl ⟨_,rfl⟩
theorem col_shape (rem:List Value):∃ p,col cf z rem = .recv cf true z p:=by
 unfold col
 cases rem.length with
 | zero=>exact⟨_,rfl⟩
 | succ k=>exact⟨_,rfl⟩
theorem chain_shape (K:Nat) (p:Pc) (todo:List (List Value)):∃ a b,chain cf cl tv z2 ok2 K p todo = .go a b:=by
 cases todo with
 | nil=>exact⟨_,_,rfl⟩
 | cons vs todo=>exact⟨_,_,rfl⟩
theorem pc_shape (r:Ro):(r = .gone∧r.pc cf cl tv = .stop)∨∃ vs,r = .work vs∧r.pc cf cl tv=wk cf cl tv vs:=by
 cases r with
 | gone=>exact .inl ⟨rfl,rfl⟩
 | work vs=>exact .inr ⟨vs,rfl,rfl⟩
theorem win_c {N:Net} {E:Nat→Prop} (hn:0<N.n) (h0:N.pr 0=col cf z []) (hst:∀ j,0<j→j<N.n→N.pr j = .stop) (hc:N.cl cf=some E) (hE:∀ j,0<j→j<N.n→E j):Win (fun c=>c=cf∨c=cl) N:=by
 have h0':N.pr 0 = .recv cf true z fun x=>match x with | some _ => .bad | none => .ret:=h0
 have hcase:∀ j,j<N.n→j=0∨N.pr j = .stop:=fun j hj=>(Nat.eq_zero_or_pos j).imp id fun h=>hst j h hj
 refine .step N (fun j hj => ?_) (by rw[h0']; simp) (fun i c v k hi hp => ?_) (fun j c ok z k hj hp => ?_) (.inr (.inr (.inl ⟨0,_,_,_,_,E,hn,h0',hc⟩)))
  (fun i j c v k ok z k' hi hj hp _ => ?_) (fun i c k hi hp => ?_) (fun i c k hi hp => ?_) (fun j c ok z k E' hj hp hE' => ?_) (fun i ch k hi hp => ?_)
 ·rcases hcase j hj with rfl | h
  ·rw[h0']; simp
  ·rw[h]; simp
 ·rcases hcase i hi with rfl | h
  ·rw[h0'] at hp; cases hp
  ·rw[h] at hp; cases hp
 ·rcases hcase j hj with rfl | h
  ·rw[h0'] at hp; cases hp; exact .inl rfl
  ·rw[h] at hp; cases hp
 ·rcases hcase i hi with rfl | h
  ·rw[h0'] at hp; cases hp
  ·rw[h] at hp; cases hp
 ·rcases hcase i hi with rfl | h
  ·rw[h0'] at hp; cases hp
  ·rw[h] at hp; cases hp
 ·rcases hcase i hi with rfl | h
  ·rw[h0'] at hp; cases hp
  ·rw[h] at hp; cases hp
 ·rcases hcase j hj with rfl | h
  ·rw[h0'] at hp
   cases hp
   rw[hc] at hE'
   cases hE'
   refine .done _ (show upd N.pr 0 _ 0=_ from upd_same _ _ _) fun j hj hjn=>⟨?_,.inr (hE j hj hjn)⟩
   show upd N.pr 0 _ j = .stop
   rw[upd_ne _ _ (by omega)]
   exact hst j hj hjn
  ·rw[h] at hp; cases hp
 ·rcases hcase i hi with rfl | h
  ·rw[h0'] at hp; cases hp
  ·rw[h] at hp; cases hp
structure InvB (cf cl:Nat) (tv z z2:Value) (ok2:Bool) (N:Net) (s:Nat→Ro) (jc k:Nat) (rem:List Value):Prop where
 jc0:0<jc
 jcn:jc<N.n
 main:N.pr 0=col cf z rem
 clos:N.pr jc=clo cf cl z2 ok2 k
 gone:s jc = .gone
 other:∀ j,0<j→j<N.n→j≠jc→N.pr j=(s j).pc cf cl tv
 zero:s 0 = .gone
 cnt:∀ v,rem.count v=sumTo N.n fun j=>(s j).vals.count v
 live:k=sumTo N.n fun j=>(s j).one
 opn:∀ c,N.cl c=none
 know:∀ j,0<j→j<N.n→s j = .gone→j≠jc→N.D jc j
theorem sumTo_zero {f:Nat→Nat} {n:Nat} (h:∀ i,i<n→f i=0):sumTo n f=0:=by
 induction n with
 | zero=>rfl
 | succ n ih=>simp[sumTo,ih fun i hi=>h i (by omega),h n (by omega)]
theorem sumTo_pos {f:Nat→Nat} {n:Nat} (h:sumTo n f≠0):∃ i,i<n∧f i≠0:=by
 by_cases hx:∃ i,i<n∧f i≠0
 ·exact hx
 ·exact absurd (sumTo_zero fun i hi=>by
   by_cases h0:f i=0
   ·exact h0
   ·exact absurd ⟨i,hi,h0⟩ hx) h
theorem win_b (hne:cf≠cl):∀ (M:Nat) (N:Net) (s:Nat→Ro) (jc k:Nat) (rem:List Value),rem.length+k<M→InvB cf cl tv z z2 ok2 N s jc k rem→Win (fun c=>c=cf∨c=cl) N:=by
 intro M
 induction M with
 | zero=>exact fun _ _ _ _ _ h=>absurd h (Nat.not_lt_zero _)
 | succ M ih =>
  intro N s jc k rem hM I
  have hn:0<N.n:=Nat.lt_of_lt_of_le I.jc0 (Nat.le_of_lt I.jcn)
  obtain⟨pc,hpc⟩:=col_shape (cf:=cf) (z:=z) rem
  have hcase:∀ j,j<N.n→j=0∨j=jc∨(0<j∧j≠jc∧((s j = .gone∧N.pr j = .stop)∨∃ vs,s j = .work vs∧N.pr j=wk cf cl tv vs)):=by
   intro j hj
   rcases Nat.eq_zero_or_pos j with rfl | hp
   ·exact .inl rfl
   by_cases hjc:j=jc
   ·exact .inr (.inl hjc)
   refine .inr (.inr ⟨hp,hjc,?_⟩)
   have:=I.other j hp hj hjc
   rcases pc_shape (cf:=cf) (cl:=cl) (tv:=tv) (s j) with ⟨h1,h2⟩ | ⟨vs,h1,h2⟩
   ·exact .inl ⟨h1,this.trans h2⟩
   ·exact .inr ⟨vs,h1,this.trans h2⟩
  have hsnd:∀ i c v p,i<N.n→N.pr i = .send c v p→0<i∧i≠jc∧((∃ vs,s i = .work (v::vs)∧c=cf∧p=wk cf cl tv vs)∨(s i = .work []∧c=cl∧p = .stop)):=by
   intro i c v p hi hp
   rcases hcase i hi with rfl | rfl | ⟨h1,h2,⟨h3,h4⟩ | ⟨vs,h3,h4⟩⟩
   ·rw[I.main,hpc] at hp; cases hp
   ·rw[I.clos] at hp
    rcases clo_shape (cf:=cf) (cl:=cl) (z2:=z2) (ok2:=ok2) k with ⟨p',h⟩ | h<;>rw[h] at hp<;>cases hp
   ·rw[h4] at hp; cases hp
   ·refine⟨h1,h2,?_⟩
    rw[h4] at hp
    cases vs with
    | nil=>cases hp; exact .inr ⟨h3,rfl,rfl⟩
    | cons v' vs=>cases hp; exact .inl ⟨vs,h3,rfl,rfl⟩
  have hrcv:∀ j c ok z' p,j<N.n→N.pr j = .recv c ok z' p→(j=0∧c=cf)∨(j=jc∧c=cl):=by
   intro j c ok z' p hj hp
   rcases hcase j hj with rfl | rfl | ⟨h1,h2,⟨h3,h4⟩ | ⟨vs,h3,h4⟩⟩
   ·rw[I.main,hpc] at hp; cases hp; exact .inl ⟨rfl,rfl⟩
   ·rw[I.clos] at hp
    rcases clo_shape (cf:=cf) (cl:=cl) (z2:=z2) (ok2:=ok2) k with ⟨p',h⟩ | h<;>rw[h] at hp<;>cases hp
    exact .inr ⟨rfl,rfl⟩
   ·rw[h4] at hp; cases hp
   ·rw[h4] at hp
    obtain⟨_,_,_,h,_⟩:=wk_shape (cf:=cf) (cl:=cl) (tv:=tv) vs
    rw[h] at hp; cases hp
  have hcls:∀ j c p,j<N.n→N.pr j = .close c p→j=jc∧c=cf∧p = .stop∧k=0:=by
   intro j c p hj hp
   rcases hcase j hj with rfl | rfl | ⟨h1,h2,⟨h3,h4⟩ | ⟨vs,h3,h4⟩⟩
   ·rw[I.main,hpc] at hp; cases hp
   ·rw[I.clos] at hp
    cases k with
    | zero=>cases hp; exact⟨rfl,rfl,rfl,rfl⟩
    | succ k=>cases hp
   ·rw[h4] at hp; cases hp
   ·rw[h4] at hp
    obtain⟨_,_,_,h,_⟩:=wk_shape (cf:=cf) (cl:=cl) (tv:=tv) vs
    rw[h] at hp; cases hp
  have hgo:∀ j a p,j<N.n→N.pr j ≠ .go a p:=by
   intro j a p hj hp
   rcases hcase j hj with rfl | rfl | ⟨h1,h2,⟨h3,h4⟩ | ⟨vs,h3,h4⟩⟩
   ·rw[I.main,hpc] at hp; cases hp
   ·rw[I.clos] at hp
    rcases clo_shape (cf:=cf) (cl:=cl) (z2:=z2) (ok2:=ok2) k with ⟨p',h⟩ | h<;>rw[h] at hp<;>cases hp
   ·rw[h4] at hp; cases hp
   ·rw[h4] at hp
    obtain⟨_,_,_,h,_⟩:=wk_shape (cf:=cf) (cl:=cl) (tv:=tv) vs
    rw[h] at hp; cases hp
  have hjc0:=I.jc0
  refine .step N (fun j hj => ?_) (by rw[I.main,hpc]; simp) (fun i c v p hi hp=>⟨I.opn c,?_⟩) (fun j c ok z' p hj hp => ?_) ?_
   (fun i j c v p ok z' p' hi hj hp hq => ?_) (fun i c p hi hp=>⟨I.opn c,.inl (hcls i c p hi hp).2.1⟩) (fun i c p hi hp => ?_) (fun j c ok z' p E' hj hp hE' => ?_) (fun i ch p hi hp=>absurd hp (hgo i ch p hi))
  ·rcases hcase j hj with rfl | rfl | ⟨h1,h2,⟨h3,h4⟩ | ⟨vs,h3,h4⟩⟩
   ·rw[I.main,hpc]; simp
   ·rw[I.clos]
    rcases clo_shape (cf:=cf) (cl:=cl) (z2:=z2) (ok2:=ok2) k with ⟨p',h⟩ | h<;>rw[h]<;>simp
   ·rw[h4]; simp
   ·rw[h4]
    obtain⟨_,_,_,h,_⟩:=wk_shape (cf:=cf) (cl:=cl) (tv:=tv) vs
    rw[h]; simp
  ·rcases (hsnd i c v p hi hp).2.2 with ⟨_,_,h,_⟩ | ⟨_,h,_⟩
   ·exact .inl h
   ·exact .inr h
  ·rcases hrcv j c ok z' p hj hp with ⟨_,h⟩ | ⟨_,h⟩
   ·exact .inl h
   ·exact .inr h
  ·
   by_cases hk:k=0
   ·exact .inr (.inl ⟨jc,cf,.stop,I.jcn,by rw[I.clos,hk]; rfl⟩)
   ·obtain⟨i,hi,hone⟩:=sumTo_pos (f:=fun j=>(s j).one) (n:=N.n) (by rw[← I.live]; exact hk)
    obtain⟨k',rfl⟩:=Nat.exists_eq_succ_of_ne_zero hk
    rcases hcase i hi with rfl | rfl | ⟨h1,h2,⟨h3,h4⟩ | ⟨vs,h3,h4⟩⟩
    ·simp[I.zero,Ro.one] at hone
    ·simp[I.gone,Ro.one] at hone
    ·simp[h3,Ro.one] at hone
    ·cases vs with
     | nil=>exact .inl ⟨i,jc,cl,_,_,_,_,_,hi,I.jcn,h4,I.clos⟩
     | cons v vs=>exact .inl ⟨i,0,cf,_,_,_,_,_,hi,hn,h4,by rw[I.main]; exact hpc⟩
  ·
   obtain⟨hi0,hijc,hs⟩:=hsnd i c v p hi hp
   rcases hs with ⟨vs,hs,rfl,rfl⟩ | ⟨hs,rfl,rfl⟩
   ·
    obtain rfl:j=0:=by
     rcases hrcv j _ ok z' p' hj hq with ⟨h,_⟩ | ⟨_,h⟩
     ·exact h
     ·exact absurd h hne
    have hv:v∈rem:=by
     have h1:=I.cnt v
     have h2:=le_sumTo (f:=fun j=>(s j).vals.count v) hi
     simp only[hs,vals_work,List.count_cons_self] at h2
     exact List.count_pos_iff.1 (by omega)
    have hlen:rem.length=(rem.erase v).length+1:=by
     rw[List.length_erase_of_mem hv]
     have:=List.length_pos_of_mem hv
     omega
    have hp':p' (some v)=col c z (rem.erase v):=by
     have hm:=I.main
     rw[hq] at hm
     unfold col at hm
     rw[hlen] at hm
     cases hm
     show (if v∈rem then colN c z (rem.erase v).length (rem.erase v) else .bad)=_
     rw[if_pos hv]
     rfl
    rw[hp']
    refine ih _ (upd s i (.work vs)) jc k (rem.erase v) (by omega) ⟨I.jc0,I.jcn,meet_at _ _ _ _ _,?_,?_,fun j hj hjn hjj => ?_,?_,fun v' => ?_,?_,I.opn,fun j hj hjn hg hjj => ?_⟩
    ·show upd (upd N.pr i _) 0 _ jc=_
     rw[upd_ne _ _ (by omega),upd_ne _ _ (Ne.symm hijc)]
     exact I.clos
    ·rw[upd_ne _ _ (Ne.symm hijc)]; exact I.gone
    ·show upd (upd N.pr i _) 0 _ j=_
     rw[upd_ne _ _ (by omega)]
     by_cases hji:j=i
     ·subst hji
      rw[upd_same,upd_same]; rfl
     ·rw[upd_ne _ _ hji,upd_ne _ _ hji]
      exact I.other j hj hjn hjj
    ·rw[upd_ne _ _ (by omega)]; exact I.zero
    ·have h1:=I.cnt v'
     have h2:=sumTo_upd s (.work vs) (fun r=>r.vals.count v') hi
     show (rem.erase v).count v'=sumTo N.n _
     simp only[hs,vals_work,List.count_cons] at h2
     rw[List.count_erase]
     split at h2<;>rename_i h3
     ·rw[if_pos h3]; omega
     ·rw[if_neg h3]; omega
    ·have h2:=sumTo_upd s (.work vs) Ro.one hi
     have h1:=I.live
     simp only[hs,one_work] at h2
     show k=sumTo N.n _
     omega
    ·by_cases hji:j=i
     ·subst hji; rw[upd_same] at hg; cases hg
     ·rw[upd_ne _ _ hji] at hg
      show if jc=i∨jc=0 then _ else N.D jc j
      rw[if_neg (by omega)]
      exact I.know j hj hjn hg hjj
   ·
    obtain rfl:j=jc:=by
     rcases hrcv j _ ok z' p' hj hq with ⟨_,h⟩ | ⟨h,_⟩
     ·exact absurd h.symm hne
     ·exact h
    obtain⟨k',rfl⟩:∃ k',k=k'+1:=by
     cases k with
     | zero=>rw[I.clos] at hq; cases hq
     | succ k=>exact⟨k,rfl⟩
    have hp':p' (some v)=clo cf c z2 ok2 k':=by
     have:=I.clos
     rw[hq] at this
     cases this
     rfl
    rw[hp']
    refine ih _ (upd s i .gone) j k' rem (by omega) ⟨I.jc0,I.jcn,?_,meet_at _ _ _ _ _,?_,fun x hx hxn hxj => ?_,?_,fun v' => ?_,?_,I.opn,fun x hx hxn hg hxj => ?_⟩
    ·show upd (upd N.pr i _) j _ 0=_
     rw[upd_ne _ _ (by omega),upd_ne _ _ (by omega)]
     exact I.main
    ·rw[upd_ne _ _ (Ne.symm hijc)]; exact I.gone
    ·show upd (upd N.pr i _) j _ x=_
     rw[upd_ne _ _ hxj]
     by_cases hxi:x=i
     ·subst hxi
      rw[upd_same,upd_same]; rfl
     ·rw[upd_ne _ _ hxi,upd_ne _ _ hxi]
      exact I.other x hx hxn hxj
    ·rw[upd_ne _ _ (by omega)]; exact I.zero
    ·have h1:=I.cnt v'
     have h2:=sumTo_upd s .gone (fun r=>r.vals.count v') hi
     show rem.count v'=sumTo N.n _
     simp only[hs,vals_work,vals_gone,List.count_nil] at h2
     omega
    ·have h2:=sumTo_upd s .gone Ro.one hi
     have h1:=I.live
     simp only[hs,one_work,one_gone] at h2
     show k'=sumTo N.n _
     omega
    ·show if j=i∨j=j then _ else _
     rw[if_pos (.inr rfl)]
     by_cases hxi:x=i
     ·exact .inr (.inr (.inl ⟨hxi,rfl⟩))
     ·rw[upd_ne _ _ hxi] at hg
      exact .inr (.inl (I.know x hx hxn hg hxj))
  ·
   obtain⟨rfl,rfl,rfl,rfl⟩:=hcls i c p hi hp
   have hall:∀ j,j<N.n→s j = .gone:=by
    intro j hj
    have h1:=le_sumTo (f:=fun j=>(s j).one) hj
    rw[← I.live] at h1
    cases h:s j with
    | gone=>rfl
    | work vs=>simp[h,Ro.one] at h1
   have hrem:rem=[]:=by
    cases hr:rem with
    | nil=>rfl
    | cons v vs =>
     have h1:=I.cnt v
     rw[sumTo_zero fun j hj=>by simp[hall j hj,Ro.vals],hr] at h1
     simp at h1
   subst hrem
   refine win_c (z:=z) (E:=fun y=>N.D i y∨(y=i∧Pc.stop=Pc.stop)) hn ?_ (fun j hj hjn => ?_) (upd_same _ _ _) (fun j hj hjn => ?_)
   ·show upd N.pr i _ 0=_
    rw[upd_ne _ _ (by omega)]
    exact I.main
   ·show upd N.pr i _ j=_
    by_cases hji:j=i
    ·subst hji; rw[upd_same]
    ·rw[upd_ne _ _ hji,I.other j hj hjn hji,hall j hjn]; rfl
   ·by_cases hji:j=i
    ·exact .inr ⟨hji,rfl⟩
    ·exact .inl (I.know j hj hjn (hall j hjn) hji)
  ·rw[I.opn c] at hE'; cases hE'
structure InvA (cf cl:Nat) (tv z z2:Value) (ok2:Bool) (K:Nat) (R:List Value) (N:Net) (s:Nat→Ro) (todo:List (List Value)):Prop where
 n0:0<N.n
 main:N.pr 0=chain cf cl tv z2 ok2 K (col cf z R) todo
 other:∀ j,0<j→j<N.n→N.pr j=(s j).pc cf cl tv
 zero:s 0 = .gone
 cnt:∀ v,R.count v=todo.flatten.count v+sumTo N.n fun j=>(s j).vals.count v
 live:K=todo.length+sumTo N.n fun j=>(s j).one
 opn:∀ c,N.cl c=none
 know:∀ j,0<j→j<N.n→s j = .gone→N.D 0 j
theorem sumTo_grow {s:Nat→Ro} {r:Ro} {n:Nat} (φ:Ro→Nat):sumTo (n+1) (fun j=>φ (upd s n r j))=sumTo n (fun j=>φ (s j))+φ r:=by
 simp only[sumTo,upd_same]
 rw[sumTo_congr (g:=fun j=>φ (s j)) fun j hj=>by rw[upd_ne _ _ (by omega)]]
theorem win_a (hne:cf≠cl) {K:Nat} {R:List Value}:∀ (todo:List (List Value)) (N:Net) (s:Nat→Ro),InvA cf cl tv z z2 ok2 K R N s todo→Win (fun c=>c=cf∨c=cl) N:=by
 intro todo
 induction todo with
 | nil =>
  intro N s I
  have hmain:N.pr 0 = .go (clo cf cl z2 ok2 K) (col cf z R):=I.main
  have hcase:∀ j,j<N.n→j=0∨(0<j∧((s j = .gone∧N.pr j = .stop)∨∃ vs c v k,s j = .work vs∧N.pr j = .send c v k∧(c=cf∨c=cl))):=by
   intro j hj
   refine(Nat.eq_zero_or_pos j).imp id fun hp=>⟨hp,?_⟩
   have:=I.other j hp hj
   rcases pc_shape (cf:=cf) (cl:=cl) (tv:=tv) (s j) with ⟨h1,h2⟩ | ⟨vs,h1,h2⟩
   ·exact .inl ⟨h1,this.trans h2⟩
   ·obtain⟨c,v,k,h3,h4⟩:=wk_shape (cf:=cf) (cl:=cl) (tv:=tv) vs
    exact .inr ⟨vs,c,v,k,h1,(this.trans h2).trans h3,h4⟩
  refine .step N (fun j hj => ?_) (by rw[hmain]; simp) (fun i c v p hi hp=>⟨I.opn c,?_⟩) (fun j c ok z' p hj hp => ?_) (.inr (.inr (.inr ⟨0,_,_,I.n0,hmain⟩)))
   (fun i j c v p ok z' p' hi hj hp hq => ?_) (fun i c p hi hp => ?_) (fun i c p hi hp => ?_) (fun j c ok z' p E' hj hp hE' => ?_) (fun i ch p hi hp => ?_)
  ·rcases hcase j hj with rfl | ⟨_,⟨_,h⟩ | ⟨_,_,_,_,_,h,_⟩⟩
   ·rw[hmain]; simp
   ·rw[h]; simp
   ·rw[h]; simp
  ·rcases hcase i hi with rfl | ⟨_,⟨_,h⟩ | ⟨_,_,_,_,_,h,h'⟩⟩
   ·rw[hmain] at hp; cases hp
   ·rw[h] at hp; cases hp
   ·rw[h] at hp; cases hp; exact h'
  ·rcases hcase j hj with rfl | ⟨_,⟨_,h⟩ | ⟨_,_,_,_,_,h,_⟩⟩
   ·rw[hmain] at hp; cases hp
   ·rw[h] at hp; cases hp
   ·rw[h] at hp; cases hp
  ·rcases hcase j hj with rfl | ⟨_,⟨_,h⟩ | ⟨_,_,_,_,_,h,_⟩⟩
   ·rw[hmain] at hq; cases hq
   ·rw[h] at hq; cases hq
   ·rw[h] at hq; cases hq
  ·rcases hcase i hi with rfl | ⟨_,⟨_,h⟩ | ⟨_,_,_,_,_,h,_⟩⟩
   ·rw[hmain] at hp; cases hp
   ·rw[h] at hp; cases hp
   ·rw[h] at hp; cases hp
  ·rcases hcase i hi with rfl | ⟨_,⟨_,h⟩ | ⟨_,_,_,_,_,h,_⟩⟩
   ·rw[hmain] at hp; cases hp
   ·rw[h] at hp; cases hp
   ·rw[h] at hp; cases hp
  ·rw[I.opn c] at hE'; cases hE'
  ·rcases hcase i hi with rfl | ⟨_,⟨_,h⟩ | ⟨_,_,_,_,_,h,_⟩⟩
   ·rw[hmain] at hp
    cases hp
    have hn:=I.n0
    refine win_b (tv:=tv) (z:=z) (z2:=z2) (ok2:=ok2) hne (R.length+K+1) _ (upd s N.n .gone) N.n K R (Nat.lt_succ_self _) ⟨hn,Nat.lt_succ_self _,?_,start_at _ _ _ _,upd_same _ _ _,fun j hj hjn hjj => ?_,?_,fun v => ?_,?_,I.opn,fun j hj hjn hg hjj => ?_⟩
    ·show upd (upd N.pr 0 _) N.n _ 0=_
     rw[upd_ne _ _ (by omega),upd_same]
    ·show upd (upd N.pr 0 _) N.n _ j=_
     have hjn':j<N.n:=by
      have:j<N.n+1:=hjn
      omega
     rw[upd_ne _ _ hjj,upd_ne _ _ (by omega),upd_ne _ _ hjj]
     exact I.other j hj hjn'
    ·rw[upd_ne _ _ (by omega)]; exact I.zero
    ·show R.count v=sumTo (N.n+1) _
     rw[sumTo_grow (s:=s) (r := .gone) fun r=>r.vals.count v]
     have:=I.cnt v
     simpa [Ro.vals] using this
    ·show K=sumTo (N.n+1) _
     rw[sumTo_grow (s:=s) (r := .gone) Ro.one]
     have:=I.live
     simpa [Ro.one] using this
    ·show if N.n=N.n then N.D 0 j else _
     rw[if_pos rfl]
     have hjn':j<N.n:=by
      have:j<N.n+1:=hjn
      omega
     rw[upd_ne _ _ hjj] at hg
     exact I.know j hj hjn' hg
   ·rw[h] at hp; cases hp
   ·rw[h] at hp; cases hp
 | cons vs todo ih =>
  intro N s I
  have hmain:N.pr 0 = .go (wk cf cl tv vs) (chain cf cl tv z2 ok2 K (col cf z R) todo):=I.main
  have hcase:∀ j,j<N.n→j=0∨(0<j∧((s j = .gone∧N.pr j = .stop)∨∃ vs c v k,s j = .work vs∧N.pr j = .send c v k∧(c=cf∨c=cl))):=by
   intro j hj
   refine(Nat.eq_zero_or_pos j).imp id fun hp=>⟨hp,?_⟩
   have:=I.other j hp hj
   rcases pc_shape (cf:=cf) (cl:=cl) (tv:=tv) (s j) with ⟨h1,h2⟩ | ⟨vs,h1,h2⟩
   ·exact .inl ⟨h1,this.trans h2⟩
   ·obtain⟨c,v,k,h3,h4⟩:=wk_shape (cf:=cf) (cl:=cl) (tv:=tv) vs
    exact .inr ⟨vs,c,v,k,h1,(this.trans h2).trans h3,h4⟩
  refine .step N (fun j hj => ?_) (by rw[hmain]; simp) (fun i c v p hi hp=>⟨I.opn c,?_⟩) (fun j c ok z' p hj hp => ?_) (.inr (.inr (.inr ⟨0,_,_,I.n0,hmain⟩)))
   (fun i j c v p ok z' p' hi hj hp hq => ?_) (fun i c p hi hp => ?_) (fun i c p hi hp => ?_) (fun j c ok z' p E' hj hp hE' => ?_) (fun i ch p hi hp => ?_)
  ·rcases hcase j hj with rfl | ⟨_,⟨_,h⟩ | ⟨_,_,_,_,_,h,_⟩⟩
   ·rw[hmain]; simp
   ·rw[h]; simp
   ·rw[h]; simp
  ·rcases hcase i hi with rfl | ⟨_,⟨_,h⟩ | ⟨_,_,_,_,_,h,h'⟩⟩
   ·rw[hmain] at hp; cases hp
   ·rw[h] at hp; cases hp
   ·rw[h] at hp; cases hp; exact h'
  ·rcases hcase j hj with rfl | ⟨_,⟨_,h⟩ | ⟨_,_,_,_,_,h,_⟩⟩
   ·rw[hmain] at hp; cases hp
   ·rw[h] at hp; cases hp
   ·rw[h] at hp; cases hp
  ·rcases hcase j hj with rfl | ⟨_,⟨_,h⟩ | ⟨_,_,_,_,_,h,_⟩⟩
   ·rw[hmain] at hq; cases hq
   ·rw[h] at hq; cases hq
   ·rw[h] at hq; cases hq
  ·rcases hcase i hi with rfl | ⟨_,⟨_,h⟩ | ⟨_,_,_,_,_,h,_⟩⟩
   ·rw[hmain] at hp; cases hp
   ·rw[h] at hp; cases hp
   ·rw[h] at hp; cases hp
  ·rcases hcase i hi with rfl | ⟨_,⟨_,h⟩ | ⟨_,_,_,_,_,h,_⟩⟩
   ·rw[hmain] at hp; cases hp
   ·rw[h] at hp; cases hp
   ·rw[h] at hp; cases hp
  ·rw[I.opn c] at hE'; cases hE'
  ·rcases hcase i hi with rfl | ⟨_,⟨_,h⟩ | ⟨_,_,_,_,_,h,_⟩⟩
   ·rw[hmain] at hp
    cases hp
    have hn:=I.n0
    refine ih _ (upd s N.n (.work vs)) ⟨Nat.succ_pos _,?_,fun j hj hjn => ?_,?_,fun v => ?_,?_,I.opn,fun j hj hjn hg => ?_⟩
    ·show upd (upd N.pr 0 _) N.n _ 0=_
     rw[upd_ne _ _ (by omega),upd_same]
    ·show upd (upd N.pr 0 _) N.n _ j=_
     by_cases hjj:j=N.n
     ·rw[hjj,upd_same,upd_same]; rfl
     ·have hjn':j<N.n:=by
       have:j<N.n+1:=hjn
       omega
      rw[upd_ne _ _ hjj,upd_ne _ _ (by omega),upd_ne _ _ hjj]
      exact I.other j hj hjn'
    ·rw[upd_ne _ _ (by omega)]; exact I.zero
    ·show R.count v=_+sumTo (N.n+1) _
     rw[sumTo_grow (s:=s) (r := .work vs) fun r=>r.vals.count v]
     have:=I.cnt v
     simp only[List.flatten_cons,List.count_append] at this
     show _=_+(_+vs.count v)
     omega
    ·show K=_+sumTo (N.n+1) _
     rw[sumTo_grow (s:=s) (r := .work vs) Ro.one]
     have:=I.live
     simp only[List.length_cons] at this
     show _=_+(_+1)
     omega
    ·by_cases hjj:j=N.n
     ·subst hjj; rw[upd_same] at hg; cases hg
     ·have hjn':j<N.n:=by
       have:j<N.n+1:=hjn
       omega
      rw[upd_ne _ _ hjj] at hg
      show if 0=N.n then _ else N.D 0 j
      rw[if_neg (by omega)]
      exact I.know j hj hjn' hg
   ·rw[h] at hp; cases hp
   ·rw[h] at hp; cases hp
theorem win_collect (hne:cf≠cl) (todo:List (List Value)) {n:Nat} (hn:0<n):Win (fun c=>c=cf∨c=cl) (entry n (chain cf cl tv z2 ok2 todo.length (col cf z todo.flatten) todo)):=by
 refine win_a (tv:=tv) (z:=z) (z2:=z2) (ok2:=ok2) hne todo _ (fun _ => .gone) ⟨hn,rfl,fun j hj hjn => ?_,rfl,fun v => ?_,?_,fun _=>rfl,fun j hj hjn _=>⟨hj,hjn⟩⟩
 ·have:j≠0:=by omega
  simp[entry,this,Ro.pc]
 ·rw[sumTo_zero fun j hj=>by simp[Ro.vals]]; simp
 ·rw[sumTo_zero fun j hj=>by simp[Ro.one]]; simp
end Go.Co
end
