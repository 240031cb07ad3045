import Derived.Test.YtedcgbkilmlbhaaGreatPk04
import Derived.Test.YtedcgbkilmlbhaaGreatPk01
import Derived.Test.YtedcgbkilmlbhaaGreatProg
import Derived.Test.YtedcgbkilmlbhaaGreatChecked
import Derived.KernelRfl
import Derived.Laws.BitsLemmas
import Derived.Laws.StructEq
section
namespace Go.Tv
open Go Go.Di
def Yj (ty:ir) (te:List TV) (tS:List TB):ResultVar→Option TV
 | .tmp t=>some (te.getD t .unk)
 | .cell a t=>match ty t,te.getD a .unk with
  | some d,.ptr id off=>match tS[id]? with
   | some (.cells l)=>zf d.k.isAgg d.size l off
   | _=>none
  | _,_=>none
def A9 (ty:ir) (te:List TV) (tS:List TB):List ResultVar→Option (List TV)
 | []=>some []
 | x::r=>match Yj ty te tS x,A9 ty te tS r with
  | some v,some l=>some (v::l)
  | _,_=>none
def kO:List TV→TV
 | [d]=>d
 | l => .gd l
variable {P:Program} {ty:ir} {tt:TypeId→Option TT} {ι ι' w:mm} {S S':ax} {te mW:List TV} {env:List DV} {tS jR:List TB} {aM:bV} {call:bP} {yf:fI} {o:Oper} {aH nT:Nat} {B:List Nat} {r:TR} {ops:Array Oper}
theorem tI (h:cK ι te tS env S):∀ {rs:List ResultVar} {vs:List TV},A9 ty te tS rs=some vs→∃ ds,si ty env S rs=some ds∧dw ι S vs ds
 | [],vs,hx=>by cases hx; exact⟨[],rfl,cF⟩
 | x::r,vs,hx=>by
  simp only[A9] at hx
  split at hx
  ·rename_i v l h1 h2
   cases hx
   obtain⟨ds,k1,k2⟩:=tI h h2
   cases x with
   | tmp t =>
    cases h1
    exact⟨_,by simp only[si,k1,Option.map_some],aP (sO h.env t) k2⟩
   | cell a t =>
    simp only[Yj] at h1
    split at h1
    ·rename_i d id off e1 e2
     split at h1
     ·rename_i l' e3
      have hg:=sO h.env a
      rw[e2] at hg
      generalize hd:env.getD a bh=da at hg
      cases da<;>simp only[RT] at hg
      obtain⟨g1,rfl⟩:=hg
      obtain⟨jE,gR,m1,m2,m3⟩:=h.cells id l' e3
      rw[g1] at m1
      cases m1
      obtain⟨q,m4,m5⟩:=qf m3 h1
      exact⟨q::ds,by simp only[si,hd,kg,e1,m2,m4,k1],aP m5 k2⟩
     ·cases h1
    ·cases h1
  ·cases hx
theorem Ek {ts:List (Option TT)} {vs:List TV} {ds:List DV} (hp:vs.all gQ=true) (h:dw ι S vs ds):(oneOf ds).strip.pure=true∧RT ι' S' (kO (bT ts vs)) (oneOf ds).strip:=by
 have many:∀ {ts:List (Option TT)} {l:List TV} {m:List DV},l.all gQ=true→dw ι S l m→(m.map DV.dG).all DV.jV=true∧dw ι' S' (bT ts l) (m.map DV.dG):=by
  intro ts l
  induction l generalizing ts with
  | nil=>intro m _ h; rw[aU h]; cases ts<;>exact⟨rfl,by simp only[bT,fK]; exact cF⟩
  | cons a l ih =>
   intro m hp h
   obtain⟨d,m',rfl,h1,h2⟩:=aj h
   simp only[List.all_cons,aI] at hp
   cases ts with
   | nil =>
    obtain⟨k1,k0,k2⟩:=mg (t:=none) (ι':=ι') (S':=S') hp.1 h1
    obtain⟨k3,k4⟩:=ih (ts:=[]) hp.2 h2
    have e:d.strip=d.dG:=by cases d<;>first | rfl | exact(k0 _ rfl).elim
    rw[e] at k1 k2
    have e2:d.dG.jV=true:=by cases d<;>first | exact k1 | exact(k0 _ rfl).elim
    exact⟨by rw[bQ,List.all_cons,e2,k3]; rfl,by simp only[bT,bQ]; exact aP k2 k4⟩
   | cons t ts =>
    obtain⟨k1,k0,k2⟩:=mg (t:=t) (ι':=ι') (S':=S') hp.1 h1
    obtain⟨k3,k4⟩:=ih (ts:=ts) hp.2 h2
    have e:d.strip=d.dG:=by cases d<;>first | rfl | exact(k0 _ rfl).elim
    rw[e] at k1 k2
    have e2:d.dG.jV=true:=by cases d<;>first | exact k1 | exact(k0 _ rfl).elim
    exact⟨by rw[bQ,List.all_cons,e2,k3]; rfl,by simp only[bT,bQ]; exact aP k2 k4⟩
 match vs,ds,hp,h with
 | [],ds,_,h=>rw[aU h]; cases ts<;>exact⟨rfl,by simp only[bT,kO,oneOf,DV.strip,RT,fK]; exact cF⟩
 | [v],ds,hp,h =>
  obtain⟨d,m',rfl,h1,h2⟩:=aj h
  rw[aU h2]
  simp only[List.all_cons,List.all_nil,Bool.and_true] at hp
  cases ts with
  | nil =>
   obtain⟨k1,k0,k2⟩:=mg (t:=none) (ι':=ι') (S':=S') hp h1
   exact⟨k1,k2⟩
  | cons t ts =>
   obtain⟨k1,k0,k2⟩:=mg (t:=t) (ι':=ι') (S':=S') hp h1
   cases ts<;>exact⟨k1,k2⟩
 | v::u::l,ds,hp,h =>
  obtain⟨k1,k2⟩:=many (ts:=ts) hp h
  obtain⟨d,m',rfl,h1,h2⟩:=aj h
  obtain⟨d',m'',rfl,h3,h4⟩:=aj h2
  refine⟨k1,?_⟩
  have e:∀ {ts:List (Option TT)},kO (bT ts (v::u::l)) = .gd (bT ts (v::u::l)):=by
   intro ts
   cases ts with
   | nil=>simp only[bT,kO]
   | cons t ts=>cases ts<;>simp only[bT,kO]
  rw[e]
  simp only[oneOf,DV.strip,RT]
  exact k2
theorem Oz {ts:List (Option TT)} {vs:List TV} {ds:List DV} (hp:vs.all gQ=true) (h:dw ι S vs ds):RT ι' S' (kO (bT ts vs)) (oneOf ds):=by
 have k:=kM (ts:=ts) (ι':=ι') (S':=S') hp h
 match vs,ds,hp,h,k with
 | [],ds,_,h,k=>rw[aU h]; cases ts<;>(simp only[bT,kO,oneOf,RT]; exact cF)
 | [v],ds,hp,h,k =>
  obtain⟨d,m',rfl,h1,h2⟩:=aj h
  rw[aU h2] at k ⊢
  cases ts with
  | nil=>simp only[bT] at k ⊢; obtain⟨_,_,e,k1,-⟩:=aj k; cases e; exact k1
  | cons t ts=>cases ts<;>(simp only[bT] at k ⊢; obtain⟨_,_,e,k1,-⟩:=aj k; cases e; exact k1)
 | v::u::l,ds,hp,h,k =>
  obtain⟨d,m',rfl,h1,h2⟩:=aj h
  obtain⟨d',m'',rfl,h3,h4⟩:=aj h2
  have e:∀ {ts:List (Option TT)},kO (bT ts (v::u::l)) = .gd (bT ts (v::u::l)):=by
   intro ts
   cases ts with
   | nil=>simp only[bT,kO]
   | cons t ts=>cases ts<;>simp only[bT,kO]
  rw[e]
  simp only[oneOf,RT]
  exact k
section
variable (P:Program) (ty:ir) (bG:bV) (L:Nat)
def Ah (n:Nat):bV:=kS bG (ee P ty bG L n).1
def zy (n:Nat):bP:=(ee P ty bG L n).1
def yfN (n:Nat):fI:=(ee P ty bG L n).2
end
theorem iS {t:TT}:∀ {l:List t.den} {ds:List DV},fF t l ds→ds.length=l.length*t.size
 | [],ds,h=>by simp only[fF] at h; subst h; simp
 | x::l,ds,h=>by
  simp only[fF] at h
  obtain⟨c,m,rfl,h1,h2⟩:=h
  rw[b9,mU h1,iS h2,List.length_cons,jL,Nat.one_mul,Nat.add_comm]
theorem vZ {t:TT} (h0:(t.agg||t.size==1)=true):∀ {l:List t.den} {ds:List DV},fF t l ds→eN (CR t) t.agg l (rowsOf t.size t.agg ds l.length)
 | [],ds,h=>by simp only[fF] at h; subst h; simp[rowsOf,eN]
 | x::l,ds,h=>by
  simp only[fF] at h
  obtain⟨c,m,rfl,h1,h2⟩:=h
  rw[List.length_cons,zL (mU h1)]
  refine⟨?_,vZ h0 h2⟩
  cases ha:t.agg with
  | true=>exact⟨h1,by simp[wU]⟩
  | false =>
   have h3:=row_one h1 ha
   rw[ha] at h3
   have hs:t.size=1:=by rw[ha] at h0; simpa using h0
   have e2:(c++m).getD 0 bh=c.getD 0 bh:=by
    have:=mU h1
    simp only[aN,fq (show 0<c.length by omega)]
   simp only[aF,if_false]
   rw[e2]
   exact h3
theorem DN (h:cK ι te tS env S) {g:Nat} {t t':TT} {e:Nat} {l:List t'.den} {z:Bool} {d:DV} (hg:tS[g]? = some (.rows t' e l z)) (hd:RT ι S (.so g t) d) (ht:t'=t):∃ id ds,d = .jD id l.length t'.agg∧ι g=some id∧S[id]? = some (.op e t'.size ds z)∧Da S id l.length=some (e,t'.size,ds,z)∧fF t' l ds∧0<t'.size∧(t'.agg||t'.size==1)=true:=by
 subst ht
 cases d<;>simp only[RT] at hd
 rename_i id n agg
 obtain⟨h1,rfl,e',s',l',z',h2,h3⟩:=hd
 obtain⟨q0,q1,ds,q2,q3⟩:=h.mp g _ hg id h1
 rw[h2] at q2
 cases q2
 have hl:=iS q3
 have hn:n=l.length:=Nat.eq_of_mul_eq_mul_right q0 (h3.trans hl)
 subst hn
 refine⟨id,l',rfl,h1,h2,?_,q3,q0,q1⟩
 unfold Da
 rw[h2]
 simp only[h3,if_true]
theorem MG {id n:Nat} {t:TT} {e:Nat} {ds:List DV} (h:Da S id n=some (e,t.size,ds,true)) (h0:0<t.size) (h1:(t.agg||t.size==1)=true):lS S (.jD id n t.agg) = .sl (rowsOf t.size t.agg ds n) none ⟨false,some false⟩:=by
 simp only[lS,h,gB h0,h1,gA,if_true]
def wH (tS:List TB):List TV→List TV
 | [.so g t]=>match tS[g]? with
  | some (.rows t' _ l _)=>if h:t'=t then [.sl t (h▸l) .no] else [.so g t]
  | _=>[.so g t]
 | vs=>vs
theorem abx (h:cK ι te tS env S) {vs:List TV} {ds:List DV} (hd:dw ι S vs ds) (hp:(wH tS vs).all gQ=true):∃ gR,oneOf gR=lS (uH S (oneOf ds)) (oneOf ds)∧dw ι S (wH tS vs) gR:=by
 have other:vs.all gQ=true→∃ gR,oneOf gR=lS (uH S (oneOf ds)) (oneOf ds)∧dw ι S vs gR:=fun hp=>by
  refine⟨ds,?_,hd⟩
  match vs,ds,hd,hp with
  | [],ds,hd,_=>rw[aU hd]; rfl
  | [v],ds,hd,hp =>
   obtain⟨d,m',rfl,k1,k2⟩:=aj hd
   rw[aU k2]
   simp only[oneOf]
   cases v<;>first | (cases hp; done) | skip
   all_goals cases d<;>simp only[RT] at k1<;>rfl
  | v::u::l,ds,hd,_ =>
   obtain⟨d,m',rfl,k1,k2⟩:=aj hd
   obtain⟨d',m'',rfl,k3,k4⟩:=aj k2
   rfl
 unfold wH at hp ⊢
 split at hp
 ·rename_i g t
  split at hp
  ·rename_i t' e l z hg
   split at hp
   ·rename_i ht
    obtain⟨d,m',rfl,k1,k2⟩:=aj hd
    rw[aU k2]
    obtain⟨id,cs,rfl,h1,h2,h3,h4,h5,h6⟩:=DN h hg k1 ht
    subst ht
    refine⟨[.sl (rowsOf t'.size t'.agg cs l.length) none ⟨false,some false⟩],?_,?_⟩
    ·simp only[oneOf]
     symm
     have hS:Da (uH S (.jD id l.length t'.agg)) id l.length=some (e,t'.size,cs,true):=by
      cases z with
      | true=>simp only[uH,h3]
      | false =>
       have hlt:=(aJ.1 h2).1
       have hn:l.length*t'.size=cs.length:=(iS h4).symm
       have e1:uH S (.jD id l.length t'.agg)=S.set id (.op e t'.size cs true):=by simp only[uH,h3]
       rw[e1]
       unfold Da
       rw[aQ,if_pos rfl,if_pos hlt]
       simp only[hn,if_true]
     exact MG hS h5 h6
    ·simp only[dif_pos]
     exact gf (by simp only[RT,uL,and_true]; exact vZ h6 h4)
   ·rename_i ht
    rw[dif_neg ht]
    exact other hp
  ·exact other hp
 ·exact other hp
def aae (ty:ir) (rs:List ResultVar) (mX:List (Option TT)) (Q:TV→Prop) (e:DX) (te:List TV) (tS:List TB):Prop :=
 (match e with | .exit _=>False | _=>True)∧∃ vs,A9 ty te tS rs=some vs∧(wH tS vs).all gQ=true∧refs (kO (bT mX (wH tS vs)))=[]∧Q (kO (bT mX (wH tS vs)))
theorem Tz {bG:bV} {L n:Nat} {f:FuncId} {fn:Func} {c:Code} {targs:List TV} {mX:List (Option TT)} {Q:TV→Prop} (hf:P.funcs[f]? = some fn) (hb:fn.body=some c) (ht:∀ a,dw dK [] targs a→bG f a=none)
  (h:WT P ty (Ah P ty bG L n) (zy P ty bG L n) (yfN P ty bG L n) [] L f false c (targs++List.replicate (fn.ntmps-targs.length) .unk) [] (aae ty fn.results.toList mX Q)):sE (Ah P ty bG L (n+1)) f targs Q:=by
 intro cZ hd
 have hlen:=iB hd
 have hR:cK dK (targs++List.replicate (fn.ntmps-targs.length) .unk) [] (cZ++List.replicate (fn.ntmps-cZ.length) bh) []:=by
  refine⟨fB hd (by rw[hlen]; exact tF _ _),fun k l hk=>(by simp at hk),fun k e s hk=>(by simp at hk),fun k k' hk=>(by cases hk),fun i j k' hi=>(by cases hi),fun k b hk=>(by simp at hk)⟩
 obtain⟨e,aD,S',ι',cT,cU,h1,h2,h3,h4,h5,h6⟩:=h dK _ [] hR (fun k hk=>(by cases hk))
 obtain⟨h6,vs,h7,h8,h9,x6⟩:=h6
 obtain⟨ds,k1,k2⟩:=tI h2 h7
 obtain⟨ds2,c1,c2⟩:=abx h2 k2 h8
 obtain⟨k3,k4⟩:=Ek (ts:=mX) (ι':=dK) (S':=[]) h8 c2
 refine⟨(oneOf ds2).strip,_,?_,k3,k4,h9,x6⟩
 have hc:(ee P ty bG L (n+1)).1 f cZ []=some (oneOf ds,S'):=by
  simp only[ee,hf,uW,hb]
  have JA:ct P ty (kS bG (ee P ty bG L n).1) (ee P ty bG L n).1 (ee P ty bG L n).2 L f false c (cZ++List.replicate (fn.ntmps-cZ.length) bh) []=some (e,aD,S'):=h1
  rw[JA]
  cases e with
  | normal=>simp only[k1,Option.map_some]
  | ret=>simp only[k1,Option.map_some]
  | exit id=>exact h6.elim
 simp only[Ah,kS,ht _ hd,hc,← c1,k3,if_true]
def Qh (ty:ir) (rs:List ResultVar) (mX:List (Option TT)) (pL:List (Option TT)) (Q:TV→List TV→Prop) (e:DX) (te:List TV) (tS:List TB):Prop :=
 (match e with | .exit _=>False | _=>True)∧∃ vs ts,A9 ty te tS rs=some vs∧vs.all gQ=true∧refs (kO (bT mX vs))=[]∧tS[0]? = some (.cells ts)∧ts.all gQ=true∧ji (bT pL ts)=[]∧Q (kO (bT mX vs)) (bT pL ts)
theorem TS {bG:bV} {L n:Nat} {f:FuncId} {fn:Func} {c:Code} {targs ts:List TV} {mX pL:List (Option TT)} {Q:TV→List TV→Prop} (hf:P.funcs[f]? = some fn) (hb:fn.body=some c)
  (h:WT P ty (Ah P ty bG L n) (zy P ty bG L n) (yfN P ty bG L n) [0] L f false c (targs++List.replicate (fn.ntmps-targs.length) .unk) [.cells ts] (Qh ty fn.results.toList mX pL Q)):zC (zy P ty bG L (n+1)) f targs ts Q:=by
 intro ι cZ S hR
 have hlen:=iB hR.env
 have mP:cK ι (targs++List.replicate (fn.ntmps-targs.length) .unk) [.cells ts] (cZ++List.replicate (fn.ntmps-cZ.length) bh) S :=
  ⟨fB hR.env (by rw[hlen]; exact tF _ _),hR.cells,hR.own,hR.xY,hR.inj,hR.mp⟩
 obtain⟨e,aD,S',ι',cT,cU,h1,h2,h3,h4,h5,h6⟩:=h ι _ S mP (fun k hk=>(by
  have:k=0:=by simpa using hk
  subst this
  exact⟨ts,rfl⟩))
 obtain⟨h6,vs,uq,h7,h8,h9,x6,GQ,XW,h13⟩:=h6
 obtain⟨ds,k1,k2⟩:=tI h2 h7
 obtain⟨k',gR,m1,m2,m3⟩:=h2.cells 0 uq x6
 refine⟨oneOf ds,S',ι',_,bT pL uq,k',gR,?_,Oz (ts:=mX) h8 k2,h9,XW,by rw[← h4.base 0 (by simp)]; exact m1,m2,kM GQ m3,h4,h5,h13⟩
 simp only[zy,ee,hf,uW,hb]
 have JA:ct P ty (kS bG (ee P ty bG L n).1) (ee P ty bG L n).1 (ee P ty bG L n).2 L f false c (cZ++List.replicate (fn.ntmps-cZ.length) bh) S=some (e,aD,S'):=h1
 rw[JA]
 cases e with
 | normal=>simp only[k1,Option.map_some]
 | ret=>simp only[k1,Option.map_some]
 | exit id=>exact h6.elim
end Go.Tv
end
section
namespace Go.Tv
open Go Go.Di
section
variable (P:Program) (ty:ir) (tt:TypeId→Option TT)
def Qo:List TV→Option Nat
 | []=>none
 | v::l=>match refs v with
  | k::_=>if isRef v then some k else Qo l
  | []=>Qo l
end
variable {P:Program} {ty:ir} {tt:TypeId→Option TT} {ι ι' w:mm} {S S':ax} {te mW:List TV} {env:List DV} {tS jR:List TB} {aM:bV} {call:bP} {yf:fI} {o:Oper} {aH nT:Nat} {B:List Nat} {r:TR} {ops:Array Oper} {L:Nat} {fn:FuncId} {iJ:Bool} {a b c:Code} {Q Q':DX→List TV→List TB→Prop}
variable {fs:List dD}
def WI (P:Program) (ty:ir) (aM:bV) (call:bP) (yf:fI) (B:List Nat) (L:Nat) (fn:FuncId) (iJ:Bool) (n:Nat) (c:Code) (te:List TV) (tS:List TB) (Q:DX→List TV→List TB→Prop):Prop :=
 ∀ ι env S,cK ι te tS env S→pg B tS→∃ e aD S' ι' cT cU,ni (ct P ty aM call yf L fn iJ c) n env S=some (e,aD,S')∧cK ι' cT cU aD S'∧pg B cU∧Fr B ι S ι' S'∧Nn S.length S S'∧Q e cT cU
theorem yQ {f:List DV→ax→Option (DX×List DV×ax)}:∀ {n m:Nat} {env:List DV} {S:ax} {r:DX×List DV×ax},n≤m→ni f n env S=some r→ni f m env S=some r
 | 0,_,_,_,_,_,h=>by cases h
 | n+1,0,_,_,_,hn,_=>by omega
 | n+1,m+1,env,S,r,hn,h=>by
  simp only[ni] at h ⊢
  split at h
  ·rename_i aD S' e
   exact yQ (by omega) h
  ·exact h
theorem NG {n:Nat} (hn:n≤L) (h:WI P ty aM call yf B L fn iJ n c te tS Q):WT P ty aM call yf B L fn iJ (.loop c) te tS Q:=by
 intro ι env S hR hB
 obtain⟨e,aD,S',ι',cT,cU,h1,h2⟩:=h ι env S hR hB
 exact⟨e,aD,S',ι',cT,cU,by simp only[ct]; exact yQ hn h1,h2⟩
theorem VV {n:Nat} (h:WT P ty aM call yf B L fn iJ c te tS fun e te tS=>match e with | .normal=>WI P ty aM call yf B L fn iJ n c te tS Q | e=>Q e te tS):WI P ty aM call yf B L fn iJ (n+1) c te tS Q:=by
 intro ι env S hR hB
 obtain⟨e,aD,S',ι',cT,cU,h1,h2,h3,h4,h5,h6⟩:=h ι env S hR hB
 cases e with
 | normal =>
  obtain⟨e,pW,vk,ι'',vq,vr,k1,k2,k3,k4,k5,k6⟩:=h6 ι' aD S' h2 h3
  exact⟨e,pW,vk,ι'',vq,vr,by simp only[ni,h1,k1],k2,k3,h4.trans k4,sS h5 k5,k6⟩
 | exit id=>exact⟨_,aD,S',ι',cT,cU,by simp only[ni,h1],h2,h3,h4,h5,h6⟩
 | ret=>exact⟨_,aD,S',ι',cT,cU,by simp only[ni,h1],h2,h3,h4,h5,h6⟩
theorem VY {n:Nat} (hl:wD mW te) (hb:C8 jR tS) (jF:okB mW jR=true) (hB:∀ k,k∈B→oa jR k=true) (h:WI P ty aM call yf B L fn iJ n c mW jR Q):WI P ty aM call yf B L fn iJ n c te tS Q:=by
 intro ι env S hR XV
 have Nj:=sY hb XV hB
 obtain⟨ι1,h1,h2,-⟩:=sQ hR hl hb jF Nj
 obtain⟨e,aD,S',ι',cT,cU,m1,m2,m3,m4,m5⟩:=h ι1 env S h1 Nj
 exact⟨e,aD,S',ι',cT,cU,m1,m2,m3,h2.trans m4,m5⟩
theorem VX {σ:Type} {N:Nat} (f:σ→List TV×List TB) (dm:σ→Prop) (m:σ→Nat) (s0:σ) (h0:Fits B (f s0).1 (f s0).2 te tS) (hg:dm s0) (hm:m s0<N)
  (hstep:∀ s,dm s→WT P ty aM call yf B L fn iJ c (f s).1 (f s).2 fun e te tS=>match e with | .normal=>∃ s',Fits B (f s').1 (f s').2 te tS∧dm s'∧m s'<m s | e=>Q e te tS):WI P ty aM call yf B L fn iJ N c te tS Q:=by
 refine VY h0.l h0.b h0.ok h0.base ?_
 have key:∀ n s,dm s→m s<n→∀ ι env S,cK ι (f s).1 (f s).2 env S→pg B (f s).2→∃ e aD S' ι' cT cU,ni (ct P ty aM call yf L fn iJ c) n env S=some (e,aD,S')∧cK ι' cT cU aD S'∧pg B cU∧Fr B ι S ι' S'∧Nn S.length S S'∧Q e cT cU:=by
  intro n
  induction n with
  | zero=>intro s _ h; omega
  | succ n ih =>
   intro s hs hn ι env S hR hB
   obtain⟨e,aD,S',ι',cT,cU,h1,h2,h3,h4,h5,h6⟩:=hstep s hs ι env S hR hB
   cases e with
   | normal =>
    obtain⟨s',hf,lQ,hlt⟩:=h6
    have Nj:=sY hf.b h3 hf.base
    obtain⟨ι1,k1,k2,-⟩:=sQ h2 hf.l hf.b hf.ok Nj
    obtain⟨e,pW,vk,ι'',vq,vr,m1,m2,m3,m4,m5,m6⟩:=ih s' lQ (by omega) ι1 aD S' k1 Nj
    exact⟨e,pW,vk,ι'',vq,vr,by simp only[ni,h1,m1],m2,m3,(h4.trans k2).trans m4,sS h5 m5,m6⟩
   | exit id=>exact⟨_,aD,S',ι',cT,cU,by simp only[ni,h1],h2,h3,h4,h5,h6⟩
   | ret=>exact⟨_,aD,S',ι',cT,cU,by simp only[ni,h1],h2,h3,h4,h5,h6⟩
 intro ι env S hR hB
 exact key N s0 hg hm ι env S hR hB
theorem VP {σ:Type} (f:σ→List TV×List TB) (dm:σ→Prop) (h1:WT P ty aM call yf B L fn iJ a te tS fun e te tS=>match e with | .normal=>∃ s,Fits B (f s).1 (f s).2 te tS∧dm s | e=>Q e te tS)
  (h2:∀ s,dm s→WT P ty aM call yf B L fn iJ b (f s).1 (f s).2 Q):WT P ty aM call yf B L fn iJ (.seq a b) te tS Q:=by
 refine QX (h1.mono ?_)
 intro e te tS hq
 cases e with
 | normal =>
  obtain⟨s,hf,hg⟩:=hq
  exact VO hf.l hf.b hf.ok hf.base (h2 s hg)
 | exit id=>exact hq
 | ret=>exact hq
theorem Iq:∀ owns:List (Nat×Nat),C8 (owns.map fun p=>TB.own p.1 p.2) []
 | [] => .nil
 | _::l => .new (Iq l)
end Go.Tv
end
section
namespace Go.Di
open Go Go.Proofs
def adq (d:Tmp) (t:TypeId):Nat:=if t==23 then (if d==19 then 1 else if d==38 then 2 else 0) else if t==22 then (if d==18 then 1 else if d==12 then 1 else if d==26 then 2 else 0) else 0
noncomputable abbrev TyH:ir:=⟨A8 Tryz.prog,adq⟩
end Go.Di
end
section
namespace Go.Tv
open Go Go.Di Go.Proofs
abbrev bO:TT := .int .i64
abbrev bM:TT := .sl bO
abbrev aO:TT := .pair bM (.pair bM (.pair bO (.pair bM .unit)))
abbrev RQ:TT := .pair bO (.pair bO .unit)
abbrev gX:TT := .pair bO (.pair bO (.pair bO .unit))
abbrev bD:TT := .pair .bool (.pair gX .unit)
abbrev Bw:TT := .pair bM (.pair bM (.pair bO (.pair bM (.pair bM (.pair bM (.pair bM (.pair bM (.pair bM (.pair bM (.pair bM (.pair bM .unit)))))))))))
def ttL:List (Nat×TT):=[(3,bO),(4,.bool),(35,bO),(23,bM),(25,aO),(22,.sl aO),(75,RQ),(83,.int .u64),(79,gX),(34,.sl gX),(81,gX),(47,.sl gX),(41,.sl bM),(9,.str),(145,bD),(142,bD),(143,.sl .bool),(30,.sl (.sl aO)),(99,.sl Bw),(150,bD),(148,.sl bD)]
def O2 (t:TypeId):Option TT:=(ttL.find? fun p=>p.1==t).map (·.2)
abbrev vv:=TV.val
abbrev vi:=Value.int IntKind.i64
abbrev vb:=Value.bool
abbrev bk (n:Int):TV := .val (.int .i64 n)
abbrev kC (b:Bool):TV := .val (.bool b)
noncomputable abbrev Tp:Program:=Tryz.prog
noncomputable abbrev Ty:ir:=TyH
def LL:Nat:=1001000
structure uK (bG:bV):Prop where
 other:∀ f a,f≠60→f≠133→f≠12→f≠43→f≠52→bG f a=none
 fit:bG 12 []=some (.val (.bool true))
section
variable (bG:bV) (n:Nat)
noncomputable abbrev vt:bV:=Ah Tp Ty bG LL n
noncomputable abbrev mV:bP:=zy Tp Ty bG LL n
noncomputable abbrev Xy:fI:=yfN Tp Ty bG LL n
end
theorem BA {n:Int} (h : -9223372036854775808≤n) (h':n≤9223372036854775807):IntKind.i64.wrap n=n:=by rw[IntKind.wrap_i64]; omega
end Go.Tv
end
section
namespace Go.Tv
open Go Go.Di
def Bz (aM:bV) (call:bP) (g:FuncId) (targs:List TV) (Q:List TV→Prop):Prop :=
 ∀ cZ S,dw dK S targs cZ→(∀ ds,dw dK [] targs ds→aM g ds=none)∧∃ S' id ds ts,call g cZ S=some (.ptr id 0,S')∧¬ Lv S id∧S'[id]? = some (.cells ds)∧dw dK [] ts ds∧ji ts=[]∧(∀ k',Lv S k'→S'[k']? = S[k']?)∧Nn S.length S S'∧Q ts
theorem Bz.mono {aM:bV} {call:bP} {g:FuncId} {targs:List TV} {Q Q':List TV→Prop} (h:Bz aM call g targs Q) (hq:∀ v,Q v→Q' v):Bz aM call g targs Q':=fun cZ S hd=>by
 obtain⟨h0,S',id,ds,ts,h1,h2,h3,h4,h5,h6,h7,h8⟩:=h cZ S hd
 exact⟨h0,S',id,ds,ts,h1,h2,h3,h4,h5,h6,h7,hq _ h8⟩
variable {P:Program} {ty:ir} {tt:TypeId→Option TT} {ι ι' w:mm} {S S':ax} {te mW:List TV} {env:List DV} {tS jR:List TB} {aM:bV} {call:bP} {yf:fI} {o:Oper} {aH nT:Nat} {B:List Nat} {r:TR} {ops:Array Oper}
theorem K6 {f:Operand} {args:Array Operand} {argTypes:Array TypeId} {g:FuncId} {fs cs xs targs:List TV} {Q:List TV→Prop} (hop:o.op = .call { callee := .value f,args,argTypes }) (hh:ty.h o≠1) (hf:iK te f=some (.fn g fs cs)) (ha:oH te args.toList=some xs) (hp:(fs++xs++cs).all gQ=true)
  (hn:bT (jq tt fs argTypes) (fs++xs++cs)=targs) (hs:Bz aM call g targs Q):Does P ty aM call yf B o nT te tS false fun v cT cU _=>∃ ts,Q ts∧v = .ptr nT 0∧cT=te∧cU=sg tS nT (.cells ts):=by
 intro ι w env S aH hR hB hw hT Ur hS
 obtain⟨A6,jH,M7,k1,k2,k3⟩:=mh hR.env hf ha
 obtain⟨k4,k5⟩:=kL (ts:=jq tt fs argTypes) (ι':=dK) (S':=[]) hp k3
 have k6:=kM (ts:=jq tt fs argTypes) (ι':=dK) (S':=S) hp k3
 rw[hn] at k5 k6
 obtain⟨h0,S',id,ds,ts,m1,m2,m3,m4,m5,m6,m7,m8⟩:=hs _ S k6
 have hne:∀ {k k':Nat},ι k=some k'→k'≠id:=fun hk e=>m2 (e▸hR.live hk)
 have uD:ι nT=none:=hR.new hT
 have K:lU ι S (upd ι nT id) S' fun _=>False:=fun k k' _ hk=>by
  have h1:k≠nT:=by rintro rfl; rw[uD] at hk; cases hk
  exact⟨by simp only[upd,h1,if_false]; exact hk,fR (m6 k' (hR.live hk))⟩
 refine⟨.ptr id 0,S',upd ι nT id,fun j=>if j=id then some nT else w j,.ptr nT 0,te,sg tS nT (.cells ts),⟨none,true⟩,⟨none,true⟩,fun _ => ?_,fun e=>(by cases e),⟨fun e=>e,fun l hl=>(by cases hl)⟩,fun l m hl=>(by cases hl),?_,by simp[RT,upd],?_,?_,?_,lF hB hT,⟨m7.1,fun j hj fV=>m7.2 j (by have:=(aJ.1 fV).1; omega) fV⟩,ts,m8,rfl,rfl,rfl⟩
 ·simp only[ah,hop,k1,k2,wR,k4,if_true,h0 _ k5,m1]
 ·refine⟨bU K _ _ hR.env,fun k l hk => ?_,fun k e s hk t ht => ?_,fun k k' hk => ?_,fun i j k' hi hj => ?_,fun k b hk t ht => ?_⟩
  ·rw[cL hT] at hk
   split at hk
   ·rename_i e
    subst e
    cases hk
    exact⟨id,ds,by simp[upd],m3,jy _ _ m5 m4⟩
   ·rename_i e
    obtain⟨k',gR,h1,h2,h3⟩:=hR.cells k l hk
    exact⟨k',gR,by simp only[upd,e,if_false]; exact h1,by rw[m6 k' (hR.live h1)]; exact h2,bU K _ _ h3⟩
  ·rw[cL hT] at hk
   split at hk
   ·cases hk
   ·rename_i e'
    simp only[upd,e',if_false] at ht
    obtain⟨n,h1⟩:=hR.own k e s hk t ht
    exact⟨n,by rw[m6 t (hR.live ht)]; exact h1⟩
  ·rw[cL hT]
   split
   ·exact⟨_,rfl,fun e=>by cases e⟩
   ·rename_i e
    simp only[upd,e,if_false] at hk
    exact hR.xY k k' hk
  ·unfold upd at hi hj
   split at hi<;>split at hj
   ·omega
   ·cases hi; exact(hne hj rfl).elim
   ·cases hj; exact(hne hi rfl).elim
   ·exact hR.inj i j k' hi hj
  ·rw[cL hT] at hk
   split at hk
   ·cases hk; trivial
   ·rename_i e'
    simp only[upd,e',if_false] at ht
    rw[m6 t (hR.live ht)]; exact hR.mp k b hk t ht
 ·intro a b pO
  unfold upd at pO
  split at pO
  ·rename_i e; subst e; cases pO; simp
  ·simp only[hne pO,if_false]; exact hw _ _ pO
 ·intro e; cases e
 ·refine⟨fun k' hl _=>m6 k' hl,fun k k' hk => ?_,fun k hk => ?_⟩
  ·unfold upd at hk
   split at hk
   ·cases hk; exact .inr m2
   ·exact .inl ⟨k,hk⟩
  ·have:=nG hB hT
   unfold upd
   rw[if_neg (fun e:k=nT=>this (e▸hk))]
def aad (ty:ir) (rs:List ResultVar) (pL:List (Option TT)) (Q:List TV→Prop) (e:DX) (te:List TV) (tS:List TB):Prop :=
 (match e with | .exit _=>False | _=>True)∧∃ ts,A9 ty te tS rs=some [.ptr 0 0]∧tS[0]? = some (.cells ts)∧ts.all gQ=true∧ji (bT pL ts)=[]∧Q (bT pL ts)
theorem Te {bG:bV} {L n:Nat} {f:FuncId} {fn:Func} {c:Code} {targs:List TV} {pL:List (Option TT)} {Q:List TV→Prop} (hf:P.funcs[f]? = some fn) (hb:fn.body=some c) (ht:∀ a,bG f a=none)
  (h:WT P ty (Ah P ty bG L n) (zy P ty bG L n) (yfN P ty bG L n) [] L f false c (targs++List.replicate (fn.ntmps-targs.length) .unk) [] (aad ty fn.results.toList pL Q)):Bz (Ah P ty bG L (n+1)) (zy P ty bG L (n+1)) f targs Q:=by
 have key:∀ cZ S,dw dK S targs cZ→∃ S' id ds ts,(ee P ty bG L (n+1)).1 f cZ S=some (.ptr id 0,S')∧¬ Lv S id∧S'[id]? = some (.cells ds)∧dw dK [] ts ds∧ji ts=[]∧(∀ k',Lv S k'→S'[k']? = S[k']?)∧Nn S.length S S'∧Q ts:=by
  intro cZ S hd
  have hlen:=iB hd
  have hR:cK dK (targs++List.replicate (fn.ntmps-targs.length) .unk) [] (cZ++List.replicate (fn.ntmps-cZ.length) bh) S:=by
   refine⟨fB hd (by rw[hlen]; exact tF _ _),fun k l hk=>(by simp at hk),fun k e s hk=>(by simp at hk),fun k k' hk=>(by cases hk),fun i j k' hi=>(by cases hi),fun k b hk=>(by simp at hk)⟩
  obtain⟨e,aD,S',ι',cT,cU,h1,h2,h3,h4,h5,h6⟩:=h dK _ S hR (fun k hk=>(by cases hk))
  obtain⟨h6,ts,h7,h8,h9,x6,GQ⟩:=h6
  obtain⟨ds,k1,k2⟩:=tI h2 h7
  obtain⟨d,m',rfl,k3,k4⟩:=aj k2
  rw[aU k4] at k1
  cases d<;>simp only[RT] at k3
  rename_i id off
  obtain⟨k3,rfl⟩:=k3
  obtain⟨jE,gR,m1,m2,m3⟩:=h2.cells 0 ts h8
  rw[k3] at m1
  cases m1
  refine⟨S',id,gR,bT pL ts,?_,?_,m2,kM h9 m3,x6,fun k' hl=>h4.rest k' hl (fun k hk=>by cases hk),h5,GQ⟩
  ·simp only[ee,hf,uW,hb]
   have JA:ct P ty (kS bG (ee P ty bG L n).1) (ee P ty bG L n).1 (ee P ty bG L n).2 L f false c (cZ++List.replicate (fn.ntmps-cZ.length) bh) S=some (e,aD,S'):=h1
   rw[JA]
   cases e with
   | normal=>simp only[k1,Option.map_some,oneOf]
   | ret=>simp only[k1,Option.map_some,oneOf]
   | exit id=>exact h6.elim
  ·rcases h4.ours 0 id k3 with ⟨j,hj⟩ | hl
   ·cases hj
   ·exact hl
 intro cZ S hd
 refine⟨fun ds hds => ?_,key cZ S hd⟩
 obtain⟨S',id,gR,ts,k1,-⟩:=key ds [] hds
 simp only[Ah,kS,ht,lS,uH,k1,DV.strip,DV.dG,DV.pure,DV.jV,aF,if_false]
end Go.Tv
end
section
namespace Go.Tv
open Go Go.Di Go.Proofs
variable {P:Program}
theorem cG {α β:Type} (s:Sem α) (f:α→Sem β):cg P (s >>= f)=(cg P s).bind fun a=>cg P (f a):=by
 change cg P (s.bind f)=_
 cases s with
 | pure a=>rfl
 | program k =>
  simp only[Sem.bind,cg]
  generalize k P=s'
  induction s' with
  | pure a=>rfl
  | program k ih=>simp only[Sem.bind,cg]; exact ih P
  | _=>simp only[Sem.bind,cg,Option.bind_none]
 | _=>simp only[Sem.bind,cg,Option.bind_none]
theorem vN {α:Type} (a:α):cg P (pure a:Sem α)=some a:=rfl
theorem mE:cg P program=some P:=rfl
theorem fS {t:TypeId} {d:TypeDesc} (h:P.underlying t=some d):cg P (underlying t)=some d:=by
 unfold underlying
 rw[cG,mE]
 simp only[Option.bind_some,h]
 rfl
theorem Oh (d:Nat) (t:TypeId) (k k':IntKind) (a b:Int) (h:P.underlying t=some (.int k')):cg P (Op.equalIn (d+1) t (.int k a) (.int k b))=some (a==b):=by
 simp only[Op.equalIn,cG,fS h,Option.bind_some,if_true]
 rfl
theorem Og {α:Type} {c:Prop} [Decidable c] {a b:Sem α}:cg P (if c then a else b)=if c then cg P a else cg P b:=by split<;>rfl
theorem rz (d:Nat) (t:TypeId) (xs ys:Array Value) (ht:P.underlying t=some (.struct (P.fieldsOf t))) (hp:P.stoodInHeld t=false) :
  cg P (Op.equalIn (d+1) t (.agg xs) (.agg ys))=cg P (Op.eqFields d xs ys (P.fieldsOf t).toList):=by
 simp only[Op.equalIn,cG,fS ht,Option.bind_some,mE,hp,aF,if_false]
 rw[← Array.forIn_toList]
 generalize (P.fieldsOf t).toList=fs
 clear ht
 induction fs with
 | nil=>rfl
 | cons f fs ih =>
  simp only[List.forIn_cons,Op.eqFields,cG,Og]
  split
  ·generalize cg P (part f.type xs f.offset)=r1
   cases r1 with
   | none=>rfl
   | some a =>
    generalize cg P (part f.type ys f.offset)=r2
    cases r2 with
    | none=>rfl
    | some b =>
     simp only[Option.bind_some]
     generalize cg P (Op.equalIn d f.type a b)=r3
     cases r3 with
     | none=>rfl
     | some r =>
      cases r
      ·simp only[Option.bind_some,Bool.not_false,if_true,vN]
      ·simp only[Option.bind_some,gl,aF,if_false,vN]
       exact ih
  ·simp only[vN,Option.bind_some]
   exact ih
theorem Xf {d:Nat} {xs ys:Array Value}:cg P (Op.eqFields d xs ys [])=some true:=rfl
theorem Xl {t:TypeId} {xs ys:Array Value} {b:Bool} (ht:P.underlying t=some (.struct (P.fieldsOf t))) (hp:P.stoodInHeld t=false) (hm:P.eqGuardType P.depth t=false) (hf:cg P (Op.eqFields 9999 xs ys (P.fieldsOf t).toList)=some b) (x y:Operand) :
  jU P (do eqGuard .neq t x y (.agg xs) (.agg ys); binOp .neq t (.agg xs) (.agg ys))=some (.val (.bool !b)):=by
 have h1:cg P (eqGuard .neq t x y (.agg xs) (.agg ys))=some ():=by
  simp only[eqGuard]
  simp only[gl,aF,if_false,cG,mE,Option.bind_some,hm,Bool.not_false,if_true]
  rfl
 have h2:cg P (binOp .neq t (.agg xs) (.agg ys))=some (.bool !b):=by
  simp only[binOp,cG,Op.equal,Op.maxDepth,rz 9999 t xs ys ht hp,hf,Option.bind_some]
  rfl
 rw[jU,cG,h1,Option.bind_some,h2]
 rfl
variable {ty:ir} {tt:TypeId→Option TT} {ι ι' w:mm} {S S':ax} {te mW:List TV} {env:List DV} {tS jR:List TB} {aM:bV} {call:bP} {yf:fI} {o:Oper} {aH nT:Nat} {B:List Nat} {ops:Array Oper}
end Go.Tv
end
section
namespace Go.Tv
open Go Go.Di Go.Proofs
def Al:(t:TT)→DecidableEq t.den
 | .int _=>inferInstanceAs (DecidableEq Int)
 | .bool=>inferInstanceAs (DecidableEq Bool)
 | .str=>inferInstanceAs (DecidableEq ByteArray)
 | .unit=>inferInstanceAs (DecidableEq Unit)
 | .pair a b=>fun x y=>@instDecidableEqProd _ _ (Al a) (Al b) x y
 | .sl t=>fun x y=>@instDecidableEqList _ (Al t) x y
def fO (t:TT) (x:t.den) (l:List t.den):Bool:=l.any fun y=>@decide (x=y) (Al t x y)
def eW (t:TT) (x:t.den) (l:List t.den):List t.den:=bif fO t x l then l else l++[x]
theorem B7 {t:TT} {x:t.den} {l:List t.den}:fO t x l=true↔x∈l:=by
 simp[fO]
structure uZ (P:Program) (t:TypeId) (kt:TT):Prop where
 look:∀ (x:kt.den) (l:List kt.den),cg P (Hj t ((qB kt l).map Di.Ld) (lN kt x) false)=some (.bool (fO kt x l))
 find:∀ (x:kt.den) (l:List kt.den),∃ r,cg P (Hx t ((qB kt l).map Di.Ld) (lN kt x))=some r∧JC (qB kt l) (lN kt x) (.bool true) r=some (qB kt (eW kt x l))
def Vl (kt:TT) (v:TV):Option kt.den :=
 match v with
 | .agg l=>match iL l,kt.of l with
  | some vs,some (x,[])=>if vs.length=(DL kt x).length then some x else none
  | _,_=>none
 | _=>none
def Zy (P:Program) (tt:TypeId→Option TT) (te:List TV) (tS:List TB) (o:Oper) (nT:Nat):Option (TV×List TB×Prop) :=
 match o.op with
 | .makeMap t none=>match tt t with
  | some kt=>some (.mp nT,sg tS nT (.map kt []),True)
  | none=>none
 | .lookup t m k false=>match iK te m,iK te k with
  | some (.mp id),some v=>match tS[id]? with
   | some (.map kt l)=>match Vl kt v with
    | some x=>some (.val (.bool (fO kt x l)),tS,uZ P t kt)
    | none=>none
   | _=>none
  | _,_=>none
 | .mapUpdate t m k y=>match iK te m,iK te k,iK te y with
  | some (.mp id),some v,some (.val (.bool true))=>match tS[id]? with
   | some (.map kt l)=>match Vl kt v with
    | some x=>some (.unk,tS.set id (.map kt (eW kt x l)),uZ P t kt)
    | none=>none
   | _=>none
  | _,_,_=>none
 | _=>none
theorem F2:∀ {t:TT} {l:List TV} {x:t.den} {r:List TV} {vs:List Value},t.of l=some (x,r)→iL l=some vs→∃ UG,iL r=some UG∧vs=DL t x++UG
 | .int k,l,x,r,vs,h,hv=>by
  simp only[TT.of] at h
  unfold ofInt at h
  split at h
  ·split at h
   ·rename_i hk
    subst hk
    cases h
    simp only[iL,ai] at hv
    obtain⟨UG,h1,rfl⟩:=hv
    exact⟨UG,h1,rfl⟩
   ·cases h
  ·cases h
 | .bool,l,x,r,vs,h,hv=>by
  simp only[TT.of] at h
  unfold ofBool at h
  split at h
  ·cases h
   simp only[iL,ai] at hv
   obtain⟨UG,h1,rfl⟩:=hv
   exact⟨UG,h1,rfl⟩
  ·cases h
 | .str,l,x,r,vs,h,hv=>by
  simp only[TT.of] at h
  unfold ofStr at h
  split at h
  ·cases h
   simp only[iL,ai] at hv
   obtain⟨UG,h1,rfl⟩:=hv
   exact⟨UG,h1,rfl⟩
  ·cases h
 | .unit,l,x,r,vs,h,hv=>by
  simp only[TT.of] at h
  cases h
  exact⟨vs,hv,rfl⟩
 | .sl t,l,x,r,vs,h,hv=>by
  simp only[TT.of] at h
  unfold Vk at h
  split at h
  ·simp[iL] at hv
  ·simp[iL] at hv
  ·cases h
 | .pair a b,l,x,r,vs,h,hv=>by
  simp only[TT.of] at h
  split at h
  ·rename_i y m h1
   split at h
   ·rename_i z m' h2
    cases h
    obtain⟨vs1,k1,rfl⟩:=F2 h1 hv
    obtain⟨vs2,k2,rfl⟩:=F2 h2 k1
    exact⟨vs2,k2,by simp[DL]⟩
   ·cases h
  ·cases h
theorem MN {kt:TT} {v:TV} {x:kt.den} (h:Vl kt v=some x):iT v=some (lN kt x):=by
 unfold Vl at h
 split at h
 ·split at h
  ·rename_i vs y h1 h2
   split at h
   ·cases h
    obtain⟨UG,k1,rfl⟩:=F2 h2 h1
    cases k1
    simp only[iT,h1,Option.map_some,lN,ff]
   ·cases h
  ·cases h
 ·cases h
section
variable (P:Program)
def Vy (t:TypeId) (a b:Value):Option Bool :=
 match a,b,P.underlying t with
 | .int k a,.int k' b,some (.int _)=>if k'=k then some (a==b) else none
 | .bool a,.bool b,some .bool=>some (a==b)
 | _,_,_=>none
def HA (E:TypeId→Value→Value→Option Bool) (xs ys:Array Value):List Field→Option Bool
 | []=>some true
 | f :: fs => match f.name != "_", cg P (part f.type xs f.offset), cg P (part f.type ys f.offset) with
  | true,some a,some b=>match E f.type a b,HA E xs ys fs with
   | some u,some r=>some (u&&r)
   | _,_=>none
  | _,_,_=>none
def eqV:Nat→TypeId→Value→Value→Option Bool
 | 0,t,a,b=>Vy P t a b
 | n+1,t,a,b=>match a,b with
  | .agg xs,.agg ys=>match P.underlying t,P.stoodInHeld t with
   | some (.struct fs),false=>HA P (eqV n) xs ys fs.toList
   | _,_=>none
  | a,b=>Vy P t a b
end
section
variable {P:Program}
theorem q9 {t:TypeId} {fs:Array Field} (h:P.underlying t=some (.struct fs)):P.underlying t=some (.struct (P.fieldsOf t)):=by
 have:P.fieldsOf t=fs:=by simp only[Program.fieldsOf,h]
 rw[this]; exact h
theorem MP {d:Nat} {t:TypeId} {a b:Value} {r:Bool} (h:Vy P t a b=some r):cg P (Op.equalIn (d+1) t a b)=some r:=by
 unfold Vy at h
 split at h
 ·rename_i k a k' b k2 hu
  split at h
  ·rename_i hk
   subst hk
   cases h
   exact Oh d t _ _ a b hu
  ·cases h
 ·rename_i a b hu
  cases h
  simp only[Op.equalIn,cG,fS hu,Option.bind_some]
  rfl
 ·cases h
theorem Ci {E:TypeId→Value→Value→Option Bool} {d:Nat} (hE:∀ t a b r,E t a b=some r→cg P (Op.equalIn d t a b)=some r) {xs ys:Array Value}:∀ {fs:List Field} {b:Bool},HA P E xs ys fs=some b→cg P (Op.eqFields d xs ys fs)=some b
 | [],_,h=>by cases h; exact Xf
 | f::fs,b,h=>by
  unfold HA at h
  split at h
  ·rename_i a b' hn ha hb
   split at h
   ·rename_i u r h1 h2
    cases h
    have Jj : f.name ≠ "_" := by simpa using hn
    simp only[Op.eqFields,Jj,ne_eq,not_false_eq_true,if_true,cG,ha,hb,Option.bind_some,hE _ _ _ _ h1]
    cases u
    ·rfl
    ·simp only[gl,aF,if_false,Bool.true_and]; exact Ci hE h2
   ·cases h
  ·cases h
theorem Kc:∀ {n d:Nat} {t:TypeId} {a b:Value} {r:Bool},n<d→eqV P n t a b=some r→cg P (Op.equalIn d t a b)=some r
 | 0,0,_,_,_,_,hd,_=>by omega
 | 0,d+1,_,_,_,_,_,h=>MP h
 | n+1,0,_,_,_,_,hd,_=>by omega
 | n+1,d+1,t,a,b,r,hd,h=>by
  unfold eqV at h
  split at h
  ·rename_i xs ys
   split at h
   ·rename_i fs h1 h2
    rw[rz d t xs ys (q9 h1) h2]
    simp only[Program.fieldsOf,h1]
    exact Ci (fun t a b r h=>Kc (by omega) h) h
   ·cases h
  ·exact MP h
end
variable {P:Program} {ty:ir} {tt:TypeId→Option TT} {ι ι' w:mm} {S S':ax} {te mW:List TV} {env:List DV} {tS jR:List TB} {aM:bV} {call:bP} {yf:fI} {o:Oper} {aH nT:Nat} {B:List Nat} {ops:Array Oper}
theorem I4 (h:cK ι te tS env S) (hT:ye tS nT) (hn:yg S aH) (kt:TT):cK (upd ι nT aH) te (sg tS nT (.map kt [])) env (eV S aH (.map [])):=by
 have K:=uf h hT hn (.map [])
 refine⟨bU K _ _ h.env,fun k l hk => ?_,fun k e s hk t ht => ?_,fun k k' hk => ?_,fun i j k' hi hj => ?_,fun k b hk t ht => ?_⟩
 ·rw[cL hT] at hk
  split at hk
  ·cases hk
  ·rename_i e
   obtain⟨k',gR,h1,h2,h3⟩:=h.cells k l hk
   exact⟨k',gR,by simp only[upd,e,if_false]; exact h1,by rw[bz hn,if_neg (h.dI hn h1)]; exact h2,bU K _ _ h3⟩
 ·rw[cL hT] at hk
  split at hk
  ·cases hk
  ·rename_i e'
   simp only[upd,e',if_false] at ht
   obtain⟨n,h1⟩:=h.own k e s hk t ht
   exact⟨n,by rw[bz hn,if_neg (h.dI hn ht)]; exact h1⟩
 ·rw[cL hT]
  split
  ·exact⟨_,rfl,fun e=>by cases e⟩
  ·rename_i e
   simp only[upd,e,if_false] at hk
   exact h.xY k k' hk
 ·unfold upd at hi hj
  split at hi<;>split at hj
  ·omega
  ·cases hi; exact(h.dI hn hj rfl).elim
  ·cases hj; exact(h.dI hn hi rfl).elim
  ·exact h.inj i j k' hi hj
 ·rw[cL hT] at hk
  split at hk
  ·rename_i e'
   cases hk
   simp only[upd,e',if_true,aB] at ht
   subst ht
   rw[bz hn,if_pos rfl]; exact rfl
  ·rename_i e'
   simp only[upd,e',if_false] at ht
   rw[bz hn,if_neg (h.dI hn ht)]; exact h.mp k b hk t ht
theorem I3 (h:cK ι te tS env S) {id jE:Nat} {kt:TT} {l l':List kt.den} (hi:ι id=some jE) (hl:tS[id]? = some (.map kt l)):cK ι te (tS.set id (.map kt l')) env (S.set jE (.map (qB kt l'))):=by
 have hS:S[jE]? = some (.map (qB kt l)):=h.mp id _ hl jE hi
 have hlt:=(aJ.1 hl).1
 have P6:=(aJ.1 hS).1
 have K:lU ι S ι (S.set jE (.map (qB kt l'))) fun _=>False:=fun a b _ pO=>⟨pO,by
  rw[aQ]
  split
  ·rename_i e1; subst e1; exact xd (by rw[hS]; simp) (by rw[hS]; simp)
  ·exact fR rfl⟩
 have hg:∀ j,(tS.set id (.map kt l'))[j]? = if j=id then some (.map kt l') else tS[j]? := fun j=>by
  rw[aQ]
  by_cases e:j=id
  ·subst e; simp[hlt]
  ·rw[if_neg (Ne.symm e),if_neg e]
 have lQ:∀ j,j≠jE→(S.set jE (.map (qB kt l')))[j]? = S[j]? := fun j hj=>by rw[aQ,if_neg (Ne.symm hj)]
 refine⟨bU K _ _ h.env,fun j m hj => ?_,fun j e s hj t ht => ?_,fun j j' hj => ?_,h.inj,fun j b hj t ht => ?_⟩
 ·rw[hg] at hj
  split at hj
  ·cases hj
  ·rename_i e
   obtain⟨j',Nk,h1,h2,h3⟩:=h.cells j m hj
   exact⟨j',Nk,h1,by rw[lQ j' fun e1=>e (h.inj _ _ _ (e1▸h1) hi)]; exact h2,bU K _ _ h3⟩
 ·rw[hg] at hj
  split at hj
  ·cases hj
  ·obtain⟨n,h1⟩:=h.own j e s hj t ht
   exact⟨n,(K j t (fun e=>e) ht).2.1 _ _ _ h1⟩
 ·rw[hg]
  split
  ·exact⟨_,rfl,by simp⟩
  ·exact h.xY j j' hj
 ·rw[hg] at hj
  split at hj
  ·rename_i e
   subst e
   cases hj
   rw[hi] at ht
   cases ht
   rw[aQ,if_pos rfl,if_pos P6]; exact rfl
  ·rename_i e
   rw[lQ t fun e1=>e (h.inj _ _ _ (e1▸ht) hi)]
   exact h.mp j b hj t ht
theorem Xt {id:Nat} {kt:TT} {l l':List kt.den} (hB:pg B tS) (hl:tS[id]? = some (.map kt l)):pg B (tS.set id (.map kt l')):=fun k hk=>by
 obtain⟨c,hc⟩:=hB k hk
 refine⟨c,?_⟩
 rw[aQ,if_neg]
 ·exact hc
 ·rintro rfl; rw[hl] at hc; cases hc
theorem TP {v:TV} {jR:List TB} {c:Prop} (h:Zy P tt te tS o nT=some (v,jR,c)) (hc:c):Does P ty aM call yf B o nT te tS false fun v' cT cU _=>v'=v∧cT=te∧cU=jR:=by
 intro ι w env S aH hR hB hw hT hn hS
 unfold Zy at h
 split at h
 ·rename_i t ho
  split at h
  ·rename_i kt ht
   cases h
   refine⟨.map aH,eV S aH (.map []),upd ι nT aH,upd w aH nT,.mp nT,te,_,⟨none,true⟩,⟨none,true⟩,fun _ => ?_,fun hd=>(by cases hd),⟨fun e=>e,fun l hl=>(by cases hl)⟩,fun l m hl=>(by cases hl),I4 hR hT hn kt,?_,qH hR hn hT hw,fun hd=>(by cases hd),sK hn (nG hB hT),lF hB hT,oS hn,rfl,rfl,rfl⟩
   ·simp only[ah,ho]
   ·simp[RT,upd]
  ·cases h
 ·rename_i t m k ho
  split at h
  ·rename_i id u h1 h2
   split at h
   ·rename_i kt l h3
    split at h
    ·rename_i x h4
     cases h
     obtain⟨d,k1,k2⟩:=bC hR.env h1
     cases d<;>simp only[RT] at k2
     rename_i jE
     have k3:S[jE]? = some (.map (qB kt l)):=hR.mp id _ h3 jE k2
     have k4:valOf (jb env) k=some (lN kt x):=fZ hR.env (by rw[h2]; exact MN h4)
     refine⟨.val (.bool (fO kt x l)),S,ι,w,.val (.bool (fO kt x l)),te,tS,⟨none,true⟩,⟨none,true⟩,fun _ => ?_,fun hd=>(by cases hd),⟨fun e=>e,fun l hl=>(by cases hl)⟩,fun l m hl=>(by cases hl),hR,by simp only[RT],hw,fun hd=>(by cases hd),Fr.refl _ _ _,hB,gu _ _,rfl,rfl,rfl⟩
     simp only[ah,ho,k1,k4,k3,hc.look x l,Option.bind_some,Hf,zi]
     rfl
    ·cases h
   ·cases h
  ·cases h
 ·rename_i t m k y ho
  split at h
  ·rename_i id u h1 h2 h5
   split at h
   ·rename_i kt l h3
    split at h
    ·rename_i x h4
     cases h
     obtain⟨d,k1,k2⟩:=bC hR.env h1
     cases d<;>simp only[RT] at k2
     rename_i jE
     have k3:S[jE]? = some (.map (qB kt l)):=hR.mp id _ h3 jE k2
     have k4:valOf (jb env) k=some (lN kt x):=fZ hR.env (by rw[h2]; exact MN h4)
     have k5:valOf (jb env) y=some (.bool true):=fZ hR.env (by rw[h5]; rfl)
     obtain⟨r,k6,k7⟩:=hc.find x l
     refine⟨bh,S.set jE (.map (qB kt (eW kt x l))),ι,w,.unk,te,_,⟨none,true⟩,⟨none,true⟩,fun _ => ?_,fun hd=>(by cases hd),⟨fun e=>e,fun l hl=>(by cases hl)⟩,fun l m hl=>(by cases hl),I3 hR k2 h3,by simp only[RT],hw,fun hd=>(by cases hd),yu k2,Xt hB h3,ym k3 (fun e=>by cases e),rfl,rfl,rfl⟩
     simp only[ah,ho,k1,k4,k5,k3,k6,k7,Option.map_some]
    ·cases h
   ·cases h
  ·cases h
 ·cases h
end Go.Tv
end
