import Derived.Test.YtedcgbkilmlbhaaGreatPk04
import Derived.Test.YtedcgbkilmlbhaaGreatPk01
import Derived.Test.YtedcgbkilmlbhaaGreatProg
import Derived.Test.YtedcgbkilmlbhaaGreatChecked
import Derived.KernelRfl
import Derived.Laws.BitsLemmas
import Derived.Laws.StructEq
section
namespace Go.Tv
open Go Go.Di
def TH (ty:eV) (te:List TV) (tS:List TB):ResultVar→Option TV
 | .tmp t=>some (te.getD t .unk)
 | .cell a t=>match ty t,te.getD a .unk with
  | some d,.ptr id off=>match tS[id]? with
   | some (.cells l)=>vO d.k.isAgg d.size l off
   | _=>none
  | _,_=>none
def xL (ty:eV) (te:List TV) (tS:List TB):List ResultVar→Option (List TV)
 | []=>some []
 | x::r=>match TH ty te tS x,xL ty te tS r with
  | some v,some l=>some (v::l)
  | _,_=>none
def iJ:List TV→TV
 | [d]=>d
 | l => .ee l
variable {P:Program} {ty:eV} {tt:TypeId→Option TT} {ι ι' w:jF} {S S':ak} {te jU:List TV} {env:List DV} {tS gM:List TB} {aD:bn} {call:aW} {yf:dH} {o:Oper} {aA nT:Nat} {B:List Nat} {r:TR} {ops:Array Oper}
theorem pY (h:bK ι te tS env S):∀ {rs:List ResultVar} {vs:List TV},xL ty te tS rs=some vs→∃ ds,oC ty env S rs=some ds∧cA ι S vs ds
 | [],vs,hx=>by cases hx; exact⟨[],rfl,bJ⟩
 | x::r,vs,hx=>by
  simp only[xL] at hx
  split at hx
  ·rename_i v l h1 h2
   cases hx
   obtain⟨ds,k1,k2⟩:=pY h h2
   cases x with
   | tmp t =>
    cases h1
    exact⟨_,by simp only[oC,k1,Option.map_some],aG (oU h.env t) k2⟩
   | cell a t =>
    simp only[TH] at h1
    split at h1
    ·rename_i d id off e1 e2
     split at h1
     ·rename_i l' e3
      have hg:=oU h.env a
      rw[e2] at hg
      generalize hd:env.getD a aP=da at hg
      cases da<;>simp only[RT] at hg
      obtain⟨g1,rfl⟩:=hg
      obtain⟨gE,eE,m1,m2,m3⟩:=h.cells id l' e3
      rw[g1] at m1
      cases m1
      obtain⟨q,m4,m5⟩:=mL m3 h1
      exact⟨q::ds,by simp only[oC,hd,ic,e1,m2,m4,k1],aG m5 k2⟩
     ·cases h1
    ·cases h1
  ·cases hx
theorem Be {ts:List (Option TT)} {vs:List TV} {ds:List DV} (hp:vs.all eC=true) (h:cA ι S vs ds):(oneOf ds).strip.pure=true∧RT ι' S' (iJ (aX ts vs)) (oneOf ds).strip:=by
 have many:∀ {ts:List (Option TT)} {l:List TV} {m:List DV},l.all eC=true→cA ι S l m→(m.map DV.cv).all DV.gP=true∧cA ι' S' (aX ts l) (m.map DV.cv):=by
  intro ts l
  induction l generalizing ts with
  | nil=>intro m _ h; rw[aJ h]; cases ts<;>exact⟨rfl,by simp only[aX,List.map_nil]; exact bJ⟩
  | cons a l ih =>
   intro m hp h
   obtain⟨d,m',rfl,h1,h2⟩:=aj h
   simp only[List.all_cons,Bool.and_eq_true] at hp
   cases ts with
   | nil =>
    obtain⟨k1,k0,k2⟩:=jq (t:=none) (ι':=ι') (S':=S') hp.1 h1
    obtain⟨k3,k4⟩:=ih (ts:=[]) hp.2 h2
    have e:d.strip=d.cv:=by cases d<;>first | rfl | exact(k0 _ rfl).elim
    rw[e] at k1 k2
    have e2:d.cv.gP=true:=by cases d<;>first | exact k1 | exact(k0 _ rfl).elim
    exact⟨by rw[List.map_cons,List.all_cons,e2,k3]; rfl,by simp only[aX,List.map_cons]; exact aG k2 k4⟩
   | cons t ts =>
    obtain⟨k1,k0,k2⟩:=jq (t:=t) (ι':=ι') (S':=S') hp.1 h1
    obtain⟨k3,k4⟩:=ih (ts:=ts) hp.2 h2
    have e:d.strip=d.cv:=by cases d<;>first | rfl | exact(k0 _ rfl).elim
    rw[e] at k1 k2
    have e2:d.cv.gP=true:=by cases d<;>first | exact k1 | exact(k0 _ rfl).elim
    exact⟨by rw[List.map_cons,List.all_cons,e2,k3]; rfl,by simp only[aX,List.map_cons]; exact aG k2 k4⟩
 match vs,ds,hp,h with
 | [],ds,_,h=>rw[aJ h]; cases ts<;>exact⟨rfl,by simp only[aX,iJ,oneOf,DV.strip,RT,List.map_nil]; exact bJ⟩
 | [v],ds,hp,h =>
  obtain⟨d,m',rfl,h1,h2⟩:=aj h
  rw[aJ h2]
  simp only[List.all_cons,List.all_nil,Bool.and_true] at hp
  cases ts with
  | nil =>
   obtain⟨k1,k0,k2⟩:=jq (t:=none) (ι':=ι') (S':=S') hp h1
   exact⟨k1,k2⟩
  | cons t ts =>
   obtain⟨k1,k0,k2⟩:=jq (t:=t) (ι':=ι') (S':=S') hp h1
   cases ts<;>exact⟨k1,k2⟩
 | v::u::l,ds,hp,h =>
  obtain⟨k1,k2⟩:=many (ts:=ts) hp h
  obtain⟨d,m',rfl,h1,h2⟩:=aj h
  obtain⟨d',m'',rfl,h3,h4⟩:=aj h2
  refine⟨k1,?_⟩
  have e:∀ {ts:List (Option TT)},iJ (aX ts (v::u::l)) = .ee (aX ts (v::u::l)):=by
   intro ts
   cases ts with
   | nil=>simp only[aX,iJ]
   | cons t ts=>cases ts<;>simp only[aX,iJ]
  rw[e]
  simp only[oneOf,DV.strip,RT]
  exact k2
theorem Kp {ts:List (Option TT)} {vs:List TV} {ds:List DV} (hp:vs.all eC=true) (h:cA ι S vs ds):RT ι' S' (iJ (aX ts vs)) (oneOf ds):=by
 have k:=iG (ts:=ts) (ι':=ι') (S':=S') hp h
 match vs,ds,hp,h,k with
 | [],ds,_,h,k=>rw[aJ h]; cases ts<;>(simp only[aX,iJ,oneOf,RT]; exact bJ)
 | [v],ds,hp,h,k =>
  obtain⟨d,m',rfl,h1,h2⟩:=aj h
  rw[aJ h2] at k ⊢
  cases ts with
  | nil=>simp only[aX] at k ⊢; obtain⟨_,_,e,k1,-⟩:=aj k; cases e; exact k1
  | cons t ts=>cases ts<;>(simp only[aX] at k ⊢; obtain⟨_,_,e,k1,-⟩:=aj k; cases e; exact k1)
 | v::u::l,ds,hp,h,k =>
  obtain⟨d,m',rfl,h1,h2⟩:=aj h
  obtain⟨d',m'',rfl,h3,h4⟩:=aj h2
  have e:∀ {ts:List (Option TT)},iJ (aX ts (v::u::l)) = .ee (aX ts (v::u::l)):=by
   intro ts
   cases ts with
   | nil=>simp only[aX,iJ]
   | cons t ts=>cases ts<;>simp only[aX,iJ]
  rw[e]
  simp only[oneOf,RT]
  exact k
section
variable (P:Program) (ty:eV) (aZ:bn) (L:Nat)
def xM (n:Nat):bn:=je aZ (cG P ty aZ L n).1
def vV (n:Nat):aW:=(cG P ty aZ L n).1
def yfN (n:Nat):dH:=(cG P ty aZ L n).2
end
theorem fN {t:TT}:∀ {l:List t.den} {ds:List DV},dF t l ds→ds.length=l.length*t.size
 | [],ds,h=>by simp only[dF] at h; subst h; simp
 | x::l,ds,h=>by
  simp only[dF] at h
  obtain⟨c,m,rfl,h1,h2⟩:=h
  rw[List.length_append,mm h1,fN h2,List.length_cons,Nat.add_mul,Nat.one_mul,Nat.add_comm]
theorem sH {t:TT} (h0:(t.agg||t.size==1)=true):∀ {l:List t.den} {ds:List DV},dF t l ds→dK (CR t) t.agg l (rowsOf t.size t.agg ds l.length)
 | [],ds,h=>by simp only[dF] at h; subst h; simp[rowsOf,dK]
 | x::l,ds,h=>by
  simp only[dF] at h
  obtain⟨c,m,rfl,h1,h2⟩:=h
  rw[List.length_cons,wq (mm h1)]
  refine⟨?_,sH h0 h2⟩
  cases ha:t.agg with
  | true=>exact⟨h1,by simp[x8]⟩
  | false =>
   have h3:=row_one h1 ha
   rw[ha] at h3
   have hs:t.size=1:=by rw[ha] at h0; simpa using h0
   have e2:(c++m).getD 0 aP=c.getD 0 aP:=by
    have:=mm h1
    simp only[List.getD_eq_getElem?_getD,List.getElem?_append_left (show 0<c.length by omega)]
   simp only[Bool.false_eq_true,if_false]
   rw[e2]
   exact h3
theorem AO (h:bK ι te tS env S) {g:Nat} {t t':TT} {e:Nat} {l:List t'.den} {z:Bool} {d:DV} (hg:tS[g]? = some (.rows t' e l z)) (hd:RT ι S (.so g t) d) (ht:t'=t):∃ id ds,d = .gD id l.length t'.agg∧ι g=some id∧S[id]? = some (.op e t'.size ds z)∧Ac S id l.length=some (e,t'.size,ds,z)∧dF t' l ds∧0<t'.size∧(t'.agg||t'.size==1)=true:=by
 subst ht
 cases d<;>simp only[RT] at hd
 rename_i id n agg
 obtain⟨h1,rfl,e',s',l',z',h2,h3⟩:=hd
 obtain⟨q0,q1,ds,q2,q3⟩:=h.mp g _ hg id h1
 rw[h2] at q2
 cases q2
 have hl:=fN q3
 have hn:n=l.length:=Nat.eq_of_mul_eq_mul_right q0 (h3.trans hl)
 subst hn
 refine⟨id,l',rfl,h1,h2,?_,q3,q0,q1⟩
 unfold Ac
 rw[h2]
 simp only[h3,if_true]
theorem IV {id n:Nat} {t:TT} {e:Nat} {ds:List DV} (h:Ac S id n=some (e,t.size,ds,true)) (h0:0<t.size) (h1:(t.agg||t.size==1)=true):jd S (.gD id n t.agg) = .sl (rowsOf t.size t.agg ds n) none ⟨false,some false⟩:=by
 simp only[jd,h,decide_eq_true h0,h1,Bool.and_self,if_true]
def s5 (tS:List TB):List TV→List TV
 | [.so g t]=>match tS[g]? with
  | some (.rows t' _ l _)=>if h:t'=t then [.sl t (h▸l) .no] else [.so g t]
  | _=>[.so g t]
 | vs=>vs
theorem Xt (h:bK ι te tS env S) {vs:List TV} {ds:List DV} (hd:cA ι S vs ds) (hp:(s5 tS vs).all eC=true):∃ eE,oneOf eE=jd (qJ S (oneOf ds)) (oneOf ds)∧cA ι S (s5 tS vs) eE:=by
 have other:vs.all eC=true→∃ eE,oneOf eE=jd (qJ S (oneOf ds)) (oneOf ds)∧cA ι S vs eE:=fun hp=>by
  refine⟨ds,?_,hd⟩
  match vs,ds,hd,hp with
  | [],ds,hd,_=>rw[aJ hd]; rfl
  | [v],ds,hd,hp =>
   obtain⟨d,m',rfl,k1,k2⟩:=aj hd
   rw[aJ k2]
   simp only[oneOf]
   cases v<;>first | (cases hp; done) | skip
   all_goals cases d<;>simp only[RT] at k1<;>rfl
  | v::u::l,ds,hd,_ =>
   obtain⟨d,m',rfl,k1,k2⟩:=aj hd
   obtain⟨d',m'',rfl,k3,k4⟩:=aj k2
   rfl
 unfold s5 at hp ⊢
 split at hp
 ·rename_i g t
  split at hp
  ·rename_i t' e l z hg
   split at hp
   ·rename_i ht
    obtain⟨d,m',rfl,k1,k2⟩:=aj hd
    rw[aJ k2]
    obtain⟨id,cs,rfl,h1,h2,h3,h4,h5,h6⟩:=AO h hg k1 ht
    subst ht
    refine⟨[.sl (rowsOf t'.size t'.agg cs l.length) none ⟨false,some false⟩],?_,?_⟩
    ·simp only[oneOf]
     symm
     have hS:Ac (qJ S (.gD id l.length t'.agg)) id l.length=some (e,t'.size,cs,true):=by
      cases z with
      | true=>simp only[qJ,h3]
      | false =>
       have hlt:=(List.getElem?_eq_some_iff.1 h2).1
       have hn:l.length*t'.size=cs.length:=(fN h4).symm
       have e1:qJ S (.gD id l.length t'.agg)=S.set id (.op e t'.size cs true):=by simp only[qJ,h3]
       rw[e1]
       unfold Ac
       rw[List.getElem?_set,if_pos rfl,if_pos hlt]
       simp only[hn,if_true]
     exact IV hS h5 h6
    ·simp only[dif_pos]
     exact di (by simp only[RT,qK,and_true]; exact sH h6 h4)
   ·rename_i ht
    rw[dif_neg ht]
    exact other hp
  ·exact other hp
 ·exact other hp
def V7 (ty:eV) (rs:List ResultVar) (jV:List (Option TT)) (Q:TV→Prop) (e:DX) (te:List TV) (tS:List TB):Prop :=
 (match e with | .exit _=>False | _=>True)∧∃ vs,xL ty te tS rs=some vs∧(s5 tS vs).all eC=true∧refs (iJ (aX jV (s5 tS vs)))=[]∧Q (iJ (aX jV (s5 tS vs)))
theorem OT {aZ:bn} {L n:Nat} {f:FuncId} {fn:Func} {c:Code} {targs:List TV} {jV:List (Option TT)} {Q:TV→Prop} (hf:P.funcs[f]? = some fn) (hb:fn.body=some c) (ht:∀ a,aZ f a=none)
  (h:WT P ty (xM P ty aZ L n) (vV P ty aZ L n) (yfN P ty aZ L n) [] L f false c (targs++List.replicate (fn.ntmps-targs.length) .unk) [] (V7 ty fn.results.toList jV Q)):oM (xM P ty aZ L (n+1)) f targs Q:=by
 intro cn hd
 have hlen:=ff hd
 have hR:bK eD (targs++List.replicate (fn.ntmps-targs.length) .unk) [] (cn++List.replicate (fn.ntmps-cn.length) aP) []:=by
  refine⟨dA hd (by rw[hlen]; exact pV _ _),fun k l hk=>(by simp at hk),fun k e s hk=>(by simp at hk),fun k k' hk=>(by cases hk),fun i j k' hi=>(by cases hi),fun k b hk=>(by simp at hk)⟩
 obtain⟨e,ay,S',ι',bT,bV,h1,h2,h3,h4,h5,h6⟩:=h eD _ [] hR (fun k hk=>(by cases hk))
 obtain⟨h6,vs,h7,h8,h9,qZ⟩:=h6
 obtain⟨ds,k1,k2⟩:=pY h2 h7
 obtain⟨Y5,c1,c2⟩:=Xt h2 k2 h8
 obtain⟨k3,k4⟩:=Be (ts:=jV) (ι':=eD) (S':=[]) h8 c2
 refine⟨(oneOf Y5).strip,_,?_,k3,k4,h9,qZ⟩
 have hc:(cG P ty aZ L (n+1)).1 f cn []=some (oneOf ds,S'):=by
  simp only[cG,hf,qQ,hb]
  have FW:bC P ty (je aZ (cG P ty aZ L n).1) (cG P ty aZ L n).1 (cG P ty aZ L n).2 L f false c (cn++List.replicate (fn.ntmps-cn.length) aP) []=some (e,ay,S'):=h1
  rw[FW]
  cases e with
  | normal=>simp only[k1,Option.map_some]
  | ret=>simp only[k1,Option.map_some]
  | exit id=>exact h6.elim
 simp only[xM,je,ht,hc,← c1,k3,if_true]
def Mb (ty:eV) (rs:List ResultVar) (jV:List (Option TT)) (mq:List (Option TT)) (Q:TV→List TV→Prop) (e:DX) (te:List TV) (tS:List TB):Prop :=
 (match e with | .exit _=>False | _=>True)∧∃ vs ts,xL ty te tS rs=some vs∧vs.all eC=true∧refs (iJ (aX jV vs))=[]∧tS[0]? = some (.cells ts)∧ts.all eC=true∧gf (aX mq ts)=[]∧Q (iJ (aX jV vs)) (aX mq ts)
theorem O4 {aZ:bn} {L n:Nat} {f:FuncId} {fn:Func} {c:Code} {targs ts:List TV} {jV mq:List (Option TT)} {Q:TV→List TV→Prop} (hf:P.funcs[f]? = some fn) (hb:fn.body=some c)
  (h:WT P ty (xM P ty aZ L n) (vV P ty aZ L n) (yfN P ty aZ L n) [0] L f false c (targs++List.replicate (fn.ntmps-targs.length) .unk) [.cells ts] (Mb ty fn.results.toList jV mq Q)):vY (vV P ty aZ L (n+1)) f targs ts Q:=by
 intro ι cn S hR
 have hlen:=ff hR.env
 have jQ:bK ι (targs++List.replicate (fn.ntmps-targs.length) .unk) [.cells ts] (cn++List.replicate (fn.ntmps-cn.length) aP) S :=
  ⟨dA hR.env (by rw[hlen]; exact pV _ _),hR.cells,hR.own,hR.uE,hR.inj,hR.mp⟩
 obtain⟨e,ay,S',ι',bT,bV,h1,h2,h3,h4,h5,h6⟩:=h ι _ S jQ (fun k hk=>(by
  have:k=0:=by simpa using hk
  subst this
  exact⟨ts,rfl⟩))
 obtain⟨h6,vs,qy,h7,h8,h9,qZ,z7,Lg,Tf⟩:=h6
 obtain⟨ds,k1,k2⟩:=pY h2 h7
 obtain⟨k',eE,m1,m2,m3⟩:=h2.cells 0 qy qZ
 refine⟨oneOf ds,S',ι',_,aX mq qy,k',eE,?_,Kp (ts:=jV) h8 k2,h9,Lg,by rw[← h4.base 0 (by simp)]; exact m1,m2,iG z7 m3,h4,h5,Tf⟩
 simp only[vV,cG,hf,qQ,hb]
 have FW:bC P ty (je aZ (cG P ty aZ L n).1) (cG P ty aZ L n).1 (cG P ty aZ L n).2 L f false c (cn++List.replicate (fn.ntmps-cn.length) aP) S=some (e,ay,S'):=h1
 rw[FW]
 cases e with
 | normal=>simp only[k1,Option.map_some]
 | ret=>simp only[k1,Option.map_some]
 | exit id=>exact h6.elim
end Go.Tv
end
section
namespace Go.Tv
open Go Go.Di
section
variable (P:Program) (ty:eV) (tt:TypeId→Option TT)
def Mi:List TV→Option Nat
 | []=>none
 | v::l=>match refs v with
  | k::_=>if isRef v then some k else Mi l
  | []=>Mi l
end
variable {P:Program} {ty:eV} {tt:TypeId→Option TT} {ι ι' w:jF} {S S':ak} {te jU:List TV} {env:List DV} {tS gM:List TB} {aD:bn} {call:aW} {yf:dH} {o:Oper} {aA nT:Nat} {B:List Nat} {r:TR} {ops:Array Oper} {L:Nat} {fn:FuncId} {fC:Bool} {a b c:Code} {Q Q':DX→List TV→List TB→Prop}
variable {fs:List cu}
def WI (P:Program) (ty:eV) (aD:bn) (call:aW) (yf:dH) (B:List Nat) (L:Nat) (fn:FuncId) (fC:Bool) (n:Nat) (c:Code) (te:List TV) (tS:List TB) (Q:DX→List TV→List TB→Prop):Prop :=
 ∀ ι env S,bK ι te tS env S→lY B tS→∃ e ay S' ι' bT bV,j5 (bC P ty aD call yf L fn fC c) n env S=some (e,ay,S')∧bK ι' bT bV ay S'∧lY B bV∧Fr B ι S ι' S'∧Nn S.length S S'∧Q e bT bV
theorem vu {f:List DV→ak→Option (DX×List DV×ak)}:∀ {n m:Nat} {env:List DV} {S:ak} {r:DX×List DV×ak},n≤m→j5 f n env S=some r→j5 f m env S=some r
 | 0,_,_,_,_,_,h=>by cases h
 | n+1,0,_,_,_,hn,_=>by omega
 | n+1,m+1,env,S,r,hn,h=>by
  simp only[j5] at h ⊢
  split at h
  ·rename_i ay S' e
   exact vu (by omega) h
  ·exact h
theorem Jy {n:Nat} (hn:n≤L) (h:WI P ty aD call yf B L fn fC n c te tS Q):WT P ty aD call yf B L fn fC (.loop c) te tS Q:=by
 intro ι env S hR hB
 obtain⟨e,ay,S',ι',bT,bV,h1,h2⟩:=h ι env S hR hB
 exact⟨e,ay,S',ι',bT,bV,by simp only[bC]; exact vu hn h1,h2⟩
theorem QZ {n:Nat} (h:WT P ty aD call yf B L fn fC c te tS fun e te tS=>match e with | .normal=>WI P ty aD call yf B L fn fC n c te tS Q | e=>Q e te tS):WI P ty aD call yf B L fn fC (n+1) c te tS Q:=by
 intro ι env S hR hB
 obtain⟨e,ay,S',ι',bT,bV,h1,h2,h3,h4,h5,h6⟩:=h ι env S hR hB
 cases e with
 | normal =>
  obtain⟨e,mG,ry,ι'',rB,rC,k1,k2,k3,k4,k5,k6⟩:=h6 ι' ay S' h2 h3
  exact⟨e,mG,ry,ι'',rB,rC,by simp only[j5,h1,k1],k2,k3,h4.trans k4,o6 h5 k5,k6⟩
 | exit id=>exact⟨_,ay,S',ι',bT,bV,by simp only[j5,h1],h2,h3,h4,h5,h6⟩
 | ret=>exact⟨_,ay,S',ι',bT,bV,by simp only[j5,h1],h2,h3,h4,h5,h6⟩
theorem Q2 {n:Nat} (hl:sX jU te) (hb:Aa gM tS) (gZ:okB jU gM=true) (hB:∀ k,k∈B→kR gM k=true) (h:WI P ty aD call yf B L fn fC n c jU gM Q):WI P ty aD call yf B L fn fC n c te tS Q:=by
 intro ι env S hR Te
 have Jj:=pg hb Te hB
 obtain⟨ι1,h1,h2,-⟩:=oW hR hl hb gZ Jj
 obtain⟨e,ay,S',ι',bT,bV,m1,m2,m3,m4,m5⟩:=h ι1 env S h1 Jj
 exact⟨e,ay,S',ι',bT,bV,m1,m2,m3,h2.trans m4,m5⟩
theorem Q1 {σ:Type} {N:Nat} (f:σ→List TV×List TB) (dX:σ→Prop) (m:σ→Nat) (s0:σ) (h0:Fits B (f s0).1 (f s0).2 te tS) (hg:dX s0) (hm:m s0<N)
  (hstep:∀ s,dX s→WT P ty aD call yf B L fn fC c (f s).1 (f s).2 fun e te tS=>match e with | .normal=>∃ s',Fits B (f s').1 (f s').2 te tS∧dX s'∧m s'<m s | e=>Q e te tS):WI P ty aD call yf B L fn fC N c te tS Q:=by
 refine Q2 h0.l h0.b h0.ok h0.base ?_
 have key:∀ n s,dX s→m s<n→∀ ι env S,bK ι (f s).1 (f s).2 env S→lY B (f s).2→∃ e ay S' ι' bT bV,j5 (bC P ty aD call yf L fn fC c) n env S=some (e,ay,S')∧bK ι' bT bV ay S'∧lY B bV∧Fr B ι S ι' S'∧Nn S.length S S'∧Q e bT bV:=by
  intro n
  induction n with
  | zero=>intro s _ h; omega
  | succ n ih =>
   intro s hs hn ι env S hR hB
   obtain⟨e,ay,S',ι',bT,bV,h1,h2,h3,h4,h5,h6⟩:=hstep s hs ι env S hR hB
   cases e with
   | normal =>
    obtain⟨s',hf,jO,hlt⟩:=h6
    have Jj:=pg hf.b h3 hf.base
    obtain⟨ι1,k1,k2,-⟩:=oW h2 hf.l hf.b hf.ok Jj
    obtain⟨e,mG,ry,ι'',rB,rC,m1,m2,m3,m4,m5,m6⟩:=ih s' jO (by omega) ι1 ay S' k1 Jj
    exact⟨e,mG,ry,ι'',rB,rC,by simp only[j5,h1,m1],m2,m3,(h4.trans k2).trans m4,o6 h5 m5,m6⟩
   | exit id=>exact⟨_,ay,S',ι',bT,bV,by simp only[j5,h1],h2,h3,h4,h5,h6⟩
   | ret=>exact⟨_,ay,S',ι',bT,bV,by simp only[j5,h1],h2,h3,h4,h5,h6⟩
 intro ι env S hR hB
 exact key N s0 hg hm ι env S hR hB
theorem QT {σ:Type} (f:σ→List TV×List TB) (dX:σ→Prop) (h1:WT P ty aD call yf B L fn fC a te tS fun e te tS=>match e with | .normal=>∃ s,Fits B (f s).1 (f s).2 te tS∧dX s | e=>Q e te tS)
  (h2:∀ s,dX s→WT P ty aD call yf B L fn fC b (f s).1 (f s).2 Q):WT P ty aD call yf B L fn fC (.seq a b) te tS Q:=by
 refine MP (h1.mono ?_)
 intro e te tS hq
 cases e with
 | normal =>
  obtain⟨s,hf,hg⟩:=hq
  exact QS hf.l hf.b hf.ok hf.base (h2 s hg)
 | exit id=>exact hq
 | ret=>exact hq
theorem EO:∀ owns:List (Nat×Nat),Aa (owns.map fun p=>TB.own p.1 p.2) []
 | [] => .nil
 | _::l => .new (EO l)
end Go.Tv
end
section
namespace Go.Di
open Go Go.Proofs
def aay (d:Tmp) (t:TypeId):Nat:=if t==23 then (if d==19 then 1 else if d==38 then 2 else 0) else 0
noncomputable abbrev TyH:eV:=⟨xK Tryz.prog,aay⟩
end Go.Di
end
section
namespace Go.Tv
open Go Go.Di Go.Proofs
abbrev bX:TT := .int .i64
abbrev cB:TT := .sl bX
abbrev aU:TT := .pair cB (.pair cB (.pair bX (.pair cB .unit)))
abbrev GA:TT := .pair bX (.pair bX .unit)
abbrev bY:TT := .pair bX (.pair bX (.pair bX .unit))
abbrev ZT:TT := .pair .bool (.pair bY .unit)
def ttL:List (Nat×TT):=[(3,bX),(4,.bool),(35,bX),(23,cB),(25,aU),(22,.sl aU),(75,GA),(83,.int .u64),(79,bY),(34,.sl bY),(81,bY),(47,.sl bY),(41,.sl cB),(9,.str),(145,ZT),(142,ZT),(143,.sl .bool)]
def KU (t:TypeId):Option TT:=(ttL.find? fun p=>p.1==t).map (·.2)
abbrev vv:=TV.val
abbrev vi:=Value.int IntKind.i64
abbrev vb:=Value.bool
abbrev bp (n:Int):TV := .val (.int .i64 n)
abbrev nu (b:Bool):TV := .val (.bool b)
noncomputable abbrev Tp:Program:=Tryz.prog
noncomputable abbrev Ty:eV:=TyH
def LL:Nat:=1001000
structure oF (aZ:bn):Prop where
 other:∀ f a,f≠60→f≠133→f≠12→f≠43→f≠52→aZ f a=none
 fit:aZ 12 []=some (.val (.bool true))
section
variable (aZ:bn) (n:Nat)
noncomputable abbrev rE:bn:=xM Tp Ty aZ LL n
noncomputable abbrev jT:aW:=vV Tp Ty aZ LL n
noncomputable abbrev SJ:dH:=yfN Tp Ty aZ LL n
end
theorem yc {n:Int} (h : -9223372036854775808≤n) (h':n≤9223372036854775807):IntKind.i64.wrap n=n:=by rw[IntKind.wrap_i64]; omega
end Go.Tv
end
section
namespace Go.Tv
open Go Go.Di
def x9 (aD:bn) (call:aW) (g:FuncId) (targs:List TV) (Q:List TV→Prop):Prop :=
 ∀ cn S,cA eD S targs cn→(∀ ds,cA eD [] targs ds→aD g ds=none)∧∃ S' id ds ts,call g cn S=some (.ptr id 0,S')∧¬ Lv S id∧S'[id]? = some (.cells ds)∧cA eD [] ts ds∧gf ts=[]∧(∀ k',Lv S k'→S'[k']? = S[k']?)∧Nn S.length S S'∧Q ts
theorem x9.mono {aD:bn} {call:aW} {g:FuncId} {targs:List TV} {Q Q':List TV→Prop} (h:x9 aD call g targs Q) (hq:∀ v,Q v→Q' v):x9 aD call g targs Q':=fun cn S hd=>by
 obtain⟨h0,S',id,ds,ts,h1,h2,h3,h4,h5,h6,h7,h8⟩:=h cn S hd
 exact⟨h0,S',id,ds,ts,h1,h2,h3,h4,h5,h6,h7,hq _ h8⟩
variable {P:Program} {ty:eV} {tt:TypeId→Option TT} {ι ι' w:jF} {S S':ak} {te jU:List TV} {env:List DV} {tS gM:List TB} {aD:bn} {call:aW} {yf:dH} {o:Oper} {aA nT:Nat} {B:List Nat} {r:TR} {ops:Array Oper}
theorem Hq {f:Operand} {args:Array Operand} {argTypes:Array TypeId} {g:FuncId} {fs cs xs targs:List TV} {Q:List TV→Prop} (hop:o.op = .call { callee := .value f,args,argTypes }) (hh:ty.h o≠1) (hf:fD te f=some (.fn g fs cs)) (ha:lH te args.toList=some xs) (hp:(fs++xs++cs).all eC=true)
  (hn:aX (gp tt fs argTypes) (fs++xs++cs)=targs) (hs:x9 aD call g targs Q):Does P ty aD call yf B o nT te tS false fun v bT bV _=>∃ ts,Q ts∧v = .ptr nT 0∧bT=te∧bV=oB tS nT (.cells ts):=by
 intro ι w env S aA hR hB hw hT Px hS
 obtain⟨xI,jw,Jc,k1,k2,k3⟩:=jr hR.env hf ha
 obtain⟨k4,k5⟩:=iF (ts:=gp tt fs argTypes) (ι':=eD) (S':=[]) hp k3
 have k6:=iG (ts:=gp tt fs argTypes) (ι':=eD) (S':=S) hp k3
 rw[hn] at k5 k6
 obtain⟨h0,S',id,ds,ts,m1,m2,m3,m4,m5,m6,m7,m8⟩:=hs _ S k6
 have hne:∀ {k k':Nat},ι k=some k'→k'≠id:=fun hk e=>m2 (e▸hR.live hk)
 have qF:ι nT=none:=hR.new hT
 have K:jg ι S (upd ι nT id) S' fun _=>False:=fun k k' _ hk=>by
  have h1:k≠nT:=by rintro rfl; rw[qF] at hk; cases hk
  exact⟨by simp only[upd,h1,if_false]; exact hk,dM (m6 k' (hR.live hk))⟩
 refine⟨.ptr id 0,S',upd ι nT id,fun j=>if j=id then some nT else w j,.ptr nT 0,te,oB tS nT (.cells ts),⟨none,true⟩,⟨none,true⟩,fun _ => ?_,fun e=>(by cases e),⟨fun e=>e,fun l hl=>(by cases hl)⟩,fun l m hl=>(by cases hl),?_,by simp[RT,upd],?_,?_,?_,iV hB hT,⟨m7.1,fun j hj dN=>m7.2 j (by have:=(List.getElem?_eq_some_iff.1 dN).1; omega) dN⟩,ts,m8,rfl,rfl,rfl⟩
 ·simp only[ai,hop,k1,k2,tw,k4,if_true,h0 _ k5,m1]
 ·refine⟨aY K _ _ hR.env,fun k l hk => ?_,fun k e s hk t ht => ?_,fun k k' hk => ?_,fun i j k' hi hj => ?_,fun k b hk t ht => ?_⟩
  ·rw[bL hT] at hk
   split at hk
   ·rename_i e
    subst e
    cases hk
    exact⟨id,ds,by simp[upd],m3,gz _ _ m5 m4⟩
   ·rename_i e
    obtain⟨k',eE,h1,h2,h3⟩:=hR.cells k l hk
    exact⟨k',eE,by simp only[upd,e,if_false]; exact h1,by rw[m6 k' (hR.live h1)]; exact h2,aY K _ _ h3⟩
  ·rw[bL hT] at hk
   split at hk
   ·cases hk
   ·rename_i e'
    simp only[upd,e',if_false] at ht
    obtain⟨n,h1⟩:=hR.own k e s hk t ht
    exact⟨n,by rw[m6 t (hR.live ht)]; exact h1⟩
  ·rw[bL hT]
   split
   ·exact⟨_,rfl,fun e=>by cases e⟩
   ·rename_i e
    simp only[upd,e,if_false] at hk
    exact hR.uE k k' hk
  ·unfold upd at hi hj
   split at hi<;>split at hj
   ·omega
   ·cases hi; exact(hne hj rfl).elim
   ·cases hj; exact(hne hi rfl).elim
   ·exact hR.inj i j k' hi hj
  ·rw[bL hT] at hk
   split at hk
   ·cases hk; trivial
   ·rename_i e'
    simp only[upd,e',if_false] at ht
    rw[m6 t (hR.live ht)]; exact hR.mp k b hk t ht
 ·intro a b lX
  unfold upd at lX
  split at lX
  ·rename_i e; subst e; cases lX; simp
  ·simp only[hne lX,if_false]; exact hw _ _ lX
 ·intro e; cases e
 ·refine⟨fun k' hl _=>m6 k' hl,fun k k' hk => ?_,fun k hk => ?_⟩
  ·unfold upd at hk
   split at hk
   ·cases hk; exact .inr m2
   ·exact .inl ⟨k,hk⟩
  ·have:=kD hB hT
   unfold upd
   rw[if_neg (fun e:k=nT=>this (e▸hk))]
def V6 (ty:eV) (rs:List ResultVar) (mq:List (Option TT)) (Q:List TV→Prop) (e:DX) (te:List TV) (tS:List TB):Prop :=
 (match e with | .exit _=>False | _=>True)∧∃ ts,xL ty te tS rs=some [.ptr 0 0]∧tS[0]? = some (.cells ts)∧ts.all eC=true∧gf (aX mq ts)=[]∧Q (aX mq ts)
theorem OE {aZ:bn} {L n:Nat} {f:FuncId} {fn:Func} {c:Code} {targs:List TV} {mq:List (Option TT)} {Q:List TV→Prop} (hf:P.funcs[f]? = some fn) (hb:fn.body=some c) (ht:∀ a,aZ f a=none)
  (h:WT P ty (xM P ty aZ L n) (vV P ty aZ L n) (yfN P ty aZ L n) [] L f false c (targs++List.replicate (fn.ntmps-targs.length) .unk) [] (V6 ty fn.results.toList mq Q)):x9 (xM P ty aZ L (n+1)) (vV P ty aZ L (n+1)) f targs Q:=by
 have key:∀ cn S,cA eD S targs cn→∃ S' id ds ts,(cG P ty aZ L (n+1)).1 f cn S=some (.ptr id 0,S')∧¬ Lv S id∧S'[id]? = some (.cells ds)∧cA eD [] ts ds∧gf ts=[]∧(∀ k',Lv S k'→S'[k']? = S[k']?)∧Nn S.length S S'∧Q ts:=by
  intro cn S hd
  have hlen:=ff hd
  have hR:bK eD (targs++List.replicate (fn.ntmps-targs.length) .unk) [] (cn++List.replicate (fn.ntmps-cn.length) aP) S:=by
   refine⟨dA hd (by rw[hlen]; exact pV _ _),fun k l hk=>(by simp at hk),fun k e s hk=>(by simp at hk),fun k k' hk=>(by cases hk),fun i j k' hi=>(by cases hi),fun k b hk=>(by simp at hk)⟩
  obtain⟨e,ay,S',ι',bT,bV,h1,h2,h3,h4,h5,h6⟩:=h eD _ S hR (fun k hk=>(by cases hk))
  obtain⟨h6,ts,h7,h8,h9,qZ,z7⟩:=h6
  obtain⟨ds,k1,k2⟩:=pY h2 h7
  obtain⟨d,m',rfl,k3,k4⟩:=aj k2
  rw[aJ k4] at k1
  cases d<;>simp only[RT] at k3
  rename_i id off
  obtain⟨k3,rfl⟩:=k3
  obtain⟨gE,eE,m1,m2,m3⟩:=h2.cells 0 ts h8
  rw[k3] at m1
  cases m1
  refine⟨S',id,eE,aX mq ts,?_,?_,m2,iG h9 m3,qZ,fun k' hl=>h4.rest k' hl (fun k hk=>by cases hk),h5,z7⟩
  ·simp only[cG,hf,qQ,hb]
   have FW:bC P ty (je aZ (cG P ty aZ L n).1) (cG P ty aZ L n).1 (cG P ty aZ L n).2 L f false c (cn++List.replicate (fn.ntmps-cn.length) aP) S=some (e,ay,S'):=h1
   rw[FW]
   cases e with
   | normal=>simp only[k1,Option.map_some,oneOf]
   | ret=>simp only[k1,Option.map_some,oneOf]
   | exit id=>exact h6.elim
  ·rcases h4.ours 0 id k3 with ⟨j,hj⟩ | hl
   ·cases hj
   ·exact hl
 intro cn S hd
 refine⟨fun ds hds => ?_,key cn S hd⟩
 obtain⟨S',id,eE,ts,k1,-⟩:=key ds [] hds
 simp only[xM,je,ht,jd,qJ,k1,DV.strip,DV.cv,DV.pure,DV.gP,Bool.false_eq_true,if_false]
end Go.Tv
end
section
namespace Go.Tv
open Go Go.Di Go.Proofs
variable {P:Program}
theorem cQ {α β:Type} (s:Sem α) (f:α→Sem β):bI P (s >>= f)=(bI P s).bind fun a=>bI P (f a):=by
 change bI P (s.bind f)=_
 cases s with
 | pure a=>rfl
 | program k =>
  simp only[Sem.bind,bI]
  generalize k P=s'
  induction s' with
  | pure a=>rfl
  | program k ih=>simp only[Sem.bind,bI]; exact ih P
  | _=>simp only[Sem.bind,bI,Option.bind_none]
 | _=>simp only[Sem.bind,bI,Option.bind_none]
theorem sj {α:Type} (a:α):bI P (pure a:Sem α)=some a:=rfl
theorem jD:bI P program=some P:=rfl
theorem jv {t:TypeId} {d:TypeDesc} (h:P.underlying t=some d):bI P (underlying t)=some d:=by
 unfold underlying
 rw[cQ,jD]
 simp only[Option.bind_some,h]
 rfl
theorem J8 (d:Nat) (t:TypeId) (k k':IntKind) (a b:Int) (h:P.underlying t=some (.int k')):bI P (Op.equalIn (d+1) t (.int k a) (.int k b))=some (a==b):=by
 simp only[Op.equalIn,cQ,jv h,Option.bind_some,if_true]
 rfl
theorem J7 {α:Type} {c:Prop} [Decidable c] {a b:Sem α}:bI P (if c then a else b)=if c then bI P a else bI P b:=by split<;>rfl
theorem nR (d:Nat) (t:TypeId) (xs ys:Array Value) (ht:P.underlying t=some (.struct (P.fieldsOf t))) (hp:P.stoodInHeld t=false) :
  bI P (Op.equalIn (d+1) t (.agg xs) (.agg ys))=bI P (Op.eqFields d xs ys (P.fieldsOf t).toList):=by
 simp only[Op.equalIn,cQ,jv ht,Option.bind_some,jD,hp,Bool.false_eq_true,if_false]
 rw[← Array.forIn_toList]
 generalize (P.fieldsOf t).toList=fs
 clear ht
 induction fs with
 | nil=>rfl
 | cons f fs ih =>
  simp only[List.forIn_cons,Op.eqFields,cQ,J7]
  split
  ·generalize bI P (part f.type xs f.offset)=r1
   cases r1 with
   | none=>rfl
   | some a =>
    generalize bI P (part f.type ys f.offset)=r2
    cases r2 with
    | none=>rfl
    | some b =>
     simp only[Option.bind_some]
     generalize bI P (Op.equalIn d f.type a b)=r3
     cases r3 with
     | none=>rfl
     | some r =>
      cases r
      ·simp only[Option.bind_some,Bool.not_false,if_true,sj]
      ·simp only[Option.bind_some,Bool.not_true,Bool.false_eq_true,if_false,sj]
       exact ih
  ·simp only[sj,Option.bind_some]
   exact ih
theorem Se {d:Nat} {xs ys:Array Value}:bI P (Op.eqFields d xs ys [])=some true:=rfl
theorem Sl {t:TypeId} {xs ys:Array Value} {b:Bool} (ht:P.underlying t=some (.struct (P.fieldsOf t))) (hp:P.stoodInHeld t=false) (hm:P.eqGuardType P.depth t=false) (hf:bI P (Op.eqFields 9999 xs ys (P.fieldsOf t).toList)=some b) (x y:Operand) :
  gO P (do eqGuard .neq t x y (.agg xs) (.agg ys); binOp .neq t (.agg xs) (.agg ys))=some (.val (.bool !b)):=by
 have h1:bI P (eqGuard .neq t x y (.agg xs) (.agg ys))=some ():=by
  simp only[eqGuard]
  simp only[Bool.not_true,Bool.false_eq_true,if_false,cQ,jD,Option.bind_some,hm,Bool.not_false,if_true]
  rfl
 have h2:bI P (binOp .neq t (.agg xs) (.agg ys))=some (.bool !b):=by
  simp only[binOp,cQ,Op.equal,Op.maxDepth,nR 9999 t xs ys ht hp,hf,Option.bind_some]
  rfl
 rw[gO,cQ,h1,Option.bind_some,h2]
 rfl
variable {ty:eV} {tt:TypeId→Option TT} {ι ι' w:jF} {S S':ak} {te jU:List TV} {env:List DV} {tS gM:List TB} {aD:bn} {call:aW} {yf:dH} {o:Oper} {aA nT:Nat} {B:List Nat} {ops:Array Oper}
end Go.Tv
end
section
namespace Go.Tv
open Go Go.Di Go.Proofs
def QD:(t:TT)→DecidableEq t.den
 | .int _=>inferInstanceAs (DecidableEq Int)
 | .bool=>inferInstanceAs (DecidableEq Bool)
 | .str=>inferInstanceAs (DecidableEq ByteArray)
 | .unit=>inferInstanceAs (DecidableEq Unit)
 | .pair a b=>fun x y=>@instDecidableEqProd _ _ (QD a) (QD b) x y
 | .sl t=>fun x y=>@instDecidableEqList _ (QD t) x y
def LS (t:TT) (x:t.den) (l:List t.den):Bool:=l.any fun y=>@decide (x=y) (QD t x y)
def Vp (t:TT) (x:t.den) (l:List t.den):List t.den:=bif LS t x l then l else l++[x]
structure Ux (P:Program) (t:TypeId) (kt:TT):Prop where
 look:∀ (x:kt.den) (l:List kt.den),bI P (HU t ((wU kt l).map Di.Pk) (Dx kt x) false)=some (.bool (LS kt x l))
 find:∀ (x:kt.den) (l:List kt.den),∃ r,bI P (H9 t ((wU kt l).map Di.Pk) (Dx kt x))=some r∧LO (wU kt l) (Dx kt x) (.bool true) r=some (wU kt (Vp kt x l))
def Qq (kt:TT) (v:TV):Option kt.den :=
 match v with
 | .agg l=>match fE l,kt.of l with
  | some vs,some (x,[])=>if vs.length=(AL kt x).length then some x else none
  | _,_=>none
 | _=>none
def Vn (P:Program) (tt:TypeId→Option TT) (te:List TV) (tS:List TB) (o:Oper) (nT:Nat):Option (TV×List TB×Prop) :=
 match o.op with
 | .makeMap t none=>match tt t with
  | some kt=>some (.mp nT,oB tS nT (.map kt []),True)
  | none=>none
 | .lookup t m k false=>match fD te m,fD te k with
  | some (.mp id),some v=>match tS[id]? with
   | some (.map kt l)=>match Qq kt v with
    | some x=>some (.val (.bool (LS kt x l)),tS,Ux P t kt)
    | none=>none
   | _=>none
  | _,_=>none
 | .mapUpdate t m k y=>match fD te m,fD te k,fD te y with
  | some (.mp id),some v,some (.val (.bool true))=>match tS[id]? with
   | some (.map kt l)=>match Qq kt v with
    | some x=>some (.unk,tS.set id (.map kt (Vp kt x l)),Ux P t kt)
    | none=>none
   | _=>none
  | _,_,_=>none
 | _=>none
theorem CK:∀ {t:TT} {l:List TV} {x:t.den} {r:List TV} {vs:List Value},t.of l=some (x,r)→fE l=some vs→∃ PN,fE r=some PN∧vs=AL t x++PN
 | .int k,l,x,r,vs,h,hv=>by
  simp only[TT.of] at h
  unfold ofInt at h
  split at h
  ·split at h
   ·rename_i hk
    subst hk
    cases h
    simp only[fE,Option.map_eq_some_iff] at hv
    obtain⟨PN,h1,rfl⟩:=hv
    exact⟨PN,h1,rfl⟩
   ·cases h
  ·cases h
 | .bool,l,x,r,vs,h,hv=>by
  simp only[TT.of] at h
  unfold ofBool at h
  split at h
  ·cases h
   simp only[fE,Option.map_eq_some_iff] at hv
   obtain⟨PN,h1,rfl⟩:=hv
   exact⟨PN,h1,rfl⟩
  ·cases h
 | .str,l,x,r,vs,h,hv=>by
  simp only[TT.of] at h
  unfold ofStr at h
  split at h
  ·cases h
   simp only[fE,Option.map_eq_some_iff] at hv
   obtain⟨PN,h1,rfl⟩:=hv
   exact⟨PN,h1,rfl⟩
  ·cases h
 | .unit,l,x,r,vs,h,hv=>by
  simp only[TT.of] at h
  cases h
  exact⟨vs,hv,rfl⟩
 | .sl t,l,x,r,vs,h,hv=>by
  simp only[TT.of] at h
  unfold Qp at h
  split at h
  ·simp[fE] at hv
  ·simp[fE] at hv
  ·cases h
 | .pair a b,l,x,r,vs,h,hv=>by
  simp only[TT.of] at h
  split at h
  ·rename_i y m h1
   split at h
   ·rename_i z m' h2
    cases h
    obtain⟨vs1,k1,rfl⟩:=CK h1 hv
    obtain⟨vs2,k2,rfl⟩:=CK h2 k1
    exact⟨vs2,k2,by simp[AL]⟩
   ·cases h
  ·cases h
theorem IZ {kt:TT} {v:TV} {x:kt.den} (h:Qq kt v=some x):fS v=some (Dx kt x):=by
 unfold Qq at h
 split at h
 ·split at h
  ·rename_i vs y h1 h2
   split at h
   ·cases h
    obtain⟨PN,k1,rfl⟩:=CK h2 h1
    cases k1
    simp only[fS,h1,Option.map_some,Dx,List.append_nil]
   ·cases h
  ·cases h
 ·cases h
section
variable (P:Program)
def QC (t:TypeId) (a b:Value):Option Bool :=
 match a,b,P.underlying t with
 | .int k a,.int k' b,some (.int _)=>if k'=k then some (a==b) else none
 | .bool a,.bool b,some .bool=>some (a==b)
 | _,_,_=>none
def D8 (E:TypeId→Value→Value→Option Bool) (xs ys:Array Value):List Field→Option Bool
 | []=>some true
 | f :: fs => match f.name != "_", bI P (part f.type xs f.offset), bI P (part f.type ys f.offset) with
  | true,some a,some b=>match E f.type a b,D8 E xs ys fs with
   | some u,some r=>some (u&&r)
   | _,_=>none
  | _,_,_=>none
def eqV:Nat→TypeId→Value→Value→Option Bool
 | 0,t,a,b=>QC P t a b
 | n+1,t,a,b=>match a,b with
  | .agg xs,.agg ys=>match P.underlying t,P.stoodInHeld t with
   | some (.struct fs),false=>D8 P (eqV n) xs ys fs.toList
   | _,_=>none
  | a,b=>QC P t a b
end
section
variable {P:Program}
theorem nP {t:TypeId} {fs:Array Field} (h:P.underlying t=some (.struct fs)):P.underlying t=some (.struct (P.fieldsOf t)):=by
 have:P.fieldsOf t=fs:=by simp only[Program.fieldsOf,h]
 rw[this]; exact h
theorem I2 {d:Nat} {t:TypeId} {a b:Value} {r:Bool} (h:QC P t a b=some r):bI P (Op.equalIn (d+1) t a b)=some r:=by
 unfold QC at h
 split at h
 ·rename_i k a k' b k2 hu
  split at h
  ·rename_i hk
   subst hk
   cases h
   exact J8 d t _ _ a b hu
  ·cases h
 ·rename_i a b hu
  cases h
  simp only[Op.equalIn,cQ,jv hu,Option.bind_some]
  rfl
 ·cases h
theorem yW {E:TypeId→Value→Value→Option Bool} {d:Nat} (hE:∀ t a b r,E t a b=some r→bI P (Op.equalIn d t a b)=some r) {xs ys:Array Value}:∀ {fs:List Field} {b:Bool},D8 P E xs ys fs=some b→bI P (Op.eqFields d xs ys fs)=some b
 | [],_,h=>by cases h; exact Se
 | f::fs,b,h=>by
  unfold D8 at h
  split at h
  ·rename_i a b' hn ha hb
   split at h
   ·rename_i u r h1 h2
    cases h
    have HD : f.name ≠ "_" := by simpa using hn
    simp only[Op.eqFields,HD,ne_eq,not_false_eq_true,if_true,cQ,ha,hb,Option.bind_some,hE _ _ _ _ h1]
    cases u
    ·rfl
    ·simp only[Bool.not_true,Bool.false_eq_true,if_false,Bool.true_and]; exact yW hE h2
   ·cases h
  ·cases h
theorem Nr:∀ {n d:Nat} {t:TypeId} {a b:Value} {r:Bool},n<d→eqV P n t a b=some r→bI P (Op.equalIn d t a b)=some r
 | 0,0,_,_,_,_,hd,_=>by omega
 | 0,d+1,_,_,_,_,_,h=>I2 h
 | n+1,0,_,_,_,_,hd,_=>by omega
 | n+1,d+1,t,a,b,r,hd,h=>by
  unfold eqV at h
  split at h
  ·rename_i xs ys
   split at h
   ·rename_i fs h1 h2
    rw[nR d t xs ys (nP h1) h2]
    simp only[Program.fieldsOf,h1]
    exact yW (fun t a b r h=>Nr (by omega) h) h
   ·cases h
  ·exact I2 h
end
variable {P:Program} {ty:eV} {tt:TypeId→Option TT} {ι ι' w:jF} {S S':ak} {te jU:List TV} {env:List DV} {tS gM:List TB} {aD:bn} {call:aW} {yf:dH} {o:Oper} {aA nT:Nat} {B:List Nat} {ops:Array Oper}
theorem Fp (h:bK ι te tS env S) (hT:uN tS nT) (hn:uO S aA) (kt:TT):bK (upd ι nT aA) te (oB tS nT (.map kt [])) env (de S aA (.map [])):=by
 have K:=qo h hT hn (.map [])
 refine⟨aY K _ _ h.env,fun k l hk => ?_,fun k e s hk t ht => ?_,fun k k' hk => ?_,fun i j k' hi hj => ?_,fun k b hk t ht => ?_⟩
 ·rw[bL hT] at hk
  split at hk
  ·cases hk
  ·rename_i e
   obtain⟨k',eE,h1,h2,h3⟩:=h.cells k l hk
   exact⟨k',eE,by simp only[upd,e,if_false]; exact h1,by rw[aS hn,if_neg (h.cz hn h1)]; exact h2,aY K _ _ h3⟩
 ·rw[bL hT] at hk
  split at hk
  ·cases hk
  ·rename_i e'
   simp only[upd,e',if_false] at ht
   obtain⟨n,h1⟩:=h.own k e s hk t ht
   exact⟨n,by rw[aS hn,if_neg (h.cz hn ht)]; exact h1⟩
 ·rw[bL hT]
  split
  ·exact⟨_,rfl,fun e=>by cases e⟩
  ·rename_i e
   simp only[upd,e,if_false] at hk
   exact h.uE k k' hk
 ·unfold upd at hi hj
  split at hi<;>split at hj
  ·omega
  ·cases hi; exact(h.cz hn hj rfl).elim
  ·cases hj; exact(h.cz hn hi rfl).elim
  ·exact h.inj i j k' hi hj
 ·rw[bL hT] at hk
  split at hk
  ·rename_i e'
   cases hk
   simp only[upd,e',if_true,Option.some.injEq] at ht
   subst ht
   rw[aS hn,if_pos rfl]; exact rfl
  ·rename_i e'
   simp only[upd,e',if_false] at ht
   rw[aS hn,if_neg (h.cz hn ht)]; exact h.mp k b hk t ht
theorem Fo (h:bK ι te tS env S) {id gE:Nat} {kt:TT} {l l':List kt.den} (hi:ι id=some gE) (hl:tS[id]? = some (.map kt l)):bK ι te (tS.set id (.map kt l')) env (S.set gE (.map (wU kt l'))):=by
 have hS:S[gE]? = some (.map (wU kt l)):=h.mp id _ hl gE hi
 have hlt:=(List.getElem?_eq_some_iff.1 hl).1
 have LZ:=(List.getElem?_eq_some_iff.1 hS).1
 have K:jg ι S ι (S.set gE (.map (wU kt l'))) fun _=>False:=fun a b _ lX=>⟨lX,by
  rw[List.getElem?_set]
  split
  ·rename_i e1; subst e1; exact tH (by rw[hS]; simp) (by rw[hS]; simp)
  ·exact dM rfl⟩
 have hg:∀ j,(tS.set id (.map kt l'))[j]? = if j=id then some (.map kt l') else tS[j]? := fun j=>by
  rw[List.getElem?_set]
  by_cases e:j=id
  ·subst e; simp[hlt]
  ·rw[if_neg (Ne.symm e),if_neg e]
 have jO:∀ j,j≠gE→(S.set gE (.map (wU kt l')))[j]? = S[j]? := fun j hj=>by rw[List.getElem?_set,if_neg (Ne.symm hj)]
 refine⟨aY K _ _ h.env,fun j m hj => ?_,fun j e s hj t ht => ?_,fun j j' hj => ?_,h.inj,fun j b hj t ht => ?_⟩
 ·rw[hg] at hj
  split at hj
  ·cases hj
  ·rename_i e
   obtain⟨j',Jk,h1,h2,h3⟩:=h.cells j m hj
   exact⟨j',Jk,h1,by rw[jO j' fun e1=>e (h.inj _ _ _ (e1▸h1) hi)]; exact h2,aY K _ _ h3⟩
 ·rw[hg] at hj
  split at hj
  ·cases hj
  ·obtain⟨n,h1⟩:=h.own j e s hj t ht
   exact⟨n,(K j t (fun e=>e) ht).2.1 _ _ _ h1⟩
 ·rw[hg]
  split
  ·exact⟨_,rfl,by simp⟩
  ·exact h.uE j j' hj
 ·rw[hg] at hj
  split at hj
  ·rename_i e
   subst e
   cases hj
   rw[hi] at ht
   cases ht
   rw[List.getElem?_set,if_pos rfl,if_pos LZ]; exact rfl
  ·rename_i e
   rw[jO t fun e1=>e (h.inj _ _ _ (e1▸ht) hi)]
   exact h.mp j b hj t ht
theorem SB {id:Nat} {kt:TT} {l l':List kt.den} (hB:lY B tS) (hl:tS[id]? = some (.map kt l)):lY B (tS.set id (.map kt l')):=fun k hk=>by
 obtain⟨c,hc⟩:=hB k hk
 refine⟨c,?_⟩
 rw[List.getElem?_set,if_neg]
 ·exact hc
 ·rintro rfl; rw[hl] at hc; cases hc
theorem O2 {v:TV} {gM:List TB} {c:Prop} (h:Vn P tt te tS o nT=some (v,gM,c)) (hc:c):Does P ty aD call yf B o nT te tS false fun v' bT bV _=>v'=v∧bT=te∧bV=gM:=by
 intro ι w env S aA hR hB hw hT hn hS
 unfold Vn at h
 split at h
 ·rename_i t ho
  split at h
  ·rename_i kt ht
   cases h
   refine⟨.map aA,de S aA (.map []),upd ι nT aA,upd w aA nT,.mp nT,te,_,⟨none,true⟩,⟨none,true⟩,fun _ => ?_,fun hd=>(by cases hd),⟨fun e=>e,fun l hl=>(by cases hl)⟩,fun l m hl=>(by cases hl),Fp hR hT hn kt,?_,nE hR hn hT hw,fun hd=>(by cases hd),oR hn (kD hB hT),iV hB hT,lR hn,rfl,rfl,rfl⟩
   ·simp only[ai,ho]
   ·simp[RT,upd]
  ·cases h
 ·rename_i t m k ho
  split at h
  ·rename_i id u h1 h2
   split at h
   ·rename_i kt l h3
    split at h
    ·rename_i x h4
     cases h
     obtain⟨d,k1,k2⟩:=aT hR.env h1
     cases d<;>simp only[RT] at k2
     rename_i gE
     have k3:S[gE]? = some (.map (wU kt l)):=hR.mp id _ h3 gE k2
     have k4:valOf (ga env) k=some (Dx kt x):=dO hR.env (by rw[h2]; exact IZ h4)
     refine⟨.val (.bool (LS kt x l)),S,ι,w,.val (.bool (LS kt x l)),te,tS,⟨none,true⟩,⟨none,true⟩,fun _ => ?_,fun hd=>(by cases hd),⟨fun e=>e,fun l hl=>(by cases hl)⟩,fun l m hl=>(by cases hl),hR,by simp only[RT],hw,fun hd=>(by cases hd),Fr.refl _ _ _,hB,ek _ _,rfl,rfl,rfl⟩
     simp only[ai,ho,k1,k4,k3,hc.look x l,Option.bind_some,DO,vQ]
     rfl
    ·cases h
   ·cases h
  ·cases h
 ·rename_i t m k y ho
  split at h
  ·rename_i id u h1 h2 h5
   split at h
   ·rename_i kt l h3
    split at h
    ·rename_i x h4
     cases h
     obtain⟨d,k1,k2⟩:=aT hR.env h1
     cases d<;>simp only[RT] at k2
     rename_i gE
     have k3:S[gE]? = some (.map (wU kt l)):=hR.mp id _ h3 gE k2
     have k4:valOf (ga env) k=some (Dx kt x):=dO hR.env (by rw[h2]; exact IZ h4)
     have k5:valOf (ga env) y=some (.bool true):=dO hR.env (by rw[h5]; rfl)
     obtain⟨r,k6,k7⟩:=hc.find x l
     refine⟨aP,S.set gE (.map (wU kt (Vp kt x l))),ι,w,.unk,te,_,⟨none,true⟩,⟨none,true⟩,fun _ => ?_,fun hd=>(by cases hd),⟨fun e=>e,fun l hl=>(by cases hl)⟩,fun l m hl=>(by cases hl),Fo hR k2 h3,by simp only[RT],hw,fun hd=>(by cases hd),uW k2,SB hB h3,uS k3 (fun e=>by cases e),rfl,rfl,rfl⟩
     simp only[ai,ho,k1,k4,k5,k3,k6,k7,Option.map_some]
    ·cases h
   ·cases h
  ·cases h
 ·cases h
end Go.Tv
end
