import Derived.Test.YtedcgbkilmlbhaaGreatPk04
import Derived.Test.YtedcgbkilmlbhaaGreatPk01
import Derived.Test.YtedcgbkilmlbhaaGreatProg
import Derived.Test.YtedcgbkilmlbhaaGreatChecked
import Derived.KernelRfl
import Derived.Laws.BitsLemmas
import Derived.Laws.StructEq
section
namespace Go.Tv
open Go Go.Di
def Uk (ty:eY) (te:List TV) (tS:List TB):ResultVar→Option TV
 | .tmp t=>some (te.getD t .unk)
 | .cell a t=>match ty t,te.getD a .unk with
  | some d,.ptr id off=>match tS[id]? with
   | some (.cells l)=>wo d.k.isAgg d.size l off
   | _=>none
  | _,_=>none
def x8 (ty:eY) (te:List TV) (tS:List TB):List ResultVar→Option (List TV)
 | []=>some []
 | x::r=>match Uk ty te tS x,x8 ty te tS r with
  | some v,some l=>some (v::l)
  | _,_=>none
def iO:List TV→TV
 | [d]=>d
 | l => .ep l
variable {P:Program} {ty:eY} {tt:TypeId→Option TT} {ι ι' w:jE} {S S':ak} {te j6:List TV} {env:List DV} {tS gT:List TB} {aC:bk} {call:aW} {yf:dR} {o:Oper} {ay nT:Nat} {B:List Nat} {r:TR} {ops:Array Oper}
theorem qh (h:bL ι te tS env S):∀ {rs:List ResultVar} {vs:List TV},x8 ty te tS rs=some vs→∃ ds,oI ty env S rs=some ds∧cq ι S vs ds
 | [],vs,hx=>by cases hx; exact⟨[],rfl,bI⟩
 | x::r,vs,hx=>by
  simp only[x8] at hx
  split at hx
  ·rename_i v l h1 h2
   cases hx
   obtain⟨ds,k1,k2⟩:=qh h h2
   cases x with
   | tmp t =>
    cases h1
    exact⟨_,by simp only[oI,k1,Option.map_some],aD (o7 h.env t) k2⟩
   | cell a t =>
    simp only[Uk] at h1
    split at h1
    ·rename_i d id off e1 e2
     split at h1
     ·rename_i l' e3
      have hg:=o7 h.env a
      rw[e2] at hg
      generalize hd:env.getD a aO=da at hg
      cases da<;>simp only[RT] at hg
      obtain⟨g1,rfl⟩:=hg
      obtain⟨gJ,eM,m1,m2,m3⟩:=h.cells id l' e3
      rw[g1] at m1
      cases m1
      obtain⟨q,m4,m5⟩:=mU m3 h1
      exact⟨q::ds,by simp only[oI,hd,iq,e1,m2,m4,k1],aD m5 k2⟩
     ·cases h1
    ·cases h1
  ·cases hx
theorem Bq {ts:List (Option TT)} {vs:List TV} {ds:List DV} (hp:vs.all eL=true) (h:cq ι S vs ds):(oneOf ds).strip.pure=true∧RT ι' S' (iO (aX ts vs)) (oneOf ds).strip:=by
 have many:∀ {ts:List (Option TT)} {l:List TV} {m:List DV},l.all eL=true→cq ι S l m→(m.map DV.cv).all DV.gV=true∧cq ι' S' (aX ts l) (m.map DV.cv):=by
  intro ts l
  induction l generalizing ts with
  | nil=>intro m _ h; rw[aF h]; cases ts<;>exact⟨rfl,by simp only[aX,List.map_nil]; exact bI⟩
  | cons a l ih =>
   intro m hp h
   obtain⟨d,m',rfl,h1,h2⟩:=ai h
   simp only[List.all_cons,Bool.and_eq_true] at hp
   cases ts with
   | nil =>
    obtain⟨k1,k0,k2⟩:=jA (t:=none) (ι':=ι') (S':=S') hp.1 h1
    obtain⟨k3,k4⟩:=ih (ts:=[]) hp.2 h2
    have e:d.strip=d.cv:=by cases d<;>first | rfl | exact(k0 _ rfl).elim
    rw[e] at k1 k2
    have e2:d.cv.gV=true:=by cases d<;>first | exact k1 | exact(k0 _ rfl).elim
    exact⟨by rw[List.map_cons,List.all_cons,e2,k3]; rfl,by simp only[aX,List.map_cons]; exact aD k2 k4⟩
   | cons t ts =>
    obtain⟨k1,k0,k2⟩:=jA (t:=t) (ι':=ι') (S':=S') hp.1 h1
    obtain⟨k3,k4⟩:=ih (ts:=ts) hp.2 h2
    have e:d.strip=d.cv:=by cases d<;>first | rfl | exact(k0 _ rfl).elim
    rw[e] at k1 k2
    have e2:d.cv.gV=true:=by cases d<;>first | exact k1 | exact(k0 _ rfl).elim
    exact⟨by rw[List.map_cons,List.all_cons,e2,k3]; rfl,by simp only[aX,List.map_cons]; exact aD k2 k4⟩
 match vs,ds,hp,h with
 | [],ds,_,h=>rw[aF h]; cases ts<;>exact⟨rfl,by simp only[aX,iO,oneOf,DV.strip,RT,List.map_nil]; exact bI⟩
 | [v],ds,hp,h =>
  obtain⟨d,m',rfl,h1,h2⟩:=ai h
  rw[aF h2]
  simp only[List.all_cons,List.all_nil,Bool.and_true] at hp
  cases ts with
  | nil =>
   obtain⟨k1,k0,k2⟩:=jA (t:=none) (ι':=ι') (S':=S') hp h1
   exact⟨k1,k2⟩
  | cons t ts =>
   obtain⟨k1,k0,k2⟩:=jA (t:=t) (ι':=ι') (S':=S') hp h1
   cases ts<;>exact⟨k1,k2⟩
 | v::u::l,ds,hp,h =>
  obtain⟨k1,k2⟩:=many (ts:=ts) hp h
  obtain⟨d,m',rfl,h1,h2⟩:=ai h
  obtain⟨d',m'',rfl,h3,h4⟩:=ai h2
  refine⟨k1,?_⟩
  have e:∀ {ts:List (Option TT)},iO (aX ts (v::u::l)) = .ep (aX ts (v::u::l)):=by
   intro ts
   cases ts with
   | nil=>simp only[aX,iO]
   | cons t ts=>cases ts<;>simp only[aX,iO]
  rw[e]
  simp only[oneOf,DV.strip,RT]
  exact k2
theorem K8 {ts:List (Option TT)} {vs:List TV} {ds:List DV} (hp:vs.all eL=true) (h:cq ι S vs ds):RT ι' S' (iO (aX ts vs)) (oneOf ds):=by
 have k:=iM (ts:=ts) (ι':=ι') (S':=S') hp h
 match vs,ds,hp,h,k with
 | [],ds,_,h,k=>rw[aF h]; cases ts<;>(simp only[aX,iO,oneOf,RT]; exact bI)
 | [v],ds,hp,h,k =>
  obtain⟨d,m',rfl,h1,h2⟩:=ai h
  rw[aF h2] at k ⊢
  cases ts with
  | nil=>simp only[aX] at k ⊢; obtain⟨_,_,e,k1,-⟩:=ai k; cases e; exact k1
  | cons t ts=>cases ts<;>(simp only[aX] at k ⊢; obtain⟨_,_,e,k1,-⟩:=ai k; cases e; exact k1)
 | v::u::l,ds,hp,h,k =>
  obtain⟨d,m',rfl,h1,h2⟩:=ai h
  obtain⟨d',m'',rfl,h3,h4⟩:=ai h2
  have e:∀ {ts:List (Option TT)},iO (aX ts (v::u::l)) = .ep (aX ts (v::u::l)):=by
   intro ts
   cases ts with
   | nil=>simp only[aX,iO]
   | cons t ts=>cases ts<;>simp only[aX,iO]
  rw[e]
  simp only[oneOf,RT]
  exact k
section
variable (P:Program) (ty:eY) (aV:bk) (L:Nat)
def xl (n:Nat):bk:=iS aV (cG P ty aV L n).1
def wD (n:Nat):aW:=(cG P ty aV L n).1
def yfN (n:Nat):dR:=(cG P ty aV L n).2
end
theorem fP {t:TT}:∀ {l:List t.den} {ds:List DV},dO t l ds→ds.length=l.length*t.size
 | [],ds,h=>by simp only[dO] at h; subst h; simp
 | x::l,ds,h=>by
  simp only[dO] at h
  obtain⟨c,m,rfl,h1,h2⟩:=h
  rw[List.length_append,j4 h1,fP h2,List.length_cons,Nat.add_mul,Nat.one_mul,Nat.add_comm]
theorem sQ {t:TT} (h0:(t.agg||t.size==1)=true):∀ {l:List t.den} {ds:List DV},dO t l ds→de (CR t) t.agg l (rowsOf t.size t.agg ds l.length)
 | [],ds,h=>by simp only[dO] at h; subst h; simp[rowsOf,de]
 | x::l,ds,h=>by
  simp only[dO] at h
  obtain⟨c,m,rfl,h1,h2⟩:=h
  rw[List.length_cons,wN (j4 h1)]
  refine⟨?_,sQ h0 h2⟩
  cases ha:t.agg with
  | true=>exact⟨h1,by simp[tK]⟩
  | false =>
   have h3:=row_one h1 ha
   rw[ha] at h3
   have hs:t.size=1:=by rw[ha] at h0; simpa using h0
   have e2:(c++m).getD 0 aO=c.getD 0 aO:=by
    have:=j4 h1
    simp only[List.getD_eq_getElem?_getD,List.getElem?_append_left (show 0<c.length by omega)]
   simp only[Bool.false_eq_true,if_false]
   rw[e2]
   exact h3
theorem A0 (h:bL ι te tS env S) {g:Nat} {t t':TT} {e:Nat} {l:List t'.den} {z:Bool} {d:DV} (hg:tS[g]? = some (.rows t' e l z)) (hd:RT ι S (.so g t) d) (ht:t'=t):∃ id ds,d = .gI id l.length t'.agg∧ι g=some id∧S[id]? = some (.op e t'.size ds z)∧Aq S id l.length=some (e,t'.size,ds,z)∧dO t' l ds∧0<t'.size∧(t'.agg||t'.size==1)=true:=by
 subst ht
 cases d<;>simp only[RT] at hd
 rename_i id n agg
 obtain⟨h1,rfl,e',s',l',z',h2,h3⟩:=hd
 obtain⟨q0,q1,ds,q2,q3⟩:=h.mp g _ hg id h1
 rw[h2] at q2
 cases q2
 have hl:=fP q3
 have hn:n=l.length:=Nat.eq_of_mul_eq_mul_right q0 (h3.trans hl)
 subst hn
 refine⟨id,l',rfl,h1,h2,?_,q3,q0,q1⟩
 unfold Aq
 rw[h2]
 simp only[h3,if_true]
theorem Jn {id n:Nat} {t:TT} {e:Nat} {ds:List DV} (h:Aq S id n=some (e,t.size,ds,true)) (h0:0<t.size) (h1:(t.agg||t.size==1)=true):jl S (.gI id n t.agg) = .sl (rowsOf t.size t.agg ds n) none ⟨false,some false⟩:=by
 simp only[jl,h,decide_eq_true h0,h1,Bool.and_self,if_true]
def th (tS:List TB):List TV→List TV
 | [.so g t]=>match tS[g]? with
  | some (.rows t' _ l _)=>if h:t'=t then [.sl t (h▸l) .no] else [.so g t]
  | _=>[.so g t]
 | vs=>vs
theorem XN (h:bL ι te tS env S) {vs:List TV} {ds:List DV} (hd:cq ι S vs ds) (hp:(th tS vs).all eL=true):∃ eM,oneOf eM=jl (qS S (oneOf ds)) (oneOf ds)∧cq ι S (th tS vs) eM:=by
 have other:vs.all eL=true→∃ eM,oneOf eM=jl (qS S (oneOf ds)) (oneOf ds)∧cq ι S vs eM:=fun hp=>by
  refine⟨ds,?_,hd⟩
  match vs,ds,hd,hp with
  | [],ds,hd,_=>rw[aF hd]; rfl
  | [v],ds,hd,hp =>
   obtain⟨d,m',rfl,k1,k2⟩:=ai hd
   rw[aF k2]
   simp only[oneOf]
   cases v<;>first | (cases hp; done) | skip
   all_goals cases d<;>simp only[RT] at k1<;>rfl
  | v::u::l,ds,hd,_ =>
   obtain⟨d,m',rfl,k1,k2⟩:=ai hd
   obtain⟨d',m'',rfl,k3,k4⟩:=ai k2
   rfl
 unfold th at hp ⊢
 split at hp
 ·rename_i g t
  split at hp
  ·rename_i t' e l z hg
   split at hp
   ·rename_i ht
    obtain⟨d,m',rfl,k1,k2⟩:=ai hd
    rw[aF k2]
    obtain⟨id,cs,rfl,h1,h2,h3,h4,h5,h6⟩:=A0 h hg k1 ht
    subst ht
    refine⟨[.sl (rowsOf t'.size t'.agg cs l.length) none ⟨false,some false⟩],?_,?_⟩
    ·simp only[oneOf]
     symm
     have hS:Aq (qS S (.gI id l.length t'.agg)) id l.length=some (e,t'.size,cs,true):=by
      cases z with
      | true=>simp only[qS,h3]
      | false =>
       have hlt:=(List.getElem?_eq_some_iff.1 h2).1
       have hn:l.length*t'.size=cs.length:=(fP h4).symm
       have e1:qS S (.gI id l.length t'.agg)=S.set id (.op e t'.size cs true):=by simp only[qS,h3]
       rw[e1]
       unfold Aq
       rw[List.getElem?_set,if_pos rfl,if_pos hlt]
       simp only[hn,if_true]
     exact Jn hS h5 h6
    ·simp only[dif_pos]
     exact dA (by simp only[RT,qV,and_true]; exact sQ h6 h4)
   ·rename_i ht
    rw[dif_neg ht]
    exact other hp
  ·exact other hp
 ·exact other hp
def Wp (ty:eY) (rs:List ResultVar) (j7:List (Option TT)) (Q:TV→Prop) (e:DX) (te:List TV) (tS:List TB):Prop :=
 (match e with | .exit _=>False | _=>True)∧∃ vs,x8 ty te tS rs=some vs∧(th tS vs).all eL=true∧refs (iO (aX j7 (th tS vs)))=[]∧Q (iO (aX j7 (th tS vs)))
theorem Pm {aV:bk} {L n:Nat} {f:FuncId} {fn:Func} {c:Code} {targs:List TV} {j7:List (Option TT)} {Q:TV→Prop} (hf:P.funcs[f]? = some fn) (hb:fn.body=some c) (ht:∀ a,cq c9 [] targs a→aV f a=none)
  (h:WT P ty (xl P ty aV L n) (wD P ty aV L n) (yfN P ty aV L n) [] L f false c (targs++List.replicate (fn.ntmps-targs.length) .unk) [] (Wp ty fn.results.toList j7 Q)):oS (xl P ty aV L (n+1)) f targs Q:=by
 intro bY hd
 have hlen:=fu hd
 have hR:bL c9 (targs++List.replicate (fn.ntmps-targs.length) .unk) [] (bY++List.replicate (fn.ntmps-bY.length) aO) []:=by
  refine⟨dI hd (by rw[hlen]; exact qd _ _),fun k l hk=>(by simp at hk),fun k e s hk=>(by simp at hk),fun k k' hk=>(by cases hk),fun i j k' hi=>(by cases hi),fun k b hk=>(by simp at hk)⟩
 obtain⟨e,ax,S',ι',bS,bV,h1,h2,h3,h4,h5,h6⟩:=h c9 _ [] hR (fun k hk=>(by cases hk))
 obtain⟨h6,vs,h7,h8,h9,uU⟩:=h6
 obtain⟨ds,k1,k2⟩:=qh h2 h7
 obtain⟨Zk,c1,c2⟩:=XN h2 k2 h8
 obtain⟨k3,k4⟩:=Bq (ts:=j7) (ι':=c9) (S':=[]) h8 c2
 refine⟨(oneOf Zk).strip,_,?_,k3,k4,h9,uU⟩
 have hc:(cG P ty aV L (n+1)).1 f bY []=some (oneOf ds,S'):=by
  simp only[cG,hf,ry,hb]
  have Gf:bC P ty (iS aV (cG P ty aV L n).1) (cG P ty aV L n).1 (cG P ty aV L n).2 L f false c (bY++List.replicate (fn.ntmps-bY.length) aO) []=some (e,ax,S'):=h1
  rw[Gf]
  cases e with
  | normal=>simp only[k1,Option.map_some]
  | ret=>simp only[k1,Option.map_some]
  | exit id=>exact h6.elim
 simp only[xl,iS,ht _ hd,hc,← c1,k3,if_true]
def MJ (ty:eY) (rs:List ResultVar) (j7:List (Option TT)) (mF:List (Option TT)) (Q:TV→List TV→Prop) (e:DX) (te:List TV) (tS:List TB):Prop :=
 (match e with | .exit _=>False | _=>True)∧∃ vs ts,x8 ty te tS rs=some vs∧vs.all eL=true∧refs (iO (aX j7 vs))=[]∧tS[0]? = some (.cells ts)∧ts.all eL=true∧gn (aX mF ts)=[]∧Q (iO (aX j7 vs)) (aX mF ts)
theorem Pz {aV:bk} {L n:Nat} {f:FuncId} {fn:Func} {c:Code} {targs ts:List TV} {j7 mF:List (Option TT)} {Q:TV→List TV→Prop} (hf:P.funcs[f]? = some fn) (hb:fn.body=some c)
  (h:WT P ty (xl P ty aV L n) (wD P ty aV L n) (yfN P ty aV L n) [0] L f false c (targs++List.replicate (fn.ntmps-targs.length) .unk) [.cells ts] (MJ ty fn.results.toList j7 mF Q)):wG (wD P ty aV L (n+1)) f targs ts Q:=by
 intro ι bY S hR
 have hlen:=fu hR.env
 have jX:bL ι (targs++List.replicate (fn.ntmps-targs.length) .unk) [.cells ts] (bY++List.replicate (fn.ntmps-bY.length) aO) S :=
  ⟨dI hR.env (by rw[hlen]; exact qd _ _),hR.cells,hR.own,hR.uP,hR.inj,hR.mp⟩
 obtain⟨e,ax,S',ι',bS,bV,h1,h2,h3,h4,h5,h6⟩:=h ι _ S jX (fun k hk=>(by
  have:k=0:=by simpa using hk
  subst this
  exact⟨ts,rfl⟩))
 obtain⟨h6,vs,qG,h7,h8,h9,uU,DM,TP,h13⟩:=h6
 obtain⟨ds,k1,k2⟩:=qh h2 h7
 obtain⟨k',eM,m1,m2,m3⟩:=h2.cells 0 qG uU
 refine⟨oneOf ds,S',ι',_,aX mF qG,k',eM,?_,K8 (ts:=j7) h8 k2,h9,TP,by rw[← h4.base 0 (by simp)]; exact m1,m2,iM DM m3,h4,h5,h13⟩
 simp only[wD,cG,hf,ry,hb]
 have Gf:bC P ty (iS aV (cG P ty aV L n).1) (cG P ty aV L n).1 (cG P ty aV L n).2 L f false c (bY++List.replicate (fn.ntmps-bY.length) aO) S=some (e,ax,S'):=h1
 rw[Gf]
 cases e with
 | normal=>simp only[k1,Option.map_some]
 | ret=>simp only[k1,Option.map_some]
 | exit id=>exact h6.elim
end Go.Tv
end
section
namespace Go.Tv
open Go Go.Di
section
variable (P:Program) (ty:eY) (tt:TypeId→Option TT)
def MQ:List TV→Option Nat
 | []=>none
 | v::l=>match refs v with
  | k::_=>if isRef v then some k else MQ l
  | []=>MQ l
end
variable {P:Program} {ty:eY} {tt:TypeId→Option TT} {ι ι' w:jE} {S S':ak} {te j6:List TV} {env:List DV} {tS gT:List TB} {aC:bk} {call:aW} {yf:dR} {o:Oper} {ay nT:Nat} {B:List Nat} {r:TR} {ops:Array Oper} {L:Nat} {fn:FuncId} {fF:Bool} {a b c:Code} {Q Q':DX→List TV→List TB→Prop}
variable {fs:List cu}
def WI (P:Program) (ty:eY) (aC:bk) (call:aW) (yf:dR) (B:List Nat) (L:Nat) (fn:FuncId) (fF:Bool) (n:Nat) (c:Code) (te:List TV) (tS:List TB) (Q:DX→List TV→List TB→Prop):Prop :=
 ∀ ι env S,bL ι te tS env S→mo B tS→∃ e ax S' ι' bS bV,ki (bC P ty aC call yf L fn fF c) n env S=some (e,ax,S')∧bL ι' bS bV ax S'∧mo B bV∧Fr B ι S ι' S'∧Nn S.length S S'∧Q e bS bV
theorem vN {f:List DV→ak→Option (DX×List DV×ak)}:∀ {n m:Nat} {env:List DV} {S:ak} {r:DX×List DV×ak},n≤m→ki f n env S=some r→ki f m env S=some r
 | 0,_,_,_,_,_,h=>by cases h
 | n+1,0,_,_,_,hn,_=>by omega
 | n+1,m+1,env,S,r,hn,h=>by
  simp only[ki] at h ⊢
  split at h
  ·rename_i ax S' e
   exact vN (by omega) h
  ·exact h
theorem Kb {n:Nat} (hn:n≤L) (h:WI P ty aC call yf B L fn fF n c te tS Q):WT P ty aC call yf B L fn fF (.loop c) te tS Q:=by
 intro ι env S hR hB
 obtain⟨e,ax,S',ι',bS,bV,h1,h2⟩:=h ι env S hR hB
 exact⟨e,ax,S',ι',bS,bV,by simp only[bC]; exact vN hn h1,h2⟩
theorem Ru {n:Nat} (h:WT P ty aC call yf B L fn fF c te tS fun e te tS=>match e with | .normal=>WI P ty aC call yf B L fn fF n c te tS Q | e=>Q e te tS):WI P ty aC call yf B L fn fF (n+1) c te tS Q:=by
 intro ι env S hR hB
 obtain⟨e,ax,S',ι',bS,bV,h1,h2,h3,h4,h5,h6⟩:=h ι env S hR hB
 cases e with
 | normal =>
  obtain⟨e,mN,rH,ι'',rK,rM,k1,k2,k3,k4,k5,k6⟩:=h6 ι' ax S' h2 h3
  exact⟨e,mN,rH,ι'',rK,rM,by simp only[ki,h1,k1],k2,k3,h4.trans k4,pn h5 k5,k6⟩
 | exit id=>exact⟨_,ax,S',ι',bS,bV,by simp only[ki,h1],h2,h3,h4,h5,h6⟩
 | ret=>exact⟨_,ax,S',ι',bS,bV,by simp only[ki,h1],h2,h3,h4,h5,h6⟩
theorem Rx {n:Nat} (hl:s8 j6 te) (hb:Al gT tS) (fT:okB j6 gT=true) (hB:∀ k,k∈B→kX gT k=true) (h:WI P ty aC call yf B L fn fF n c j6 gT Q):WI P ty aC call yf B L fn fF n c te tS Q:=by
 intro ι env S hR TM
 have JS:=pG hb TM hB
 obtain⟨ι1,h1,h2,-⟩:=o9 hR hl hb fT JS
 obtain⟨e,ax,S',ι',bS,bV,m1,m2,m3,m4,m5⟩:=h ι1 env S h1 JS
 exact⟨e,ax,S',ι',bS,bV,m1,m2,m3,h2.trans m4,m5⟩
theorem Rw {σ:Type} {N:Nat} (f:σ→List TV×List TB) (dn:σ→Prop) (m:σ→Nat) (s0:σ) (h0:Fits B (f s0).1 (f s0).2 te tS) (hg:dn s0) (hm:m s0<N)
  (hstep:∀ s,dn s→WT P ty aC call yf B L fn fF c (f s).1 (f s).2 fun e te tS=>match e with | .normal=>∃ s',Fits B (f s').1 (f s').2 te tS∧dn s'∧m s'<m s | e=>Q e te tS):WI P ty aC call yf B L fn fF N c te tS Q:=by
 refine Rx h0.l h0.b h0.ok h0.base ?_
 have key:∀ n s,dn s→m s<n→∀ ι env S,bL ι (f s).1 (f s).2 env S→mo B (f s).2→∃ e ax S' ι' bS bV,ki (bC P ty aC call yf L fn fF c) n env S=some (e,ax,S')∧bL ι' bS bV ax S'∧mo B bV∧Fr B ι S ι' S'∧Nn S.length S S'∧Q e bS bV:=by
  intro n
  induction n with
  | zero=>intro s _ h; omega
  | succ n ih =>
   intro s hs hn ι env S hR hB
   obtain⟨e,ax,S',ι',bS,bV,h1,h2,h3,h4,h5,h6⟩:=hstep s hs ι env S hR hB
   cases e with
   | normal =>
    obtain⟨s',hf,jW,hlt⟩:=h6
    have JS:=pG hf.b h3 hf.base
    obtain⟨ι1,k1,k2,-⟩:=o9 h2 hf.l hf.b hf.ok JS
    obtain⟨e,mN,rH,ι'',rK,rM,m1,m2,m3,m4,m5,m6⟩:=ih s' jW (by omega) ι1 ax S' k1 JS
    exact⟨e,mN,rH,ι'',rK,rM,by simp only[ki,h1,m1],m2,m3,(h4.trans k2).trans m4,pn h5 m5,m6⟩
   | exit id=>exact⟨_,ax,S',ι',bS,bV,by simp only[ki,h1],h2,h3,h4,h5,h6⟩
   | ret=>exact⟨_,ax,S',ι',bS,bV,by simp only[ki,h1],h2,h3,h4,h5,h6⟩
 intro ι env S hR hB
 exact key N s0 hg hm ι env S hR hB
theorem Rm {σ:Type} (f:σ→List TV×List TB) (dn:σ→Prop) (h1:WT P ty aC call yf B L fn fF a te tS fun e te tS=>match e with | .normal=>∃ s,Fits B (f s).1 (f s).2 te tS∧dn s | e=>Q e te tS)
  (h2:∀ s,dn s→WT P ty aC call yf B L fn fF b (f s).1 (f s).2 Q):WT P ty aC call yf B L fn fF (.seq a b) te tS Q:=by
 refine Nu (h1.mono ?_)
 intro e te tS hq
 cases e with
 | normal =>
  obtain⟨s,hf,hg⟩:=hq
  exact Rk hf.l hf.b hf.ok hf.base (h2 s hg)
 | exit id=>exact hq
 | ret=>exact hq
theorem E6:∀ owns:List (Nat×Nat),Al (owns.map fun p=>TB.own p.1 p.2) []
 | [] => .nil
 | _::l => .new (E6 l)
end Go.Tv
end
section
namespace Go.Di
open Go Go.Proofs
def aaS (d:Tmp) (t:TypeId):Nat:=if t==23 then (if d==19 then 1 else if d==38 then 2 else 0) else if t==22 then (if d==18 then 1 else if d==12 then 1 else if d==26 then 2 else 0) else 0
noncomputable abbrev TyH:eY:=⟨x7 Tryz.prog,aaS⟩
end Go.Di
end
section
namespace Go.Tv
open Go Go.Di Go.Proofs
abbrev bW:TT := .int .i64
abbrev bZ:TT := .sl bW
abbrev aJ:TT := .pair bZ (.pair bZ (.pair bW (.pair bZ .unit)))
abbrev N4:TT := .pair bW (.pair bW .unit)
abbrev Ep:TT := .pair bW (.pair bW (.pair bW .unit))
abbrev Rf:TT := .pair .bool (.pair Ep .unit)
abbrev abm:TT := .pair bZ (.pair bZ (.pair bW (.pair bZ (.pair bZ (.pair bZ (.pair bZ (.pair bZ (.pair bZ (.pair bZ (.pair bZ (.pair bZ .unit)))))))))))
def ttL:List (Nat×TT):=[(3,bW),(4,.bool),(35,bW),(23,bZ),(25,aJ),(22,.sl aJ),(75,N4),(83,.int .u64),(79,Ep),(34,.sl Ep),(81,Ep),(47,.sl Ep),(41,.sl bZ),(9,.str),(145,Rf),(142,Rf),(143,.sl .bool),(30,.sl (.sl aJ)),(99,.sl abm),(150,Rf),(148,.sl Rf)]
def LC (t:TypeId):Option TT:=(ttL.find? fun p=>p.1==t).map (·.2)
abbrev vv:=TV.val
abbrev vi:=Value.int IntKind.i64
abbrev vb:=Value.bool
abbrev bt (n:Int):TV := .val (.int .i64 n)
abbrev mz (b:Bool):TV := .val (.bool b)
noncomputable abbrev Tp:Program:=Tryz.prog
noncomputable abbrev Ty:eY:=TyH
def LL:Nat:=1001000
structure oK (aV:bk):Prop where
 other:∀ f a,f≠60→f≠133→f≠12→f≠43→f≠52→aV f a=none
 fit:aV 12 []=some (.val (.bool true))
section
variable (aV:bk) (n:Nat)
noncomputable abbrev rO:bk:=xl Tp Ty aV LL n
noncomputable abbrev j5:aW:=wD Tp Ty aV LL n
noncomputable abbrev Te:dR:=yfN Tp Ty aV LL n
end
theorem yz {n:Int} (h : -9223372036854775808≤n) (h':n≤9223372036854775807):IntKind.i64.wrap n=n:=by rw[IntKind.wrap_i64]; omega
end Go.Tv
end
section
namespace Go.Tv
open Go Go.Di
def yx (aC:bk) (call:aW) (g:FuncId) (targs:List TV) (Q:List TV→Prop):Prop :=
 ∀ bY S,cq c9 S targs bY→(∀ ds,cq c9 [] targs ds→aC g ds=none)∧∃ S' id ds ts,call g bY S=some (.ptr id 0,S')∧¬ Lv S id∧S'[id]? = some (.cells ds)∧cq c9 [] ts ds∧gn ts=[]∧(∀ k',Lv S k'→S'[k']? = S[k']?)∧Nn S.length S S'∧Q ts
theorem yx.mono {aC:bk} {call:aW} {g:FuncId} {targs:List TV} {Q Q':List TV→Prop} (h:yx aC call g targs Q) (hq:∀ v,Q v→Q' v):yx aC call g targs Q':=fun bY S hd=>by
 obtain⟨h0,S',id,ds,ts,h1,h2,h3,h4,h5,h6,h7,h8⟩:=h bY S hd
 exact⟨h0,S',id,ds,ts,h1,h2,h3,h4,h5,h6,h7,hq _ h8⟩
variable {P:Program} {ty:eY} {tt:TypeId→Option TT} {ι ι' w:jE} {S S':ak} {te j6:List TV} {env:List DV} {tS gT:List TB} {aC:bk} {call:aW} {yf:dR} {o:Oper} {ay nT:Nat} {B:List Nat} {r:TR} {ops:Array Oper}
theorem HQ {f:Operand} {args:Array Operand} {argTypes:Array TypeId} {g:FuncId} {fs cs xs targs:List TV} {Q:List TV→Prop} (hop:o.op = .call { callee := .value f,args,argTypes }) (hh:ty.h o≠1) (hf:fG te f=some (.fn g fs cs)) (ha:lP te args.toList=some xs) (hp:(fs++xs++cs).all eL=true)
  (hn:aX (gy tt fs argTypes) (fs++xs++cs)=targs) (hs:yx aC call g targs Q):Does P ty aC call yf B o nT te tS false fun v bS bV _=>∃ ts,Q ts∧v = .ptr nT 0∧bS=te∧bV=oH tS nT (.cells ts):=by
 intro ι w env S ay hR hB hw hT PZ hS
 obtain⟨x5,gL,JI,k1,k2,k3⟩:=jB hR.env hf ha
 obtain⟨k4,k5⟩:=iL (ts:=gy tt fs argTypes) (ι':=c9) (S':=[]) hp k3
 have k6:=iM (ts:=gy tt fs argTypes) (ι':=c9) (S':=S) hp k3
 rw[hn] at k5 k6
 obtain⟨h0,S',id,ds,ts,m1,m2,m3,m4,m5,m6,m7,m8⟩:=hs _ S k6
 have hne:∀ {k k':Nat},ι k=some k'→k'≠id:=fun hk e=>m2 (e▸hR.live hk)
 have qO:ι nT=none:=hR.new hT
 have K:jo ι S (upd ι nT id) S' fun _=>False:=fun k k' _ hk=>by
  have h1:k≠nT:=by rintro rfl; rw[qO] at hk; cases hk
  exact⟨by simp only[upd,h1,if_false]; exact hk,dX (m6 k' (hR.live hk))⟩
 refine⟨.ptr id 0,S',upd ι nT id,fun j=>if j=id then some nT else w j,.ptr nT 0,te,oH tS nT (.cells ts),⟨none,true⟩,⟨none,true⟩,fun _ => ?_,fun e=>(by cases e),⟨fun e=>e,fun l hl=>(by cases hl)⟩,fun l m hl=>(by cases hl),?_,by simp[RT,upd],?_,?_,?_,je hB hT,⟨m7.1,fun j hj ee=>m7.2 j (by have:=(List.getElem?_eq_some_iff.1 ee).1; omega) ee⟩,ts,m8,rfl,rfl,rfl⟩
 ·simp only[ah,hop,k1,k2,tH,k4,if_true,h0 _ k5,m1]
 ·refine⟨aY K _ _ hR.env,fun k l hk => ?_,fun k e s hk t ht => ?_,fun k k' hk => ?_,fun i j k' hi hj => ?_,fun k b hk t ht => ?_⟩
  ·rw[bM hT] at hk
   split at hk
   ·rename_i e
    subst e
    cases hk
    exact⟨id,ds,by simp[upd],m3,gE _ _ m5 m4⟩
   ·rename_i e
    obtain⟨k',eM,h1,h2,h3⟩:=hR.cells k l hk
    exact⟨k',eM,by simp only[upd,e,if_false]; exact h1,by rw[m6 k' (hR.live h1)]; exact h2,aY K _ _ h3⟩
  ·rw[bM hT] at hk
   split at hk
   ·cases hk
   ·rename_i e'
    simp only[upd,e',if_false] at ht
    obtain⟨n,h1⟩:=hR.own k e s hk t ht
    exact⟨n,by rw[m6 t (hR.live ht)]; exact h1⟩
  ·rw[bM hT]
   split
   ·exact⟨_,rfl,fun e=>by cases e⟩
   ·rename_i e
    simp only[upd,e,if_false] at hk
    exact hR.uP k k' hk
  ·unfold upd at hi hj
   split at hi<;>split at hj
   ·omega
   ·cases hi; exact(hne hj rfl).elim
   ·cases hj; exact(hne hi rfl).elim
   ·exact hR.inj i j k' hi hj
  ·rw[bM hT] at hk
   split at hk
   ·cases hk; trivial
   ·rename_i e'
    simp only[upd,e',if_false] at ht
    rw[m6 t (hR.live ht)]; exact hR.mp k b hk t ht
 ·intro a b mm
  unfold upd at mm
  split at mm
  ·rename_i e; subst e; cases mm; simp
  ·simp only[hne mm,if_false]; exact hw _ _ mm
 ·intro e; cases e
 ·refine⟨fun k' hl _=>m6 k' hl,fun k k' hk => ?_,fun k hk => ?_⟩
  ·unfold upd at hk
   split at hk
   ·cases hk; exact .inr m2
   ·exact .inl ⟨k,hk⟩
  ·have:=kH hB hT
   unfold upd
   rw[if_neg (fun e:k=nT=>this (e▸hk))]
def Wo (ty:eY) (rs:List ResultVar) (mF:List (Option TT)) (Q:List TV→Prop) (e:DX) (te:List TV) (tS:List TB):Prop :=
 (match e with | .exit _=>False | _=>True)∧∃ ts,x8 ty te tS rs=some [.ptr 0 0]∧tS[0]? = some (.cells ts)∧ts.all eL=true∧gn (aX mF ts)=[]∧Q (aX mF ts)
theorem O6 {aV:bk} {L n:Nat} {f:FuncId} {fn:Func} {c:Code} {targs:List TV} {mF:List (Option TT)} {Q:List TV→Prop} (hf:P.funcs[f]? = some fn) (hb:fn.body=some c) (ht:∀ a,aV f a=none)
  (h:WT P ty (xl P ty aV L n) (wD P ty aV L n) (yfN P ty aV L n) [] L f false c (targs++List.replicate (fn.ntmps-targs.length) .unk) [] (Wo ty fn.results.toList mF Q)):yx (xl P ty aV L (n+1)) (wD P ty aV L (n+1)) f targs Q:=by
 have key:∀ bY S,cq c9 S targs bY→∃ S' id ds ts,(cG P ty aV L (n+1)).1 f bY S=some (.ptr id 0,S')∧¬ Lv S id∧S'[id]? = some (.cells ds)∧cq c9 [] ts ds∧gn ts=[]∧(∀ k',Lv S k'→S'[k']? = S[k']?)∧Nn S.length S S'∧Q ts:=by
  intro bY S hd
  have hlen:=fu hd
  have hR:bL c9 (targs++List.replicate (fn.ntmps-targs.length) .unk) [] (bY++List.replicate (fn.ntmps-bY.length) aO) S:=by
   refine⟨dI hd (by rw[hlen]; exact qd _ _),fun k l hk=>(by simp at hk),fun k e s hk=>(by simp at hk),fun k k' hk=>(by cases hk),fun i j k' hi=>(by cases hi),fun k b hk=>(by simp at hk)⟩
  obtain⟨e,ax,S',ι',bS,bV,h1,h2,h3,h4,h5,h6⟩:=h c9 _ S hR (fun k hk=>(by cases hk))
  obtain⟨h6,ts,h7,h8,h9,uU,DM⟩:=h6
  obtain⟨ds,k1,k2⟩:=qh h2 h7
  obtain⟨d,m',rfl,k3,k4⟩:=ai k2
  rw[aF k4] at k1
  cases d<;>simp only[RT] at k3
  rename_i id off
  obtain⟨k3,rfl⟩:=k3
  obtain⟨gJ,eM,m1,m2,m3⟩:=h2.cells 0 ts h8
  rw[k3] at m1
  cases m1
  refine⟨S',id,eM,aX mF ts,?_,?_,m2,iM h9 m3,uU,fun k' hl=>h4.rest k' hl (fun k hk=>by cases hk),h5,DM⟩
  ·simp only[cG,hf,ry,hb]
   have Gf:bC P ty (iS aV (cG P ty aV L n).1) (cG P ty aV L n).1 (cG P ty aV L n).2 L f false c (bY++List.replicate (fn.ntmps-bY.length) aO) S=some (e,ax,S'):=h1
   rw[Gf]
   cases e with
   | normal=>simp only[k1,Option.map_some,oneOf]
   | ret=>simp only[k1,Option.map_some,oneOf]
   | exit id=>exact h6.elim
  ·rcases h4.ours 0 id k3 with ⟨j,hj⟩ | hl
   ·cases hj
   ·exact hl
 intro bY S hd
 refine⟨fun ds hds => ?_,key bY S hd⟩
 obtain⟨S',id,eM,ts,k1,-⟩:=key ds [] hds
 simp only[xl,iS,ht,jl,qS,k1,DV.strip,DV.cv,DV.pure,DV.gV,Bool.false_eq_true,if_false]
end Go.Tv
end
section
namespace Go.Tv
open Go Go.Di Go.Proofs
variable {P:Program}
theorem cQ {α β:Type} (s:Sem α) (f:α→Sem β):bK P (s >>= f)=(bK P s).bind fun a=>bK P (f a):=by
 change bK P (s.bind f)=_
 cases s with
 | pure a=>rfl
 | program k =>
  simp only[Sem.bind,bK]
  generalize k P=s'
  induction s' with
  | pure a=>rfl
  | program k ih=>simp only[Sem.bind,bK]; exact ih P
  | _=>simp only[Sem.bind,bK,Option.bind_none]
 | _=>simp only[Sem.bind,bK,Option.bind_none]
theorem sE {α:Type} (a:α):bK P (pure a:Sem α)=some a:=rfl
theorem jK:bK P program=some P:=rfl
theorem jD {t:TypeId} {d:TypeDesc} (h:P.underlying t=some d):bK P (underlying t)=some d:=by
 unfold underlying
 rw[cQ,jK]
 simp only[Option.bind_some,h]
 rfl
theorem KU (d:Nat) (t:TypeId) (k k':IntKind) (a b:Int) (h:P.underlying t=some (.int k')):bK P (Op.equalIn (d+1) t (.int k a) (.int k b))=some (a==b):=by
 simp only[Op.equalIn,cQ,jD h,Option.bind_some,if_true]
 rfl
theorem KT {α:Type} {c:Prop} [Decidable c] {a b:Sem α}:bK P (if c then a else b)=if c then bK P a else bK P b:=by split<;>rfl
theorem nX (d:Nat) (t:TypeId) (xs ys:Array Value) (ht:P.underlying t=some (.struct (P.fieldsOf t))) (hp:P.stoodInHeld t=false) :
  bK P (Op.equalIn (d+1) t (.agg xs) (.agg ys))=bK P (Op.eqFields d xs ys (P.fieldsOf t).toList):=by
 simp only[Op.equalIn,cQ,jD ht,Option.bind_some,jK,hp,Bool.false_eq_true,if_false]
 rw[← Array.forIn_toList]
 generalize (P.fieldsOf t).toList=fs
 clear ht
 induction fs with
 | nil=>rfl
 | cons f fs ih =>
  simp only[List.forIn_cons,Op.eqFields,cQ,KT]
  split
  ·generalize bK P (part f.type xs f.offset)=r1
   cases r1 with
   | none=>rfl
   | some a =>
    generalize bK P (part f.type ys f.offset)=r2
    cases r2 with
    | none=>rfl
    | some b =>
     simp only[Option.bind_some]
     generalize bK P (Op.equalIn d f.type a b)=r3
     cases r3 with
     | none=>rfl
     | some r =>
      cases r
      ·simp only[Option.bind_some,Bool.not_false,if_true,sE]
      ·simp only[Option.bind_some,Bool.not_true,Bool.false_eq_true,if_false,sE]
       exact ih
  ·simp only[sE,Option.bind_some]
   exact ih
theorem SN {d:Nat} {xs ys:Array Value}:bK P (Op.eqFields d xs ys [])=some true:=rfl
theorem SU {t:TypeId} {xs ys:Array Value} {b:Bool} (ht:P.underlying t=some (.struct (P.fieldsOf t))) (hp:P.stoodInHeld t=false) (hm:P.eqGuardType P.depth t=false) (hf:bK P (Op.eqFields 9999 xs ys (P.fieldsOf t).toList)=some b) (x y:Operand) :
  gU P (do eqGuard .neq t x y (.agg xs) (.agg ys); binOp .neq t (.agg xs) (.agg ys))=some (.val (.bool !b)):=by
 have h1:bK P (eqGuard .neq t x y (.agg xs) (.agg ys))=some ():=by
  simp only[eqGuard]
  simp only[Bool.not_true,Bool.false_eq_true,if_false,cQ,jK,Option.bind_some,hm,Bool.not_false,if_true]
  rfl
 have h2:bK P (binOp .neq t (.agg xs) (.agg ys))=some (.bool !b):=by
  simp only[binOp,cQ,Op.equal,Op.maxDepth,nX 9999 t xs ys ht hp,hf,Option.bind_some]
  rfl
 rw[gU,cQ,h1,Option.bind_some,h2]
 rfl
variable {ty:eY} {tt:TypeId→Option TT} {ι ι' w:jE} {S S':ak} {te j6:List TV} {env:List DV} {tS gT:List TB} {aC:bk} {call:aW} {yf:dR} {o:Oper} {ay nT:Nat} {B:List Nat} {ops:Array Oper}
end Go.Tv
end
section
namespace Go.Tv
open Go Go.Di Go.Proofs
def Q6:(t:TT)→DecidableEq t.den
 | .int _=>inferInstanceAs (DecidableEq Int)
 | .bool=>inferInstanceAs (DecidableEq Bool)
 | .str=>inferInstanceAs (DecidableEq ByteArray)
 | .unit=>inferInstanceAs (DecidableEq Unit)
 | .pair a b=>fun x y=>@instDecidableEqProd _ _ (Q6 a) (Q6 b) x y
 | .sl t=>fun x y=>@instDecidableEqList _ (Q6 t) x y
def Ms (t:TT) (x:t.den) (l:List t.den):Bool:=l.any fun y=>@decide (x=y) (Q6 t x y)
def VG (t:TT) (x:t.den) (l:List t.den):List t.den:=bif Ms t x l then l else l++[x]
structure UR (P:Program) (t:TypeId) (kt:TT):Prop where
 look:∀ (x:kt.den) (l:List kt.den),bK P (Ip t ((xu kt l).map Di.PO) (DO kt x) false)=some (.bool (Ms kt x l))
 find:∀ (x:kt.den) (l:List kt.den),∃ r,bK P (IA t ((xu kt l).map Di.PO) (DO kt x))=some r∧Mp (xu kt l) (DO kt x) (.bool true) r=some (xu kt (VG kt x l))
def QO (kt:TT) (v:TV):Option kt.den :=
 match v with
 | .agg l=>match fH l,kt.of l with
  | some vs,some (x,[])=>if vs.length=(AY kt x).length then some x else none
  | _,_=>none
 | _=>none
def VE (P:Program) (tt:TypeId→Option TT) (te:List TV) (tS:List TB) (o:Oper) (nT:Nat):Option (TV×List TB×Prop) :=
 match o.op with
 | .makeMap t none=>match tt t with
  | some kt=>some (.mp nT,oH tS nT (.map kt []),True)
  | none=>none
 | .lookup t m k false=>match fG te m,fG te k with
  | some (.mp id),some v=>match tS[id]? with
   | some (.map kt l)=>match QO kt v with
    | some x=>some (.val (.bool (Ms kt x l)),tS,UR P t kt)
    | none=>none
   | _=>none
  | _,_=>none
 | .mapUpdate t m k y=>match fG te m,fG te k,fG te y with
  | some (.mp id),some v,some (.val (.bool true))=>match tS[id]? with
   | some (.map kt l)=>match QO kt v with
    | some x=>some (.unk,tS.set id (.map kt (VG kt x l)),UR P t kt)
    | none=>none
   | _=>none
  | _,_,_=>none
 | _=>none
theorem C0:∀ {t:TT} {l:List TV} {x:t.den} {r:List TV} {vs:List Value},t.of l=some (x,r)→fH l=some vs→∃ Qh,fH r=some Qh∧vs=AY t x++Qh
 | .int k,l,x,r,vs,h,hv=>by
  simp only[TT.of] at h
  unfold ofInt at h
  split at h
  ·split at h
   ·rename_i hk
    subst hk
    cases h
    simp only[fH,Option.map_eq_some_iff] at hv
    obtain⟨Qh,h1,rfl⟩:=hv
    exact⟨Qh,h1,rfl⟩
   ·cases h
  ·cases h
 | .bool,l,x,r,vs,h,hv=>by
  simp only[TT.of] at h
  unfold ofBool at h
  split at h
  ·cases h
   simp only[fH,Option.map_eq_some_iff] at hv
   obtain⟨Qh,h1,rfl⟩:=hv
   exact⟨Qh,h1,rfl⟩
  ·cases h
 | .str,l,x,r,vs,h,hv=>by
  simp only[TT.of] at h
  unfold ofStr at h
  split at h
  ·cases h
   simp only[fH,Option.map_eq_some_iff] at hv
   obtain⟨Qh,h1,rfl⟩:=hv
   exact⟨Qh,h1,rfl⟩
  ·cases h
 | .unit,l,x,r,vs,h,hv=>by
  simp only[TT.of] at h
  cases h
  exact⟨vs,hv,rfl⟩
 | .sl t,l,x,r,vs,h,hv=>by
  simp only[TT.of] at h
  unfold QN at h
  split at h
  ·simp[fH] at hv
  ·simp[fH] at hv
  ·cases h
 | .pair a b,l,x,r,vs,h,hv=>by
  simp only[TT.of] at h
  split at h
  ·rename_i y m h1
   split at h
   ·rename_i z m' h2
    cases h
    obtain⟨vs1,k1,rfl⟩:=C0 h1 hv
    obtain⟨vs2,k2,rfl⟩:=C0 h2 k1
    exact⟨vs2,k2,by simp[AY]⟩
   ·cases h
  ·cases h
theorem Js {kt:TT} {v:TV} {x:kt.den} (h:QO kt v=some x):fR v=some (DO kt x):=by
 unfold QO at h
 split at h
 ·split at h
  ·rename_i vs y h1 h2
   split at h
   ·cases h
    obtain⟨Qh,k1,rfl⟩:=C0 h2 h1
    cases k1
    simp only[fR,h1,Option.map_some,DO,List.append_nil]
   ·cases h
  ·cases h
 ·cases h
section
variable (P:Program)
def Q4 (t:TypeId) (a b:Value):Option Bool :=
 match a,b,P.underlying t with
 | .int k a,.int k' b,some (.int _)=>if k'=k then some (a==b) else none
 | .bool a,.bool b,some .bool=>some (a==b)
 | _,_,_=>none
def El (E:TypeId→Value→Value→Option Bool) (xs ys:Array Value):List Field→Option Bool
 | []=>some true
 | f :: fs => match f.name != "_", bK P (part f.type xs f.offset), bK P (part f.type ys f.offset) with
  | true,some a,some b=>match E f.type a b,El E xs ys fs with
   | some u,some r=>some (u&&r)
   | _,_=>none
  | _,_,_=>none
def eqV:Nat→TypeId→Value→Value→Option Bool
 | 0,t,a,b=>Q4 P t a b
 | n+1,t,a,b=>match a,b with
  | .agg xs,.agg ys=>match P.underlying t,P.stoodInHeld t with
   | some (.struct fs),false=>El P (eqV n) xs ys fs.toList
   | _,_=>none
  | a,b=>Q4 P t a b
end
section
variable {P:Program}
theorem nV {t:TypeId} {fs:Array Field} (h:P.underlying t=some (.struct fs)):P.underlying t=some (.struct (P.fieldsOf t)):=by
 have:P.fieldsOf t=fs:=by simp only[Program.fieldsOf,h]
 rw[this]; exact h
theorem Ju {d:Nat} {t:TypeId} {a b:Value} {r:Bool} (h:Q4 P t a b=some r):bK P (Op.equalIn (d+1) t a b)=some r:=by
 unfold Q4 at h
 split at h
 ·rename_i k a k' b k2 hu
  split at h
  ·rename_i hk
   subst hk
   cases h
   exact KU d t _ _ a b hu
  ·cases h
 ·rename_i a b hu
  cases h
  simp only[Op.equalIn,cQ,jD hu,Option.bind_some]
  rfl
 ·cases h
theorem zg {E:TypeId→Value→Value→Option Bool} {d:Nat} (hE:∀ t a b r,E t a b=some r→bK P (Op.equalIn d t a b)=some r) {xs ys:Array Value}:∀ {fs:List Field} {b:Bool},El P E xs ys fs=some b→bK P (Op.eqFields d xs ys fs)=some b
 | [],_,h=>by cases h; exact SN
 | f::fs,b,h=>by
  unfold El at h
  split at h
  ·rename_i a b' hn ha hb
   split at h
   ·rename_i u r h1 h2
    cases h
    have FZ : f.name ≠ "_" := by simpa using hn
    simp only[Op.eqFields,FZ,ne_eq,not_false_eq_true,if_true,cQ,ha,hb,Option.bind_some,hE _ _ _ _ h1]
    cases u
    ·rfl
    ·simp only[Bool.not_true,Bool.false_eq_true,if_false,Bool.true_and]; exact zg hE h2
   ·cases h
  ·cases h
theorem NZ:∀ {n d:Nat} {t:TypeId} {a b:Value} {r:Bool},n<d→eqV P n t a b=some r→bK P (Op.equalIn d t a b)=some r
 | 0,0,_,_,_,_,hd,_=>by omega
 | 0,d+1,_,_,_,_,_,h=>Ju h
 | n+1,0,_,_,_,_,hd,_=>by omega
 | n+1,d+1,t,a,b,r,hd,h=>by
  unfold eqV at h
  split at h
  ·rename_i xs ys
   split at h
   ·rename_i fs h1 h2
    rw[nX d t xs ys (nV h1) h2]
    simp only[Program.fieldsOf,h1]
    exact zg (fun t a b r h=>NZ (by omega) h) h
   ·cases h
  ·exact Ju h
end
variable {P:Program} {ty:eY} {tt:TypeId→Option TT} {ι ι' w:jE} {S S':ak} {te j6:List TV} {env:List DV} {tS gT:List TB} {aC:bk} {call:aW} {yf:dR} {o:Oper} {ay nT:Nat} {B:List Nat} {ops:Array Oper}
theorem FH (h:bL ι te tS env S) (hT:u5 tS nT) (hn:u6 S ay) (kt:TT):bL (upd ι nT ay) te (oH tS nT (.map kt [])) env (di S ay (.map [])):=by
 have K:=qz h hT hn (.map [])
 refine⟨aY K _ _ h.env,fun k l hk => ?_,fun k e s hk t ht => ?_,fun k k' hk => ?_,fun i j k' hi hj => ?_,fun k b hk t ht => ?_⟩
 ·rw[bM hT] at hk
  split at hk
  ·cases hk
  ·rename_i e
   obtain⟨k',eM,h1,h2,h3⟩:=h.cells k l hk
   exact⟨k',eM,by simp only[upd,e,if_false]; exact h1,by rw[aR hn,if_neg (h.cz hn h1)]; exact h2,aY K _ _ h3⟩
 ·rw[bM hT] at hk
  split at hk
  ·cases hk
  ·rename_i e'
   simp only[upd,e',if_false] at ht
   obtain⟨n,h1⟩:=h.own k e s hk t ht
   exact⟨n,by rw[aR hn,if_neg (h.cz hn ht)]; exact h1⟩
 ·rw[bM hT]
  split
  ·exact⟨_,rfl,fun e=>by cases e⟩
  ·rename_i e
   simp only[upd,e,if_false] at hk
   exact h.uP k k' hk
 ·unfold upd at hi hj
  split at hi<;>split at hj
  ·omega
  ·cases hi; exact(h.cz hn hj rfl).elim
  ·cases hj; exact(h.cz hn hi rfl).elim
  ·exact h.inj i j k' hi hj
 ·rw[bM hT] at hk
  split at hk
  ·rename_i e'
   cases hk
   simp only[upd,e',if_true,Option.some.injEq] at ht
   subst ht
   rw[aR hn,if_pos rfl]; exact rfl
  ·rename_i e'
   simp only[upd,e',if_false] at ht
   rw[aR hn,if_neg (h.cz hn ht)]; exact h.mp k b hk t ht
theorem FG (h:bL ι te tS env S) {id gJ:Nat} {kt:TT} {l l':List kt.den} (hi:ι id=some gJ) (hl:tS[id]? = some (.map kt l)):bL ι te (tS.set id (.map kt l')) env (S.set gJ (.map (xu kt l'))):=by
 have hS:S[gJ]? = some (.map (xu kt l)):=h.mp id _ hl gJ hi
 have hlt:=(List.getElem?_eq_some_iff.1 hl).1
 have Mz:=(List.getElem?_eq_some_iff.1 hS).1
 have K:jo ι S ι (S.set gJ (.map (xu kt l'))) fun _=>False:=fun a b _ mm=>⟨mm,by
  rw[List.getElem?_set]
  split
  ·rename_i e1; subst e1; exact tR (by rw[hS]; simp) (by rw[hS]; simp)
  ·exact dX rfl⟩
 have hg:∀ j,(tS.set id (.map kt l'))[j]? = if j=id then some (.map kt l') else tS[j]? := fun j=>by
  rw[List.getElem?_set]
  by_cases e:j=id
  ·subst e; simp[hlt]
  ·rw[if_neg (Ne.symm e),if_neg e]
 have jW:∀ j,j≠gJ→(S.set gJ (.map (xu kt l')))[j]? = S[j]? := fun j hj=>by rw[List.getElem?_set,if_neg (Ne.symm hj)]
 refine⟨aY K _ _ h.env,fun j m hj => ?_,fun j e s hj t ht => ?_,fun j j' hj => ?_,h.inj,fun j b hj t ht => ?_⟩
 ·rw[hg] at hj
  split at hj
  ·cases hj
  ·rename_i e
   obtain⟨j',JU,h1,h2,h3⟩:=h.cells j m hj
   exact⟨j',JU,h1,by rw[jW j' fun e1=>e (h.inj _ _ _ (e1▸h1) hi)]; exact h2,aY K _ _ h3⟩
 ·rw[hg] at hj
  split at hj
  ·cases hj
  ·obtain⟨n,h1⟩:=h.own j e s hj t ht
   exact⟨n,(K j t (fun e=>e) ht).2.1 _ _ _ h1⟩
 ·rw[hg]
  split
  ·exact⟨_,rfl,by simp⟩
  ·exact h.uP j j' hj
 ·rw[hg] at hj
  split at hj
  ·rename_i e
   subst e
   cases hj
   rw[hi] at ht
   cases ht
   rw[List.getElem?_set,if_pos rfl,if_pos Mz]; exact rfl
  ·rename_i e
   rw[jW t fun e1=>e (h.inj _ _ _ (e1▸ht) hi)]
   exact h.mp j b hj t ht
theorem S7 {id:Nat} {kt:TT} {l l':List kt.den} (hB:mo B tS) (hl:tS[id]? = some (.map kt l)):mo B (tS.set id (.map kt l')):=fun k hk=>by
 obtain⟨c,hc⟩:=hB k hk
 refine⟨c,?_⟩
 rw[List.getElem?_set,if_neg]
 ·exact hc
 ·rintro rfl; rw[hl] at hc; cases hc
theorem Px {v:TV} {gT:List TB} {c:Prop} (h:VE P tt te tS o nT=some (v,gT,c)) (hc:c):Does P ty aC call yf B o nT te tS false fun v' bS bV _=>v'=v∧bS=te∧bV=gT:=by
 intro ι w env S ay hR hB hw hT hn hS
 unfold VE at h
 split at h
 ·rename_i t ho
  split at h
  ·rename_i kt ht
   cases h
   refine⟨.map ay,di S ay (.map []),upd ι nT ay,upd w ay nT,.mp nT,te,_,⟨none,true⟩,⟨none,true⟩,fun _ => ?_,fun hd=>(by cases hd),⟨fun e=>e,fun l hl=>(by cases hl)⟩,fun l m hl=>(by cases hl),FH hR hT hn kt,?_,nI hR hn hT hw,fun hd=>(by cases hd),oZ hn (kH hB hT),je hB hT,lZ hn,rfl,rfl,rfl⟩
   ·simp only[ah,ho]
   ·simp[RT,upd]
  ·cases h
 ·rename_i t m k ho
  split at h
  ·rename_i id u h1 h2
   split at h
   ·rename_i kt l h3
    split at h
    ·rename_i x h4
     cases h
     obtain⟨d,k1,k2⟩:=aS hR.env h1
     cases d<;>simp only[RT] at k2
     rename_i gJ
     have k3:S[gJ]? = some (.map (xu kt l)):=hR.mp id _ h3 gJ k2
     have k4:valOf (ga env) k=some (DO kt x):=ei hR.env (by rw[h2]; exact Js h4)
     refine⟨.val (.bool (Ms kt x l)),S,ι,w,.val (.bool (Ms kt x l)),te,tS,⟨none,true⟩,⟨none,true⟩,fun _ => ?_,fun hd=>(by cases hd),⟨fun e=>e,fun l hl=>(by cases hl)⟩,fun l m hl=>(by cases hl),hR,by simp only[RT],hw,fun hd=>(by cases hd),Fr.refl _ _ _,hB,ew _ _,rfl,rfl,rfl⟩
     simp only[ah,ho,k1,k4,k3,hc.look x l,Option.bind_some,D6,wu]
     rfl
    ·cases h
   ·cases h
  ·cases h
 ·rename_i t m k y ho
  split at h
  ·rename_i id u h1 h2 h5
   split at h
   ·rename_i kt l h3
    split at h
    ·rename_i x h4
     cases h
     obtain⟨d,k1,k2⟩:=aS hR.env h1
     cases d<;>simp only[RT] at k2
     rename_i gJ
     have k3:S[gJ]? = some (.map (xu kt l)):=hR.mp id _ h3 gJ k2
     have k4:valOf (ga env) k=some (DO kt x):=ei hR.env (by rw[h2]; exact Js h4)
     have k5:valOf (ga env) y=some (.bool true):=ei hR.env (by rw[h5]; rfl)
     obtain⟨r,k6,k7⟩:=hc.find x l
     refine⟨aO,S.set gJ (.map (xu kt (VG kt x l))),ι,w,.unk,te,_,⟨none,true⟩,⟨none,true⟩,fun _ => ?_,fun hd=>(by cases hd),⟨fun e=>e,fun l hl=>(by cases hl)⟩,fun l m hl=>(by cases hl),FG hR k2 h3,by simp only[RT],hw,fun hd=>(by cases hd),vp k2,S7 hB h3,ve k3 (fun e=>by cases e),rfl,rfl,rfl⟩
     simp only[ah,ho,k1,k4,k5,k3,k6,k7,Option.map_some]
    ·cases h
   ·cases h
  ·cases h
 ·cases h
end Go.Tv
end
