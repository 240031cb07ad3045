import Derived.Test.YtedcgbkilmlbhaaPk04
import Derived.Test.YtedcgbkilmlbhaaPk01
import Derived.Test.YtedcgbkilmlbhaaProg
import Derived.Test.YtedcgbkilmlbhaaChecked
import Derived.KernelRfl
import Derived.Laws.BitsLemmas
import Derived.Laws.StructEq
section
namespace Go.Tv
open Go Go.Di
def SV (ty:eS) (te:List TV) (tS:List TB):ResultVar→Option TV
 | .tmp t=>some (te.getD t .unk)
 | .cell a t=>match ty t,te.getD a .unk with
  | some d,.ptr id off=>match tS[id]? with
   | some (.cells l)=>u9 d.k.isAgg d.size l off
   | _=>none
  | _,_=>none
def xk (ty:eS) (te:List TV) (tS:List TB):List ResultVar→Option (List TV)
 | []=>some []
 | x::r=>match SV ty te tS x,xk ty te tS r with
  | some v,some l=>some (v::l)
  | _,_=>none
def iP:List TV→TV
 | [d]=>d
 | l => .fB l
variable {P:Program} {ty:eS} {tt:TypeId→Option TT} {ι ι' w:jR} {S S':ak} {te kY:List TV} {env:List DV} {tS iu:List TB} {aD:bq} {call:bg} {yf:dF} {o:Oper} {ay nT:Nat} {B:List Nat} {r:TR} {ops:Array Oper}
theorem sS (h:bS ι te tS env S):∀ {rs:List ResultVar} {vs:List TV},xk ty te tS rs=some vs→∃ ds,oq ty env S rs=some ds∧cG ι S vs ds
 | [],vs,hx=>by cases hx; exact⟨[],rfl,bL⟩
 | x::r,vs,hx=>by
  simp only[xk] at hx
  split at hx
  ·rename_i v l h1 h2
   cases hx
   obtain⟨ds,k1,k2⟩:=sS h h2
   cases x with
   | tmp t =>
    cases h1
    exact⟨_,by simp only[oq,k1,Option.map_some],aP (x8 h.env t) k2⟩
   | cell a t =>
    simp only[SV] at h1
    split at h1
    ·rename_i d id off e1 e2
     split at h1
     ·rename_i l' e3
      have hg:=x8 h.env a
      rw[e2] at hg
      generalize hd:env.getD a aV=da at hg
      cases da<;>simp only[RT] at hg
      obtain⟨g1,rfl⟩:=hg
      obtain⟨gf,fD,m1,m2,m3⟩:=h.cells id l' e3
      rw[g1] at m1
      cases m1
      obtain⟨q,m4,m5⟩:=mA m3 h1
      exact⟨q::ds,by simp only[oq,hd,gY,e1,m2,m4,k1],aP m5 k2⟩
     ·cases h1
    ·cases h1
  ·cases hx
theorem J7 {ts:List (Option TT)} {vs:List TV} {ds:List DV} (hp:vs.all eC=true) (h:cG ι S vs ds):(oneOf ds).strip.pure=true∧RT ι' S' (iP (bk ts vs)) (oneOf ds).strip:=by
 have many:∀ {ts:List (Option TT)} {l:List TV} {m:List DV},l.all eC=true→cG ι S l m→(m.map DV.cA).all DV.gz=true∧cG ι' S' (bk ts l) (m.map DV.cA):=by
  intro ts l
  induction l generalizing ts with
  | nil=>intro m _ h; rw[aM h]; cases ts<;>exact⟨rfl,by simp only[bk,List.map_nil]; exact bL⟩
  | cons a l ih =>
   intro m hp h
   obtain⟨d,m',rfl,h1,h2⟩:=aj h
   simp only[List.all_cons,Bool.and_eq_true] at hp
   cases ts with
   | nil =>
    obtain⟨k1,k0,k2⟩:=jg (t:=none) (ι':=ι') (S':=S') hp.1 h1
    obtain⟨k3,k4⟩:=ih (ts:=[]) hp.2 h2
    have e:d.strip=d.cA:=by cases d<;>first | rfl | exact(k0 _ rfl).elim
    rw[e] at k1 k2
    have e2:d.cA.gz=true:=by cases d<;>first | exact k1 | exact(k0 _ rfl).elim
    exact⟨by rw[List.map_cons,List.all_cons,e2,k3]; rfl,by simp only[bk,List.map_cons]; exact aP k2 k4⟩
   | cons t ts =>
    obtain⟨k1,k0,k2⟩:=jg (t:=t) (ι':=ι') (S':=S') hp.1 h1
    obtain⟨k3,k4⟩:=ih (ts:=ts) hp.2 h2
    have e:d.strip=d.cA:=by cases d<;>first | rfl | exact(k0 _ rfl).elim
    rw[e] at k1 k2
    have e2:d.cA.gz=true:=by cases d<;>first | exact k1 | exact(k0 _ rfl).elim
    exact⟨by rw[List.map_cons,List.all_cons,e2,k3]; rfl,by simp only[bk,List.map_cons]; exact aP k2 k4⟩
 match vs,ds,hp,h with
 | [],ds,_,h=>rw[aM h]; cases ts<;>exact⟨rfl,by simp only[bk,iP,oneOf,DV.strip,RT,List.map_nil]; exact bL⟩
 | [v],ds,hp,h =>
  obtain⟨d,m',rfl,h1,h2⟩:=aj h
  rw[aM h2]
  simp only[List.all_cons,List.all_nil,Bool.and_true] at hp
  cases ts with
  | nil =>
   obtain⟨k1,k0,k2⟩:=jg (t:=none) (ι':=ι') (S':=S') hp h1
   exact⟨k1,k2⟩
  | cons t ts =>
   obtain⟨k1,k0,k2⟩:=jg (t:=t) (ι':=ι') (S':=S') hp h1
   cases ts<;>exact⟨k1,k2⟩
 | v::u::l,ds,hp,h =>
  obtain⟨k1,k2⟩:=many (ts:=ts) hp h
  obtain⟨d,m',rfl,h1,h2⟩:=aj h
  obtain⟨d',m'',rfl,h3,h4⟩:=aj h2
  refine⟨k1,?_⟩
  have e:∀ {ts:List (Option TT)},iP (bk ts (v::u::l)) = .fB (bk ts (v::u::l)):=by
   intro ts
   cases ts with
   | nil=>simp only[bk,iP]
   | cons t ts=>cases ts<;>simp only[bk,iP]
  rw[e]
  simp only[oneOf,DV.strip,RT]
  exact k2
theorem J8 {ts:List (Option TT)} {vs:List TV} {ds:List DV} (hp:vs.all eC=true) (h:cG ι S vs ds):RT ι' S' (iP (bk ts vs)) (oneOf ds):=by
 have k:=iq (ts:=ts) (ι':=ι') (S':=S') hp h
 match vs,ds,hp,h,k with
 | [],ds,_,h,k=>rw[aM h]; cases ts<;>(simp only[bk,iP,oneOf,RT]; exact bL)
 | [v],ds,hp,h,k =>
  obtain⟨d,m',rfl,h1,h2⟩:=aj h
  rw[aM h2] at k ⊢
  cases ts with
  | nil=>simp only[bk] at k ⊢; obtain⟨_,_,e,k1,-⟩:=aj k; cases e; exact k1
  | cons t ts=>cases ts<;>(simp only[bk] at k ⊢; obtain⟨_,_,e,k1,-⟩:=aj k; cases e; exact k1)
 | v::u::l,ds,hp,h,k =>
  obtain⟨d,m',rfl,h1,h2⟩:=aj h
  obtain⟨d',m'',rfl,h3,h4⟩:=aj h2
  have e:∀ {ts:List (Option TT)},iP (bk ts (v::u::l)) = .fB (bk ts (v::u::l)):=by
   intro ts
   cases ts with
   | nil=>simp only[bk,iP]
   | cons t ts=>cases ts<;>simp only[bk,iP]
  rw[e]
  simp only[oneOf,RT]
  exact k
section
variable (P:Program) (ty:eS) (aZ:bq) (L:Nat)
def vY (n:Nat):bq:=iC aZ (cK P ty aZ L n).1
def vq (n:Nat):bg:=(cK P ty aZ L n).1
def yfN (n:Nat):dF:=(cK P ty aZ L n).2
end
theorem fF {t:TT}:∀ {l:List t.den} {ds:List DV},dx t l ds→ds.length=l.length*t.size
 | [],ds,h=>by simp only[dx] at h; subst h; simp
 | x::l,ds,h=>by
  simp only[dx] at h
  obtain⟨c,m,rfl,h1,h2⟩:=h
  rw[List.length_append,lV h1,fF h2,List.length_cons,Nat.add_mul,Nat.one_mul,Nat.add_comm]
theorem rS {t:TT} (h0:(t.agg||t.size==1)=true):∀ {l:List t.den} {ds:List DV},dx t l ds→dn (CR t) t.agg l (rowsOf t.size t.agg ds l.length)
 | [],ds,h=>by simp only[dx] at h; subst h; simp[rowsOf,dn]
 | x::l,ds,h=>by
  simp only[dx] at h
  obtain⟨c,m,rfl,h1,h2⟩:=h
  rw[List.length_cons,vF (lV h1)]
  refine⟨?_,rS h0 h2⟩
  cases ha:t.agg with
  | true=>exact⟨h1,by simp[xE]⟩
  | false =>
   have h3:=row_one h1 ha
   rw[ha] at h3
   have hs:t.size=1:=by rw[ha] at h0; simpa using h0
   have e2:(c++m).getD 0 aV=c.getD 0 aV:=by
    have:=lV h1
    simp only[List.getD_eq_getElem?_getD,List.getElem?_append_left (show 0<c.length by omega)]
   simp only[Bool.false_eq_true,if_false]
   rw[e2]
   exact h3
theorem Ao (h:bS ι te tS env S) {g:Nat} {t t':TT} {e:Nat} {l:List t'.den} {z:Bool} {d:DV} (hg:tS[g]? = some (.rows t' e l z)) (hd:RT ι S (.so g t) d) (ht:t'=t):∃ id ds,d = .gQ id l.length t'.agg∧ι g=some id∧S[id]? = some (.op e t'.size ds z)∧zB S id l.length=some (e,t'.size,ds,z)∧dx t' l ds∧0<t'.size∧(t'.agg||t'.size==1)=true:=by
 subst ht
 cases d<;>simp only[RT] at hd
 rename_i id n agg
 obtain⟨h1,rfl,e',s',l',z',h2,h3⟩:=hd
 obtain⟨q0,q1,ds,q2,q3⟩:=h.mp g _ hg id h1
 rw[h2] at q2
 cases q2
 have hl:=fF q3
 have hn:n=l.length:=Nat.eq_of_mul_eq_mul_right q0 (h3.trans hl)
 subst hn
 refine⟨id,l',rfl,h1,h2,?_,q3,q0,q1⟩
 unfold zB
 rw[h2]
 simp only[h3,if_true]
theorem Iy {id n:Nat} {t:TT} {e:Nat} {ds:List DV} (h:zB S id n=some (e,t.size,ds,true)) (h0:0<t.size) (h1:(t.agg||t.size==1)=true):iT S (.gQ id n t.agg) = .sl (rowsOf t.size t.agg ds n) none ⟨false,some false⟩:=by
 simp only[iT,h,decide_eq_true h0,h1,Bool.and_self,if_true]
def xw (tS:List TB):List TV→List TV
 | [.so g t]=>match tS[g]? with
  | some (.rows t' _ l _)=>if h:t'=t then [.sl t (h▸l) .no] else [.so g t]
  | _=>[.so g t]
 | vs=>vs
theorem Wp (h:bS ι te tS env S) {vs:List TV} {ds:List DV} (hd:cG ι S vs ds) (hp:(xw tS vs).all eC=true):∃ fD,oneOf fD=iT (qo S (oneOf ds)) (oneOf ds)∧cG ι S (xw tS vs) fD:=by
 have other:vs.all eC=true→∃ fD,oneOf fD=iT (qo S (oneOf ds)) (oneOf ds)∧cG ι S vs fD:=fun hp=>by
  refine⟨ds,?_,hd⟩
  match vs,ds,hd,hp with
  | [],ds,hd,_=>rw[aM hd]; rfl
  | [v],ds,hd,hp =>
   obtain⟨d,m',rfl,k1,k2⟩:=aj hd
   rw[aM k2]
   simp only[oneOf]
   cases v<;>first | (cases hp; done) | skip
   all_goals cases d<;>simp only[RT] at k1<;>rfl
  | v::u::l,ds,hd,_ =>
   obtain⟨d,m',rfl,k1,k2⟩:=aj hd
   obtain⟨d',m'',rfl,k3,k4⟩:=aj k2
   rfl
 unfold xw at hp ⊢
 split at hp
 ·rename_i g t
  split at hp
  ·rename_i t' e l z hg
   split at hp
   ·rename_i ht
    obtain⟨d,m',rfl,k1,k2⟩:=aj hd
    rw[aM k2]
    obtain⟨id,cs,rfl,h1,h2,h3,h4,h5,h6⟩:=Ao h hg k1 ht
    subst ht
    refine⟨[.sl (rowsOf t'.size t'.agg cs l.length) none ⟨false,some false⟩],?_,?_⟩
    ·simp only[oneOf]
     symm
     have hS:zB (qo S (.gQ id l.length t'.agg)) id l.length=some (e,t'.size,cs,true):=by
      cases z with
      | true=>simp only[qo,h3]
      | false =>
       have hlt:=(List.getElem?_eq_some_iff.1 h2).1
       have hn:l.length*t'.size=cs.length:=(fF h4).symm
       have e1:qo S (.gQ id l.length t'.agg)=S.set id (.op e t'.size cs true):=by simp only[qo,h3]
       rw[e1]
       unfold zB
       rw[List.getElem?_set,if_pos rfl,if_pos hlt]
       simp only[hn,if_true]
     exact Iy hS h5 h6
    ·simp only[dif_pos]
     exact gn (by simp only[RT,qq,and_true]; exact rS h6 h4)
   ·rename_i ht
    rw[dif_neg ht]
    exact other hp
  ·exact other hp
 ·exact other hp
def Vk (ty:eS) (rs:List ResultVar) (kz:List (Option TT)) (Q:TV→Prop) (e:DX) (te:List TV) (tS:List TB):Prop :=
 (match e with | .exit _=>False | _=>True)∧∃ vs,xk ty te tS rs=some vs∧(xw tS vs).all eC=true∧refs (iP (bk kz (xw tS vs)))=[]∧Q (iP (bk kz (xw tS vs)))
theorem Oz {aZ:bq} {L n:Nat} {f:FuncId} {fn:Func} {c:Code} {targs:List TV} {kz:List (Option TT)} {Q:TV→Prop} (hf:P.funcs[f]? = some fn) (hb:fn.body=some c) (ht:∀ a,aZ f a=none)
  (h:WT P ty (vY P ty aZ L n) (vq P ty aZ L n) (yfN P ty aZ L n) [] L f false c (targs++List.replicate (fn.ntmps-targs.length) .unk) [] (Vk ty fn.results.toList kz Q)):oA (vY P ty aZ L (n+1)) f targs Q:=by
 intro bY hd
 have hlen:=fJ hd
 have hR:bS eD (targs++List.replicate (fn.ntmps-targs.length) .unk) [] (bY++List.replicate (fn.ntmps-bY.length) aV) []:=by
  refine⟨dO hd (by rw[hlen]; exact sR _ _),fun k l hk=>(by simp at hk),fun k e s hk=>(by simp at hk),fun k k' hk=>(by cases hk),fun i j k' hi=>(by cases hi),fun k b hk=>(by simp at hk)⟩
 obtain⟨e,az,S',ι',bT,bU,h1,h2,h3,h4,h5,h6⟩:=h eD _ [] hR (fun k hk=>(by cases hk))
 obtain⟨h6,vs,h7,h8,h9,rX⟩:=h6
 obtain⟨ds,k1,k2⟩:=sS h2 h7
 obtain⟨ds2,c1,c2⟩:=Wp h2 k2 h8
 obtain⟨k3,k4⟩:=J7 (ts:=kz) (ι':=eD) (S':=[]) h8 c2
 refine⟨(oneOf ds2).strip,_,?_,k3,k4,h9,rX⟩
 have hc:(cK P ty aZ L (n+1)).1 f bY []=some (oneOf ds,S'):=by
  simp only[cK,hf,qE,hb]
  have C9:bO P ty (iC aZ (cK P ty aZ L n).1) (cK P ty aZ L n).1 (cK P ty aZ L n).2 L f false c (bY++List.replicate (fn.ntmps-bY.length) aV) []=some (e,az,S'):=h1
  rw[C9]
  cases e with
  | normal=>simp only[k1,Option.map_some]
  | ret=>simp only[k1,Option.map_some]
  | exit id=>exact h6.elim
 simp only[vY,iC,ht,hc,← c1,k3,if_true]
def LJ (ty:eS) (rs:List ResultVar) (kz:List (Option TT)) (mV:List (Option TT)) (Q:TV→List TV→Prop) (e:DX) (te:List TV) (tS:List TB):Prop :=
 (match e with | .exit _=>False | _=>True)∧∃ vs ts,xk ty te tS rs=some vs∧vs.all eC=true∧refs (iP (bk kz vs))=[]∧tS[0]? = some (.cells ts)∧ts.all eC=true∧fN (bk mV ts)=[]∧Q (iP (bk kz vs)) (bk mV ts)
theorem OO {aZ:bq} {L n:Nat} {f:FuncId} {fn:Func} {c:Code} {targs ts:List TV} {kz mV:List (Option TT)} {Q:TV→List TV→Prop} (hf:P.funcs[f]? = some fn) (hb:fn.body=some c)
  (h:WT P ty (vY P ty aZ L n) (vq P ty aZ L n) (yfN P ty aZ L n) [0] L f false c (targs++List.replicate (fn.ntmps-targs.length) .unk) [.cells ts] (LJ ty fn.results.toList kz mV Q)):vw (vq P ty aZ L (n+1)) f targs ts Q:=by
 intro ι bY S hR
 have hlen:=fJ hR.env
 have jG:bS ι (targs++List.replicate (fn.ntmps-targs.length) .unk) [.cells ts] (bY++List.replicate (fn.ntmps-bY.length) aV) S :=
  ⟨dO hR.env (by rw[hlen]; exact sR _ _),hR.cells,hR.own,hR.sw,hR.inj,hR.mp⟩
 obtain⟨e,az,S',ι',bT,bU,h1,h2,h3,h4,h5,h6⟩:=h ι _ S jG (fun k hk=>(by
  have:k=0:=by simpa using hk
  subst this
  exact⟨ts,rfl⟩))
 obtain⟨h6,vs,tR,h7,h8,h9,rX,zu,KU,Sy⟩:=h6
 obtain⟨ds,k1,k2⟩:=sS h2 h7
 obtain⟨k',fD,m1,m2,m3⟩:=h2.cells 0 tR rX
 refine⟨oneOf ds,S',ι',_,bk mV tR,k',fD,?_,J8 (ts:=kz) h8 k2,h9,KU,by rw[← h4.base 0 (by simp)]; exact m1,m2,iq zu m3,h4,h5,Sy⟩
 simp only[vq,cK,hf,qE,hb]
 have C9:bO P ty (iC aZ (cK P ty aZ L n).1) (cK P ty aZ L n).1 (cK P ty aZ L n).2 L f false c (bY++List.replicate (fn.ntmps-bY.length) aV) S=some (e,az,S'):=h1
 rw[C9]
 cases e with
 | normal=>simp only[k1,Option.map_some]
 | ret=>simp only[k1,Option.map_some]
 | exit id=>exact h6.elim
end Go.Tv
end
section
namespace Go.Tv
open Go Go.Di
section
variable (P:Program) (ty:eS) (tt:TypeId→Option TT)
def LQ:List TV→Option Nat
 | []=>none
 | v::l=>match refs v with
  | k::_=>if isRef v then some k else LQ l
  | []=>LQ l
end
variable {P:Program} {ty:eS} {tt:TypeId→Option TT} {ι ι' w:jR} {S S':ak} {te kY:List TV} {env:List DV} {tS iu:List TB} {aD:bq} {call:bg} {yf:dF} {o:Oper} {ay nT:Nat} {B:List Nat} {r:TR} {ops:Array Oper} {L:Nat} {fn:FuncId} {gJ:Bool} {a b c:Code} {Q Q':DX→List TV→List TB→Prop}
variable {fs:List cz}
def WI (P:Program) (ty:eS) (aD:bq) (call:bg) (yf:dF) (B:List Nat) (L:Nat) (fn:FuncId) (gJ:Bool) (n:Nat) (c:Code) (te:List TV) (tS:List TB) (Q:DX→List TV→List TB→Prop):Prop :=
 ∀ ι env S,bS ι te tS env S→lJ B tS→∃ e az S' ι' bT bU,jN (bO P ty aD call yf L fn gJ c) n env S=some (e,az,S')∧bS ι' bT bU az S'∧lJ B bU∧Fr B ι S ι' S'∧Nn S.length S S'∧Q e bT bU
theorem A8 {f:List DV→ak→Option (DX×List DV×ak)}:∀ {n m:Nat} {env:List DV} {S:ak} {r:DX×List DV×ak},n≤m→jN f n env S=some r→jN f m env S=some r
 | 0,_,_,_,_,_,h=>by cases h
 | n+1,0,_,_,_,hn,_=>by omega
 | n+1,m+1,env,S,r,hn,h=>by
  simp only[jN] at h ⊢
  split at h
  ·rename_i az S' e
   exact A8 (by omega) h
  ·exact h
theorem Jm {n:Nat} (hn:n≤L) (h:WI P ty aD call yf B L fn gJ n c te tS Q):WT P ty aD call yf B L fn gJ (.loop c) te tS Q:=by
 intro ι env S hR hB
 obtain⟨e,az,S',ι',bT,bU,h1,h2⟩:=h ι env S hR hB
 exact⟨e,az,S',ι',bT,bU,by simp only[bO]; exact A8 hn h1,h2⟩
theorem Qv {n:Nat} (h:WT P ty aD call yf B L fn gJ c te tS fun e te tS=>match e with | .normal=>WI P ty aD call yf B L fn gJ n c te tS Q | e=>Q e te tS):WI P ty aD call yf B L fn gJ (n+1) c te tS Q:=by
 intro ι env S hR hB
 obtain⟨e,az,S',ι',bT,bU,h1,h2,h3,h4,h5,h6⟩:=h ι env S hR hB
 cases e with
 | normal =>
  obtain⟨e,mm,qP,ι'',qS,qT,k1,k2,k3,k4,k5,k6⟩:=h6 ι' az S' h2 h3
  exact⟨e,mm,qP,ι'',qS,qT,by simp only[jN,h1,k1],k2,k3,h4.trans k4,oN h5 k5,k6⟩
 | exit id=>exact⟨_,az,S',ι',bT,bU,by simp only[jN,h1],h2,h3,h4,h5,h6⟩
 | ret=>exact⟨_,az,S',ι',bT,bU,by simp only[jN,h1],h2,h3,h4,h5,h6⟩
theorem Qp {σ:Type} (f:σ→List TV×List TB) (eE:σ→Prop) (h1:WT P ty aD call yf B L fn gJ a te tS fun e te tS=>match e with | .normal=>∃ s,Fits B (f s).1 (f s).2 te tS∧eE s | e=>Q e te tS)
  (h2:∀ s,eE s→WT P ty aD call yf B L fn gJ b (f s).1 (f s).2 Q):WT P ty aD call yf B L fn gJ (.seq a b) te tS Q:=by
 refine Mr (h1.mono ?_)
 intro e te tS hq
 cases e with
 | normal =>
  obtain⟨s,hf,hg⟩:=hq
  exact HL hf.l hf.b hf.ok hf.base (h2 s hg)
 | exit id=>exact hq
 | ret=>exact hq
theorem En:∀ owns:List (Nat×Nat),zI (owns.map fun p=>TB.own p.1 p.2) []
 | [] => .nil
 | _::l => .new (En l)
end Go.Tv
end
section
namespace Go.Di
open Go Go.Proofs
def ZB (d:Tmp) (t:TypeId):Nat:=if t==28 then (if d==18 then 1 else if d==26 then 1 else if d==51 then 2 else 0) else 0
noncomputable abbrev TyH:eS:=⟨Li Try.prog,ZB⟩
end Go.Di
end
section
namespace Go.Tv
open Go Go.Di Go.Proofs
abbrev cv:TT := .int .i64
abbrev aN:TT := .sl cv
abbrev gI:TT := .pair aN (.pair aN (.pair cv (.pair aN .unit)))
abbrev M7:TT := .pair cv (.pair cv .unit)
abbrev jw:TT := .pair cv (.pair cv (.pair cv .unit))
abbrev aY:TT := .pair .bool (.pair jw .unit)
def ttL:List (Nat×TT):=[(3,cv),(4,.bool),(30,cv),(22,aN),(26,gI),(28,.sl gI),(77,M7),(57,.int .u64),(56,jw),(33,.sl jw),(81,jw),(41,.sl jw),(44,.sl aN),(9,.str),(110,aY),(107,aY),(108,.sl .bool)]
def WH (t:TypeId):Option TT:=(ttL.find? fun p=>p.1==t).map (·.2)
abbrev vv:=TV.val
abbrev vi:=Value.int IntKind.i64
abbrev vb:=Value.bool
abbrev bX (n:Int):TV := .val (.int .i64 n)
abbrev mX (b:Bool):TV := .val (.bool b)
noncomputable abbrev Tp:Program:=Try.prog
noncomputable abbrev Ty:eS:=TyH
def LL:Nat:=1000000
structure sC (aZ:bq):Prop where
 other:∀ f a,f≠33→f≠83→f≠13→f≠67→f≠0→aZ f a=none
 fit:aZ 13 []=some (.val (.bool true))
section
variable (aZ:bq) (n:Nat)
noncomputable abbrev Dc:bq:=vY Tp Ty aZ LL n
noncomputable abbrev xS:bg:=vq Tp Ty aZ LL n
noncomputable abbrev yfT:dF:=yfN Tp Ty aZ LL n
end
theorem xI {n:Int} (h : -9223372036854775808≤n) (h':n≤9223372036854775807):IntKind.i64.wrap n=n:=by rw[IntKind.wrap_i64]; omega
end Go.Tv
end
section
namespace Go.Tv
open Go Go.Di
def xG (aD:bq) (call:bg) (g:FuncId) (targs:List TV) (Q:List TV→Prop):Prop :=
 ∀ bY S,cG eD S targs bY→(∀ ds,cG eD [] targs ds→aD g ds=none)∧∃ S' id ds ts,call g bY S=some (.ptr id 0,S')∧¬ Lv S id∧S'[id]? = some (.cells ds)∧cG eD [] ts ds∧fN ts=[]∧(∀ k',Lv S k'→S'[k']? = S[k']?)∧Nn S.length S S'∧Q ts
theorem xG.mono {aD:bq} {call:bg} {g:FuncId} {targs:List TV} {Q Q':List TV→Prop} (h:xG aD call g targs Q) (hq:∀ v,Q v→Q' v):xG aD call g targs Q':=fun bY S hd=>by
 obtain⟨h0,S',id,ds,ts,h1,h2,h3,h4,h5,h6,h7,h8⟩:=h bY S hd
 exact⟨h0,S',id,ds,ts,h1,h2,h3,h4,h5,h6,h7,hq _ h8⟩
variable {P:Program} {ty:eS} {tt:TypeId→Option TT} {ι ι' w:jR} {S S':ak} {te kY:List TV} {env:List DV} {tS iu:List TB} {aD:bq} {call:bg} {yf:dF} {o:Oper} {ay nT:Nat} {B:List Nat} {r:TR} {ops:Array Oper}
theorem GW {f:Operand} {args:Array Operand} {argTypes:Array TypeId} {g:FuncId} {fs cs xs targs:List TV} {Q:List TV→Prop} (hop:o.op = .call { callee := .value f,args,argTypes }) (hh:ty.h o≠1) (hf:eZ te f=some (.fn g fs cs)) (ha:kX te args.toList=some xs) (hp:(fs++xs++cs).all eC=true)
  (hn:bk (fR tt fs argTypes) (fs++xs++cs)=targs) (hs:xG aD call g targs Q):Does P ty aD call yf B o nT te tS false fun v bT bU _=>∃ ts,Q ts∧v = .ptr nT 0∧bT=te∧bU=om tS nT (.cells ts):=by
 intro ι w env S ay hR hB hw hT O8 hS
 obtain⟨xg,jj,IX,k1,k2,k3⟩:=jh hR.env hf ha
 obtain⟨k4,k5⟩:=ij (ts:=fR tt fs argTypes) (ι':=eD) (S':=[]) hp k3
 have k6:=iq (ts:=fR tt fs argTypes) (ι':=eD) (S':=S) hp k3
 rw[hn] at k5 k6
 obtain⟨h0,S',id,ds,ts,m1,m2,m3,m4,m5,m6,m7,m8⟩:=hs _ S k6
 have hne:∀ {k k':Nat},ι k=some k'→k'≠id:=fun hk e=>m2 (e▸hR.live hk)
 have ue:ι nT=none:=hR.new hT
 have K:jx ι S (upd ι nT id) S' fun _=>False:=fun k k' _ hk=>by
  have h1:k≠nT:=by rintro rfl; rw[ue] at hk; cases hk
  exact⟨by simp only[upd,h1,if_false]; exact hk,dU (m6 k' (hR.live hk))⟩
 refine⟨.ptr id 0,S',upd ι nT id,fun j=>if j=id then some nT else w j,.ptr nT 0,te,om tS nT (.cells ts),⟨none,true⟩,⟨none,true⟩,fun _ => ?_,fun e=>(by cases e),⟨fun e=>e,fun l hl=>(by cases hl)⟩,fun l m hl=>(by cases hl),?_,by simp[RT,upd],?_,?_,?_,iK hB hT,⟨m7.1,fun j hj dI=>m7.2 j (by have:=(List.getElem?_eq_some_iff.1 dI).1; omega) dI⟩,ts,m8,rfl,rfl,rfl⟩
 ·simp only[ah,hop,k1,k2,sK,k4,if_true,h0 _ k5,m1]
 ·refine⟨bw K _ _ hR.env,fun k l hk => ?_,fun k e s hk t ht => ?_,fun k k' hk => ?_,fun i j k' hi hj => ?_,fun k b hk t ht => ?_⟩
  ·rw[bK hT] at hk
   split at hk
   ·rename_i e
    subst e
    cases hk
    exact⟨id,ds,by simp[upd],m3,fZ _ _ m5 m4⟩
   ·rename_i e
    obtain⟨k',fD,h1,h2,h3⟩:=hR.cells k l hk
    exact⟨k',fD,by simp only[upd,e,if_false]; exact h1,by rw[m6 k' (hR.live h1)]; exact h2,bw K _ _ h3⟩
  ·rw[bK hT] at hk
   split at hk
   ·cases hk
   ·rename_i e'
    simp only[upd,e',if_false] at ht
    obtain⟨n,h1⟩:=hR.own k e s hk t ht
    exact⟨n,by rw[m6 t (hR.live ht)]; exact h1⟩
  ·rw[bK hT]
   split
   ·exact⟨_,rfl,fun e=>by cases e⟩
   ·rename_i e
    simp only[upd,e,if_false] at hk
    exact hR.sw k k' hk
  ·unfold upd at hi hj
   split at hi<;>split at hj
   ·omega
   ·cases hi; exact(hne hj rfl).elim
   ·cases hj; exact(hne hi rfl).elim
   ·exact hR.inj i j k' hi hj
  ·rw[bK hT] at hk
   split at hk
   ·cases hk; trivial
   ·rename_i e'
    simp only[upd,e',if_false] at ht
    rw[m6 t (hR.live ht)]; exact hR.mp k b hk t ht
 ·intro a b kV
  unfold upd at kV
  split at kV
  ·rename_i e; subst e; cases kV; simp
  ·simp only[hne kV,if_false]; exact hw _ _ kV
 ·intro e; cases e
 ·refine⟨fun k' hl _=>m6 k' hl,fun k k' hk => ?_,fun k hk => ?_⟩
  ·unfold upd at hk
   split at hk
   ·cases hk; exact .inr m2
   ·exact .inl ⟨k,hk⟩
  ·have:=j5 hB hT
   unfold upd
   rw[if_neg (fun e:k=nT=>this (e▸hk))]
def Vj (ty:eS) (rs:List ResultVar) (mV:List (Option TT)) (Q:List TV→Prop) (e:DX) (te:List TV) (tS:List TB):Prop :=
 (match e with | .exit _=>False | _=>True)∧∃ ts,xk ty te tS rs=some [.ptr 0 0]∧tS[0]? = some (.cells ts)∧ts.all eC=true∧fN (bk mV ts)=[]∧Q (bk mV ts)
theorem Og {aZ:bq} {L n:Nat} {f:FuncId} {fn:Func} {c:Code} {targs:List TV} {mV:List (Option TT)} {Q:List TV→Prop} (hf:P.funcs[f]? = some fn) (hb:fn.body=some c) (ht:∀ a,aZ f a=none)
  (h:WT P ty (vY P ty aZ L n) (vq P ty aZ L n) (yfN P ty aZ L n) [] L f false c (targs++List.replicate (fn.ntmps-targs.length) .unk) [] (Vj ty fn.results.toList mV Q)):xG (vY P ty aZ L (n+1)) (vq P ty aZ L (n+1)) f targs Q:=by
 have key:∀ bY S,cG eD S targs bY→∃ S' id ds ts,(cK P ty aZ L (n+1)).1 f bY S=some (.ptr id 0,S')∧¬ Lv S id∧S'[id]? = some (.cells ds)∧cG eD [] ts ds∧fN ts=[]∧(∀ k',Lv S k'→S'[k']? = S[k']?)∧Nn S.length S S'∧Q ts:=by
  intro bY S hd
  have hlen:=fJ hd
  have hR:bS eD (targs++List.replicate (fn.ntmps-targs.length) .unk) [] (bY++List.replicate (fn.ntmps-bY.length) aV) S:=by
   refine⟨dO hd (by rw[hlen]; exact sR _ _),fun k l hk=>(by simp at hk),fun k e s hk=>(by simp at hk),fun k k' hk=>(by cases hk),fun i j k' hi=>(by cases hi),fun k b hk=>(by simp at hk)⟩
  obtain⟨e,az,S',ι',bT,bU,h1,h2,h3,h4,h5,h6⟩:=h eD _ S hR (fun k hk=>(by cases hk))
  obtain⟨h6,ts,h7,h8,h9,rX,zu⟩:=h6
  obtain⟨ds,k1,k2⟩:=sS h2 h7
  obtain⟨d,m',rfl,k3,k4⟩:=aj k2
  rw[aM k4] at k1
  cases d<;>simp only[RT] at k3
  rename_i id off
  obtain⟨k3,rfl⟩:=k3
  obtain⟨gf,fD,m1,m2,m3⟩:=h2.cells 0 ts h8
  rw[k3] at m1
  cases m1
  refine⟨S',id,fD,bk mV ts,?_,?_,m2,iq h9 m3,rX,fun k' hl=>h4.rest k' hl (fun k hk=>by cases hk),h5,zu⟩
  ·simp only[cK,hf,qE,hb]
   have C9:bO P ty (iC aZ (cK P ty aZ L n).1) (cK P ty aZ L n).1 (cK P ty aZ L n).2 L f false c (bY++List.replicate (fn.ntmps-bY.length) aV) S=some (e,az,S'):=h1
   rw[C9]
   cases e with
   | normal=>simp only[k1,Option.map_some,oneOf]
   | ret=>simp only[k1,Option.map_some,oneOf]
   | exit id=>exact h6.elim
  ·rcases h4.ours 0 id k3 with ⟨j,hj⟩ | hl
   ·cases hj
   ·exact hl
 intro bY S hd
 refine⟨fun ds hds => ?_,key bY S hd⟩
 obtain⟨S',id,fD,ts,k1,-⟩:=key ds [] hds
 simp only[vY,iC,ht,iT,qo,k1,DV.strip,DV.cA,DV.pure,DV.gz,Bool.false_eq_true,if_false]
end Go.Tv
end
section
namespace Go.Tv
open Go Go.Di Go.Proofs
variable {P:Program}
theorem bJ {α β:Type} (s:Sem α) (f:α→Sem β):bp P (s >>= f)=(bp P s).bind fun a=>bp P (f a):=by
 change bp P (s.bind f)=_
 cases s with
 | pure a=>rfl
 | program k =>
  simp only[Sem.bind,bp]
  generalize k P=s'
  induction s' with
  | pure a=>rfl
  | program k ih=>simp only[Sem.bind,bp]; exact ih P
  | _=>simp only[Sem.bind,bp,Option.bind_none]
 | _=>simp only[Sem.bind,bp,Option.bind_none]
theorem rG {α:Type} (a:α):bp P (pure a:Sem α)=some a:=rfl
theorem jq:bp P program=some P:=rfl
theorem dH {t:TypeId} {d:TypeDesc} (h:P.underlying t=some d):bp P (underlying t)=some d:=by
 unfold underlying
 rw[bJ,jq]
 simp only[Option.bind_some,h]
 rfl
theorem JR (d:Nat) (t:TypeId) (k k':IntKind) (a b:Int) (h:P.underlying t=some (.int k')):bp P (Op.equalIn (d+1) t (.int k a) (.int k b))=some (a==b):=by
 simp only[Op.equalIn,bJ,dH h,Option.bind_some,if_true]
 rfl
theorem JQ {α:Type} {c:Prop} [Decidable c] {a b:Sem α}:bp P (if c then a else b)=if c then bp P a else bp P b:=by split<;>rfl
theorem nH (d:Nat) (t:TypeId) (xs ys:Array Value) (ht:P.underlying t=some (.struct (P.fieldsOf t))) (hp:P.stoodInHeld t=false) :
  bp P (Op.equalIn (d+1) t (.agg xs) (.agg ys))=bp P (Op.eqFields d xs ys (P.fieldsOf t).toList):=by
 simp only[Op.equalIn,bJ,dH ht,Option.bind_some,jq,hp,Bool.false_eq_true,if_false]
 rw[← Array.forIn_toList]
 generalize (P.fieldsOf t).toList=fs
 clear ht
 induction fs with
 | nil=>rfl
 | cons f fs ih =>
  simp only[List.forIn_cons,Op.eqFields,bJ,JQ]
  split
  ·generalize bp P (part f.type xs f.offset)=r1
   cases r1 with
   | none=>rfl
   | some a =>
    generalize bp P (part f.type ys f.offset)=r2
    cases r2 with
    | none=>rfl
    | some b =>
     simp only[Option.bind_some]
     generalize bp P (Op.equalIn d f.type a b)=r3
     cases r3 with
     | none=>rfl
     | some r =>
      cases r
      ·simp only[Option.bind_some,Bool.not_false,if_true,rG]
      ·simp only[Option.bind_some,Bool.not_true,Bool.false_eq_true,if_false,rG]
       exact ih
  ·simp only[rG,Option.bind_some]
   exact ih
theorem RG {d:Nat} {xs ys:Array Value}:bp P (Op.eqFields d xs ys [])=some true:=rfl
theorem RN {t:TypeId} {xs ys:Array Value} {b:Bool} (ht:P.underlying t=some (.struct (P.fieldsOf t))) (hp:P.stoodInHeld t=false) (hm:P.eqGuardType P.depth t=false) (hf:bp P (Op.eqFields 9999 xs ys (P.fieldsOf t).toList)=some b) (x y:Operand) :
  gy P (do eqGuard .neq t x y (.agg xs) (.agg ys); binOp .neq t (.agg xs) (.agg ys))=some (.val (.bool !b)):=by
 have h1:bp P (eqGuard .neq t x y (.agg xs) (.agg ys))=some ():=by
  simp only[eqGuard]
  simp only[Bool.not_true,Bool.false_eq_true,if_false,bJ,jq,Option.bind_some,hm,Bool.not_false,if_true]
  rfl
 have h2:bp P (binOp .neq t (.agg xs) (.agg ys))=some (.bool !b):=by
  simp only[binOp,bJ,Op.equal,Op.maxDepth,nH 9999 t xs ys ht hp,hf,Option.bind_some]
  rfl
 rw[gy,bJ,h1,Option.bind_some,h2]
 rfl
variable {ty:eS} {tt:TypeId→Option TT} {ι ι' w:jR} {S S':ak} {te kY:List TV} {env:List DV} {tS iu:List TB} {aD:bq} {call:bg} {yf:dF} {o:Oper} {ay nT:Nat} {B:List Nat} {ops:Array Oper}
end Go.Tv
end
section
namespace Go.Tv
open Go Go.Di Go.Proofs
def wj:(t:TT)→DecidableEq t.den
 | .int _=>inferInstanceAs (DecidableEq Int)
 | .bool=>inferInstanceAs (DecidableEq Bool)
 | .str=>inferInstanceAs (DecidableEq ByteArray)
 | .unit=>inferInstanceAs (DecidableEq Unit)
 | .pair a b=>fun x y=>@instDecidableEqProd _ _ (wj a) (wj b) x y
 | .sl t=>fun x y=>@instDecidableEqList _ (wj t) x y
def dA (t:TT) (x:t.den) (l:List t.den):Bool:=l.any fun y=>@decide (x=y) (wj t x y)
def cH (t:TT) (x:t.den) (l:List t.den):List t.den:=bif dA t x l then l else l++[x]
theorem ye {t:TT} {x:t.den} {l:List t.den}:dA t x l=true↔x∈l:=by
 simp[dA]
structure qG (P:Program) (t:TypeId) (kt:TT):Prop where
 look:∀ (x:kt.den) (l:List kt.den),bp P (Dl t ((mW kt l).map Di.G5) (iQ kt x) false)=some (.bool (dA kt x l))
 find:∀ (x:kt.den) (l:List kt.den),∃ r,bp P (Dw t ((mW kt l).map Di.G5) (iQ kt x))=some r∧Fu (mW kt l) (iQ kt x) (.bool true) r=some (mW kt (cH kt x l))
def PZ (kt:TT) (v:TV):Option kt.den :=
 match v with
 | .agg l=>match ff l,kt.of l with
  | some vs,some (x,[])=>if vs.length=(Al kt x).length then some x else none
  | _,_=>none
 | _=>none
def UE (P:Program) (tt:TypeId→Option TT) (te:List TV) (tS:List TB) (o:Oper) (nT:Nat):Option (TV×List TB×Prop) :=
 match o.op with
 | .makeMap t none=>match tt t with
  | some kt=>some (.mp nT,om tS nT (.map kt []),True)
  | none=>none
 | .lookup t m k false=>match eZ te m,eZ te k with
  | some (.mp id),some v=>match tS[id]? with
   | some (.map kt l)=>match PZ kt v with
    | some x=>some (.val (.bool (dA kt x l)),tS,qG P t kt)
    | none=>none
   | _=>none
  | _,_=>none
 | .mapUpdate t m k y=>match eZ te m,eZ te k,eZ te y with
  | some (.mp id),some v,some (.val (.bool true))=>match tS[id]? with
   | some (.map kt l)=>match PZ kt v with
    | some x=>some (.unk,tS.set id (.map kt (cH kt x l)),qG P t kt)
    | none=>none
   | _=>none
  | _,_,_=>none
 | _=>none
theorem Cv:∀ {t:TT} {l:List TV} {x:t.den} {r:List TV} {vs:List Value},t.of l=some (x,r)→ff l=some vs→∃ Pt,ff r=some Pt∧vs=Al t x++Pt
 | .int k,l,x,r,vs,h,hv=>by
  simp only[TT.of] at h
  unfold ofInt at h
  split at h
  ·split at h
   ·rename_i hk
    subst hk
    cases h
    simp only[ff,Option.map_eq_some_iff] at hv
    obtain⟨Pt,h1,rfl⟩:=hv
    exact⟨Pt,h1,rfl⟩
   ·cases h
  ·cases h
 | .bool,l,x,r,vs,h,hv=>by
  simp only[TT.of] at h
  unfold ofBool at h
  split at h
  ·cases h
   simp only[ff,Option.map_eq_some_iff] at hv
   obtain⟨Pt,h1,rfl⟩:=hv
   exact⟨Pt,h1,rfl⟩
  ·cases h
 | .str,l,x,r,vs,h,hv=>by
  simp only[TT.of] at h
  unfold ofStr at h
  split at h
  ·cases h
   simp only[ff,Option.map_eq_some_iff] at hv
   obtain⟨Pt,h1,rfl⟩:=hv
   exact⟨Pt,h1,rfl⟩
  ·cases h
 | .unit,l,x,r,vs,h,hv=>by
  simp only[TT.of] at h
  cases h
  exact⟨vs,hv,rfl⟩
 | .sl t,l,x,r,vs,h,hv=>by
  simp only[TT.of] at h
  unfold PX at h
  split at h
  ·simp[ff] at hv
  ·simp[ff] at hv
  ·cases h
 | .pair a b,l,x,r,vs,h,hv=>by
  simp only[TT.of] at h
  split at h
  ·rename_i y m h1
   split at h
   ·rename_i z m' h2
    cases h
    obtain⟨vs1,k1,rfl⟩:=Cv h1 hv
    obtain⟨vs2,k2,rfl⟩:=Cv h2 k1
    exact⟨vs2,k2,by simp[Al]⟩
   ·cases h
  ·cases h
theorem ID {kt:TT} {v:TV} {x:kt.den} (h:PZ kt v=some x):fG v=some (iQ kt x):=by
 unfold PZ at h
 split at h
 ·split at h
  ·rename_i vs y h1 h2
   split at h
   ·cases h
    obtain⟨Pt,k1,rfl⟩:=Cv h2 h1
    cases k1
    simp only[fG,h1,Option.map_some,iQ,List.append_nil]
   ·cases h
  ·cases h
 ·cases h
section
variable (P:Program)
def Qb (t:TypeId) (a b:Value):Option Bool :=
 match a,b,P.underlying t with
 | .int k a,.int k' b,some (.int _)=>if k'=k then some (a==b) else none
 | .bool a,.bool b,some .bool=>some (a==b)
 | _,_,_=>none
def Dy (E:TypeId→Value→Value→Option Bool) (xs ys:Array Value):List Field→Option Bool
 | []=>some true
 | f :: fs => match f.name != "_", bp P (part f.type xs f.offset), bp P (part f.type ys f.offset) with
  | true,some a,some b=>match E f.type a b,Dy E xs ys fs with
   | some u,some r=>some (u&&r)
   | _,_=>none
  | _,_,_=>none
def Yh:Nat→TypeId→Value→Value→Option Bool
 | 0,t,a,b=>Qb P t a b
 | n+1,t,a,b=>match a,b with
  | .agg xs,.agg ys=>match P.underlying t,P.stoodInHeld t with
   | some (.struct fs),false=>Dy P (Yh n) xs ys fs.toList
   | _,_=>none
  | a,b=>Qb P t a b
end
section
variable {P:Program}
theorem nF {t:TypeId} {fs:Array Field} (h:P.underlying t=some (.struct fs)):P.underlying t=some (.struct (P.fieldsOf t)):=by
 have:P.fieldsOf t=fs:=by simp only[Program.fieldsOf,h]
 rw[this]; exact h
theorem IG {d:Nat} {t:TypeId} {a b:Value} {r:Bool} (h:Qb P t a b=some r):bp P (Op.equalIn (d+1) t a b)=some r:=by
 unfold Qb at h
 split at h
 ·rename_i k a k' b k2 hu
  split at h
  ·rename_i hk
   subst hk
   cases h
   exact JR d t _ _ a b hu
  ·cases h
 ·rename_i a b hu
  cases h
  simp only[Op.equalIn,bJ,dH hu,Option.bind_some]
  rfl
 ·cases h
theorem yz {E:TypeId→Value→Value→Option Bool} {d:Nat} (hE:∀ t a b r,E t a b=some r→bp P (Op.equalIn d t a b)=some r) {xs ys:Array Value}:∀ {fs:List Field} {b:Bool},Dy P E xs ys fs=some b→bp P (Op.eqFields d xs ys fs)=some b
 | [],_,h=>by cases h; exact RG
 | f::fs,b,h=>by
  unfold Dy at h
  split at h
  ·rename_i a b' hn ha hb
   split at h
   ·rename_i u r h1 h2
    cases h
    have G7 : f.name ≠ "_" := by simpa using hn
    simp only[Op.eqFields,G7,ne_eq,not_false_eq_true,if_true,bJ,ha,hb,Option.bind_some,hE _ _ _ _ h1]
    cases u
    ·rfl
    ·simp only[Bool.not_true,Bool.false_eq_true,if_false,Bool.true_and]; exact yz hE h2
   ·cases h
  ·cases h
theorem Ga:∀ {n d:Nat} {t:TypeId} {a b:Value} {r:Bool},n<d→Yh P n t a b=some r→bp P (Op.equalIn d t a b)=some r
 | 0,0,_,_,_,_,hd,_=>by omega
 | 0,d+1,_,_,_,_,_,h=>IG h
 | n+1,0,_,_,_,_,hd,_=>by omega
 | n+1,d+1,t,a,b,r,hd,h=>by
  unfold Yh at h
  split at h
  ·rename_i xs ys
   split at h
   ·rename_i fs h1 h2
    rw[nH d t xs ys (nF h1) h2]
    simp only[Program.fieldsOf,h1]
    exact yz (fun t a b r h=>Ga (by omega) h) h
   ·cases h
  ·exact IG h
end
variable {P:Program} {ty:eS} {tt:TypeId→Option TT} {ι ι' w:jR} {S S':ak} {te kY:List TV} {env:List DV} {tS iu:List TB} {aD:bq} {call:bg} {yf:dF} {o:Oper} {ay nT:Nat} {B:List Nat} {ops:Array Oper}
theorem EP (h:bS ι te tS env S) (hT:uf tS nT) (hn:ug S ay) (kt:TT):bS (upd ι nT ay) te (om tS nT (.map kt [])) env (cW S ay (.map [])):=by
 have K:=pV h hT hn (.map [])
 refine⟨bw K _ _ h.env,fun k l hk => ?_,fun k e s hk t ht => ?_,fun k k' hk => ?_,fun i j k' hi hj => ?_,fun k b hk t ht => ?_⟩
 ·rw[bK hT] at hk
  split at hk
  ·cases hk
  ·rename_i e
   obtain⟨k',fD,h1,h2,h3⟩:=h.cells k l hk
   exact⟨k',fD,by simp only[upd,e,if_false]; exact h1,by rw[aQ hn,if_neg (h.cC hn h1)]; exact h2,bw K _ _ h3⟩
 ·rw[bK hT] at hk
  split at hk
  ·cases hk
  ·rename_i e'
   simp only[upd,e',if_false] at ht
   obtain⟨n,h1⟩:=h.own k e s hk t ht
   exact⟨n,by rw[aQ hn,if_neg (h.cC hn ht)]; exact h1⟩
 ·rw[bK hT]
  split
  ·exact⟨_,rfl,fun e=>by cases e⟩
  ·rename_i e
   simp only[upd,e,if_false] at hk
   exact h.sw k k' hk
 ·unfold upd at hi hj
  split at hi<;>split at hj
  ·omega
  ·cases hi; exact(h.cC hn hj rfl).elim
  ·cases hj; exact(h.cC hn hi rfl).elim
  ·exact h.inj i j k' hi hj
 ·rw[bK hT] at hk
  split at hk
  ·rename_i e'
   cases hk
   simp only[upd,e',if_true,Option.some.injEq] at ht
   subst ht
   rw[aQ hn,if_pos rfl]; exact rfl
  ·rename_i e'
   simp only[upd,e',if_false] at ht
   rw[aQ hn,if_neg (h.cC hn ht)]; exact h.mp k b hk t ht
theorem EO (h:bS ι te tS env S) {id gf:Nat} {kt:TT} {l l':List kt.den} (hi:ι id=some gf) (hl:tS[id]? = some (.map kt l)):bS ι te (tS.set id (.map kt l')) env (S.set gf (.map (mW kt l'))):=by
 have hS:S[gf]? = some (.map (mW kt l)):=h.mp id _ hl gf hi
 have hlt:=(List.getElem?_eq_some_iff.1 hl).1
 have Lr:=(List.getElem?_eq_some_iff.1 hS).1
 have K:jx ι S ι (S.set gf (.map (mW kt l'))) fun _=>False:=fun a b _ kV=>⟨kV,by
  rw[List.getElem?_set]
  split
  ·rename_i e1; subst e1; exact wP (by rw[hS]; simp) (by rw[hS]; simp)
  ·exact dU rfl⟩
 have hg:∀ j,(tS.set id (.map kt l'))[j]? = if j=id then some (.map kt l') else tS[j]? := fun j=>by
  rw[List.getElem?_set]
  by_cases e:j=id
  ·subst e; simp[hlt]
  ·rw[if_neg (Ne.symm e),if_neg e]
 have jF:∀ j,j≠gf→(S.set gf (.map (mW kt l')))[j]? = S[j]? := fun j hj=>by rw[List.getElem?_set,if_neg (Ne.symm hj)]
 refine⟨bw K _ _ h.env,fun j m hj => ?_,fun j e s hj t ht => ?_,fun j j' hj => ?_,h.inj,fun j b hj t ht => ?_⟩
 ·rw[hg] at hj
  split at hj
  ·cases hj
  ·rename_i e
   obtain⟨j',Lh,h1,h2,h3⟩:=h.cells j m hj
   exact⟨j',Lh,h1,by rw[jF j' fun e1=>e (h.inj _ _ _ (e1▸h1) hi)]; exact h2,bw K _ _ h3⟩
 ·rw[hg] at hj
  split at hj
  ·cases hj
  ·obtain⟨n,h1⟩:=h.own j e s hj t ht
   exact⟨n,(K j t (fun e=>e) ht).2.1 _ _ _ h1⟩
 ·rw[hg]
  split
  ·exact⟨_,rfl,by simp⟩
  ·exact h.sw j j' hj
 ·rw[hg] at hj
  split at hj
  ·rename_i e
   subst e
   cases hj
   rw[hi] at ht
   cases ht
   rw[List.getElem?_set,if_pos rfl,if_pos Lr]; exact rfl
  ·rename_i e
   rw[jF t fun e1=>e (h.inj _ _ _ (e1▸ht) hi)]
   exact h.mp j b hj t ht
theorem RY {id:Nat} {kt:TT} {l l':List kt.den} (hB:lJ B tS) (hl:tS[id]? = some (.map kt l)):lJ B (tS.set id (.map kt l')):=fun k hk=>by
 obtain⟨c,hc⟩:=hB k hk
 refine⟨c,?_⟩
 rw[List.getElem?_set,if_neg]
 ·exact hc
 ·rintro rfl; rw[hl] at hc; cases hc
theorem OL {v:TV} {iu:List TB} {c:Prop} (h:UE P tt te tS o nT=some (v,iu,c)) (hc:c):Does P ty aD call yf B o nT te tS false fun v' bT bU _=>v'=v∧bT=te∧bU=iu:=by
 intro ι w env S ay hR hB hw hT hn hS
 unfold UE at h
 split at h
 ·rename_i t ho
  split at h
  ·rename_i kt ht
   cases h
   refine⟨.map ay,cW S ay (.map []),upd ι nT ay,upd w ay nT,.mp nT,te,_,⟨none,true⟩,⟨none,true⟩,fun _ => ?_,fun hd=>(by cases hd),⟨fun e=>e,fun l hl=>(by cases hl)⟩,fun l m hl=>(by cases hl),EP hR hT hn kt,?_,nj hR hn hT hw,fun hd=>(by cases hd),oF hn (j5 hB hT),iK hB hT,lF hn,rfl,rfl,rfl⟩
   ·simp only[ah,ho]
   ·simp[RT,upd]
  ·cases h
 ·rename_i t m k ho
  split at h
  ·rename_i id u h1 h2
   split at h
   ·rename_i kt l h3
    split at h
    ·rename_i x h4
     cases h
     obtain⟨d,k1,k2⟩:=aS hR.env h1
     cases d<;>simp only[RT] at k2
     rename_i gf
     have k3:S[gf]? = some (.map (mW kt l)):=hR.mp id _ h3 gf k2
     have k4:valOf (fM env) k=some (iQ kt x):=dM hR.env (by rw[h2]; exact ID h4)
     refine⟨.val (.bool (dA kt x l)),S,ι,w,.val (.bool (dA kt x l)),te,tS,⟨none,true⟩,⟨none,true⟩,fun _ => ?_,fun hd=>(by cases hd),⟨fun e=>e,fun l hl=>(by cases hl)⟩,fun l m hl=>(by cases hl),hR,by simp only[RT],hw,fun hd=>(by cases hd),Fr.refl _ _ _,hB,dZ _ _,rfl,rfl,rfl⟩
     simp only[ah,ho,k1,k4,k3,hc.look x l,Option.bind_some,Dj,ve]
     rfl
    ·cases h
   ·cases h
  ·cases h
 ·rename_i t m k y ho
  split at h
  ·rename_i id u h1 h2 h5
   split at h
   ·rename_i kt l h3
    split at h
    ·rename_i x h4
     cases h
     obtain⟨d,k1,k2⟩:=aS hR.env h1
     cases d<;>simp only[RT] at k2
     rename_i gf
     have k3:S[gf]? = some (.map (mW kt l)):=hR.mp id _ h3 gf k2
     have k4:valOf (fM env) k=some (iQ kt x):=dM hR.env (by rw[h2]; exact ID h4)
     have k5:valOf (fM env) y=some (.bool true):=dM hR.env (by rw[h5]; rfl)
     obtain⟨r,k6,k7⟩:=hc.find x l
     refine⟨aV,S.set gf (.map (mW kt (cH kt x l))),ι,w,.unk,te,_,⟨none,true⟩,⟨none,true⟩,fun _ => ?_,fun hd=>(by cases hd),⟨fun e=>e,fun l hl=>(by cases hl)⟩,fun l m hl=>(by cases hl),EO hR k2 h3,by simp only[RT],hw,fun hd=>(by cases hd),uu k2,RY hB h3,uo k3 (fun e=>by cases e),rfl,rfl,rfl⟩
     simp only[ah,ho,k1,k4,k5,k3,k6,k7,Option.map_some]
    ·cases h
   ·cases h
  ·cases h
 ·cases h
end Go.Tv
end
